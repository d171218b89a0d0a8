/- record.body of a record of a program. -/
import Derived.Test.YtgnfccdhlpeknaaSwR1
import Derived.Test.YtgnfccdhlpeknaaSwK
open Go Go.RowKit
namespace Go.Proofs.Ytgnfccdhlpeknaa
set_option maxRecDepth 100000
def bodyP (q : Nat) (p : Pg) (f : Ft) : List Nat := cntB q ++ (flagB false ++ ((cntB (progB p.fuel p.code).length ++ progB p.fuel p.code) ++ (cntB (footBy f).length ++ footBy f)))
/-- a row of a later call's own lies in no block of the writer's -/
theorem own_apart {B : Nat} {w0 w' : World} {bw : Nat} {v : Value} {bs : List Nat} {e : TypeId} {s m n c : Nat} {A : Option Addr} {xs : List Value} (h : WrAt B w0 bw v bs) (ho : w'.ownsRow w0.heap.size e s (.slice A n c) m xs) :
    ∀ a, A = some a → 0 < n → a.block ≠ bw ∧ v.ownBlock ≠ some a.block := fun a ha _ => by
  subst ha
  rcases ho.2 with ⟨hv, _⟩ | ⟨g, cap, cur, hv, hg, _⟩
  · cases hv
  · simp only [Value.slice.injEq, Option.some.injEq] at hv
    obtain ⟨rfl, _, _⟩ := hv
    have := h.lt
    refine ⟨by show g ≠ bw; omega, fun e => ?_⟩
    obtain ⟨_, cur2, h2⟩ := own_blk h.2.2 e
    have h3 := heap_lt h2
    have h4 : (⟨g, 0, none⟩ : Addr).block = g := rfl
    omega
set_option maxHeartbeats 4000000 in
theorem bodyP_any (w : World) (q : Nat) (p : Pg) (f : Ft) (Ac : Option Addr) (nc cc : Nat) (A0 : Option Addr) (n0 c0 : Nat) (A1 : Option Addr) (n1 c1 : Nat) (A2 : Option Addr) (n2 c2 : Nat) (sw : Value)
    (hp : PgRd w p Ac nc cc) (hf : FtRd w f A0 n0 c0 A1 n1 c1 A2 n2 c2) (hck : checkP p.fuel p.code = none) (hgd : goodB f = true) (hcd : ∀ x ∈ p.code, CdOk x) (hft : FtOk f) (hz : n0 + n1 + n2 ≤ 1000000000000) (hl : (progB p.fuel p.code).length ≤ 10000000000000) (hl2 : (footBy f).length ≤ 100000000000000) (hq : q ≤ 281474976710655) :
    Calls Try.prog 12 #[.agg #[.int .i64 q, .bool false, .int .i64 p.fuel, .slice Ac nc cc, .slice A0 n0 c0, .slice A1 n1 c1, .slice A2 n2 c2, sw]] w (ClonePost w ((bodyP q p f).map bv) (bodyP q p f).length) := by
  have HEn := hid fun w' (hk : Below w.heap.size w w') => by have h := Encode_any w' p.fuel Ac nc cc p.code hp.e (hp.r.ext hk) hp.b hcd; rw [hck] at h; exact h
  have HPu := hid fun w' (hk : Below w.heap.size w w') => Put_good w' f A0 n0 c0 A1 n1 c1 A2 n2 c2 (hf.ext hk) hft hgd hz
  have HL := hid hl
  have HL2 := hid hl2
  have HBD := hid (show bodyP q p f = cntB q ++ (flagB false ++ ((cntB (progB p.fuel p.code).length ++ progB p.fuel p.code) ++ (cntB (footBy f).length ++ footBy f))) from rfl)
  clear hp hf hck hgd hcd hft hz hl hl2
  generalize bodyP q p f = BD at *
  generalize progB p.fuel p.code = PB at *
  generalize footBy f = FB at *
  generalize p.fuel = F at *
  have Hborn : Hid (WrAt (w.heap.size + 1) ((w.alloc (Obj.cells #[.int .i64 q, .bool false, .int .i64 F, .slice Ac nc cc, .slice A0 n0 c0, .slice A1 n1 c1, .slice A2 n2 c2, sw] 39)).alloc (Obj.cells #[.slice none 0 0] 63)) (w.heap.size + 1) (.slice none 0 0) []) := hid (by simpa using WrAt.born (w.alloc (Obj.cells #[.int .i64 q, .bool false, .int .i64 F, .slice Ac nc cc, .slice A0 n0 c0, .slice A1 n1 c1, .slice A2 n2 c2, sw] 39)))
  have HB0 := hid (blk_alloc (blk_new w (Obj.cells #[.int .i64 q, .bool false, .int .i64 F, .slice Ac nc cc, .slice A0 n0 c0, .slice A1 n1 c1, .slice A2 n2 c2, sw] 39)) (Obj.cells #[.slice none 0 0] 63))
  have HE0 := hid (two_new w (Obj.cells #[.int .i64 q, .bool false, .int .i64 F, .slice Ac nc cc, .slice A0 n0 c0, .slice A1 n1 c1, .slice A2 n2 c2, sw] 39) (Obj.cells #[.slice none 0 0] 63))
  have HS0 : Hid (((w.alloc (Obj.cells #[.int .i64 q, .bool false, .int .i64 F, .slice Ac nc cc, .slice A0 n0 c0, .slice A1 n1 c1, .slice A2 n2 c2, sw] 39)).alloc (Obj.cells #[.slice none 0 0] 63)).heap.size = w.heap.size + 2) := hid (by simp)
  have Hq10 := hid (cntB_len64 (n := q) (by omega))
  go_enter Try.func12, Try.ntmps12
  go_wp2_with fail
  generalize ((w.alloc (Obj.cells #[.int .i64 q, .bool false, .int .i64 F, .slice Ac nc cc, .slice A0 n0 c0, .slice A1 n1 c1, .slice A2 n2 c2, sw] 39)).alloc (Obj.cells #[.slice none 0 0] 63)) = W0 at *
  refine (Wcount_any (w.heap.size + 1) _ (w.heap.size + 1) (.slice none 0 0) [] q Hborn.out (by omega) (by simp)).mono ?_
  rintro e w2 ⟨rfl, hp⟩
  obtain ⟨v2, h3, h4⟩ := hp
  have Hbel2 := hid (h4.below Hborn.out)
  have hb2 := (Kp.of_below Hbel2.out).blk HB0.out (by simp)
  have g1 := blk_cell hb2 1
  simp at g1
  have H3 := hid h3
  have H4 := hid h4
  clear h3 h4 hb2
  go_wp2_with fail
  refine (Wflag_any (w.heap.size + 1) _ (w.heap.size + 1) v2 _ false H3.out (by have := Hq10.out; simp; omega)).mono ?_
  rintro e w3 ⟨rfl, hp⟩
  obtain ⟨v3, h5, h6⟩ := hp
  have Hs3 := hid (H4.out.trans h6)
  have Hbel3 := hid (Hs3.out.below Hborn.out)
  have hb3 := (Kp.of_below Hbel3.out).blk HB0.out (by simp)
  have g2 := blk_cell hb3 1
  have k2 := blk_cell hb3 2
  have k3 := blk_cell hb3 3
  simp at g2 k2 k3
  have H5 := hid h5
  clear h5 h6 hb3 g1
  have Hx3 : Hid (Below w.heap.size w w3) := hid (HE0.out.trans (Hbel3.out.mono (by omega)))
  go_wp2_with fail
  refine (HEn.out _ Hx3.out).mono ?_
  rintro e w4 ⟨hb4, A4, c4, rfl, ho4⟩
  have Hown4 := hid ho4
  have Hb4 := hid hb4
  have H7 := hid (H5.out.ext Hb4.out)
  have Hs4 := hid (Hs3.out.trans (WrStep.of_ext Hb4.out))
  clear hb4 ho4 g2 k2 k3
  go_wp2_with fail
  refine (Wbytes_any (w.heap.size + 1) _ (w.heap.size + 1) v3 _ A4 PB.length c4 PB H7.out rfl (own_rd Hown4.out) (own_apart H5.out Hown4.out) (by have := Hq10.out; have := HL.out; have := flagB_len false; simp; omega)).mono ?_
  rintro e w5 ⟨rfl, hp⟩
  obtain ⟨v5, h8, h9⟩ := hp
  have Hs5 := hid (Hs4.out.trans h9)
  have Hbel5 := hid (Hs5.out.below Hborn.out)
  have hb5 := (Kp.of_below Hbel5.out).blk HB0.out (by simp)
  have m4 := blk_cell hb5 4
  have m5 := blk_cell hb5 5
  have m6 := blk_cell hb5 6
  simp at m4 m5 m6
  have H8 := hid h8
  clear h8 h9 hb5
  have Hx5 : Hid (Below w.heap.size w w5) := hid (HE0.out.trans (Hbel5.out.mono (by omega)))
  go_wp2_with fail
  refine (HPu.out _ Hx5.out).mono ?_
  rintro e w6 ⟨A6, c6, rfl, ho6, _, _, _, hb6⟩
  have Hown6 := hid ho6
  have Hb6 := hid hb6
  have H9 := hid (H8.out.ext Hb6.out)
  have Hs6 := hid (Hs5.out.trans (WrStep.of_ext Hb6.out))
  have HPl := hid (cntB_len64 (n := PB.length) (by have := HL.out; omega))
  have HFl := hid (cntB_len64 (n := FB.length) (by have := HL2.out; omega))
  clear hb6 ho6 m4 m5 m6
  go_wp2_with fail
  refine (Wbytes_any (w.heap.size + 1) _ (w.heap.size + 1) v5 _ A6 FB.length c6 FB H9.out rfl (own_rd Hown6.out) (own_apart H8.out Hown6.out) (by have := Hq10.out; have := HL.out; have := HL2.out; have := flagB_len false; have := HPl.out; simp; omega)).mono ?_
  rintro e w7 ⟨rfl, hp⟩
  obtain ⟨v7, h10, h11⟩ := hp
  have Hs7 := hid (Hs6.out.trans h11)
  have Hbel7 := hid (Hs7.out.below Hborn.out)
  have hfin : [] ++ cntB q ++ flagB false ++ (cntB PB.length ++ PB) ++ (cntB FB.length ++ FB) = BD := by rw [HBD.out]; simp
  rw [hfin] at h10
  have hz2 : BD.length ≤ 140737488355328 := by
    have := Hq10.out; have := HL.out; have := HL2.out; have := flagB_len false; have := HPl.out; have := HFl.out
    rw [HBD.out]; simp only [List.length_append]; omega
  have Hout := hid (Out_any _ _ _ _ _ h10 hz2)
  clear hfin hz2 h10 h11
  go_wp2_with fail
  refine Hout.out.mono ?_
  rintro e w' ⟨A', c', rfl, h1, h2, h3, h4, h5⟩
  have H1 := hid h1
  have H5' := hid h5
  have H24 := hid (And.intro h2 (And.intro h3 h4))
  clear h1 h2 h3 h4 h5
  go_wp2
  go_ret
  have hw : w.heap.size ≤ w7.heap.size := by have := HE0.out.size; have := Hbel7.out.size; omega
  exact ⟨A', c', rfl, own_base H1.out (fun k e => by have := (own_blk H1.out e).1; omega), H24.out.1, H24.out.2.1, H24.out.2.2, HE0.out.trans ((Hbel7.out.mono (by omega)).trans (H5'.out.mono hw))⟩
end Go.Proofs.Ytgnfccdhlpeknaa
