/- record.Good. -/
import Derived.Test.YtgnfccdhlpeknaaSwQb
import Derived.Test.YtgnfccdhlpeknaaSwFd
open Go Go.RowKit
namespace Go.Proofs.Ytgnfccdhlpeknaa
set_option maxRecDepth 100000
theorem PgRd.ext {w w' : World} {p : Pg} {A : Option Addr} {n c : Nat} (h : PgRd w p A n c) (hk : Below w.heap.size w w') : PgRd w' p A n c := ⟨h.e, h.b, h.r.ext hk⟩
theorem RecRd.ext {w w' : World} {x : Rec} {Ac : Option Addr} {nc cc : Nat} {A0 : Option Addr} {n0 c0 : Nat} {A1 : Option Addr} {n1 c1 : Nat} {A2 : Option Addr} {n2 c2 : Nat} {Aw : Option Addr} {nw cw : Nat}
    (h : RecRd w x Ac nc cc A0 n0 c0 A1 n1 c1 A2 n2 c2 Aw nw cw) (hk : Below w.heap.size w w') : RecRd w' x Ac nc cc A0 n0 c0 A1 n1 c1 A2 n2 c2 Aw nw cw :=
  ⟨h.p.ext hk, h.f.ext hk, h.en, h.bn, h.rw.ext hk⟩
def goodR (x : Rec) : Bool := !decide (x.seq < 1) && (!decide (281474976710655 < x.seq) && (if x.val then bareB x && wrF none x.ws else decide (x.ws.length = 0) && ((checkP x.pg.fuel x.pg.code).isNone && goodB x.ft)))
set_option maxHeartbeats 4000000 in
theorem RGood_any (w : World) (x : Rec) (Ac : Option Addr) (nc cc : Nat) (A0 : Option Addr) (n0 c0 : Nat) (A1 : Option Addr) (n1 c1 : Nat) (A2 : Option Addr) (n2 c2 : Nat) (Aw : Option Addr) (nw cw : Nat) (h : RecRd w x Ac nc cc A0 n0 c0 A1 n1 c1 A2 n2 c2 Aw nw cw) (hi : ∀ y ∈ x.ft.s, inI y.hi) :
    Calls Try.prog 10 #[.agg #[.int .i64 x.seq, .bool x.val, .int .i64 x.pg.fuel, .slice Ac nc cc, .slice A0 n0 c0, .slice A1 n1 c1, .slice A2 n2 c2, .slice Aw nw cw]] w fun e w' => e = .returned (.bool (goodR x)) ∧ Below w.heap.size w w' := by
  have Hbare := hid fun w' (hk : Below w.heap.size w w') => bare_any w' x Ac nc cc A0 n0 c0 A1 n1 c1 A2 n2 c2 Aw nw cw (h.ext hk)
  have Hris := hid fun w' (hk : Below w.heap.size w w') => wrising_any w' Aw nw cw x.ws h.en h.bn (h.rw.ext hk)
  have Hchk := hid fun w' (hk : Below w.heap.size w w') => Check_any w' x.pg.fuel Ac nc cc x.pg.code h.p.e (h.p.r.ext hk) h.p.b
  have Hgd := hid fun w' (hk : Below w.heap.size w w') => Good_any w' x.ft A0 n0 c0 A1 n1 c1 A2 n2 c2 (h.f.ext hk) hi
  have hnw := h.en
  have G := hid (show goodR x = (!decide (x.seq < 1) && (!decide (281474976710655 < x.seq) && (if x.val then bareB x && wrF none x.ws else decide (nw = 0) && ((checkP x.pg.fuel x.pg.code).isNone && goodB x.ft)))) by rw [hnw]; rfl)
  clear h hi hnw
  generalize goodR x = R at G ⊢
  generalize checkP x.pg.fuel x.pg.code = K at *
  generalize bareB x = BB at *
  generalize wrF none x.ws = WW at *
  generalize goodB x.ft = GG at *
  generalize x.pg.fuel = F at *
  generalize x.seq = S at *
  generalize x.val = V at *
  have Hs0 := hid (ext_alloc w (Obj.cells #[.int .i64 S, .bool V, .int .i64 F, .slice Ac nc cc, .slice A0 n0 c0, .slice A1 n1 c1, .slice A2 n2 c2, .slice Aw nw cw] 39))
  have HnB := hid (blk_new w (Obj.cells #[.int .i64 S, .bool V, .int .i64 F, .slice Ac nc cc, .slice A0 n0 c0, .slice A1 n1 c1, .slice A2 n2 c2, .slice Aw nw cw] 39))
  by_cases q1 : S < 1
  · have G2 : Hid (R = false) := hid (by rw [G.out]; simp [q1])
    go_enter Try.func10, Try.ntmps10
    go_wp2
    go_ret
    exact ⟨ret_bool G2.out.symm, Hs0.out⟩
  by_cases q2 : 281474976710655 < S
  · have G2 : Hid (R = false) := hid (by rw [G.out]; simp [q2])
    go_enter Try.func10, Try.ntmps10
    go_wp2
    go_ret
    exact ⟨ret_bool G2.out.symm, Hs0.out⟩
  cases V with
  | true =>
    have G2 : Hid (R = (BB && WW)) := hid (by rw [G.out]; simp [q1, q2])
    go_enter Try.func10, Try.ntmps10
    go_wp2_with fail
    refine (Hbare.out _ Hs0.out).mono ?_
    rintro e w1 ⟨rfl, hb1⟩
    have Hb1 := hid hb1
    clear hb1
    have HB1 := hid (ext_blk Hb1.out HnB.out)
    have l7 : w1.cell? ⟨w.heap.size, 7, none⟩ = some (.slice Aw nw cw) := by rw [blk_cell HB1.out]; rfl
    cases BB with
    | false =>
      go_wp2
      go_ret
      exact ⟨ret_bool (by rw [G2.out]; rfl), ext_trans Hs0.out Hb1.out⟩
    | true =>
      go_wp2_with fail
      refine (Hris.out _ (ext_trans Hs0.out Hb1.out)).mono ?_
      rintro e w2 ⟨rfl, hb2⟩
      have Hb2 := hid hb2
      clear hb2
      go_wp2
      go_ret
      exact ⟨ret_bool (by rw [G2.out]; rfl), ext_trans Hs0.out (ext_trans Hb1.out Hb2.out)⟩
  | false =>
    have G2 : Hid (R = (decide (nw = 0) && (K.isNone && GG))) := hid (by rw [G.out]; simp [q1, q2])
    by_cases c3 : nw = 0
    · subst c3
      have G3 : Hid (R = (K.isNone && GG)) := hid (by rw [G2.out]; simp)
      go_enter Try.func10, Try.ntmps10
      go_wp2_with fail
      refine (Hchk.out _ Hs0.out).mono ?_
      intro e w1 hp
      obtain ⟨hb1, hp⟩ := hp
      have Hb1 := hid hb1
      clear hb1
      have HB1 := hid (ext_blk Hb1.out HnB.out)
      have l4 : w1.cell? ⟨w.heap.size, 4, none⟩ = some (.slice A0 n0 c0) := by rw [blk_cell HB1.out]; rfl
      have l5 : w1.cell? ⟨w.heap.size, 5, none⟩ = some (.slice A1 n1 c1) := by rw [blk_cell HB1.out]; rfl
      have l6 : w1.cell? ⟨w.heap.size, 6, none⟩ = some (.slice A2 n2 c2) := by rw [blk_cell HB1.out]; rfl
      cases K with
      | none =>
        obtain rfl : e = .returned .nilIface := hp
        go_wp2_with fail
        refine (Hgd.out _ (ext_trans Hs0.out Hb1.out)).mono ?_
        rintro e w2 ⟨rfl, hb2⟩
        have Hb2 := hid hb2
        clear hb2
        go_wp2
        go_ret
        exact ⟨ret_bool (by rw [G3.out]; rfl), ext_trans Hs0.out (ext_trans Hb1.out Hb2.out)⟩
      | some i =>
        obtain ⟨v, rfl, b, rfl, hv⟩ := hp
        have Hv := hid hv
        clear hv
        go_wp2
        go_ret
        exact ⟨ret_bool (by rw [G3.out]; rfl), ext_trans Hs0.out Hb1.out⟩
    · have G3 : Hid (R = false) := hid (by rw [G2.out]; simp [c3])
      go_enter Try.func10, Try.ntmps10
      go_wp2
      go_ret
      exact ⟨ret_bool G3.out.symm, Hs0.out⟩
end Go.Proofs.Ytgnfccdhlpeknaa
