/- record.body of a record of writes. -/
import Derived.Test.YtgnfccdhlpeknaaSwQc
import Derived.Test.YtgnfccdhlpeknaaSwGb
open Go Go.RowKit
namespace Go.Proofs.Ytgnfccdhlpeknaa
set_option maxRecDepth 100000
def wiY (x : Wi) : List Nat := cntB x.t.toNat ++ (numB x.k ++ (flagB x.dead ++ (if x.dead then [] else numB x.v)))
def WiOk (l : List Wi) : Prop := ∀ x ∈ l, (0 ≤ x.t ∧ x.t < 4) ∧ inI x.k ∧ inI x.v
def bodyV (q : Nat) (l : List Wi) : List Nat := cntB q ++ (flagB true ++ (cntB l.length ++ l.flatMap wiY))
theorem wiY_len {x : Wi} (h : 0 ≤ x.t ∧ x.t < 4) (hk : inI x.k) (hv : inI x.v) : (wiY x).length ≤ 31 := by
  have h1 := cntB_len64 (n := x.t.toNat) (by omega)
  have h2 := cntB_len64 (zig_lt hk.1 hk.2)
  have h3 := cntB_len64 (zig_lt hv.1 hv.2)
  have h4 : (flagB x.dead).length = 1 := by cases x.dead <;> rfl
  have h5 : (if x.dead then [] else numB x.v).length ≤ 10 := by
    split
    · simp
    · exact h3
  have h6 : (numB x.k).length ≤ 10 := h2
  unfold wiY
  simp only [List.length_append]
  omega
theorem WrStep.far {w w' : World} {bw k : Nat} {v v' : Value} (h : WrStep w bw v w' v') (hk : k ≠ bw ∧ v.ownBlock ≠ some k) (hlt : k < w.heap.size) : k ≠ bw ∧ v'.ownBlock ≠ some k :=
  ⟨hk.1, fun e => by rcases h.2 k e with h' | h'; exact hk.2 h'; omega⟩
theorem flagB_len (f : Bool) : (flagB f).length = 1 := by cases f <;> rfl
set_option maxHeartbeats 4000000 in
theorem bodyV_any (w : World) (q : Nat) (F : Int) (sc s0 s1 s2 : Value) (Aw : Option Addr) (nw cw : Nat) (l : List Wi) (hn : nw = l.length) (hz : nw ≤ 1000000000000) (hr : Rd w Aw (l.flatMap wiC)) (hok : WiOk l) (hq : q ≤ 281474976710655) :
    Calls Try.prog 12 #[.agg #[.int .i64 q, .bool true, .int .i64 F, sc, s0, s1, s2, .slice Aw nw cw]] w (ClonePost w ((bodyV q l).map bv) (bodyV q l).length) := by
  have Hr := hid hr
  have Hn := hid hn
  have Hok := hid hok
  clear hr hn hok
  have Hborn : Hid (WrAt (w.heap.size + 1) ((w.alloc (Obj.cells #[.int .i64 q, .bool true, .int .i64 F, sc, s0, s1, s2, .slice Aw nw cw] 39)).alloc (Obj.cells #[.slice none 0 0] 63)) (w.heap.size + 1) (.slice none 0 0) []) := hid (by simpa using WrAt.born (w.alloc (Obj.cells #[.int .i64 q, .bool true, .int .i64 F, sc, s0, s1, s2, .slice Aw nw cw] 39)))
  have HB0 := hid (blk_alloc (blk_new w (Obj.cells #[.int .i64 q, .bool true, .int .i64 F, sc, s0, s1, s2, .slice Aw nw cw] 39)) (Obj.cells #[.slice none 0 0] 63))
  have HE0 := hid (two_new w (Obj.cells #[.int .i64 q, .bool true, .int .i64 F, sc, s0, s1, s2, .slice Aw nw cw] 39) (Obj.cells #[.slice none 0 0] 63))
  go_enter Try.func12, Try.ntmps12
  have HrL := hid (fun (a : Addr) (ha : Aw = some a) (h0 : 0 < nw) => show a.block < w.heap.size by
    obtain ⟨b, o, e, hb, _⟩ := Hr.out.addr (by rw [fm_len (s := 4) (fun _ => rfl), ← Hn.out]; omega)
    rw [ha] at e
    simp at e
    rw [e]; exact hb)
  have Hr0 := hid (Hr.out.ext HE0.out)
  have HS0 : Hid (((w.alloc (Obj.cells #[.int .i64 q, .bool true, .int .i64 F, sc, s0, s1, s2, .slice Aw nw cw] 39)).alloc (Obj.cells #[.slice none 0 0] 63)).heap.size = w.heap.size + 2) := hid (by simp)
  go_wp2_with fail
  generalize ((w.alloc (Obj.cells #[.int .i64 q, .bool true, .int .i64 F, sc, s0, s1, s2, .slice Aw nw cw] 39)).alloc (Obj.cells #[.slice none 0 0] 63)) = W0 at *
  refine (Wcount_any (w.heap.size + 1) _ (w.heap.size + 1) (.slice none 0 0) [] q Hborn.out (by omega) (by simp)).mono ?_
  rintro e w2 ⟨rfl, hp⟩
  obtain ⟨v2, h3, h4⟩ := hp
  have Hbel2 := hid (h4.below Hborn.out)
  have hb2 := (Kp.of_below Hbel2.out).blk HB0.out (by simp)
  have Hb2 := hid hb2
  have g1 := blk_cell hb2 1
  simp at g1
  have H3 := hid h3
  have H4 := hid h4
  have Hq10 := hid (cntB_len64 (n := q) (by omega))
  have Hn10 := hid (cntB_len64 (n := nw) (by omega))
  clear h3 h4 hb2
  go_wp2_with fail
  refine (Wflag_any (w.heap.size + 1) _ (w.heap.size + 1) v2 _ true H3.out (by have := Hq10.out; simp; omega)).mono ?_
  rintro e w3 ⟨rfl, hp⟩
  obtain ⟨v3, h5, h6⟩ := hp
  have Hs3 := hid (H4.out.trans h6)
  have Hbel3 := hid (Hs3.out.below Hborn.out)
  have hb3 := (Kp.of_below Hbel3.out).blk HB0.out (by simp)
  have Hb3 := hid hb3
  have g2 := blk_cell hb3 1
  have g3 := blk_cell hb3 7
  simp at g2 g3
  have H5 := hid h5
  clear h5 h6 hb3 g1
  go_wp2_with fail
  refine (Wcount_any (w.heap.size + 1) _ (w.heap.size + 1) v3 _ nw H5.out (by omega) (by have := Hq10.out; have := flagB_len true; simp; omega)).mono ?_
  rintro e w4 ⟨rfl, hp⟩
  obtain ⟨v4, h7, h8⟩ := hp
  have Hs4 := hid (Hs3.out.trans h8)
  have Hbel4 := hid (Hs4.out.below Hborn.out)
  have hb4 := (Kp.of_below Hbel4.out).blk HB0.out (by simp)
  have g4 := blk_cell hb4 7
  simp at g4
  have H7 := hid h7
  clear h7 h8 hb4 g2 g3
  obtain ⟨P0, hP0⟩ : ∃ P0, P0 = [] ++ cntB q ++ flagB true ++ cntB nw := ⟨_, rfl⟩
  have HP0 := hid hP0
  have HP0l : Hid (P0.length ≤ 21) := hid (by have := Hq10.out; have := Hn10.out; have := flagB_len true; rw [hP0]; simp; omega)
  have H7' : Hid (WrAt (w.heap.size + 1) w4 (w.heap.size + 1) v4 P0) := hid (by rw [hP0]; exact H7.out)
  clear hP0 H7
  go_wp2
  go_loopw [47] (fun v47 wr => ∃ (k : Nat) (u : Value), v47 = .int .i64 k ∧ k ≤ nw ∧ Hid (WrAt (w.heap.size + 1) wr (w.heap.size + 1) u (P0 ++ (l.take k).flatMap wiY)) ∧ Hid (WrStep W0 (w.heap.size + 1) (.slice none 0 0) wr u)) (fun v47 _ => nw - (intOf v47).toNat)
  case atStart => exact ⟨0, v4, rfl, by omega, hid (by simpa using H7'.out), Hs4⟩
  case round =>
    obtain ⟨k, u, rfl, hk, Hu, Hs⟩ := hrel
    have Hbel := hid (Hs.out.below Hborn.out)
    by_cases hlt : k < nw
    · have hkx : k < l.length := by rw [← Hn.out]; exact hlt
      obtain ⟨b, o, rfl, hb1, hb2⟩ := Hr.out.addr (by rw [fm_len (s := 4) (fun _ => rfl)]; omega)
      clear hb1 hb2
      have hx := List.getElem?_eq_getElem hkx
      have Hxl := hid (Hok.out _ (List.getElem_mem hkx))
      generalize l[k] = X at hx Hxl
      have Hrw := hid (Hr0.out.kp (Kp.of_below Hbel.out) (fun a ha _ => by have := HrL.out a ha (by omega); omega))
      obtain ⟨g5, g6, g7, g8⟩ := Hrw.out.wi hx
      have Hx := hid hx
      clear hx hkx
      have Hlen : Hid ((P0 ++ (l.take k).flatMap wiY).length + 50 ≤ 100000000000000) := by
        refine hid ?_
        have h3 := flat_len wiY 31 (l.take k) (fun x hx => have h := Hok.out x (List.mem_of_mem_take hx); wiY_len h.1 h.2.1 h.2.2)
        have h4 : (l.take k).length ≤ k := List.length_take_le _ _
        have := HP0l.out
        simp only [List.length_append]
        omega
      have Hwt : Hid (IntKind.u64.wrap X.t = (X.t.toNat : Int)) := hid <| by rw [IntKind.wrap_u64]; have := Hxl.out.1; omega
      have Ht10 := hid (cntB_len64 (n := X.t.toNat) (by have := Hxl.out.1; omega))
      have Hk10 : Hid ((numB X.k).length ≤ 10) := hid (cntB_len64 (zig_lt Hxl.out.2.1.1 Hxl.out.2.1.2))
      have Hfar := hid (Hu.out.new (w := wr) (Nat.le_refl _) (.inl rfl))
      have Hnew := hid (blk_new wr (Obj.cells #[.int .i64 X.t, .int .i64 X.k, .int .i64 X.v, .bool X.dead] 74))
      have Hext := hid (ext_alloc wr (Obj.cells #[.int .i64 X.t, .int .i64 X.k, .int .i64 X.v, .bool X.dead] 74))
      go_wp2_with fail
      rw [Hwt.out]
      generalize hW : wr.alloc (Obj.cells #[.int .i64 X.t, .int .i64 X.k, .int .i64 X.v, .bool X.dead] 74) = W at Hnew Hext ⊢
      have HWs : Hid (wr.heap.size < W.heap.size) := hid (by rw [← hW]; simp)
      clear hW g5 g6 g7 g8
      refine (Wcount_any (w.heap.size + 1) _ (w.heap.size + 1) u _ X.t.toNat (Hu.out.ext Hext.out) (by have := Hxl.out.1; omega) (by have := Hlen.out; omega)).mono ?_
      rintro e w5 ⟨rfl, hp⟩
      obtain ⟨v5, h9, h10⟩ := hp
      have hk5 := h10.1.blk Hnew.out Hfar.out
      have q1 := blk_cell hk5 1
      simp at q1
      have Hf5 := hid (h10.far Hfar.out HWs.out)
      have H9 := hid h9
      have HA := hid h10
      have Hk5 := hid hk5
      clear h9 h10 hk5
      go_wp2_with fail
      refine (Wnum_any (w.heap.size + 1) _ (w.heap.size + 1) v5 _ X.k H9.out Hxl.out.2.1.1 Hxl.out.2.1.2 (by have := Hlen.out; have := Ht10.out; rw [List.length_append]; omega)).mono ?_
      rintro e w6 ⟨rfl, hp⟩
      obtain ⟨v6, h11, h12⟩ := hp
      have hk6 := h12.1.blk Hk5.out Hf5.out
      have q3 := blk_cell hk6 3
      simp at q3
      have Hf6 := hid (h12.far Hf5.out (heap_lt Hk5.out))
      have H11 := hid h11
      have HC := hid (HA.out.trans h12)
      have Hk6 := hid hk6
      clear h11 h12 hk6 q1
      go_wp2_with fail
      refine (Wflag_any (w.heap.size + 1) _ (w.heap.size + 1) v6 _ X.dead H11.out (by have := Hlen.out; have := Ht10.out; have := Hk10.out; simp only [List.length_append] at *; omega)).mono ?_
      rintro e w7 ⟨rfl, hp⟩
      obtain ⟨v7, h13, h14⟩ := hp
      have hk7 := h14.1.blk Hk6.out Hf6.out
      have r3 := blk_cell hk7 3
      have r2 := blk_cell hk7 2
      simp at r3 r2
      have H13 := hid h13
      have HD := hid (HC.out.trans h14)
      clear h13 h14 hk7 q3
      cases hd : X.dead with
      | true =>
        rw [hd] at r3 H13
        go_wp2
        refine ⟨⟨k + 1, v7, by go_num, by omega, hid ?_, hid (Hs.out.trans ((WrStep.of_ext Hext.out).trans HD.out))⟩, by simp [intOf]; omega⟩
        have := H13.out
        rw [flat_snoc wiY l k X Hx.out]
        rw [show wiY X = cntB X.t.toNat ++ (numB X.k ++ (flagB true ++ [])) by unfold wiY; rw [hd]; rfl]
        simpa [List.append_assoc] using this
      | false =>
        rw [hd] at r3 H13
        go_wp2_with fail
        refine (Wnum_any (w.heap.size + 1) _ (w.heap.size + 1) v7 _ X.v H13.out Hxl.out.2.2.1 Hxl.out.2.2.2 (by have := Hlen.out; have := Ht10.out; have := Hk10.out; have := flagB_len false; simp only [List.length_append] at *; omega)).mono ?_
        rintro e w8 ⟨rfl, hp⟩
        obtain ⟨v8, h15, h16⟩ := hp
        have H15 := hid h15
        have HE := hid (HD.out.trans h16)
        clear h15 h16
        go_wp2
        refine ⟨⟨k + 1, v8, by go_num, by omega, hid ?_, hid (Hs.out.trans ((WrStep.of_ext Hext.out).trans HE.out))⟩, by simp [intOf]; omega⟩
        have := H15.out
        rw [flat_snoc wiY l k X Hx.out]
        rw [show wiY X = cntB X.t.toNat ++ (numB X.k ++ (flagB false ++ numB X.v)) by unfold wiY; rw [hd]; rfl]
        simpa [List.append_assoc] using this
    · obtain rfl : k = nw := by omega
      have hfin : P0 ++ (l.take k).flatMap wiY = bodyV q l := by
        rw [List.take_of_length_le (by rw [← Hn.out]; exact Nat.le_refl _), HP0.out, Hn.out]
        simp [bodyV]
      have hz2 : (bodyV q l).length ≤ 140737488355328 := by
        have h3 := flat_len wiY 31 l (fun x hx => have h := Hok.out x hx; wiY_len h.1 h.2.1 h.2.2)
        have := HP0l.out
        have := Hn.out
        rw [← hfin, List.take_of_length_le (by rw [← Hn.out]; exact Nat.le_refl _)]
        simp only [List.length_append]
        omega
      rw [hfin] at Hu
      have Hout := hid (Out_any _ _ _ _ _ Hu.out hz2)
      clear hfin hz2
      go_wp2_with fail
      refine Hout.out.mono ?_
      rintro e w' ⟨A', c', rfl, h1, h2, h3, h4, h5⟩
      have H1 := hid h1
      have H5' := hid h5
      have H24 := hid (And.intro h2 (And.intro h3 h4))
      clear h1 h2 h3 h4 h5
      go_wp2
      go_ret
      have hw : w.heap.size ≤ wr.heap.size := by have := HE0.out.size; have := Hbel.out.size; omega
      exact ⟨A', c', rfl, own_base H1.out (fun k e => by have := (own_blk H1.out e).1; omega), H24.out.1, H24.out.2.1, H24.out.2.2, HE0.out.trans ((Hbel.out.mono (by omega)).trans (H5'.out.mono hw))⟩
end Go.Proofs.Ytgnfccdhlpeknaa
