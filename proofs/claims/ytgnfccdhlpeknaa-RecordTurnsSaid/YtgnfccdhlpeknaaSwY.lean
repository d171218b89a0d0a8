/- The law RecordTurns. -/
import Derived.Test.YtgnfccdhlpeknaaSwXb
import Derived.Test.YtgnfccdhlpeknaaSwU
open Go Go.RowKit
namespace Go.Proofs.Ytgnfccdhlpeknaa
set_option maxRecDepth 100000
theorem footBy_len3 {f : Ft} (hg : goodB f = true) (hi : FtOk f) (h0 : f.r.length ≤ 1000) (h1 : f.s.length ≤ 1000) (h2 : f.w.length ≤ 1000) : (footBy f).length ≤ 100000 := by
  unfold goodB risB at hg
  simp only [Bool.and_eq_true] at hg
  obtain ⟨g1, g2, g3⟩ := hg
  have a1 := keysB_len (l := f.r) (fun x hx => ⟨risF_tab _ _ g2 x hx, hi.r x hx⟩) (by omega)
  have a2 := keysB_len (l := f.w) (fun x hx => ⟨risF_tab _ _ g3 x hx, hi.w x hx⟩) (by omega)
  have a3 := flat_len spB 30 f.s (fun x hx => spB_len (spnF_tab _ _ g1 x hx) (hi.s x hx))
  have a4 := cntB_len64 (n := f.s.length) (by omega)
  unfold footBy
  simp only [List.length_append]
  omega
theorem encB_len {x : Rec} (hg : goodR x = true) (hk : RecOk x) (h0 : x.ft.r.length ≤ 1000) (h1 : x.ft.s.length ≤ 1000) (h2 : x.ft.w.length ≤ 1000) (hw : x.ws.length ≤ 1000) : (encB x).length ≤ 1000000 := by
  have hs : (sum4 (sumC (bodyB x))).length = 4 := rfl
  have hb : (bodyB x).length ≤ 900000 := by
    unfold goodR at hg
    simp only [Bool.and_eq_true, Bool.not_eq_true', decide_eq_false_iff_not] at hg
    obtain ⟨q1, q2, hg⟩ := hg
    have a1 := cntB_len64 (n := x.seq.toNat) (by omega)
    unfold bodyB
    cases hv : x.val with
    | true =>
      rw [hv] at hg
      simp only [if_true, Bool.and_eq_true] at hg ⊢
      have a2 := flat_len wiY 31 x.ws (fun y hy => wiY_len (wrF_tab _ _ hg.2 y hy) (hk.ws y hy).1 (hk.ws y hy).2)
      have a3 := cntB_len64 (n := x.ws.length) (by omega)
      unfold bodyV
      simp only [List.length_append, flagB_len]
      omega
    | false =>
      rw [hv] at hg
      simp only [Bool.false_eq_true, if_false, Bool.and_eq_true] at hg ⊢
      have a2 := progB_len2 (fuel := x.pg.fuel) (cs := x.pg.code) (by simpa using hg.2.1) hk.cd
      have a3 := footBy_len3 hg.2.2 hk.ft h0 h1 h2
      have a4 := cntB_len64 (n := (progB x.pg.fuel x.pg.code).length) (by omega)
      have a5 := cntB_len64 (n := (footBy x.ft).length) (by omega)
      unfold bodyP
      simp only [List.length_append, flagB_len]
      omega
  unfold encB
  simp only [List.length_append, hs]
  omega
theorem encB_lt (x : Rec) : ∀ b ∈ encB x, b < 256 := by
  unfold encB
  refine app_lt (bodyB_lt x) (fun b hb => ?_)
  simp only [sum4, List.mem_cons, List.not_mem_nil, or_false] at hb
  rcases hb with rfl | rfl | rfl | rfl <;> exact Nat.mod_lt _ (by omega)
theorem encB_pos (x : Rec) : 4 ≤ (encB x).length := by
  have hs : (sum4 (sumC (bodyB x))).length = 4 := rfl
  unfold encB
  simp only [List.length_append, hs]
  omega
theorem xor_ne {b c : Nat} (hc : c ≠ 0) : b ^^^ c ≠ b := fun h => by
  have h2 : b ^^^ (b ^^^ c) = b ^^^ b := by rw [h]
  rw [← Nat.xor_assoc, Nat.xor_self, Nat.zero_xor] at h2
  exact hc h2
/-- with one byte changed no record is decoded -/
theorem turn_none (x : Rec) (k y : Nat) (hk : k < (encB x).length) (hy : y < 256) (h0 : y ≠ 0) : decR ((encB x).set k ((encB x).getD k 0 ^^^ y)) = none := by
  cases hd : decR ((encB x).set k ((encB x).getD k 0 ^^^ y)) with
  | none => rfl
  | some z =>
    exfalso
    unfold decR at hd
    split at hd
    · cases hd
    · split at hd
      · rename_i h
        obtain ⟨_, _, h3⟩ := h
        have hb : (encB x).getD k 0 < 256 := by
          rw [List.getD_eq_getElem?_getD, List.getElem?_eq_getElem hk]
          exact encB_lt x _ (List.getElem_mem hk)
        have e1 : encB x = (encB x).take k ++ (encB x).getD k 0 :: (encB x).drop (k + 1) := by
          rw [List.getD_eq_getElem?_getD, List.getElem?_eq_getElem hk]
          simp
        have e2 : (encB x).set k ((encB x).getD k 0 ^^^ y) = (encB x).take k ++ ((encB x).getD k 0 ^^^ y) :: (encB x).drop (k + 1) := by rw [List.set_eq_take_append_cons_drop, if_pos hk]
        rw [e2] at h3
        have := enc_turn (bodyB_lt x) (bodyB_lt _) (show bodyB x ++ sum4 (sumC (bodyB x)) = _ from e1) h3
        exact xor_ne h0 this.symm
      · cases hd
end Go.Proofs.Ytgnfccdhlpeknaa
