/- The document's reader. -/
import Derived.Test.YtgnikijaihmeeaaSfB
import Derived.Test.YtgnikijaihmeeaaStA
import Derived.Test.YtgnikijaihmeeaaSwVc
import Derived.Test.YtgnikijaihmeeaaSwH
open Go Go.RowKit
namespace Go.Proofs.Ytgnikijaihmeeaa
set_option linter.unusedVariables false
set_option linter.unusedSimpArgs false
set_option maxRecDepth 100000
/-- the document's reader at block br -/
def R3At (w : World) (br : Nat) : St → Prop
  | none => w.heap[br]? = some (.cells #[.slice none 0 0, .bool true] 70 (0, 0))
  | some l => ∃ A c, w.heap[br]? = some (.cells #[.slice A l.length c, .bool false] 70 (0, 0)) ∧ l.length ≤ c ∧ c ≤ maxLen ∧ Rd w A (l.map bv) ∧ TyB w A ∧ (A = none → c = 0)
theorem R3At.kp {S : Nat → Prop} {w w' : World} {br : Nat} {s : St} (h : R3At w br s) (hk : Kp S w w') (hs : S br) (hs2 : ∀ k cs fz, w.heap[k]? = some (.cells cs 5 fz) → S k) : R3At w' br s := by
  cases s with
  | none => exact hk.blk h hs
  | some l =>
    obtain ⟨A, c, hb, h1, h2, h3, h4, h5⟩ := h
    exact ⟨A, c, hk.blk hb hs, h1, h2, h3.kp hk (fun a ha _ => by obtain ⟨cs, fz, hb'⟩ := h4 a ha; exact hs2 _ _ _ hb'), h4.kp hk hs2, h5⟩
theorem R3At.ext {w w' : World} {br : Nat} {s : St} (h : R3At w br s) (hk : Below w.heap.size w w') : R3At w' br s := h.kp (S := fun _ => True) (Kp.of_ext hk _) trivial (fun _ _ _ _ => trivial)
theorem R3At.blk {w : World} {br : Nat} {s : St} (h : R3At w br s) : ∃ cs, w.heap[br]? = some (.cells cs 70 (0, 0)) := by
  cases s with
  | none => exact ⟨_, h⟩
  | some l => obtain ⟨A, c, hb, _⟩ := h; exact ⟨_, hb⟩
theorem R3At.lt {w : World} {br : Nat} {s : St} (h : R3At w br s) : br < w.heap.size := by obtain ⟨cs, hb⟩ := h.blk; exact heap_lt hb
theorem fail3_any (w : World) (br : Nat) (s : St) (h : R3At w br s) : Calls Try.prog 63 #[.pointer (some ⟨br, 0, none⟩)] w fun e w' => e = .returned (.tuple #[]) ∧ Hid (R3At w' br none) ∧ Hid (Kp (· ≠ br) w w') := by
  obtain ⟨v, u, hb⟩ : ∃ v u, w.heap[br]? = some (.cells #[v, u] 70 (0, 0)) := by
    cases s with
    | none => exact ⟨_, _, h⟩
    | some l => obtain ⟨A, c, hb, _⟩ := h; exact ⟨_, _, hb⟩
  have hc0 := blk_cell hb 0
  have hc1 := blk_cell hb 1
  have hf0 := blk_free hb 0
  have hf1 := blk_free hb 1
  simp at hc0 hc1
  have Hb := hid hb
  clear hb h
  go_enter Try.func63, Try.ntmps63
  go_wp2
  go_end0
  exact ⟨rfl, hid (blk_set (blk_set Hb.out 1 _) 0 _), hid ((kp_set _ _ _ _).trans (kp_set _ _ _ _))⟩
theorem Done3_any (w : World) (br : Nat) (s : St) (h : R3At w br s) : Calls Try.prog 40 #[.pointer (some ⟨br, 0, none⟩)] w fun e w' => e = .returned (.bool (decide (s = some []))) ∧ w = w' := by
  cases s with
  | none =>
    have hb : w.heap[br]? = some (.cells #[.slice none 0 0, .bool true] 70 (0, 0)) := h
    have hc0 := blk_cell hb 0
    have hc1 := blk_cell hb 1
    simp at hc0 hc1
    clear hb h
    go_enter Try.func40, Try.ntmps40
    go_wp2
    go_ret
    exact ⟨rfl, rfl⟩
  | some l =>
    obtain ⟨A, c, hb, hlc, hcm, _⟩ := h
    have hc0 := blk_cell hb 0
    have hc1 := blk_cell hb 1
    simp at hc0 hc1
    unfold maxLen at hcm
    clear hb
    have E : Hid ((decide ((some l : St) = some [])) = ((l.length : Int) == 0)) := hid (by
      cases l with
      | nil => rfl
      | cons b r => simp; omega)
    rw [E.out]
    go_enter Try.func40, Try.ntmps40
    go_wp2
    go_ret
    exact ⟨rfl, rfl⟩
/-! ### What a count's bytes come to -/
def valC : List Nat → Nat
  | [] => 0
  | c :: r => c % 128 + 128 * valC r
theorem valC_cntB (n : Nat) : valC (cntB n) = n := by
  induction n using Nat.strongRecOn with
  | _ n ih =>
    by_cases h : n < 128
    · rw [cntB_small h]; simp [valC]; omega
    · rw [cntB_big (by omega), valC, ih (n / 128) (by omega)]; omega
/-- the first byte below 128 -/
theorem cntB_shape (n : Nat) : (∀ i b, i + 1 < (cntB n).length → (cntB n)[i]? = some b → 128 ≤ b) ∧ (∀ b, (cntB n)[(cntB n).length - 1]? = some b → b < 128) := by
  induction n using Nat.strongRecOn with
  | _ n ih =>
    by_cases h : n < 128
    · rw [cntB_small h]; simp; omega
    · obtain ⟨h1, h2⟩ := ih (n / 128) (by omega)
      have hp := cntB_pos (n / 128)
      rw [cntB_big (by omega)]
      refine ⟨fun i b hi hb => ?_, fun b hb => h2 b ?_⟩
      · cases i with
        | zero => simp at hb; omega
        | succ j => simp at hb hi; exact h1 j b (by omega) hb
      · rw [List.length_cons, show (cntB (n / 128)).length + 1 - 1 = ((cntB (n / 128)).length - 1) + 1 by omega, List.getElem?_cons_succ] at hb
        exact hb
theorem lead_len {l : List Nat} {n k c : Nat} {r : List Nat} (h : l = cntB n ++ r) (hk : ∀ i b, i < k → l[i]? = some b → 128 ≤ b) (hc : l[k]? = some c) (hc2 : c < 128) : (cntB n).length = k + 1 := by
  obtain ⟨h1, h2⟩ := cntB_shape n
  have hp := cntB_pos n
  have get : ∀ i, i < (cntB n).length → l[i]? = (cntB n)[i]? := fun i hi => by rw [h, List.getElem?_append_left hi]
  rcases Nat.lt_trichotomy ((cntB n).length) (k + 1) with hlt | heq | hgt
  · exfalso
    have e := get ((cntB n).length - 1) (by omega)
    have hb : (cntB n)[(cntB n).length - 1]? = some ((cntB n)[(cntB n).length - 1]'(by omega)) := List.getElem?_eq_getElem _
    have := h2 _ hb
    have := hk _ _ (by omega) (e.trans hb)
    omega
  · exact heq
  · exfalso
    have := h1 k c (by omega) (by rw [← get k (by omega)]; exact hc)
    omega
theorem lead_none {l : List Nat} {k : Nat} (hb : ∀ b ∈ l, b < 256) (hk : ∀ i b, i < k → l[i]? = some b → 128 ≤ b) (he : l.length ≤ k ∨ 10 ≤ k) : rCount (some l) = (0, none) := by
  refine rCount_none (fun n r hn h => ?_) hb
  obtain ⟨_, h2⟩ := cntB_shape n
  have hp := cntB_pos n
  have hl := cntB_len64 hn
  have e : l[(cntB n).length - 1]? = (cntB n)[(cntB n).length - 1]? := by rw [h, List.getElem?_append_left (by omega)]
  have hb' : (cntB n)[(cntB n).length - 1]? = some ((cntB n)[(cntB n).length - 1]'(by omega)) := List.getElem?_eq_getElem _
  have a := h2 _ hb'
  have hll : (cntB n).length ≤ l.length := by rw [h]; simp
  have := hk _ _ (by omega) (e.trans hb')
  omega
theorem lead_eq {l : List Nat} {k u : Nat} (hu : u < 18446744073709551616) (h : cntB u = l.take (k + 1)) : rCount (some l) = (u, some (l.drop (k + 1))) := by
  have : l = cntB u ++ l.drop (k + 1) := by rw [h, List.take_append_drop]
  rw [this, rCount_cntB hu]
  rw [← this]
theorem lead_ne {l : List Nat} {k c : Nat} (hb : ∀ b ∈ l, b < 256) (hk : ∀ i b, i < k → l[i]? = some b → 128 ≤ b) (hc : l[k]? = some c) (hc2 : c < 128) (h : cntB (valC (l.take (k + 1)) % 18446744073709551616) ≠ l.take (k + 1)) : rCount (some l) = (0, none) := by
  refine rCount_none (fun n r hn e => h ?_) hb
  have hl := lead_len e hk hc hc2
  have ht : l.take (k + 1) = cntB n := by rw [e, ← hl, List.take_left']; rfl
  rw [ht, valC_cntB, Nat.mod_eq_of_lt hn]
theorem valC_step {p : List Nat} {j c : Nat} (h : p[j]? = some c) : valC (p.drop j) = c % 128 + 128 * valC (p.drop (j + 1)) := by
  have hlt := (List.getElem?_eq_some_iff.1 h).1
  rw [List.drop_eq_getElem_cons hlt, valC]
  have := (List.getElem?_eq_some_iff.1 h).2
  rw [this]
end Go.Proofs.Ytgnikijaihmeeaa
