/- Feet put together, as a plain function. No program. -/
import Derived.Test.YtgnikijaihmeeaaSfA
open Go Go.RowKit
namespace Go.Proofs.Ytgnikijaihmeeaa
set_option linter.unusedVariables false
set_option linter.unusedSimpArgs false
def kLe (x y : Ky) : Bool := !keyLt y x
def spanLt (a b : Sp) : Bool := decide (cmpSpan a b < 0)
def sLe (x y : Sp) : Bool := !spanLt y x
def dedupK : List Ky → List Ky
  | [] => []
  | [x] => [x]
  | x :: y :: r => if x = y then dedupK (y :: r) else x :: dedupK (y :: r)
def spStep (out : List Sp) (x : Sp) : List Sp :=
  if x.hi < x.lo then out else match out.getLast? with
    | none => [x]
    | some l => if apartB l x then out ++ [x] else out.dropLast ++ [⟨l.t, l.lo, max l.hi x.hi⟩]
def keysJ (l : List Ky) : List Ky := dedupK (l.mergeSort kLe)
def spansJ (l : List Sp) : List Sp := (l.mergeSort sLe).foldl spStep []
def joinF (f : Ft) : Ft := ⟨keysJ f.r, spansJ f.s, keysJ f.w⟩
theorem dedupK_len : ∀ l : List Ky, (dedupK l).length ≤ l.length
  | [] => by simp [dedupK]
  | [x] => by simp [dedupK]
  | x :: y :: r => by
    have := dedupK_len (y :: r)
    simp only [dedupK]
    split
    · simp at this ⊢; omega
    · simp at this ⊢; omega
theorem dedupK_mem : ∀ (l : List Ky) (k : Ky), k ∈ dedupK l ↔ k ∈ l
  | [], k => by simp [dedupK]
  | [x], k => by simp [dedupK]
  | x :: y :: r, k => by
    have := dedupK_mem (y :: r) k
    simp only [dedupK]
    split
    · rename_i h
      rw [this]
      subst h
      simp
    · simp only [List.mem_cons] at this ⊢
      rw [this]
theorem keysJ_mem (l : List Ky) (k : Ky) : k ∈ keysJ l ↔ k ∈ l := by
  unfold keysJ
  rw [dedupK_mem]
  exact List.mem_mergeSort
theorem keysJ_len (l : List Ky) : (keysJ l).length ≤ l.length := by
  unfold keysJ
  refine Nat.le_trans (dedupK_len _) ?_
  rw [List.length_mergeSort]
  exact Nat.le_refl _
theorem keyLt_iff (a b : Ky) : keyLt a b = true ↔ a.t < b.t ∨ (a.t = b.t ∧ a.k < b.k) := by
  rw [keyLt_less]
  unfold lessR
  simp
theorem keyLt_false (a b : Ky) : keyLt a b = false ↔ ¬ (a.t < b.t ∨ (a.t = b.t ∧ a.k < b.k)) := by
  rw [← keyLt_iff, Bool.not_eq_true]
theorem spanLt_iff (q x : Sp) : spanLt q x = true ↔ (q.t < x.t ∨ (q.t = x.t ∧ (q.lo < x.lo ∨ (q.lo = x.lo ∧ q.hi < x.hi)))) := by
  unfold spanLt cmpSpan cmpI
  rw [decide_eq_true_eq]
  simp only [orL]
  repeat' split
  all_goals omega
theorem spStep_len (out : List Sp) (x : Sp) : (spStep out x).length ≤ out.length + 1 := by
  unfold spStep
  split
  · omega
  · split
    · simp
    · rename_i l h
      split
      · simp
      · have : 0 < out.length := by
          cases out with
          | nil => simp at h
          | cons a b => simp
        simp; try omega
theorem foldl_spStep_len : ∀ (l out : List Sp), (l.foldl spStep out).length ≤ out.length + l.length
  | [], out => by simp
  | x :: l, out => by
    have h1 := foldl_spStep_len l (spStep out x)
    have h2 := spStep_len out x
    simp only [List.foldl_cons, List.length_cons]
    omega
theorem spansJ_len (l : List Sp) : (spansJ l).length ≤ l.length := by
  unfold spansJ
  have := foldl_spStep_len (l.mergeSort sLe) []
  rw [List.length_mergeSort] at this
  simpa using this
/-- keys that rise stay as they are -/
theorem risF_pair : ∀ (l : List Ky) (p : Option Ky), risF p l = true → l.Pairwise (fun a b => keyLt a b = true) ∧ (∀ q, p = some q → ∀ x ∈ l, keyLt q x = true)
  | [], _, _ => ⟨List.Pairwise.nil, fun _ _ _ h => by cases h⟩
  | x :: l, p, h => by
    rw [risF_cons] at h
    simp only [Bool.and_eq_true] at h
    obtain ⟨⟨_, hp⟩, hl⟩ := h
    obtain ⟨h1, h2⟩ := risF_pair l (some x) hl
    have h3 := h2 x rfl
    refine ⟨List.Pairwise.cons h3 h1, fun q hq y hy => ?_⟩
    subst hq
    simp only at hp
    rcases List.mem_cons.1 hy with rfl | hy
    · exact hp
    · have a1 := h3 y hy
      rw [keyLt_iff] at hp a1 ⊢
      omega
theorem dedupK_rising : ∀ l : List Ky, l.Pairwise (fun a b => keyLt a b = true) → dedupK l = l
  | [], _ => rfl
  | [x], _ => rfl
  | x :: y :: r, h => by
    have h1 := (List.pairwise_cons.1 h).1 y (by simp)
    have hne : x ≠ y := fun e => by
      subst e
      rw [keyLt_iff] at h1
      omega
    simp only [dedupK]
    rw [if_neg hne, dedupK_rising (y :: r) (List.pairwise_cons.1 h).2]
theorem keysJ_rising {l : List Ky} (h : l.Pairwise (fun a b => keyLt a b = true)) : keysJ l = l := by
  unfold keysJ
  rw [List.mergeSort_of_pairwise, dedupK_rising l h]
  refine h.imp (fun {a b} hab => ?_)
  unfold kLe
  rw [Bool.not_eq_true', keyLt_false]
  rw [keyLt_iff] at hab
  omega
theorem joinF_ex : joinF ⟨[], [⟨1, 4, 5⟩, ⟨1, 1, 3⟩], []⟩ = ⟨[], [⟨1, 1, 5⟩], []⟩ := by
  have h1 : keysJ [] = [] := by decide +kernel
  have h3 : ([⟨1, 4, 5⟩, ⟨1, 1, 3⟩] : List Sp).mergeSort sLe = [⟨1, 1, 3⟩, ⟨1, 4, 5⟩] := by
    have e1 : sLe ⟨1, 4, 5⟩ ⟨1, 1, 3⟩ = false := by decide +kernel
    simp [List.mergeSort, List.MergeSort.Internal.splitInTwo, List.merge, e1]
  have h2 : spansJ [⟨1, 4, 5⟩, ⟨1, 1, 3⟩] = [⟨1, 1, 5⟩] := by
    unfold spansJ
    rw [h3]
    decide +kernel
  unfold joinF
  rw [h1, h2]
end Go.Proofs.Ytgnikijaihmeeaa
