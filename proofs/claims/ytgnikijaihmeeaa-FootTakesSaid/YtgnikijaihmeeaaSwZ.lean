/- Arguments opened: slices of structs as lists. No program. -/
import Derived.Test.YtgnikijaihmeeaaSwF
import Derived.Deep.Slices
import Derived.ChangeSame
import Derived.ProofKit
open Go Go.RowKit Go.Deep
namespace Go.Proofs.Ytgnikijaihmeeaa
set_option linter.unusedVariables false
set_option linter.unusedSimpArgs false

section
variable {H : Type} {enc : TypeId × Value → H} {P : Program} {w : World} {base : Nat} {spare : Nat → Bool} {held : Bool}
theorem list_by {α : Type} {p : Nat → α → Prop} : ∀ m, (∀ i, i < m → ∃ v, p i v) → ∃ l : List α, l.length = m ∧ ∀ i v, l[i]? = some v → p i v
  | 0, _ => ⟨[], rfl, fun i v h => by simp at h⟩
  | m + 1, h => by
    obtain ⟨l, hl, hp⟩ := list_by m (fun i hi => h i (by omega))
    obtain ⟨v, hv⟩ := h m (by omega)
    refine ⟨l ++ [v], by simp [hl], fun i u hu => ?_⟩
    rcases Nat.lt_or_ge i m with hi | hi
    · rw [List.getElem?_append_left (by omega)] at hu
      exact hp i u hu
    · rw [List.getElem?_append_right (by omega)] at hu
      have : i - l.length = 0 := by
        rcases Nat.eq_zero_or_pos (i - l.length) with h0 | h0
        · exact h0
        · rw [List.getElem?_eq_none (by simp; omega)] at hu; cases hu
      rw [this] at hu
      simp at hu
      subst hu
      rw [show i = m by omega]
      exact hv
theorem fm_div {α : Type} {f : α → List Value} {s : Nat} (hs : ∀ x, (f x).length = s) (h0 : 0 < s) (l : List α) (j : Nat) (u : Value) (h : (l.flatMap f)[j]? = some u) : ∃ x, l[j / s]? = some x ∧ (f x)[j % s]? = some u := by
  have hj : j < l.length * s := by rw [← fm_len hs l]; exact (List.getElem?_eq_some_iff.1 h).1
  have hd : j / s < l.length := (Nat.div_lt_iff_lt_mul h0).2 hj
  refine ⟨l[j / s], List.getElem?_eq_getElem hd, ?_⟩
  rw [← fm_get hs l (j / s) _ (List.getElem?_eq_getElem hd) (j % s) (Nat.mod_lt _ h0), ← h]
  congr 1
  rw [Nat.mul_comm]
  exact Nat.div_add_mod j s
/-- a slice of structs that came in, as a list -/
theorem rows_of {α : Type} (f : α → List Value) (s : Nat) (hs : ∀ x, (f x).length = s) (h0 : 0 < s) (ok : α → Prop) {t e : TypeId} (ht : P.underlying t = some (.slice e)) (hC : P.cellsOf e = s)
    (elem : ∀ fuel cs x, DataW.trod enc P w base spare held fuel e cs = some x → ∃ a, cs = f a ∧ ok a) {fuel : Nat} {c : Value} {x : DataW H × List MemPlace} (h : DataW.trod enc P w base spare held fuel t [c] = some x) :
    ∃ (A : Option Addr) (n cap : Nat) (l : List α), c = .slice A n cap ∧ n ≤ cap ∧ cap ≤ maxLen ∧ (A = none → n = 0 ∧ cap = 0) ∧ n = l.length ∧ Rd w A (l.flatMap f) ∧ ∀ a ∈ l, ok a := by
  rcases open_slice ht h with ⟨hcs, _⟩ | ⟨a, len, cap, m, n, D, Pl, hcs, _, hl, hm, hmm, _, hi⟩
  · simp only [List.cons.injEq, and_true] at hcs
    subst hcs
    exact ⟨none, 0, 0, [], rfl, Nat.le_refl _, (by unfold maxLen; omega), fun _ => ⟨rfl, rfl⟩, rfl, Rd.nil _ _, by simp⟩
  · simp only [List.cons.injEq, and_true] at hcs
    subst hcs
    have hlm : len ≤ m := by rw [hmm]; split <;> omega
    obtain ⟨l, hll, hlp⟩ := list_by (p := fun i v => ok v ∧ ∀ j, j < s → w.cell? (a.add (i * s + j)) = (f v)[j]?) len (fun i him => by
      obtain ⟨cs', hc, ht'⟩ := hi i (by omega)
      obtain ⟨v, rfl, hv⟩ := elem _ _ _ ht'
      rw [hC] at hc
      obtain ⟨_, _, hat⟩ := World.cells?_some hc
      exact ⟨v, hv, fun j hj => by rw [← Go.Deep.add_add]; exact hat j hj⟩)
    refine ⟨some a, len, cap, l, rfl, hl, hm, (fun h => by cases h), hll.symm, fun j u hu => ?_, fun v hv => ?_⟩
    · obtain ⟨v, hv, hr⟩ := fm_div hs h0 l j u hu
      have h1 := (hlp _ v hv).2 (j % s) (Nat.mod_lt _ h0)
      rw [hr, show j / s * s + j % s = j by rw [Nat.mul_comm]; exact Nat.div_add_mod j s] at h1
      have hc := h1
      obtain ⟨b, o, sp⟩ := a
      have hsp : (⟨b, o, sp⟩ : Addr).spot = none ∨ j ≠ 0 := by
        by_cases hj : j = 0
        · subst hj
          exact .inl (World.cell?_spot (by simpa [Addr.add] using h1))
        · exact .inr hj
      have h00 : sp = none := by
        have hl0 : 0 < l.length := Nat.lt_of_le_of_lt (Nat.zero_le _) (List.getElem?_eq_some_iff.1 hv).1
        have h2 := (hlp 0 l[0] (List.getElem?_eq_getElem hl0)).2 0 h0
        rw [Nat.zero_mul, Nat.zero_add] at h2
        have h3 : (f l[0])[0]? = some ((f l[0])[0]'(by rw [hs]; exact h0)) := List.getElem?_eq_getElem _
        rw [h3] at h2
        have := World.cell?_spot h2
        simpa [Addr.add] using this
      subst h00
      rw [Addr.add_lit] at h1
      exact ⟨b, o, rfl, h1⟩
    · obtain ⟨i, hi⟩ := List.getElem?_of_mem hv
      exact (hlp i v hi).1
end
theorem wf_in {n : Int} (h : (Lit.int .i64 n).wf = true) : -9223372036854775808 ≤ n ∧ n ≤ 9223372036854775807 := by
  simp only [Lit.wf, Bool.and_eq_true, decide_eq_true_eq] at h
  exact h
theorem wf_u8 {n : Int} (h : (Lit.int .u8 n).wf = true) : 0 ≤ n ∧ n < 256 := by
  simp only [Lit.wf, Bool.and_eq_true, decide_eq_true_eq] at h
  have h2 : n ≤ 255 := h.2
  exact ⟨h.1, by omega⟩
end Go.Proofs.Ytgnikijaihmeeaa
