/- The sort of spans and of keys, at rows of the call's own. -/
import Derived.Test.YtgnikijaihmeeaaSjE
import Derived.Test.YtgnikijaihmeeaaSjB
import Derived.Shelf.SlSortCmp.NoneTotal
open Go Go.RowKit Go.Shelf Go.Lib Go.Sort
namespace Go.Proofs.Ytgnikijaihmeeaa
set_option linter.unusedVariables false
set_option linter.unusedSimpArgs false
set_option maxRecDepth 100000
theorem ltSpan (x y : Sp) : ltOf cmpSpan x y = spanLt x y := rfl
theorem swoSpan : SWO (ltOf cmpSpan) where
  irrefl x := by rw [ltSpan, ← Bool.not_eq_true, spanLt_iff]; omega
  trans x y z h1 h2 := by rw [ltSpan, spanLt_iff] at *; omega
  ntrans x y z h1 h2 := by rw [ltSpan, ← Bool.not_eq_true, spanLt_iff] at *; omega
theorem totSpan (x y : Sp) (h1 : ltOf cmpSpan x y = false) (h2 : ltOf cmpSpan y x = false) : x = y := by
  rw [ltSpan, ← Bool.not_eq_true, spanLt_iff] at h1 h2
  obtain ⟨a, b, c⟩ := x
  obtain ⟨d, e, f⟩ := y
  simp only at h1 h2
  have e1 : a = d := by omega
  have e2 : b = e := by omega
  have e3 : c = f := by omega
  rw [e1, e2, e3]
theorem sortS_any : SortS := fun w B A n c l ho hn => by
  have hl : l.length = n := by have := ho.1; rw [fm_len (s := 3) (fun _ => rfl)] at this; omega
  cases A with
  | none =>
    have h0 : n = 0 := by
      rcases ho.2 with ⟨hv, h⟩ | ⟨g, cap, cur, hv, _⟩
      · exact h
      · cases hv
    subst h0
    have : l = [] := List.eq_nil_of_length_eq_zero hl
    subst this
    refine (AnyF.slices_SortFunc_none Try.sortSpans none c _ w).mono ?_
    rintro e w' ⟨rfl, rfl⟩
    exact ⟨rfl, by simpa using ho, Kp.refl _ _⟩
  | some a =>
    have ha : ∃ g, a = ⟨g, 0, none⟩ := by
      rcases ho.2 with ⟨hv, h⟩ | ⟨g, cap, cur, hv, _⟩
      · cases hv
      · simp only [Value.slice.injEq, Option.some.injEq] at hv
        exact ⟨g, hv.1⟩
    obtain ⟨g, rfl⟩ := ha
    obtain ⟨hH, hg⟩ := own_holdsK spC 3 (fun _ => rfl) (by omega) hl.symm ho
    have eg : ∀ args w, (callFunc 45 args).run Try.prog w = .ok (.enter 45 args) w := enters_of Try.func45 (by kernel_rfl) rfl
    have hc : CmpLays Try.prog 45 #[] spC 3 cmpSpan g 0 l.toArray.size w := fun m os dk _ x y => by
      have := bySpan_grew x y (sortWorldK spC 3 w g 0 m dk os)
      exact this
    have hz : l.toArray.size = n := by simpa using hl
    have key := AnyQ.slices_SortFunc_total Try.sortSpans 3 (fun _ => by kernel_rfl) (fun _ => by kernel_rfl) spC (fun _ => rfl) (fun x v hv => by simp [spC] at hv; rcases hv with rfl | rfl | rfl <;> rfl) cmpSpan swoSpan 45 #[] g 0 c l.toArray w eg hc hH hg (by omega) totSpan
    rw [hz] at key
    refine key.mono ?_
    rintro e w' ⟨rfl, m, os, rfl⟩
    have h2 := sorted_own spC 3 (fun _ => rfl) (by omega) ho m (l.mergeSort sLe) (by rw [List.length_mergeSort]; exact hl) os
    refine ⟨rfl, h2.1, h2.2.mono (fun k _ h e => h ?_)⟩
    subst e
    rfl
end Go.Proofs.Ytgnikijaihmeeaa
