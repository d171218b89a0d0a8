/- One step of the spans, and a cell set in a row of the call's own. No program. -/
import Derived.Test.YtgnikijaihmeeaaSjA
import Derived.Test.YtgnikijaihmeeaaSjC
open Go Go.RowKit
namespace Go.Proofs.Ytgnikijaihmeeaa
set_option linter.unusedVariables false
set_option linter.unusedSimpArgs false
theorem spStep_rev {x : Sp} (h : x.hi < x.lo) (out : List Sp) : spStep out x = out := by unfold spStep; rw [if_pos h]
theorem spStep_nil {x : Sp} (h : ¬ x.hi < x.lo) : spStep [] x = [x] := by unfold spStep; rw [if_neg h]; rfl
theorem spStep_ap {x y : Sp} (h : ¬ x.hi < x.lo) (i : List Sp) (ha : apartB y x = true) : spStep (i ++ [y]) x = (i ++ [y]) ++ [x] := by
  unfold spStep; rw [if_neg h]; simp [ha]
theorem spStep_mg {x y : Sp} (h : ¬ x.hi < x.lo) (i : List Sp) (ha : apartB y x = false) : spStep (i ++ [y]) x = i ++ [⟨y.t, y.lo, max y.hi x.hi⟩] := by
  unfold spStep; rw [if_neg h]; simp [ha]
def hiIn (l : List Sp) : Prop := ∀ x ∈ l, -9223372036854775808 ≤ x.hi ∧ x.hi ≤ 9223372036854775807
theorem spStep_in {x : Sp} {out : List Sp} (h : hiIn out) (hx : -9223372036854775808 ≤ x.hi ∧ x.hi ≤ 9223372036854775807) : hiIn (spStep out x) := by
  by_cases h1 : x.hi < x.lo
  · rw [spStep_rev h1]; exact h
  · rcases List.eq_nil_or_concat out with rfl | ⟨i, y, rfl⟩
    · rw [spStep_nil h1]; intro z hz; simp at hz; subst hz; exact hx
    · rw [List.concat_eq_append] at h ⊢
      cases ha : apartB y x with
      | true => rw [spStep_ap h1 i ha]; intro z hz; rcases List.mem_append.1 hz with hz | hz
                · exact h z hz
                · simp at hz; subst hz; exact hx
      | false =>
        rw [spStep_mg h1 i ha]; intro z hz; rcases List.mem_append.1 hz with hz | hz
        · exact h z (by simp [hz])
        · simp at hz; subst hz
          have := h y (by simp)
          simp only
          omega
theorem foldl_in : ∀ (l out : List Sp), hiIn out → hiIn l → hiIn (l.foldl spStep out)
  | [], out, h, _ => h
  | x :: l, out, h, hl => foldl_in l _ (spStep_in h (hl x (by simp))) (fun y hy => hl y (by simp [hy]))
theorem fold_next {l : List Sp} {k : Nat} {x : Sp} (hx : l[k]? = some x) : (l.take (k + 1)).foldl spStep [] = spStep ((l.take k).foldl spStep []) x := by
  rw [List.take_add_one, hx]
  simp
theorem fold_len (l : List Sp) (k : Nat) : ((l.take k).foldl spStep []).length ≤ k := by
  have h1 := foldl_spStep_len (l.take k) []
  have h2 := List.length_take_le k l
  simp at h1
  omega
theorem own_set {w : World} {B g n c k i : Nat} {e : TypeId} {xs : List Value} (h : w.ownsRow B e k (.slice (some ⟨g, 0, none⟩) n c) n xs) (v : Value) :
    (w.setCell ⟨g, i, none⟩ v).ownsRow B e k (.slice (some ⟨g, 0, none⟩) n c) n (xs.set i v) := by
  rcases h.2 with ⟨hv, _⟩ | ⟨g', cap, cur, hv, hB, hg, hnc, hcm, hcs, ht⟩
  · cases hv
  · simp only [Value.slice.injEq, Option.some.injEq, Addr.mk.injEq, and_true] at hv
    obtain ⟨rfl, _, rfl⟩ := hv
    refine ⟨by rw [List.length_set]; exact h.1, .inr ⟨g, c, cur.setIfInBounds i v, rfl, hB, blk_set hg i v, hnc, hcm, by simp [hcs], ?_⟩⟩
    rw [Array.toList_setIfInBounds, List.take_set, ht]
theorem set_last (i : List Sp) (y : Sp) (v : Int) : ((i ++ [y]).flatMap spC).set (i.length * 3 + 2) (.int .i64 v) = (i ++ [(⟨y.t, y.lo, v⟩ : Sp)]).flatMap spC := by
  rw [List.flatMap_append, List.flatMap_append]
  have hl : (i.flatMap spC).length = i.length * 3 := fm_len (f := spC) (s := 3) (fun _ => rfl) _
  rw [List.set_append_right _ _ (by omega), hl, show i.length * 3 + 2 - i.length * 3 = 2 by omega]
  rfl
end Go.Proofs.Ytgnikijaihmeeaa
