/- A row of the call's own, and the sort's words for it. No program. -/
import Derived.Test.YtgnikijaihmeeaaSwF
import Derived.Shelf.SlSortCmp.InsertionK
open Go Go.RowKit Go.Shelf Go.Lib Go.Sort
namespace Go.Proofs.Ytgnikijaihmeeaa
set_option linter.unusedVariables false
set_option linter.unusedSimpArgs false
section
variable {α : Type} [Inhabited α]
theorem flatK_get (enc : α → List Value) (k : Nat) (hk : ∀ x, (enc x).length = k) (h0 : 0 < k) (l : List α) (j : Nat) (hj : j < l.length * k) : some ((flatK enc k l.toArray)[j]!) = (l.flatMap enc)[j]? := by
  have hd : j / k < l.length := (Nat.div_lt_iff_lt_mul h0).2 hj
  have hm : j % k < k := Nat.mod_lt _ h0
  rw [get_flatK enc k l.toArray j (by simpa using hj)]
  have h1 := fm_get hk l (j / k) l[j / k] (List.getElem?_eq_getElem hd) (j % k) hm
  rw [show j / k * k + j % k = j by rw [Nat.mul_comm]; exact Nat.div_add_mod j k] at h1
  rw [h1]
  have e1 : l.toArray[j / k]! = l[j / k] := by simp [hd]
  rw [e1, List.getElem?_eq_getElem (by rw [hk]; exact hm)]
  simp [show j % k < (enc l[j / k]).length by rw [hk]; exact hm]
theorem own_holdsK (enc : α → List Value) (k : Nat) (hk : ∀ x, (enc x).length = k) (h0 : 0 < k) {w : World} {B g n c : Nat} {e : TypeId} {l : List α} (hn : n = l.length) (h : w.ownsRow B e k (.slice (some ⟨g, 0, none⟩) n c) n (l.flatMap enc)) :
    HoldsK enc k w g 0 l.toArray ∧ g < w.heap.size := by
  rcases h.2 with ⟨hv, _⟩ | ⟨g', cap, cur, hv, _, hg, hnc, _, hcs, ht⟩
  · cases hv
  · simp only [Value.slice.injEq, Option.some.injEq, Addr.mk.injEq, and_true] at hv
    obtain ⟨rfl, _, rfl⟩ := hv
    refine ⟨fun j hj => ?_, heap_lt hg⟩
    rw [size_flatK] at hj
    have hj' : j < l.length * k := by simpa using hj
    rw [Nat.zero_add]
    refine ⟨?_, blk_free hg j⟩
    rw [blk_cell hg]
    have h1 := flatK_get enc k hk h0 l j hj'
    rw [← ht, List.getElem?_take, if_pos (by rw [hn]; exact hj')] at h1
    rw [show (id (flatK enc k l.toArray)[j]! : Value) = (flatK enc k l.toArray)[j]! from rfl, h1]
    simp
theorem sorted_own (enc : α → List Value) (k : Nat) (hk : ∀ x, (enc x).length = k) (h0 : 0 < k) {w : World} {B g n c : Nat} {e : TypeId} {xs : List Value} (h : w.ownsRow B e k (.slice (some ⟨g, 0, none⟩) n c) n xs) (m : Nat) (d : List α) (hd : d.length = n) (os : Array Obj) :
    (sortWorldK enc k w g 0 m d.toArray os).ownsRow B e k (.slice (some ⟨g, 0, none⟩) n c) n (d.flatMap enc) ∧ Kp (fun x => x ≠ g) w (sortWorldK enc k w g 0 m d.toArray os) := by
  rcases h.2 with ⟨hv, _⟩ | ⟨g', cap, cur, hv, hB, hg, hnc, hcm, hcs, ht⟩
  · cases hv
  · simp only [Value.slice.injEq, Option.some.injEq, Addr.mk.injEq, and_true] at hv
    obtain ⟨rfl, _, rfl⟩ := hv
    have hlt := heap_lt hg
    have hh : ∀ x, x < w.heap.size → (sortWorldK enc k w g 0 m d.toArray os).heap[x]? = (w.heap.modify g (onCells (putCells id 0 (flatK enc k d.toArray))))[x]? := fun x hx => by
      show ((w.heap.modify g (onCells (putCells id 0 (flatK enc k d.toArray)))) ++ os)[x]? = _
      rw [Array.getElem?_append_left (by simpa using hx)]
    refine ⟨⟨by rw [fm_len hk, hd], .inr ⟨g, c, putCells id 0 (flatK enc k d.toArray) cur, rfl, hB, ?_, hnc, hcm, by simp [putCells, hcs], ?_⟩⟩, ⟨rfl, rfl, rfl, ?_, fun x hx hne => ?_⟩⟩
    · rw [hh g hlt, Array.getElem?_modify, if_pos rfl, hg]
      rfl
    · refine List.ext_getElem? fun j => ?_
      rw [List.getElem?_take]
      by_cases hj : j < n * k
      · rw [if_pos hj, ← flatK_get enc k hk h0 d j (by rw [hd]; exact hj)]
        have hjc : j < cur.size := by rw [hcs]; exact Nat.lt_of_lt_of_le hj (Nat.mul_le_mul_right _ hnc)
        simp [putCells, hjc, hd, hj]
      · rw [if_neg hj, List.getElem?_eq_none (by rw [fm_len hk, hd]; omega)]
    · show w.heap.size ≤ ((w.heap.modify g (onCells (putCells id 0 (flatK enc k d.toArray)))) ++ os).size
      simp
    · rw [hh x hx, Array.getElem?_modify, if_neg (Ne.symm hne)]
end
end Go.Proofs.Ytgnikijaihmeeaa
