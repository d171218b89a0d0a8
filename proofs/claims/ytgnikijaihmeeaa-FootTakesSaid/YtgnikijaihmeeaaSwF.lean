/- The walks of cmp's functions and of foot's comparisons. -/
import Derived.Test.YtgnikijaihmeeaaProg
import Derived.Test.YtgnikijaihmeeaaSwA
open Go Go.RowKit
namespace Go.Proofs.Ytgnikijaihmeeaa
set_option linter.unusedVariables false
set_option linter.unusedSimpArgs false
set_option maxRecDepth 100000
structure Ky where
  t : Int
  k : Int
deriving DecidableEq, Inhabited
structure Sp where
  t : Int
  lo : Int
  hi : Int
deriving DecidableEq, Inhabited
def kyC (x : Ky) : List Value := [.int .i64 x.t, .int .i64 x.k]
def spC (x : Sp) : List Value := [.int .i64 x.t, .int .i64 x.lo, .int .i64 x.hi]
/-- element i of a row of elements of s cells each -/
theorem fm_get {α : Type} {f : α → List Value} {s : Nat} (hs : ∀ x, (f x).length = s) : ∀ (xs : List α) (i : Nat) (x : α), xs[i]? = some x → ∀ j, j < s → (xs.flatMap f)[i * s + j]? = (f x)[j]?
  | [], i, x, h, _, _ => by simp at h
  | y :: ys, 0, x, h, j, hj => by
    simp at h
    subst h
    rw [List.flatMap_cons, Nat.zero_mul, Nat.zero_add, List.getElem?_append_left (by rw [hs]; exact hj)]
  | y :: ys, i + 1, x, h, j, hj => by
    rw [List.flatMap_cons, List.getElem?_append_right (by rw [hs, Nat.add_mul]; omega), hs, show (i + 1) * s + j - s = i * s + j by rw [Nat.add_mul]; omega]
    exact fm_get hs ys i x (by simpa using h) j hj
theorem fm_len {α : Type} {f : α → List Value} {s : Nat} (hs : ∀ x, (f x).length = s) (xs : List α) : (xs.flatMap f).length = xs.length * s := by
  induction xs with
  | nil => simp
  | cons y ys ih => rw [List.flatMap_cons, List.length_append, ih, hs, List.length_cons, Nat.add_mul]; omega
theorem ky_one (xs : List Ky) : ∀ u ∈ xs.flatMap kyC, u.oneCell' = true := fun u hu => by
  obtain ⟨x, _, h⟩ := List.mem_flatMap.1 hu
  simp [kyC] at h
  rcases h with rfl | rfl <;> rfl
theorem sp_one (xs : List Sp) : ∀ u ∈ xs.flatMap spC, u.oneCell' = true := fun u hu => by
  obtain ⟨x, _, h⟩ := List.mem_flatMap.1 hu
  simp [spC] at h
  rcases h with rfl | rfl | rfl <;> rfl
/-- the cells of key i -/
theorem Rd.ky {w : World} {b o : Nat} {l : List Ky} (h : Rd w (some ⟨b, o, none⟩) (l.flatMap kyC)) {i : Nat} {x : Ky} (hx : l[i]? = some x) :
    w.cell? ⟨b, o + i * 2, none⟩ = some (.int .i64 x.t) ∧ w.cell? ⟨b, o + i * 2 + 1, none⟩ = some (.int .i64 x.k) :=
  ⟨h.at (j := i * 2) (by have := fm_get (f := kyC) (s := 2) (fun _ => rfl) l i x hx 0 (by omega); simpa [kyC] using this), by
    have := h.at (j := i * 2 + 1) (by have := fm_get (f := kyC) (s := 2) (fun _ => rfl) l i x hx 1 (by omega); simpa [kyC] using this)
    exact this⟩
theorem Rd.sp {w : World} {b o : Nat} {l : List Sp} (h : Rd w (some ⟨b, o, none⟩) (l.flatMap spC)) {i : Nat} {x : Sp} (hx : l[i]? = some x) :
    w.cell? ⟨b, o + i * 3, none⟩ = some (.int .i64 x.t) ∧ w.cell? ⟨b, o + i * 3 + 1, none⟩ = some (.int .i64 x.lo) ∧ w.cell? ⟨b, o + i * 3 + 2, none⟩ = some (.int .i64 x.hi) :=
  ⟨h.at (j := i * 3) (by have := fm_get (f := spC) (s := 3) (fun _ => rfl) l i x hx 0 (by omega); simpa [spC] using this),
   h.at (j := i * 3 + 1) (by have := fm_get (f := spC) (s := 3) (fun _ => rfl) l i x hx 1 (by omega); simpa [spC] using this),
   h.at (j := i * 3 + 2) (by have := fm_get (f := spC) (s := 3) (fun _ => rfl) l i x hx 2 (by omega); simpa [spC] using this)⟩

/-! ### cmp -/
def cmpI (a b : Int) : Int := if a < b then -1 else if b < a then 1 else 0
def orL : List Int → Int
  | [] => 0
  | a :: r => if a = 0 then orL r else a
theorem isNaN_any (a : Int) (w : World) : Calls Try.prog 67 #[.int .i64 a] w fun e w' => e = .returned (.bool false) ∧ w = w' := by
  go_enter Try.func67, Try.ntmps67
  go_wp2
  go_ret
  exact ⟨by simp, rfl⟩
theorem Compare_any (a b : Int) (w : World) : Calls Try.prog 59 #[.int .i64 a, .int .i64 b] w fun e w' => e = .returned (.int .i64 (cmpI a b)) ∧ w = w' := by
  have e1 : a < b → cmpI a b = -1 := fun h => by unfold cmpI; rw [if_pos h]
  have e2 : b < a → cmpI a b = 1 := fun h => by unfold cmpI; rw [if_neg (by omega), if_pos h]
  have e3 : a = b → cmpI a b = 0 := fun h => by unfold cmpI; rw [if_neg (by omega), if_neg (by omega)]
  have E1 := hid e1
  have E2 := hid e2
  have E3 := hid e3
  clear e1 e2 e3
  go_enter Try.func59, Try.ntmps59
  go_wp2_with (go_at_call 67; refine (isNaN_any _ _).mono ?_; rintro e w' ⟨rfl, rfl⟩)
  · go_ret
    exact ⟨ret_int (E1.out (by omega)).symm, rfl⟩
  · go_ret
    exact ⟨ret_int (E2.out (by omega)).symm, rfl⟩
  · go_ret
    exact ⟨ret_int (E3.out (by omega)).symm, rfl⟩
theorem Or_any (xs : List Int) (b n c : Nat) (w : World) (hn : n = xs.length) (hm : n ≤ 1000) (hx : ∀ j x, xs[j]? = some x → w.cell? ⟨b, j, none⟩ = some (.int .i64 x)) :
    Calls Try.prog 58 #[.slice (some ⟨b, 0, none⟩) n c] w fun e w' => e = .returned (.int .i64 (orL xs)) ∧ w = w' := by
  have Hn := hid hn
  have Hx := hid hx
  clear hn hx
  go_enter Try.func58, Try.ntmps58
  go_wp2
  go_loop [8] (fun v8 => ∃ k : Nat, v8 = .int .i64 k ∧ k ≤ n ∧ Hid (orL xs = orL (xs.drop k))) (fun v8 => n - (intOf v8).toNat)
  case atStart => exact ⟨0, rfl, Nat.zero_le _, hid rfl⟩
  case round =>
    obtain ⟨k, rfl, hk, Ho⟩ := hrel
    by_cases hlt : k < n
    · have hkx : k < xs.length := by rw [← Hn.out]; exact hlt
      have hc := Hx.out k _ (List.getElem?_eq_getElem hkx)
      have Hd := hid (List.drop_eq_getElem_cons hkx)
      have Hkx := hid hkx
      generalize xs[k] = X at hc Hd
      clear hkx
      by_cases h0 : X = 0
      · have hb : (X != 0) = false := by simp [h0]
        have H0 := hid h0
        clear h0
        go_wp2
        refine ⟨⟨k + 1, by go_num, by omega, ?_⟩, by simp [intOf]; omega⟩
        refine hid ?_
        rw [Ho.out, Hd.out, orL, if_pos H0.out]
      · have hb : (X != 0) = true := by simp [h0]
        have H0 := hid h0
        clear h0
        go_wp2
        go_ret
        exact ⟨ret_int (by rw [Ho.out, Hd.out, orL, if_neg H0.out]), rfl⟩
    · go_wp2
      go_ret
      refine ⟨ret_int ?_, rfl⟩
      rw [Ho.out, List.drop_of_length_le (by rw [← Hn.out]; omega)]
      rfl
end Go.Proofs.Ytgnikijaihmeeaa
