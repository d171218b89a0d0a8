/- One byte changed changes the sum. No program. -/
import Derived.Test.YtgnfccdhlpeknaaSwS
open Go Go.RowKit
namespace Go.Proofs.Ytgnfccdhlpeknaa
set_option maxRecDepth 100000
theorem low_top : ∀ i, i < 16 → ∀ j, j < 16 → lowC i / 268435456 = lowC j / 268435456 → i = j := by decide
theorem xor_div (a b : Nat) : (a ^^^ b) / 268435456 = (a / 268435456) ^^^ (b / 268435456) := by
  have h := Nat.shiftRight_xor_distrib (a := a) (b := b) (i := 28)
  simpa [Nat.shiftRight_eq_div_pow] using h
theorem xor_left {a b c : Nat} (h : a ^^^ c = b ^^^ c) : a = b := by
  have h2 : (a ^^^ c) ^^^ c = (b ^^^ c) ^^^ c := by rw [h]
  simpa [Nat.xor_assoc] using h2
theorem xor_right {a b c : Nat} (h : a ^^^ b = a ^^^ c) : b = c := xor_left (c := a) (by rw [Nat.xor_comm b, Nat.xor_comm c]; exact h)
theorem nibC_inj {x y : Nat} (hx : x < 4294967296) (hy : y < 4294967296) (h : nibC x = nibC y) : x = y := by
  have h1 : nibC x / 268435456 = nibC y / 268435456 := by rw [h]
  unfold nibC at h1
  rw [xor_div, xor_div, Nat.div_eq_of_lt (show x / 16 < 268435456 by omega), Nat.div_eq_of_lt (show y / 16 < 268435456 by omega), Nat.zero_xor, Nat.zero_xor] at h1
  have h2 := low_top (x % 16) (by omega) (y % 16) (by omega) h1
  unfold nibC at h
  rw [h2] at h
  have h3 := xor_left h
  omega
theorem byteC_left {x y b : Nat} (hx : x < 4294967296) (hy : y < 4294967296) (hb : b < 256) (h : byteC x b = byteC y b) : x = y :=
  xor_left (nibC_inj (xor_lt32 hx hb) (xor_lt32 hy hb) (nibC_inj (nibC_lt (xor_lt32 hx hb)) (nibC_lt (xor_lt32 hy hb)) h))
theorem byteC_right {x b c : Nat} (hx : x < 4294967296) (hb : b < 256) (hc : c < 256) (h : byteC x b = byteC x c) : b = c :=
  xor_right (nibC_inj (xor_lt32 hx hb) (xor_lt32 hx hc) (nibC_inj (nibC_lt (xor_lt32 hx hb)) (nibC_lt (xor_lt32 hx hc)) h))
theorem feedC_left {bs : List Nat} : ∀ {x y : Nat}, x < 4294967296 → y < 4294967296 → (∀ b ∈ bs, b < 256) → feedC x bs = feedC y bs → x = y := by
  induction bs with
  | nil => intro x y _ _ _ h; exact h
  | cons b r ih =>
    intro x y hx hy hb h
    have hb0 := hb b (by simp)
    exact byteC_left hx hy hb0 (ih (byteC_lt hx hb0) (byteC_lt hy hb0) (fun c hc => hb c (by simp [hc])) h)
theorem feedC_app (x : Nat) (a b : List Nat) : feedC x (a ++ b) = feedC (feedC x a) b := List.foldl_append ..
/-- one byte changed: another sum -/
theorem sumC_turn {p r : List Nat} {b c : Nat} (hp : ∀ x ∈ p, x < 256) (hr : ∀ x ∈ r, x < 256) (hb : b < 256) (hc : c < 256) (h : sumC (p ++ b :: r) = sumC (p ++ c :: r)) : b = c := by
  have hP : feedC 4294967295 p < 4294967296 := feedC_lt (by omega) hp
  have e1 : feedC 4294967295 (p ++ b :: r) < 4294967296 := by
    rw [feedC_app]
    exact feedC_lt (x := feedC 4294967295 p) (bs := b :: r) hP (fun x hx => by rcases List.mem_cons.1 hx with rfl | h; exact hb; exact hr x h)
  have e2 : feedC 4294967295 (p ++ c :: r) < 4294967296 := by
    rw [feedC_app]
    exact feedC_lt (x := feedC 4294967295 p) (bs := c :: r) hP (fun x hx => by rcases List.mem_cons.1 hx with rfl | h; exact hc; exact hr x h)
  unfold sumC at h
  have h2 : feedC 4294967295 (p ++ b :: r) = feedC 4294967295 (p ++ c :: r) := by omega
  rw [feedC_app, feedC_app] at h2
  have h3 : feedC (byteC (feedC 4294967295 p) b) r = feedC (byteC (feedC 4294967295 p) c) r := h2
  exact byteC_right hP hb hc (feedC_left (byteC_lt hP hb) (byteC_lt hP hc) hr h3)
theorem sum4_inj {s t : Nat} (hs : s < 4294967296) (ht : t < 4294967296) (h : sum4 s = sum4 t) : s = t := by
  simp only [sum4, sumB, List.cons.injEq, and_true] at h
  simp at h
  omega
theorem enc_turn {B B' p r : List Nat} {b c : Nat} (hB : ∀ x ∈ B, x < 256) (hB' : ∀ x ∈ B', x < 256) (h : B ++ sum4 (sumC B) = p ++ b :: r) (h' : B' ++ sum4 (sumC B') = p ++ c :: r) : b = c := by
  have hl : B'.length = B.length := by
    have h1 := congrArg List.length h
    have h2 := congrArg List.length h'
    simp [sum4] at h1 h2
    omega
  have t1 : B = (p ++ b :: r).take B.length := by rw [← h, List.take_left' rfl]
  have t2 : B' = (p ++ c :: r).take B.length := by rw [← h', List.take_left' hl]
  have d1 : sum4 (sumC B) = (p ++ b :: r).drop B.length := by rw [← h, List.drop_left' rfl]
  have d2 : sum4 (sumC B') = (p ++ c :: r).drop B.length := by rw [← h', List.drop_left' hl]
  rcases Nat.lt_or_ge p.length B.length with hp | hp
  · obtain ⟨m, hm⟩ : ∃ m, B.length = p.length + (m + 1) := ⟨B.length - p.length - 1, by omega⟩
    rw [hm] at t1 t2 d1 d2
    have a1 : (p ++ b :: r).take (p.length + (m + 1)) = p ++ b :: r.take m := by
      rw [List.take_append, List.take_of_length_le (by omega)]
      simp
    have a2 : (p ++ c :: r).take (p.length + (m + 1)) = p ++ c :: r.take m := by
      rw [List.take_append, List.take_of_length_le (by omega)]
      simp
    have a3 : (p ++ b :: r).drop (p.length + (m + 1)) = r.drop m := by
      rw [List.drop_append, List.drop_of_length_le (by omega)]
      simp
    have a4 : (p ++ c :: r).drop (p.length + (m + 1)) = r.drop m := by
      rw [List.drop_append, List.drop_of_length_le (by omega)]
      simp
    rw [a1] at t1
    rw [a2] at t2
    have e := sum4_inj sumC_lt sumC_lt (d1.trans (a3.trans (a4.symm.trans d2.symm)))
    have m1 : ∀ x ∈ p ++ b :: r.take m, x < 256 := fun x hx => hB x (by rw [t1]; exact hx)
    have m2 : ∀ x ∈ p ++ c :: r.take m, x < 256 := fun x hx => hB' x (by rw [t2]; exact hx)
    rw [t1, t2] at e
    exact sumC_turn (fun x hx => m1 x (by simp [hx])) (fun x hx => m1 x (by simp [hx])) (m1 b (by simp)) (m2 c (by simp)) e
  · have e : B = B' := by
      rw [t1, t2, List.take_append_of_le_length hp, List.take_append_of_le_length hp]
    rw [e] at h
    have h3 := h.symm.trans h'
    have h4 := List.append_cancel_left h3
    simpa using h4
end Go.Proofs.Ytgnfccdhlpeknaa
