/- The wire layer as plain functions: counts, numbers, and how they are read. No program. -/
import Derived.Test.YtgnikijaihmeeaaSwA
import Derived.Laws.BitsLemmas
import Derived.Laws.Bits64
open Go Go.RowKit
namespace Go.Proofs.Ytgnikijaihmeeaa
set_option linter.unusedVariables false
set_option linter.unusedSimpArgs false

/-- a byte as a value -/
def bv (b : Nat) : Value := .int .u8 (b : Int)
theorem bv_one (bs : List Nat) : ∀ u ∈ bs.map bv, u.oneCell' = true := fun u hu => by
  obtain ⟨b, _, rfl⟩ := List.mem_map.1 hu
  rfl

/-- a count's bytes -/
def cntB (n : Nat) : List Nat := if h : n < 128 then [n] else (n % 128 + 128) :: cntB (n / 128)
termination_by n
decreasing_by omega
theorem cntB_small {n : Nat} (h : n < 128) : cntB n = [n] := by rw [cntB, dif_pos h]
theorem cntB_big {n : Nat} (h : 128 ≤ n) : cntB n = (n % 128 + 128) :: cntB (n / 128) := by rw [cntB, dif_neg (by omega)]
theorem cntB_len (k n : Nat) (h : n < 128 ^ (k + 1)) : (cntB n).length ≤ k + 1 := by
  induction k generalizing n with
  | zero => rw [cntB_small (by simpa using h)]; simp
  | succ k ih =>
    by_cases hn : n < 128
    · rw [cntB_small hn]; simp
    · rw [cntB_big (by omega)]
      have := ih (n / 128) (by rw [Nat.div_lt_iff_lt_mul (by omega)]; rw [Nat.pow_succ] at h; omega)
      simp; omega
theorem cntB_len64 {n : Nat} (h : n < 18446744073709551616) : (cntB n).length ≤ 10 := cntB_len 9 n (by omega)
theorem cntB_pos (n : Nat) : 0 < (cntB n).length := by
  by_cases hn : n < 128
  · rw [cntB_small hn]; simp
  · rw [cntB_big (by omega)]; simp
theorem cntB_lt (n : Nat) : ∀ b ∈ cntB n, b < 256 := by
  induction n using Nat.strongRecOn with
  | _ n ih =>
    by_cases hn : n < 128
    · rw [cntB_small hn]; simp; omega
    · rw [cntB_big (by omega)]
      intro b hb
      rcases List.mem_cons.1 hb with rfl | hb
      · omega
      · exact ih _ (by omega) b hb
/-- the count of a number -/
def zig (n : Int) : Nat := if n < 0 then (-2 * n - 1).toNat else (2 * n).toNat
def unzig (u : Nat) : Int := if u % 2 = 1 then -((u / 2 : Nat) : Int) - 1 else ((u / 2 : Nat) : Int)
theorem zig_lt {n : Int} (h : -9223372036854775808 ≤ n) (h' : n ≤ 9223372036854775807) : zig n < 18446744073709551616 := by unfold zig; split <;> omega
theorem unzig_zig (n : Int) : unzig (zig n) = n := by unfold unzig zig; split <;> split <;> omega
theorem zig_unzig (u : Nat) : zig (unzig u) = u := by unfold unzig zig; split <;> split <;> omega
theorem unzig_range {u : Nat} (h : u < 18446744073709551616) : -9223372036854775808 ≤ unzig u ∧ unzig u ≤ 9223372036854775807 := by unfold unzig; split <;> omega
def numB (n : Int) : List Nat := cntB (zig n)

/-- What a reader has left; none: it is bad. -/
abbrev St := Option (List Nat)
/-- A count is read: so many rounds, from round i on, what was read so far. -/
def cntGo : Nat → Nat → Nat → List Nat → Option (Nat × List Nat)
  | 0, _, _, _ => none
  | _ + 1, _, _, [] => none
  | k + 1, i, acc, c :: r =>
    if (i = 9 ∧ 1 < c) ∨ (0 < i ∧ c = 0) then none
    else if c < 128 then some (acc + (c % 128) * 128 ^ i, r) else cntGo k (i + 1) (acc + (c % 128) * 128 ^ i) r
def rCount : St → Nat × St
  | none => (0, none)
  | some l => match cntGo 10 0 0 l with
    | none => (0, none)
    | some (n, r) => (n, some r)
def rNum (s : St) : Int × St := (unzig (rCount s).1, (rCount s).2)
def rByte : St → Nat × St
  | some (b :: r) => (b, some r)
  | _ => (0, none)
def rFlag : St → Bool × St
  | some (b :: r) => if 1 < b then (false, none) else (b == 1, some r)
  | _ => (false, none)
def rTake (n : Nat) : St → List Nat × St
  | none => ([], none)
  | some l => if l.length < n then ([], none) else (l.take n, some (l.drop n))
def rBytes (s : St) : List Nat × St := rTake (rCount s).1 (rCount s).2
def rLeft : St → Nat
  | none => 0
  | some l => l.length

theorem cntGo_lt : ∀ (k i acc : Nat) (l : List Nat) (n : Nat) (r : List Nat), i + k = 10 → acc < 128 ^ i → (∀ b ∈ l, b < 256) → cntGo k i acc l = some (n, r) → n < 18446744073709551616
  | 0, _, _, _, _, _, _, _, _, h => by simp [cntGo] at h
  | _ + 1, _, _, [], _, _, _, _, _, h => by simp [cntGo] at h
  | k + 1, i, acc, c :: l, n, r, hk, ha, hl, h => by
    simp only [cntGo] at h
    split at h
    · cases h
    · rename_i hc
      have hc256 : c < 256 := hl c (by simp)
      have hs : acc + (c % 128) * 128 ^ i < 128 ^ (i + 1) := by
        rw [Nat.pow_succ]
        have : (c % 128) * 128 ^ i ≤ 127 * 128 ^ i := Nat.mul_le_mul_right _ (by omega)
        omega
      split at h
      · rename_i hlt
        simp only [Option.some.injEq, Prod.mk.injEq] at h
        obtain ⟨rfl, rfl⟩ := h
        rcases Nat.lt_or_ge i 9 with hi | hi
        · have : 128 ^ (i + 1) ≤ 128 ^ 9 := Nat.pow_le_pow_right (by omega) (by omega)
          have e : (128 : Nat) ^ 9 = 9223372036854775808 := by decide
          omega
        · obtain rfl : i = 9 := by omega
          have e : (128 : Nat) ^ 9 = 9223372036854775808 := by decide
          rw [e] at ha ⊢
          have : c ≤ 1 := by omega
          have : c % 128 ≤ 1 := by omega
          have := Nat.mul_le_mul_right 9223372036854775808 this
          omega
      · exact cntGo_lt k (i + 1) _ l n r (by omega) hs (fun b hb => hl b (by simp [hb])) h
theorem cntGo_rest : ∀ (k i acc : Nat) (l : List Nat) (n : Nat) (r : List Nat), cntGo k i acc l = some (n, r) → ∃ p, l = p ++ r ∧ 0 < p.length
  | 0, _, _, _, _, _, h => by simp [cntGo] at h
  | _ + 1, _, _, [], _, _, h => by simp [cntGo] at h
  | k + 1, i, acc, c :: l, n, r, h => by
    simp only [cntGo] at h
    split at h
    · cases h
    · split at h
      · simp only [Option.some.injEq, Prod.mk.injEq] at h
        obtain ⟨_, rfl⟩ := h
        exact ⟨[c], rfl, by simp⟩
      · obtain ⟨p, hp, _⟩ := cntGo_rest k (i + 1) _ l n r h
        exact ⟨c :: p, by rw [hp]; rfl, by simp⟩
/-- all bytes that are left are bytes -/
def Byt (s : St) : Prop := ∀ l, s = some l → ∀ b ∈ l, b < 256
theorem Byt.some {l : List Nat} (h : ∀ b ∈ l, b < 256) : Byt (some l) := fun l' h' => by simp only [Option.some.injEq] at h'; subst h'; exact h
theorem Byt.none : Byt none := fun _ h => by cases h
theorem rCount_byt {s : St} (h : Byt s) : Byt (rCount s).2 := by
  unfold rCount
  split
  · exact Byt.none
  · rename_i l
    split
    · exact Byt.none
    · rename_i n r hr
      obtain ⟨p, hp, _⟩ := cntGo_rest _ _ _ _ _ _ hr
      exact Byt.some fun b hb => h l rfl b (by rw [hp]; simp [hb])
theorem rCount_lt {s : St} (h : Byt s) : (rCount s).1 < 18446744073709551616 := by
  unfold rCount
  split
  · simp
  · rename_i l
    split
    · simp
    · rename_i n r hr
      exact cntGo_lt 10 0 0 l n r rfl (by simp) (h l rfl) hr
theorem rCount_left (s : St) (h : 0 < rLeft s) : rLeft (rCount s).2 < rLeft s := by
  unfold rCount
  split
  · simp [rLeft] at h
  · rename_i l
    split
    · exact h
    · rename_i n r hr
      obtain ⟨p, hp, hp0⟩ := cntGo_rest _ _ _ _ _ _ hr
      simp [rLeft, hp]; omega
theorem rCount_le (s : St) : rLeft (rCount s).2 ≤ rLeft s := by
  unfold rCount
  split
  · simp
  · rename_i l
    split
    · simp [rLeft]
    · rename_i n r hr
      obtain ⟨p, hp, hp0⟩ := cntGo_rest _ _ _ _ _ _ hr
      simp [rLeft, hp]

/-! ### One round -/
section
variable {k acc c : Nat} {l l0 : List Nat}
theorem cg_break (hk : k < 10) (hq : cntGo 10 0 0 l0 = cntGo (10 - k) k acc (c :: l)) (hb : (k = 9 ∧ 1 < c) ∨ (0 < k ∧ c = 0)) : rCount (some l0) = (0, none) := by
  obtain ⟨m, hm⟩ : ∃ m, 10 - k = m + 1 := ⟨9 - k, by omega⟩
  simp only [rCount, hq, hm, cntGo, if_pos hb]
theorem cg_out (hq : cntGo 10 0 0 l0 = cntGo (10 - k) k acc []) : rCount (some l0) = (0, none) := by
  have : cntGo (10 - k) k acc [] = none := by cases 10 - k <;> rfl
  simp only [rCount, hq, this]
theorem cg_end (hk : ¬ k < 10) (hq : cntGo 10 0 0 l0 = cntGo (10 - k) k acc l) : rCount (some l0) = (0, none) := by
  have : 10 - k = 0 := by omega
  simp only [rCount, hq, this, cntGo]
theorem cg_ret (hk : k < 10) (hq : cntGo 10 0 0 l0 = cntGo (10 - k) k acc (c :: l)) (hb : ¬ ((k = 9 ∧ 1 < c) ∨ (0 < k ∧ c = 0))) (hc : c < 128) : rCount (some l0) = (acc + (c % 128) * 128 ^ k, some l) := by
  obtain ⟨m, hm⟩ : ∃ m, 10 - k = m + 1 := ⟨9 - k, by omega⟩
  simp only [rCount, hq, hm, cntGo, if_neg hb, if_pos hc]
theorem cg_next (hk : k < 10) (hq : cntGo 10 0 0 l0 = cntGo (10 - k) k acc (c :: l)) (hb : ¬ ((k = 9 ∧ 1 < c) ∨ (0 < k ∧ c = 0))) (hc : ¬ c < 128) : cntGo 10 0 0 l0 = cntGo (10 - (k + 1)) (k + 1) (acc + (c % 128) * 128 ^ k) l := by
  obtain ⟨m, hm⟩ : ∃ m, 10 - k = m + 1 := ⟨9 - k, by omega⟩
  rw [hq, hm, cntGo, if_neg hb, if_neg hc, show 10 - (k + 1) = m by omega]
theorem cg_lt (ha : acc < 128 ^ k) : acc + (c % 128) * 128 ^ k < 128 ^ (k + 1) := by
  rw [Nat.pow_succ]
  have : (c % 128) * 128 ^ k ≤ 127 * 128 ^ k := Nat.mul_le_mul_right _ (by omega)
  omega
theorem wraps64 (n : Int) (h₀ : 0 ≤ n) (h₁ : n < 2 ^ 64) : IntKind.u64.wrap n = n := by rw [IntKind.wrap_u64]; omega
theorem cg_bits (hk : k < 10) (ha : acc < 128 ^ k) (hc : c < 256) (hb : k = 9 → c ≤ 1) :
    bits .or .u64 (acc : Int) (IntKind.u64.wrap (IntKind.u64.wrap (bits .and .u8 (c : Int) 127) * 2 ^ (7 * k))) = ((acc + (c % 128) * 128 ^ k : Nat) : Int) := by
  have e1 : bits .and .u8 (c : Int) 127 = ((c % 128 : Nat) : Int) := by
    have := bits_mask .u8 8 (by decide) wraps_u8 7 (by decide) (c : Int) (by omega) (by omega)
    rw [show ((127 : Int)) = 2 ^ 7 - 1 by decide, this]; omega
  have e2 : (2 : Nat) ^ (7 * k) = 128 ^ k := by rw [Nat.pow_mul]
  have hs : (c % 128) * 128 ^ k < 18446744073709551616 := by
    rcases Nat.lt_or_ge k 9 with h9 | h9
    · have h1 : (128 : Nat) ^ k ≤ 128 ^ 8 := Nat.pow_le_pow_right (by omega) (by omega)
      have h2 := Nat.mul_le_mul (show c % 128 ≤ 127 by omega) h1
      have e : 127 * (128 : Nat) ^ 8 < 18446744073709551616 := by decide
      omega
    · obtain rfl : k = 9 := by omega
      have h1 : c % 128 ≤ 1 := by have := hb rfl; omega
      have e : (128 : Nat) ^ 9 = 9223372036854775808 := by decide
      rw [e]
      omega
  have e3 : IntKind.u64.wrap (IntKind.u64.wrap ((c % 128 : Nat) : Int) * 2 ^ (7 * k)) = (((c % 128) * 128 ^ k : Nat) : Int) := by
    rw [IntKind.wrap_u64, IntKind.wrap_u64, show (((c % 128 : Nat) : Int) % 18446744073709551616) = ((c % 128 : Nat) : Int) by omega, ← e2]
    push_cast
    rw [← e2] at hs
    have : (((c % 128) * 2 ^ (7 * k) : Nat) : Int) < 18446744073709551616 := by omega
    push_cast at this
    exact Int.emod_eq_of_lt (Int.mul_nonneg (by omega) (Int.pow_nonneg (by decide))) this
  rw [e1, e3]
  have hp : acc < 2 ^ 64 := by
    have h1 : (128 : Nat) ^ k ≤ 128 ^ 9 := Nat.pow_le_pow_right (by omega) (by omega)
    have e : (128 : Nat) ^ 9 < 2 ^ 64 := by decide
    omega
  rw [(bits_nat .u64 64 (by decide) wraps64 acc ((c % 128) * 128 ^ k) hp (by omega)).2, Nat.or_comm, ← e2, Nat.mul_comm (c % 128), ← Nat.two_pow_add_eq_or_of_lt (by rw [e2]; exact ha)]
  push_cast
  omega
end
end Go.Proofs.Ytgnikijaihmeeaa
