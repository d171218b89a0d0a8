/- A foot's bytes are read back to it; which feet are good, said otherwise. No program. -/
import Derived.Test.YtgnikijaihmeeaaSwI
open Go Go.RowKit
namespace Go.Proofs.Ytgnikijaihmeeaa
set_option linter.unusedVariables false
set_option linter.unusedSimpArgs false
theorem cntGo_cntB : ∀ (k i acc m : Nat) (r : List Nat), i + k = 10 → 0 < k → m * 128 ^ i < 18446744073709551616 → (0 < i → 0 < m) → cntGo k i acc (cntB m ++ r) = some (acc + m * 128 ^ i, r)
  | 0, _, _, _, _, _, h, _, _ => by omega
  | k + 1, i, acc, m, r, hk, _, hm, hi => by
    have h9 : i = 9 → m ≤ 1 := fun e => by
      subst e
      have e9 : (128 : Nat) ^ 9 = 9223372036854775808 := by decide
      rw [e9] at hm
      omega
    by_cases h : m < 128
    · rw [cntB_small h]
      simp only [List.cons_append, List.nil_append, cntGo]
      rw [if_neg (by rintro (⟨a, b⟩ | ⟨a, b⟩); have := h9 a; omega; have := hi a; omega), if_pos h, Nat.mod_eq_of_lt h]
    · rw [cntB_big (by omega)]
      simp only [List.cons_append, cntGo]
      rw [if_neg (by rintro (⟨a, b⟩ | ⟨a, b⟩); have := h9 a; omega; omega), if_neg (by omega)]
      have h10 : i ≠ 9 := fun e => by have := h9 e; omega
      have hle : m / 128 * 128 ^ (i + 1) ≤ m * 128 ^ i := by
        rw [Nat.pow_succ, Nat.mul_comm (128 ^ i) 128, ← Nat.mul_assoc]
        exact Nat.mul_le_mul_right _ (Nat.div_mul_le_self m 128)
      rw [cntGo_cntB k (i + 1) _ (m / 128) r (by omega) (by omega) (by omega) (fun _ => by omega)]
      congr 2
      rw [show (m % 128 + 128) % 128 = m % 128 by omega, Nat.pow_succ, Nat.mul_comm (128 ^ i) 128, ← Nat.mul_assoc, Nat.add_assoc, ← Nat.add_mul]
      congr 2
      omega
theorem rCount_cntB {n : Nat} (h : n < 18446744073709551616) (r : List Nat) : rCount (some (cntB n ++ r)) = (n, some r) := by
  have := cntGo_cntB 10 0 0 n r rfl (by omega) (by simpa using h) (by omega)
  simp only [rCount, this]
  simp
theorem rNum_numB {k : Int} (h : inI k) (r : List Nat) : rNum (some (numB k ++ r)) = (k, some r) := by
  unfold rNum numB
  rw [rCount_cntB (zig_lt h.1 h.2), unzig_zig]
theorem rSmall_cntB {n : Nat} (h : n ≤ 4294967295) (r : List Nat) : rSmall (some (cntB n ++ r)) = (n, some r) := by
  unfold rSmall
  rw [rCount_cntB (by omega)]
  simp only [Prod.mk.injEq, and_true]
  omega
theorem tkGo_keys : ∀ (l : List Ky) (r : List Nat), kyOk l → tkGo l.length (some (l.flatMap kyB ++ r)) = (l, some r)
  | [], r, _ => by simp [tkGo]
  | x :: l, r, h => by
    obtain ⟨⟨h0, h4⟩, hk⟩ := h x (by simp)
    have hp := kyB_pos' x
    simp only [List.length_cons, tkGo, List.flatMap_cons, List.append_assoc]
    rw [if_neg (by simp only [rLeft, List.length_append]; omega)]
    have e1 : rSmall (some (kyB x ++ (l.flatMap kyB ++ r))) = (x.t.toNat, some (numB x.k ++ (l.flatMap kyB ++ r))) := by
      unfold kyB
      rw [List.append_assoc, rSmall_cntB (by omega)]
    rw [e1]
    simp only [rNum_numB hk, tkGo_keys l r (fun y hy => h y (by simp [hy]))]
    rw [Int.toNat_of_nonneg h0]
where
  kyB_pos' (x : Ky) : 0 < (kyB x).length := by unfold kyB; have := cntB_pos x.t.toNat; simp only [List.length_append]; omega
theorem takeK_keysB {l : List Ky} (h : kyOk l) (hl : l.length ≤ 4294967295) (r : List Nat) : takeK (some (keysB l ++ r)) = (l, some r) := by
  unfold takeK keysB
  rw [List.append_assoc, rSmall_cntB hl]
  exact tkGo_keys l r h
def spOk (l : List Sp) : Prop := ∀ x ∈ l, (0 ≤ x.t ∧ x.t < 4) ∧ inI x.lo ∧ inI x.hi
theorem tsGo_spans : ∀ (l : List Sp) (r : List Nat), spOk l → tsGo l.length (some (l.flatMap spB ++ r)) = (l, some r)
  | [], r, _ => by simp [tsGo]
  | x :: l, r, h => by
    obtain ⟨⟨h0, h4⟩, hk, hi⟩ := h x (by simp)
    have hp : 0 < (spB x).length := by unfold spB; have := cntB_pos x.t.toNat; simp only [List.length_append]; omega
    simp only [List.length_cons, tsGo, List.flatMap_cons, List.append_assoc]
    rw [if_neg (by simp only [rLeft, List.length_append]; omega)]
    have e1 : rSmall (some (spB x ++ (l.flatMap spB ++ r))) = (x.t.toNat, some (numB x.lo ++ (numB x.hi ++ (l.flatMap spB ++ r)))) := by
      unfold spB
      rw [List.append_assoc, List.append_assoc, rSmall_cntB (by omega)]
    rw [e1]
    simp only [rNum_numB hk, rNum_numB hi, tsGo_spans l r (fun y hy => h y (by simp [hy]))]
    rw [Int.toNat_of_nonneg h0]
theorem takeF_footBy {f : Ft} (h0 : kyOk f.r) (h1 : spOk f.s) (h2 : kyOk f.w) (l0 : f.r.length ≤ 4294967295) (l1 : f.s.length ≤ 4294967295) (l2 : f.w.length ≤ 4294967295) : takeF (some (footBy f)) = (f, some []) := by
  have e1 : takeK (some (footBy f)) = (f.r, some ((cntB f.s.length ++ f.s.flatMap spB) ++ keysB f.w)) := by
    unfold footBy
    exact takeK_keysB h0 l0 _
  have e3 := takeK_keysB h2 l2 []
  rw [List.append_nil] at e3
  unfold takeF
  simp only [e1]
  rw [List.append_assoc]
  simp only [rSmall_cntB l1, tsGo_spans f.s (keysB f.w) h1, e3]
theorem good_ok {f : Ft} (hg : goodB f = true) (hi : FtOk f) : kyOk f.r ∧ spOk f.s ∧ kyOk f.w := by
  unfold goodB risB at hg
  simp only [Bool.and_eq_true] at hg
  obtain ⟨g1, g2, g3⟩ := hg
  exact ⟨fun x hx => ⟨risF_tab _ _ g2 x hx, hi.r x hx⟩, fun x hx => ⟨spnF_tab _ _ g1 x hx, hi.s x hx⟩, fun x hx => ⟨risF_tab _ _ g3 x hx, hi.w x hx⟩⟩
/-- what is put is taken -/
theorem taken_put {f : Ft} (hg : goodB f = true) (hi : FtOk f) (l0 : f.r.length ≤ 4294967295) (l1 : f.s.length ≤ 4294967295) (l2 : f.w.length ≤ 4294967295) : takenF (footBy f) = some f := by
  obtain ⟨h0, h1, h2⟩ := good_ok hg hi
  unfold takenF
  rw [takeF_footBy h0 h1 h2 l0 l1 l2]
  simp [hg]

/-! ### The document's answer: which feet are good -/
def lessR (a b : Ky) : Bool := decide (a.t < b.t) || (a.t == b.t && decide (a.k < b.k))
theorem keyLt_less (a b : Ky) : keyLt a b = lessR a b := by
  unfold keyLt lessR cmpKey orL orL cmpI
  rw [Bool.eq_iff_iff]
  simp only [Bool.or_eq_true, Bool.and_eq_true, decide_eq_true_eq, beq_iff_eq]
  repeat' split
  all_goals simp_all [orL] <;> omega
def betw (a b : Int) : Bool := decide (a < b) && (a + 1 != b)
def risR : Option Ky → List Ky → Bool
  | _, [] => true
  | p, x :: r => !(decide (x.t < 0) || decide (3 < x.t) || (match p with | none => false | some q => !lessR q x)) && risR (some x) r
def spnR : Option Sp → List Sp → Bool
  | _, [] => true
  | p, x :: r => !(decide (x.t < 0) || decide (3 < x.t) || decide (x.hi < x.lo)) && (match p with | none => true | some y => !(decide (x.t < y.t) || (y.t == x.t && !betw y.hi x.lo))) && spnR (some x) r
theorem risR_cons (p : Option Ky) (x : Ky) (r : List Ky) : risR p (x :: r) = (!(decide (x.t < 0) || decide (3 < x.t) || (match p with | none => false | some q => !lessR q x)) && risR (some x) r) := by cases p <;> rfl
theorem spnR_cons (p : Option Sp) (x : Sp) (r : List Sp) : spnR p (x :: r) = (!(decide (x.t < 0) || decide (3 < x.t) || decide (x.hi < x.lo)) && (match p with | none => true | some y => !(decide (x.t < y.t) || (y.t == x.t && !betw y.hi x.lo))) && spnR (some x) r) := by cases p <;> rfl
theorem risR_eq : ∀ (l : List Ky) (p : Option Ky), risF p l = risR p l
  | [], p => by cases p <;> rfl
  | x :: l, p => by
    rw [risF_cons, risR_cons, risR_eq l (some x)]
    congr 1
    unfold tableB
    rw [Bool.eq_iff_iff]
    cases p with
    | none => simp; omega
    | some q => simp [keyLt_less]; omega
theorem spnR_eq : ∀ (l : List Sp) (p : Option Sp), (∀ q, p = some q → q.lo ≤ q.hi) → (∀ x ∈ l, inI x.lo ∧ inI x.hi) → spnF p l = spnR p l
  | [], p, _, _ => by cases p <;> rfl
  | x :: l, p, hp, hi => by
    rw [spnF_cons, spnR_cons]
    by_cases hx : x.lo ≤ x.hi
    · rw [spnR_eq l (some x) (fun q hq => by simp only [Option.some.injEq] at hq; subst hq; exact hx) (fun y hy => hi y (by simp [hy]))]
      have hxi := hi x (by simp)
      unfold inI at hxi
      unfold tableB
      generalize spnR (some x) l = b
      cases p with
      | none =>
        rw [Bool.eq_iff_iff]
        simp only [Bool.and_eq_true, Bool.not_eq_true', Bool.or_eq_false_iff, decide_eq_true_eq, decide_eq_false_iff_not, true_and, and_true]
        constructor
        · rintro ⟨h1, h2, h3⟩; exact ⟨⟨⟨by omega, by omega⟩, by omega⟩, h3⟩
        · rintro ⟨⟨⟨h1, h2⟩, h3⟩, h4⟩; exact ⟨⟨by omega, by omega⟩, by omega, h4⟩
      | some q =>
        have hq := hp q rfl
        have key : (decide (cmpSpan q x < 0) && apartB q x) = !(decide (x.t < q.t) || (q.t == x.t && !betw q.hi x.lo)) := by
          have hc : cmpSpan q x < 0 ↔ (q.t < x.t ∨ (q.t = x.t ∧ (q.lo < x.lo ∨ (q.lo = x.lo ∧ q.hi < x.hi)))) := by
            unfold cmpSpan cmpI
            simp only [orL]
            repeat' split
            all_goals omega
          rw [Bool.eq_iff_iff]
          unfold apartB betw
          simp only [Bool.and_eq_true, Bool.or_eq_true, Bool.not_eq_true', Bool.or_eq_false_iff, Bool.and_eq_false_iff, decide_eq_true_eq, decide_eq_false_iff_not, beq_eq_false_iff_ne, Bool.not_eq_false', bne_iff_ne, ne_eq, hc]
          constructor
          · rintro ⟨h1, h2⟩
            refine ⟨by omega, ?_⟩
            by_cases he : q.t = x.t
            · right; rcases h2 with h2 | h2
              · exact absurd he h2
              · exact ⟨by omega, by omega⟩
            · left; exact he
          · rintro ⟨h1, h2⟩
            rcases h2 with h2 | ⟨h2, h3⟩
            · exact ⟨.inl (by omega), .inl h2⟩
            · by_cases he : q.t = x.t
              · exact ⟨.inr ⟨he, .inl (by omega)⟩, .inr ⟨by omega, by omega⟩⟩
              · exact ⟨.inl (by omega), .inl he⟩
        simp only [key]
        generalize (!(decide (x.t < q.t) || (q.t == x.t && !betw q.hi x.lo))) = d
        rw [Bool.eq_iff_iff]
        simp only [Bool.and_eq_true, Bool.not_eq_true', Bool.or_eq_false_iff, decide_eq_true_eq, decide_eq_false_iff_not]
        constructor
        · rintro ⟨h1, h2, h3, h4⟩; exact ⟨⟨⟨⟨by omega, by omega⟩, by omega⟩, h3⟩, h4⟩
        · rintro ⟨⟨⟨⟨h1, h2⟩, h3⟩, h4⟩, h5⟩; exact ⟨⟨by omega, by omega⟩, by omega, h4, h5⟩
    · have h1 : decide (x.hi < x.lo) = true := by simp; omega
      rw [h1]
      simp
def goodRef (f : Ft) : Bool := spnR none f.s && (risR none f.r && risR none f.w)
theorem goodRef_eq {f : Ft} (h : FtOk f) : goodB f = goodRef f := by
  unfold goodB goodRef risB
  rw [risR_eq, risR_eq, spnR_eq f.s none (fun q h => by cases h) h.s]
end Go.Proofs.Ytgnikijaihmeeaa
