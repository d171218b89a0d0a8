/- The document's reading of a foot, as plain functions, and that it says what the program's says. No program. -/
import Derived.Test.YtgnikijaihmeeaaSfA
open Go Go.RowKit
namespace Go.Proofs.Ytgnikijaihmeeaa
set_option linter.unusedVariables false
set_option linter.unusedSimpArgs false
/-- a count that is read is written so -/
theorem cntGo_form : ∀ (k i acc : Nat) (l : List Nat) (n : Nat) (r : List Nat), i + k = 10 → (∀ b ∈ l, b < 256) → cntGo k i acc l = some (n, r) → ∃ m, n = acc + m * 128 ^ i ∧ l = cntB m ++ r ∧ (0 < i → 0 < m) ∧ (i = 9 → m ≤ 1)
  | 0, _, _, _, _, _, _, _, h => by simp [cntGo] at h
  | _ + 1, _, _, [], _, _, _, _, h => by simp [cntGo] at h
  | k + 1, i, acc, c :: l, n, r, hk, hb, h => by
    simp only [cntGo] at h
    split at h
    · cases h
    · rename_i hc
      have hc256 : c < 256 := hb c (by simp)
      split at h
      · rename_i hlt
        simp only [Option.some.injEq, Prod.mk.injEq] at h
        obtain ⟨rfl, rfl⟩ := h
        refine ⟨c, by rw [Nat.mod_eq_of_lt hlt], by rw [cntB_small hlt]; rfl, fun h => by omega, fun h => by omega⟩
      · rename_i hge
        have hi9 : i ≠ 9 := fun e => by omega
        obtain ⟨m, e1, e2, e3, e4⟩ := cntGo_form k (i + 1) _ l n r (by omega) (fun b hb' => hb b (by simp [hb'])) h
        have hm := e3 (by omega)
        refine ⟨c % 128 + 128 * m, ?_, ?_, fun _ => by omega, fun e => absurd e hi9⟩
        · rw [e1, Nat.pow_succ, Nat.add_mul, Nat.mul_comm 128 m, Nat.mul_assoc, Nat.mul_comm 128, Nat.add_assoc]
        · rw [cntB_big (by omega), show (c % 128 + 128 * m) % 128 = c % 128 by omega, show (c % 128 + 128 * m) / 128 = m by omega, show c % 128 + 128 = c by omega, e2]
          rfl
theorem rCount_form {l : List Nat} (hb : ∀ b ∈ l, b < 256) {n : Nat} {r : List Nat} (h : rCount (some l) = (n, some r)) : l = cntB n ++ r := by
  unfold rCount at h
  simp only at h
  split at h
  · cases h
  · rename_i n' r' hq
    simp only [Prod.mk.injEq, Option.some.injEq] at h
    obtain ⟨rfl, rfl⟩ := h
    obtain ⟨m, e1, e2, _⟩ := cntGo_form 10 0 0 l n' r' rfl hb hq
    rw [e1]
    simpa using e2
theorem rCount_none {l : List Nat} (h : ∀ n r, n < 18446744073709551616 → l ≠ cntB n ++ r) (hb : ∀ b ∈ l, b < 256) : rCount (some l) = (0, none) := by
  cases hq : rCount (some l) with
  | mk n s =>
    cases s with
    | some r =>
      have hlt : n < 18446744073709551616 := by have := rCount_lt (Byt.some hb); rw [hq] at this; exact this
      exact absurd (rCount_form hb hq) (h n r hlt)
    | none =>
      unfold rCount at hq
      simp only at hq
      split at hq
      · simpa using hq.symm
      · simp at hq
/-- a count that is a table, or how many there are -/
def rSmR (s : St) : Int × St := (if 100000 < (rCount s).1 then -1 else ((rCount s).1 : Int), (rCount s).2)
def badS (s : St) : Bool := s.isNone
def tkR : Nat → St → List Ky × St
  | 0, s => ([], s)
  | m + 1, s => if badS s then ([], s) else (⟨(rSmR s).1, (rNum (rSmR s).2).1⟩ :: (tkR m (rNum (rSmR s).2).2).1, (tkR m (rNum (rSmR s).2).2).2)
def tsR : Nat → St → List Sp × St
  | 0, s => ([], s)
  | m + 1, s => if badS s then ([], s) else
    (⟨(rSmR s).1, (rNum (rSmR s).2).1, (rNum (rNum (rSmR s).2).2).1⟩ :: (tsR m (rNum (rNum (rSmR s).2).2).2).1, (tsR m (rNum (rNum (rSmR s).2).2).2).2)
def takeKR (s : St) : List Ky × St := tkR (rSmR s).1.toNat (rSmR s).2
def takeFR (s : St) : Ft × St :=
  let a := takeKR s
  let n := rSmR a.2
  let b := tsR n.1.toNat n.2
  let c := takeKR b.2
  (⟨a.1, b.1, c.1⟩, c.2)
/-- the document's foot of bytes -/
def takenR (bs : List Nat) : Option Ft := if (takeFR (some bs)).2 = some [] ∧ goodRef (takeFR (some bs)).1 = true ∧ footBy (takeFR (some bs)).1 = bs then some (takeFR (some bs)).1 else none
theorem rSmR_cntB {n : Nat} (h : n ≤ 100000) (r : List Nat) : rSmR (some (cntB n ++ r)) = ((n : Int), some r) := by
  unfold rSmR
  rw [rCount_cntB (by omega)]
  simp only [Prod.mk.injEq, and_true]
  rw [if_neg (by omega)]
theorem tkR_keys : ∀ (l : List Ky) (r : List Nat), kyOk l → tkR l.length (some (l.flatMap kyB ++ r)) = (l, some r)
  | [], r, _ => by simp [tkR]
  | x :: l, r, h => by
    obtain ⟨⟨h0, h4⟩, hk⟩ := h x (by simp)
    simp only [List.length_cons, tkR, List.flatMap_cons, List.append_assoc, badS, Option.isNone_some, Bool.false_eq_true, if_false]
    have e1 : rSmR (some (kyB x ++ (l.flatMap kyB ++ r))) = (x.t, some (numB x.k ++ (l.flatMap kyB ++ r))) := by
      unfold kyB
      rw [List.append_assoc, rSmR_cntB (by omega), Int.toNat_of_nonneg h0]
    rw [e1]
    simp only [rNum_numB hk, tkR_keys l r (fun y hy => h y (by simp [hy]))]
theorem takeKR_keysB {l : List Ky} (h : kyOk l) (hl : l.length ≤ 100000) (r : List Nat) : takeKR (some (keysB l ++ r)) = (l, some r) := by
  unfold takeKR keysB
  rw [List.append_assoc, rSmR_cntB hl]
  simp only [Int.toNat_natCast]
  exact tkR_keys l r h
theorem tsR_spans : ∀ (l : List Sp) (r : List Nat), spOk l → tsR l.length (some (l.flatMap spB ++ r)) = (l, some r)
  | [], r, _ => by simp [tsR]
  | x :: l, r, h => by
    obtain ⟨⟨h0, h4⟩, hk, hi⟩ := h x (by simp)
    simp only [List.length_cons, tsR, List.flatMap_cons, List.append_assoc, badS, Option.isNone_some, Bool.false_eq_true, if_false]
    have e1 : rSmR (some (spB x ++ (l.flatMap spB ++ r))) = (x.t, some (numB x.lo ++ (numB x.hi ++ (l.flatMap spB ++ r)))) := by
      unfold spB
      rw [List.append_assoc, List.append_assoc, rSmR_cntB (by omega), Int.toNat_of_nonneg h0]
    rw [e1]
    simp only [rNum_numB hk, rNum_numB hi, tsR_spans l r (fun y hy => h y (by simp [hy]))]
theorem takeFR_footBy {f : Ft} (h0 : kyOk f.r) (h1 : spOk f.s) (h2 : kyOk f.w) (l0 : f.r.length ≤ 100000) (l1 : f.s.length ≤ 100000) (l2 : f.w.length ≤ 100000) : takeFR (some (footBy f)) = (f, some []) := by
  have e1 : takeKR (some (footBy f)) = (f.r, some ((cntB f.s.length ++ f.s.flatMap spB) ++ keysB f.w)) := by
    unfold footBy
    exact takeKR_keysB h0 l0 _
  have e3 := takeKR_keysB h2 l2 []
  rw [List.append_nil] at e3
  unfold takeFR
  simp only [e1]
  rw [List.append_assoc]
  simp only [rSmR_cntB l1, Int.toNat_natCast, tsR_spans f.s (keysB f.w) h1, e3]
theorem rSmR_byt {s : St} (h : Byt s) : Byt (rSmR s).2 := rCount_byt h
theorem tkR_facts : ∀ (m : Nat) (s : St), Byt s → (∀ x ∈ (tkR m s).1, inI x.k) ∧ Byt (tkR m s).2
  | 0, s, h => by simp [tkR, h]
  | m + 1, s, h => by
    simp only [tkR]
    split
    · simp [h]
    · obtain ⟨h1, h2⟩ := tkR_facts m _ (rNum_byt (rSmR_byt h))
      refine ⟨fun x hx => ?_, h2⟩
      rcases List.mem_cons.1 hx with rfl | hx
      · exact rNum_in (rSmR_byt h)
      · exact h1 x hx
theorem tsR_facts : ∀ (m : Nat) (s : St), Byt s → (∀ x ∈ (tsR m s).1, inI x.lo ∧ inI x.hi) ∧ Byt (tsR m s).2
  | 0, s, h => by simp [tsR, h]
  | m + 1, s, h => by
    simp only [tsR]
    split
    · simp [h]
    · have hb := rNum_byt (rSmR_byt h)
      obtain ⟨h1, h2⟩ := tsR_facts m _ (rNum_byt hb)
      refine ⟨fun x hx => ?_, h2⟩
      rcases List.mem_cons.1 hx with rfl | hx
      · exact ⟨rNum_in (rSmR_byt h), rNum_in hb⟩
      · exact h1 x hx
theorem takeFR_ok {s : St} (h : Byt s) : FtOk (takeFR s).1 := by
  unfold takeFR takeKR
  obtain ⟨a1, a2⟩ := tkR_facts (rSmR s).1.toNat (rSmR s).2 (rSmR_byt h)
  obtain ⟨b1, b2⟩ := tsR_facts (rSmR (tkR (rSmR s).1.toNat (rSmR s).2).2).1.toNat (rSmR (tkR (rSmR s).1.toNat (rSmR s).2).2).2 (rSmR_byt a2)
  obtain ⟨c1, _⟩ := tkR_facts (rSmR (tsR (rSmR (tkR (rSmR s).1.toNat (rSmR s).2).2).1.toNat (rSmR (tkR (rSmR s).1.toNat (rSmR s).2).2).2).2).1.toNat (rSmR (tsR (rSmR (tkR (rSmR s).1.toNat (rSmR s).2).2).1.toNat (rSmR (tkR (rSmR s).1.toNat (rSmR s).2).2).2).2).2 (rSmR_byt b2)
  exact ⟨a1, b1, c1⟩
theorem footBy_ge' (f : Ft) : f.r.length + f.s.length + f.w.length ≤ (footBy f).length := by
  have ge : ∀ {α : Type} (g : α → List Nat) (l : List α), (∀ x, 0 < (g x).length) → l.length ≤ (l.flatMap g).length := by
    intro α g l h
    induction l with
    | nil => simp
    | cons x l ih => have := h x; rw [List.flatMap_cons, List.length_append, List.length_cons]; omega
  have h1 := ge kyB f.r (fun x => by unfold kyB; have := cntB_pos x.t.toNat; simp only [List.length_append]; omega)
  have h2 := ge spB f.s (fun x => by unfold spB; have := cntB_pos x.t.toNat; simp only [List.length_append]; omega)
  have h3 := ge kyB f.w (fun x => by unfold kyB; have := cntB_pos x.t.toNat; simp only [List.length_append]; omega)
  unfold footBy keysB
  simp only [List.length_append]
  omega
/-- the document's answer is the program's -/
theorem takenR_eq {bs : List Nat} (hb : ∀ b ∈ bs, b < 256) (hl : bs.length ≤ 100000) : takenR bs = takenF bs := by
  have ok1 := takeFR_ok (Byt.some hb)
  have ok2 := (takeF_ok (Byt.some hb)).1
  cases h1 : takenR bs with
  | some f =>
    unfold takenR at h1
    split at h1
    · rename_i hc
      simp only [Option.some.injEq] at h1
      rw [h1] at hc ok1
      obtain ⟨_, hg, hf⟩ := hc
      have hs := footBy_ge' f
      rw [hf] at hs
      rw [← goodRef_eq ok1] at hg
      rw [← hf, taken_put hg ok1 (by omega) (by omega) (by omega)]
    · cases h1
  | none =>
    cases h2 : takenF bs with
    | none => rfl
    | some f =>
      exfalso
      unfold takenF at h2
      split at h2
      · rename_i hc
        simp only [Option.some.injEq] at h2
        rw [h2] at hc ok2
        obtain ⟨hg, _, hf⟩ := hc
        have hs := footBy_ge' f
        rw [hf] at hs
        obtain ⟨g0, g1, g2⟩ := good_ok hg ok2
        have e := takeFR_footBy g0 g1 g2 (by omega) (by omega) (by omega)
        rw [hf] at e
        unfold takenR at h1
        rw [e, if_pos ⟨rfl, by rw [← goodRef_eq ok2]; exact hg, hf⟩] at h1
        cases h1
      · cases h2
end Go.Proofs.Ytgnikijaihmeeaa
