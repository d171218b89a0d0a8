/- The walks of wire's reader. -/
import Derived.Test.YtgnikijaihmeeaaProg
import Derived.Test.YtgnikijaihmeeaaSwP
open Go Go.RowKit
namespace Go.Proofs.Ytgnikijaihmeeaa
set_option linter.unusedVariables false
set_option linter.unusedSimpArgs false

/-- A leads into a row of bytes. -/
def TyB (w : World) (A : Option Addr) : Prop := ∀ a, A = some a → ∃ cs fz, w.heap[a.block]? = some (.cells cs 5 fz)
theorem TyB.none (w : World) : TyB w none := fun _ h => by cases h
theorem TyB.kp {S : Nat → Prop} {w w' : World} {A : Option Addr} (h : TyB w A) (hk : Kp S w w') (hs : ∀ k cs fz, w.heap[k]? = some (.cells cs 5 fz) → S k) : TyB w' A := fun a ha => by
  obtain ⟨cs, fz, hb⟩ := h a ha
  exact ⟨cs, fz, hk.blk hb (hs _ _ _ hb)⟩
theorem TyB.of_own {w : World} {base n m c : Nat} {xs : List Value} {A : Option Addr} (h : w.ownsRow base 5 1 (.slice A m c) n xs) : TyB w A := fun a ha => by
  subst ha
  obtain ⟨_, cur, hb⟩ := own_blk h (k := a.block) rfl
  exact ⟨cur, _, hb⟩
theorem ty_ne {w : World} {A : Option Addr} {br : Nat} {cs : Array Value} {t : TypeId} {fz : Nat × Nat} (h : TyB w A) (hb : w.heap[br]? = some (.cells cs t fz)) (ht : 5 ≠ t) : ∀ a, A = some a → a.block ≠ br := fun a ha => by
  obtain ⟨cs', fz', h'⟩ := h a ha
  exact blk_ty_ne h' hb ht
/-- A reader at block br. -/
def ReaderAt (w : World) (br : Nat) : St → Prop
  | none => w.heap[br]? = some (.cells #[.slice none 0 0, .bool true] 85 (0, 0))
  | some l => ∃ A c, w.heap[br]? = some (.cells #[.slice A l.length c, .bool false] 85 (0, 0)) ∧ l.length ≤ c ∧ c ≤ maxLen ∧ Rd w A (l.map bv) ∧ TyB w A ∧ (A = none → c = 0)
/-- A reader stays while its block and what it reads stay. -/
theorem ReaderAt.kp {S : Nat → Prop} {w w' : World} {br : Nat} {s : St} (h : ReaderAt w br s) (hk : Kp S w w') (hs : S br) (hs2 : ∀ k cs fz, w.heap[k]? = some (.cells cs 5 fz) → S k) : ReaderAt w' br s := by
  cases s with
  | none => exact hk.blk h hs
  | some l =>
    obtain ⟨A, c, hb, h1, h2, h3, h4, h5⟩ := h
    exact ⟨A, c, hk.blk hb hs, h1, h2, h3.kp hk (fun a ha _ => by obtain ⟨cs, fz, hb'⟩ := h4 a ha; exact hs2 _ _ _ hb'), h4.kp hk hs2, h5⟩
theorem ReaderAt.ext {w w' : World} {br : Nat} {s : St} (h : ReaderAt w br s) (hk : Below w.heap.size w w') : ReaderAt w' br s := h.kp (S := fun _ => True) (Kp.of_ext hk _) trivial (fun _ _ _ _ => trivial)
theorem ReaderAt.lt {w : World} {br : Nat} {s : St} (h : ReaderAt w br s) : br < w.heap.size := by
  cases s with
  | none => exact heap_lt h
  | some l => obtain ⟨A, c, hb, _⟩ := h; exact heap_lt hb

theorem fail_any (w : World) (br : Nat) (s : St) (h : ReaderAt w br s) : Calls Try.prog 62 #[.pointer (some ⟨br, 0, none⟩)] w fun e w' => e = .returned (.tuple #[]) ∧ Hid (ReaderAt w' br none) ∧ Hid (Kp (· ≠ br) w w') := by
  obtain ⟨v, u, hb⟩ : ∃ v u, w.heap[br]? = some (.cells #[v, u] 85 (0, 0)) := by
    cases s with
    | none => exact ⟨_, _, h⟩
    | some l => obtain ⟨A, c, hb, _⟩ := h; exact ⟨_, _, hb⟩
  have hc0 := blk_cell hb 0
  have hc1 := blk_cell hb 1
  have hf0 := blk_free hb 0
  have hf1 := blk_free hb 1
  simp at hc0 hc1
  have Hb := hid hb
  clear hb h
  go_enter Try.func62, Try.ntmps62
  go_wp2
  go_end0
  exact ⟨rfl, hid (blk_set (blk_set Hb.out 0 _) 1 _), hid ((kp_set _ _ _ _).trans (kp_set _ _ _ _))⟩

/-- What take leaves when there is enough. -/
def TakePost (w : World) (br : Nat) (l : List Nat) (n : Nat) (e : Ending) (w' : World) : Prop :=
  ∃ A c, e = .returned (.tuple #[.slice A n c, .bool true]) ∧ Rd w' A ((l.take n).map bv) ∧ n ≤ c ∧ c ≤ maxLen ∧ (A = none → c = 0) ∧ (∀ a, A = some a → a.block ≠ br) ∧ ReaderAt w' br (some (l.drop n)) ∧ Kp (· ≠ br) w w'
theorem take_ok (w : World) (br : Nat) (l : List Nat) (n : Nat) (hn : n ≤ l.length) (h : ReaderAt w br (some l)) : Calls Try.prog 61 #[.pointer (some ⟨br, 0, none⟩), .int .u64 n] w (TakePost w br l n) := by
  obtain ⟨A, c, hb, hlc, hcm, hrd, hty, hA⟩ := h
  have hne := ty_ne hty hb (by decide)
  have Hty : Hid (∀ v, TyB (w.setCell ⟨br, 0, none⟩ v) A) := hid fun v => hty.kp (kp_set w br 0 v) (fun k cs fz h => blk_ty_ne h hb (by decide))
  have hc0 := blk_cell hb 0
  have hc1 := blk_cell hb 1
  have hf0 := blk_free hb 0
  simp at hc0 hc1
  unfold maxLen at hcm
  have Hb := hid hb
  have Hrd := hid hrd
  have Hne := hid hne
  have HA := hid hA
  clear hb hrd hne hA hty
  cases A with
  | none =>
    obtain rfl : c = 0 := HA.out rfl
    obtain rfl : l = [] := List.eq_nil_of_length_eq_zero (by omega)
    obtain rfl : n = 0 := by simpa using hn
    simp at hc0
    go_enter Try.func61, Try.ntmps61
    go_wp2
    go_ret2
    refine ⟨none, 0, rfl, Rd.nil _ _, Nat.le_refl _, by simp [maxLen], fun _ => rfl, (fun _ h => by cases h), ⟨none, 0, ?_, Nat.le_refl _, by simp [maxLen], Rd.nil _ _, TyB.none _, fun _ => rfl⟩, kp_set _ _ _ _⟩
    have := blk_set Hb.out 0 (.slice none 0 0)
    simpa using this
  | some a =>
    obtain ⟨b, o, sp⟩ := a
    obtain rfl | ⟨hl0, rfl⟩ : l = [] ∨ (0 < l.length ∧ sp = none) := by
      rcases Nat.eq_zero_or_pos l.length with h0 | h0
      · exact .inl (List.eq_nil_of_length_eq_zero h0)
      · obtain ⟨b', o', e', _⟩ := Hrd.out.addr (by simpa using h0)
        simp at e'
        exact .inr ⟨h0, e'.2.2⟩
    · obtain rfl : n = 0 := by simpa using hn
      simp at hc0
      go_enter Try.func61, Try.ntmps61
      go_wp2
      all_goals
        go_ret2
        refine ⟨_, 0, rfl, Rd.nil _ _, Nat.le_refl _, by simp [maxLen], (fun h => by cases h), Hne.out, ?_, kp_set _ _ _ _⟩
        refine ⟨_, c, (blk_set Hb.out 0 _).trans ?_, hlc, by unfold maxLen; exact hcm, Rd.nil _ _, Hty.out _, (fun h => by cases h)⟩
        rfl
    · have Hl0 := hid hl0
      clear hl0
      go_enter Try.func61, Try.ntmps61
      go_wp2
      · go_ret2
        obtain rfl : n = l.length := by omega
        refine ⟨_, _, rfl, ?_, Nat.le_refl _, by unfold maxLen; omega, (fun h => by cases h), Hne.out, ?_, kp_set _ _ _ _⟩
        · rw [List.take_length]; exact Hrd.out.kp (kp_set _ _ _ _) (fun a ha _ => Hne.out a ha)
        · refine ⟨_, 0, (blk_set Hb.out 0 _).trans ?_, by simp, by simp [maxLen], ?_, Hty.out _, (fun h => by cases h)⟩
          · simp
          · simp only [List.drop_length]; exact Rd.nil _ _
      · go_ret2
        refine ⟨_, _, rfl, ?_, Nat.le_refl _, by unfold maxLen; omega, (fun h => by cases h), Hne.out, ?_, kp_set _ _ _ _⟩
        · rw [List.map_take]; exact (Hrd.out.kp (kp_set _ _ _ _) (fun a ha _ => Hne.out a ha)).take n
        · refine ⟨some ⟨b, o + n, none⟩, c - n, (blk_set Hb.out 0 _).trans ?_, by simp; omega, by unfold maxLen; omega, ?_, (fun a ha => ?_), (fun h => by cases h)⟩
          · simp
          · rw [List.map_drop]; exact (Hrd.out.kp (kp_set _ _ _ _) (fun a ha _ => Hne.out a ha)).drop n
          · simp only [Option.some.injEq] at ha
            subst ha
            exact Hty.out _ ⟨b, o, none⟩ rfl
theorem take_no (w : World) (br : Nat) (s : St) (n : Nat) (hn : ∀ l, s = some l → l.length < n) (h : ReaderAt w br s) : Calls Try.prog 61 #[.pointer (some ⟨br, 0, none⟩), .int .u64 n] w fun e w' => e = .returned (.tuple #[.slice none 0 0, .bool false]) ∧ Hid (ReaderAt w' br none) ∧ Hid (Kp (· ≠ br) w w') := by
  cases s with
  | none =>
    have hb : w.heap[br]? = some (.cells #[.slice none 0 0, .bool true] 85 (0, 0)) := h
    have hc0 := blk_cell hb 0
    have hc1 := blk_cell hb 1
    simp at hc0 hc1
    have Hb := hid hb
    clear hb h hn
    go_enter Try.func61, Try.ntmps61
    go_wp2
    go_ret2
    exact ⟨rfl, Hb, hid (Kp.refl _ _)⟩
  | some l =>
    have hln := hn l rfl
    have Hr := hid h
    obtain ⟨A, c, hb, hlc, hcm, _⟩ := h
    have hc0 := blk_cell hb 0
    have hc1 := blk_cell hb 1
    have hf0 := blk_free hb 0
    simp at hc0 hc1
    unfold maxLen at hcm
    clear hb hn
    have hnl : ¬ n ≤ l.length := by omega
    go_enter Try.func61, Try.ntmps61
    go_wp2_with (go_at_call 62; refine (fail_any _ _ _ Hr.out).mono ?_; rintro e w' ⟨rfl, hr, hk⟩)
    go_ret2
    exact ⟨rfl, hr, hk⟩
end Go.Proofs.Ytgnikijaihmeeaa
