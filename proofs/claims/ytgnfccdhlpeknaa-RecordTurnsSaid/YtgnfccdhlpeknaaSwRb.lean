/- The walks of wire's reader, on. -/
import Derived.Test.YtgnfccdhlpeknaaSwR
import Derived.Lib.Zigzag
open Go Go.RowKit
namespace Go.Proofs.Ytgnfccdhlpeknaa

theorem take_one (w : World) (br : Nat) (b : Nat) (r : List Nat) (h : ReaderAt w br (some (b :: r))) : Calls Try.prog 58 #[.pointer (some ⟨br, 0, none⟩), .int .u64 1] w fun e w' =>
    ∃ bb oo c, e = .returned (.tuple #[.slice (some ⟨bb, oo, none⟩) 1 c, .bool true]) ∧ w'.cell? ⟨bb, oo, none⟩ = some (.int .u8 b) ∧ Hid (ReaderAt w' br (some r)) ∧ Hid (Kp (· ≠ br) w w') := by
  have h1 := take_ok w br (b :: r) 1 (by simp) h
  refine h1.mono ?_
  rintro e w' ⟨A, c, rfl, hrd, _, _, _, _, hr, hk⟩
  obtain ⟨bb, oo, rfl, _, hc⟩ := hrd.addr (by simp)
  exact ⟨bb, oo, c, rfl, hc 0 (bv b) (by simp), hr, hk⟩
theorem take_one_no (w : World) (br : Nat) (s : St) (hs : rLeft s = 0) (h : ReaderAt w br s) : Calls Try.prog 58 #[.pointer (some ⟨br, 0, none⟩), .int .u64 1] w fun e w' =>
    e = .returned (.tuple #[.slice none 0 0, .bool false]) ∧ Hid (ReaderAt w' br none) ∧ Hid (Kp (· ≠ br) w w') :=
  take_no w br s 1 (fun l hl => by subst hl; simp [rLeft] at hs; simp [hs]) h

theorem Left_any (w : World) (br : Nat) (s : St) (h : ReaderAt w br s) : Calls Try.prog 36 #[.pointer (some ⟨br, 0, none⟩)] w fun e w' => e = .returned (.int .i64 (rLeft s)) ∧ w = w' := by
  cases s with
  | none =>
    have hc0 := blk_cell (show w.heap[br]? = some (.cells #[.slice none 0 0, .bool true] 77 (0, 0)) from h) 0
    simp at hc0
    clear h
    go_enter Try.func36, Try.ntmps36
    go_wp2
    go_ret
    exact ⟨rfl, rfl⟩
  | some l =>
    obtain ⟨A, c, hb, hlc, hcm, _⟩ := h
    have hc0 := blk_cell hb 0
    simp at hc0
    unfold maxLen at hcm
    clear hb
    go_enter Try.func36, Try.ntmps36
    go_wp2
    go_ret
    exact ⟨rfl, rfl⟩
/-- api's error number n as an error value -/
def errno (n : Int) : Value := .iface 45 (.int .i64 n)
theorem End_ok (w : World) (br : Nat) (h : ReaderAt w br (some [])) : Calls Try.prog 15 #[.pointer (some ⟨br, 0, none⟩)] w fun e w' => e = .returned .nilIface ∧ w = w' := by
  obtain ⟨A, c, hb, hlc, hcm, _⟩ := h
  have hc0 := blk_cell hb 0
  have hc1 := blk_cell hb 1
  simp at hc0 hc1
  clear hb
  go_enter Try.func15, Try.ntmps15
  go_wp2
  go_ret
  exact ⟨rfl, rfl⟩
theorem End_bad (w : World) (br : Nat) (s : St) (hs : s ≠ some []) (h : ReaderAt w br s) : Calls Try.prog 15 #[.pointer (some ⟨br, 0, none⟩)] w fun e w' => e = .returned (errno 2) ∧ w = w' := by
  cases s with
  | none =>
    have hb : w.heap[br]? = some (.cells #[.slice none 0 0, .bool true] 77 (0, 0)) := h
    have hc0 := blk_cell hb 0
    have hc1 := blk_cell hb 1
    simp at hc0 hc1
    clear hb h
    go_enter Try.func15, Try.ntmps15
    go_wp2
    go_ret
    exact ⟨rfl, rfl⟩
  | some l =>
    have hl : 0 < l.length := by
      cases l with
      | nil => exact absurd rfl hs
      | cons b l => simp
    obtain ⟨A, c, hb, hlc, hcm, _⟩ := h
    have hc0 := blk_cell hb 0
    have hc1 := blk_cell hb 1
    simp at hc0 hc1
    clear hb hs
    unfold maxLen at hcm
    go_enter Try.func15, Try.ntmps15
    go_wp2
    go_ret
    exact ⟨rfl, rfl⟩
theorem Byte_any (w : World) (br : Nat) (s : St) (h : ReaderAt w br s) : Calls Try.prog 54 #[.pointer (some ⟨br, 0, none⟩)] w fun e w' => e = .returned (.int .u8 ((rByte s).1 : Int)) ∧ Hid (ReaderAt w' br (rByte s).2) ∧ Hid (Kp (· ≠ br) w w') := by
  rcases Nat.eq_zero_or_pos (rLeft s) with h0 | h0
  · have hr : rByte s = (0, none) := by
      cases s with
      | none => rfl
      | some l => simp [rLeft] at h0; subst h0; rfl
    rw [hr]
    have H := hid h
    clear h
    have H0 := hid h0
    clear h0
    go_enter Try.func54, Try.ntmps54
    go_wp2_with (go_at_call 58; refine (take_one_no _ _ _ H0.out H.out).mono ?_; rintro e w' ⟨rfl, hr, hk⟩)
    go_ret
    exact ⟨rfl, hr, hk⟩
  · obtain ⟨b, r, rfl⟩ : ∃ b r, s = some (b :: r) := by
      cases s with
      | none => simp [rLeft] at h0
      | some l => cases l with
        | nil => simp [rLeft] at h0
        | cons b r => exact ⟨b, r, rfl⟩
    have H := hid h
    clear h h0
    go_enter Try.func54, Try.ntmps54
    go_wp2_with (go_at_call 58; refine (take_one _ _ _ _ H.out).mono ?_; rintro e w' ⟨bb, oo, c, rfl, hc, hr, hk⟩)
    go_ret
    exact ⟨rfl, hr, hk⟩

theorem Flag_any (w : World) (br : Nat) (s : St) (hby : Byt s) (h : ReaderAt w br s) : Calls Try.prog 32 #[.pointer (some ⟨br, 0, none⟩)] w fun e w' => e = .returned (.bool (rFlag s).1) ∧ Hid (ReaderAt w' br (rFlag s).2) ∧ Hid (Kp (· ≠ br) w w') := by
  by_cases hb : 1 < (rByte s).1
  · have hr : rFlag s = (false, none) := by
      cases s with
      | none => simp [rByte] at hb
      | some l => cases l with
        | nil => simp [rByte] at hb
        | cons b r => simp [rByte] at hb; simp [rFlag, hb]
    have hlt : (rByte s).1 < 256 := by
      cases s with
      | none => simp [rByte]
      | some l => cases l with
        | nil => simp [rByte]
        | cons b r => exact hby _ rfl b (by simp)
    rw [hr]
    have H := Byte_any w br s h
    generalize hq : rByte s = q at H hb hlt
    clear hq hr h hby
    go_enter Try.func32, Try.ntmps32
    go_wp2_with (first | (go_at_call 54; refine H.mono ?_; rintro e w' ⟨rfl, hr1, hk1⟩) | (go_at_call 55; refine (fail_any _ _ _ hr1.out).mono ?_; rintro e w2 ⟨rfl, hr2, hk2⟩))
    go_ret
    exact ⟨ret_bool (by simp; omega), hr2, hid (hk1.out.trans hk2.out)⟩
  · have hr : rFlag s = ((rByte s).1 == 1, (rByte s).2) := by
      cases s with
      | none => rfl
      | some l => cases l with
        | nil => rfl
        | cons b r => simp [rByte] at hb; simp [rFlag, rByte]; omega
    rw [hr]
    have H := Byte_any w br s h
    generalize hq : rByte s = q at H hb
    clear hq hr h hby
    go_enter Try.func32, Try.ntmps32
    go_wp2_with (first | (go_at_call 54; refine H.mono ?_; rintro e w' ⟨rfl, hr1, hk1⟩))
    go_ret
    refine ⟨ret_bool ?_, hr1, hk1⟩
    rw [Bool.eq_iff_iff]
    simp
    omega
theorem num_bits {u : Nat} (h : u < 18446744073709551616) : bits .xor .i64 (wrap64 ((u : Int) / 2)) (wrap64 (-wrap64 (bits .and .u64 (u : Int) 1))) = unzig u := by
  rw [and_one_u64 (u : Int) (by omega) (by omega)]
  have e1 : wrap64 ((u : Int) / 2) = ((u / 2 : Nat) : Int) := by unfold wrap64; omega
  rw [e1]
  rcases Nat.mod_two_eq_zero_or_one u with h2 | h2
  · have e2 : wrap64 (-wrap64 ((u : Int) % 2)) = 0 := by unfold wrap64; omega
    rw [e2]
    unfold unzig
    rw [if_neg (by omega)]
    show IntKind.i64.wrap ((BitVec.ofInt 64 _ ^^^ BitVec.ofInt 64 0).toNat : Int) = _
    rw [show BitVec.ofInt 64 0 = 0#64 from rfl, BitVec.xor_zero, BitVec.ofInt_natCast, BitVec.toNat_ofNat, Nat.mod_eq_of_lt (by omega), IntKind.wrap_i64]
    omega
  · have e2 : wrap64 (-wrap64 ((u : Int) % 2)) = -1 := by unfold wrap64; omega
    rw [e2]
    unfold unzig
    rw [if_pos h2]
    rw [← Lib.i64_not (u / 2) (by omega)]
    show IntKind.i64.wrap _ = IntKind.i64.wrap _
    rw [BitVec.xor_comm]
theorem Num_any (w : World) (br : Nat) (s : St) (hby : Byt s) (h : Calls Try.prog 53 #[.pointer (some ⟨br, 0, none⟩)] w fun e w' => e = .returned (.int .u64 ((rCount s).1 : Int)) ∧ Hid (ReaderAt w' br (rCount s).2) ∧ Hid (Kp (· ≠ br) w w')) :
    Calls Try.prog 37 #[.pointer (some ⟨br, 0, none⟩)] w fun e w' => e = .returned (.int .i64 (rNum s).1) ∧ Hid (ReaderAt w' br (rNum s).2) ∧ Hid (Kp (· ≠ br) w w') := by
  have hlt := rCount_lt hby
  have e1 : rNum s = (unzig (rCount s).1, (rCount s).2) := rfl
  rw [e1]
  generalize rCount s = q at h hlt
  have hlt' := hid hlt
  clear hby e1 hlt
  go_enter Try.func37, Try.ntmps37
  go_wp2_with (first | (go_at_call 53; refine h.mono ?_; rintro e w' ⟨rfl, hr1, hk1⟩))
  go_ret
  refine ⟨ret_int ?_, hr1, hk1⟩
  exact num_bits hlt'.out
end Go.Proofs.Ytgnfccdhlpeknaa
