/- The walks of wire's reader, on. -/
import Derived.Test.YtgnikijaihmeeaaSwR
import Derived.Lib.Zigzag
open Go Go.RowKit
namespace Go.Proofs.Ytgnikijaihmeeaa
set_option linter.unusedVariables false
set_option linter.unusedSimpArgs false

theorem take_one (w : World) (br : Nat) (b : Nat) (r : List Nat) (h : ReaderAt w br (some (b :: r))) : Calls Try.prog 61 #[.pointer (some ⟨br, 0, none⟩), .int .u64 1] w fun e w' =>
    ∃ bb oo c, e = .returned (.tuple #[.slice (some ⟨bb, oo, none⟩) 1 c, .bool true]) ∧ w'.cell? ⟨bb, oo, none⟩ = some (.int .u8 b) ∧ Hid (ReaderAt w' br (some r)) ∧ Hid (Kp (· ≠ br) w w') := by
  have h1 := take_ok w br (b :: r) 1 (by simp) h
  refine h1.mono ?_
  rintro e w' ⟨A, c, rfl, hrd, _, _, _, _, hr, hk⟩
  obtain ⟨bb, oo, rfl, _, hc⟩ := hrd.addr (by simp)
  exact ⟨bb, oo, c, rfl, hc 0 (bv b) (by simp), hr, hk⟩
theorem take_one_no (w : World) (br : Nat) (s : St) (hs : rLeft s = 0) (h : ReaderAt w br s) : Calls Try.prog 61 #[.pointer (some ⟨br, 0, none⟩), .int .u64 1] w fun e w' =>
    e = .returned (.tuple #[.slice none 0 0, .bool false]) ∧ Hid (ReaderAt w' br none) ∧ Hid (Kp (· ≠ br) w w') :=
  take_no w br s 1 (fun l hl => by subst hl; simp [rLeft] at hs; simp [hs]) h

theorem Left_any (w : World) (br : Nat) (s : St) (h : ReaderAt w br s) : Calls Try.prog 30 #[.pointer (some ⟨br, 0, none⟩)] w fun e w' => e = .returned (.int .i64 (rLeft s)) ∧ w = w' := by
  cases s with
  | none =>
    have hc0 := blk_cell (show w.heap[br]? = some (.cells #[.slice none 0 0, .bool true] 85 (0, 0)) from h) 0
    simp at hc0
    clear h
    go_enter Try.func30, Try.ntmps30
    go_wp2
    go_ret
    exact ⟨rfl, rfl⟩
  | some l =>
    obtain ⟨A, c, hb, hlc, hcm, _⟩ := h
    have hc0 := blk_cell hb 0
    simp at hc0
    unfold maxLen at hcm
    clear hb
    go_enter Try.func30, Try.ntmps30
    go_wp2
    go_ret
    exact ⟨rfl, rfl⟩
/-- api's error number n as an error value -/
def errno (n : Int) : Value := .iface 42 (.int .i64 n)
theorem End_ok (w : World) (br : Nat) (h : ReaderAt w br (some [])) : Calls Try.prog 32 #[.pointer (some ⟨br, 0, none⟩)] w fun e w' => e = .returned .nilIface ∧ w = w' := by
  obtain ⟨A, c, hb, hlc, hcm, _⟩ := h
  have hc0 := blk_cell hb 0
  have hc1 := blk_cell hb 1
  simp at hc0 hc1
  clear hb
  go_enter Try.func32, Try.ntmps32
  go_wp2
  go_ret
  exact ⟨rfl, rfl⟩
theorem End_bad (w : World) (br : Nat) (s : St) (hs : s ≠ some []) (h : ReaderAt w br s) : Calls Try.prog 32 #[.pointer (some ⟨br, 0, none⟩)] w fun e w' => e = .returned (errno 2) ∧ w = w' := by
  cases s with
  | none =>
    have hb : w.heap[br]? = some (.cells #[.slice none 0 0, .bool true] 85 (0, 0)) := h
    have hc0 := blk_cell hb 0
    have hc1 := blk_cell hb 1
    simp at hc0 hc1
    clear hb h
    go_enter Try.func32, Try.ntmps32
    go_wp2
    go_ret
    exact ⟨rfl, rfl⟩
  | some l =>
    have hl : 0 < l.length := by
      cases l with
      | nil => exact absurd rfl hs
      | cons b l => simp
    obtain ⟨A, c, hb, hlc, hcm, _⟩ := h
    have hc0 := blk_cell hb 0
    have hc1 := blk_cell hb 1
    simp at hc0 hc1
    clear hb hs
    unfold maxLen at hcm
    go_enter Try.func32, Try.ntmps32
    go_wp2
    go_ret
    exact ⟨rfl, rfl⟩
theorem num_bits {u : Nat} (h : u < 18446744073709551616) : bits .xor .i64 (wrap64 ((u : Int) / 2)) (wrap64 (-wrap64 (bits .and .u64 (u : Int) 1))) = unzig u := by
  rw [and_one_u64 (u : Int) (by omega) (by omega)]
  have e1 : wrap64 ((u : Int) / 2) = ((u / 2 : Nat) : Int) := by unfold wrap64; omega
  rw [e1]
  rcases Nat.mod_two_eq_zero_or_one u with h2 | h2
  · have e2 : wrap64 (-wrap64 ((u : Int) % 2)) = 0 := by unfold wrap64; omega
    rw [e2]
    unfold unzig
    rw [if_neg (by omega)]
    show IntKind.i64.wrap ((BitVec.ofInt 64 _ ^^^ BitVec.ofInt 64 0).toNat : Int) = _
    rw [show BitVec.ofInt 64 0 = 0#64 from rfl, BitVec.xor_zero, BitVec.ofInt_natCast, BitVec.toNat_ofNat, Nat.mod_eq_of_lt (by omega), IntKind.wrap_i64]
    omega
  · have e2 : wrap64 (-wrap64 ((u : Int) % 2)) = -1 := by unfold wrap64; omega
    rw [e2]
    unfold unzig
    rw [if_pos h2]
    rw [← Lib.i64_not (u / 2) (by omega)]
    show IntKind.i64.wrap _ = IntKind.i64.wrap _
    rw [BitVec.xor_comm]
theorem Num_any (w : World) (br : Nat) (s : St) (hby : Byt s) (h : Calls Try.prog 51 #[.pointer (some ⟨br, 0, none⟩)] w fun e w' => e = .returned (.int .u64 ((rCount s).1 : Int)) ∧ Hid (ReaderAt w' br (rCount s).2) ∧ Hid (Kp (· ≠ br) w w')) :
    Calls Try.prog 31 #[.pointer (some ⟨br, 0, none⟩)] w fun e w' => e = .returned (.int .i64 (rNum s).1) ∧ Hid (ReaderAt w' br (rNum s).2) ∧ Hid (Kp (· ≠ br) w w') := by
  have hlt := rCount_lt hby
  have e1 : rNum s = (unzig (rCount s).1, (rCount s).2) := rfl
  rw [e1]
  generalize rCount s = q at h hlt
  have hlt' := hid hlt
  clear hby e1 hlt
  go_enter Try.func31, Try.ntmps31
  go_wp2_with (first | (go_at_call 51; refine h.mono ?_; rintro e w' ⟨rfl, hr1, hk1⟩))
  go_ret
  refine ⟨ret_int ?_, hr1, hk1⟩
  exact num_bits hlt'.out
end Go.Proofs.Ytgnikijaihmeeaa
