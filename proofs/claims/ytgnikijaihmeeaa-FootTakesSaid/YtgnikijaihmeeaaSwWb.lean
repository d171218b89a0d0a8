/- wire's writer, on; slices.Clone and slices.Equal at bytes; NewReader; Reader.Bytes. -/
import Derived.Test.YtgnikijaihmeeaaSwW
open Go Go.RowKit
namespace Go.Proofs.Ytgnikijaihmeeaa
set_option linter.unusedVariables false
set_option linter.unusedSimpArgs false
set_option maxRecDepth 100000
def flagB (f : Bool) : List Nat := [if f then 1 else 0]
theorem zig_bits {n : Int} (h0 : -9223372036854775808 ≤ n) (h1 : n ≤ 9223372036854775807) :
    bits .xor .u64 (IntKind.u64.wrap (IntKind.u64.wrap n * 2)) (IntKind.u64.wrap (n / 9223372036854775808)) = ((zig n : Nat) : Int) := by
  rcases Int.lt_or_le n 0 with hn | hn
  · have e1 : IntKind.u64.wrap (IntKind.u64.wrap n * 2) = ((2 * n + 18446744073709551616).toNat : Int) := by rw [IntKind.wrap_u64, IntKind.wrap_u64]; omega
    have e2 : IntKind.u64.wrap (n / 9223372036854775808) = ((2 ^ 64 - 1 : Nat) : Int) := by rw [IntKind.wrap_u64]; omega
    rw [e1, e2, bits_xor_u64_nat _ _ (by omega) (by decide), Nat.xor_comm, Lib.xor_ones64 _ (by omega)]
    unfold zig
    rw [if_pos hn]
    omega
  · have e1 : IntKind.u64.wrap (IntKind.u64.wrap n * 2) = ((2 * n).toNat : Int) := by rw [IntKind.wrap_u64, IntKind.wrap_u64]; omega
    have e2 : IntKind.u64.wrap (n / 9223372036854775808) = ((0 : Nat) : Int) := by rw [IntKind.wrap_u64]; omega
    rw [e1, e2, bits_xor_u64_nat _ _ (by omega) (by decide), Nat.xor_zero]
    unfold zig
    rw [if_neg (by omega)]
theorem Wnum_any (B : Nat) (w : World) (bw : Nat) (v : Value) (bs : List Nat) (n : Int) (hw : WrAt B w bw v bs) (h0 : -9223372036854775808 ≤ n) (h1 : n ≤ 9223372036854775807) (hb : bs.length + 10 ≤ 140737488355328) :
    Calls Try.prog 22 #[.pointer (some ⟨bw, 0, none⟩), .int .i64 n] w fun e w' => e = .returned (.tuple #[]) ∧ WrPost B w bw v bs (numB n) w' := by
  have Hw := hid hw
  have Hb := hid hb
  clear hw hb
  go_enter Try.func22, Try.ntmps22
  go_wp2_with fail
  rw [zig_bits h0 h1]
  refine (Wcount_any B _ bw v bs (zig n) Hw.out (zig_lt h0 h1) Hb.out).mono ?_
  rintro e w' ⟨rfl, hp⟩
  go_wp2
  go_end0
  exact ⟨rfl, hp⟩
/-- what Clone leaves: a slice of its own, or nil -/
def ClonePost (w : World) (xs : List Value) (n : Nat) (e : Ending) (w' : World) : Prop := ∃ A c, e = .returned (.slice A n c) ∧ w'.ownsRow w.heap.size 5 1 (.slice A n c) n xs ∧ n ≤ c ∧ c ≤ maxLen ∧ (A = none → n = 0 ∧ c = 0) ∧ Below w.heap.size w w'
theorem Clone_any (w : World) (A : Option Addr) (n c : Nat) (xs : List Value) (hn : n = xs.length) (hr : Rd w A xs) (h1 : ∀ u ∈ xs, u.oneCell' = true) (hA : A = none → n = 0 ∧ c = 0) (hb : n ≤ 140737488355328) :
    Calls Try.prog 49 #[.slice A n c] w (ClonePost w xs n) := by
  have hu := Try.underlying29
  cases A with
  | none =>
    obtain ⟨rfl, rfl⟩ := hA rfl
    obtain rfl : xs = [] := List.eq_nil_of_length_eq_zero hn.symm
    have hq := fun (w : World) => Lib.run_eql_slice_nil (P := Try.prog) w 29 5 none 0 0 0 0 hu
    clear hu hr h1 hA hn hb
    go_enter Try.func49, Try.ntmps49
    go_wp2
    go_ret
    exact ⟨none, 0, rfl, World.ownsRow_nil _ _ _ _, Nat.le_refl _, by simp [maxLen], fun _ => ⟨rfl, rfl⟩, Below.refl _ _⟩
  | some a =>
    have Hn := hid hn
    have Hr := hid hr
    have hq := fun (w : World) => Lib.run_eql_slice_nil (P := Try.prog) w 29 5 (some a) n c 0 0 hu
    clear hn hr hA
    go_enter Try.func49, Try.ntmps49
    go_wp2_with (first | (at_builtin; refine wl_ap rfl rfl w.heap.size 5 hu info_u8 rfl (by decide) (.slice (some ⟨w.heap.size, 0, none⟩) 0 0) 0 [] rfl (World.ownsRow_lit w #[] 0 (Nat.le_refl _) (by decide) rfl) (some a) n c xs rfl (by rw [Hn.out]; simp) (Hr.out.ext (ext_alloc _ _)) h1 (by unfold maxLen; omega) (by omega) (by simp) ?_))
    intro A' c' w1 hnc hcm hown hkp hhop
    have Hown := hid hown
    have Hkp := hid hkp
    have Hhop := hid hhop
    clear hown hkp hhop
    go_wp2
    go_ret
    refine ⟨A', c', rfl, own_base Hown.out (fun k hk => ?_), hnc, hcm, ?_, ?_⟩
    · rcases Hhop.out k hk with h | h
      · simp [Value.ownBlock] at h; omega
      · simp at h; omega
    · intro hA
      obtain ⟨A2, c2, e, h⟩ := own_form Hown.out
      simp at e
      obtain ⟨rfl, rfl⟩ := e
      exact h.2.2.2 hA
    · exact (ext_alloc _ _).trans ((Hkp.out.below (B := w.heap.size) (by simp) (fun k hk => by simp [Value.ownBlock]; omega)))

theorem Out_any (B : Nat) (w : World) (bw : Nat) (v : Value) (bs : List Nat) (hw : WrAt B w bw v bs) (hb : bs.length ≤ 140737488355328) :
    Calls Try.prog 23 #[.pointer (some ⟨bw, 0, none⟩)] w (ClonePost w (bs.map bv) bs.length) := by
  obtain ⟨A, c, rfl, hlc, hcm, hrd, hA⟩ := own_form hw.2.2
  have hc0 := blk_cell hw.2.1 0
  simp at hc0
  have H := hid (Clone_any w A bs.length c (bs.map bv) (by simp) hrd (bv_one bs) hA hb)
  clear hw hrd hA hcm
  go_enter Try.func23, Try.ntmps23
  go_wp2_with fail
  refine H.out.mono ?_
  rintro e w' ⟨A', c', rfl, h1, h2, h3, h4, h5⟩
  have H1 := hid h1
  have H4 := hid h4
  have H5 := hid h5
  clear h1 h4 h5
  go_wp2
  go_ret
  exact ⟨A', c', rfl, H1.out, h2, h3, H4.out, H5.out⟩
/-- A reader's own post: it is new. -/
theorem NewReader_any (w : World) (A : Option Addr) (n c : Nat) (bs : List Nat) (hn : n = bs.length) (hr : Rd w A (bs.map bv)) (hA : A = none → n = 0 ∧ c = 0) (hb : n ≤ 140737488355328) :
    Calls Try.prog 27 #[.slice A n c] w fun e w' => ∃ br, w.heap.size ≤ br ∧ e = .returned (.pointer (some ⟨br, 0, none⟩)) ∧ Hid (ReaderAt w' br (some bs)) ∧ Hid (Below w.heap.size w w') := by
  have H := hid (Clone_any w A n c (bs.map bv) (by simpa using hn) hr (bv_one bs) hA hb)
  have Hn := hid hn
  clear hr hA hn
  go_enter Try.func27, Try.ntmps27
  go_wp2_with fail
  refine H.out.mono ?_
  rintro e w1 ⟨A', c', rfl, h1, h2, h3, h4, h5⟩
  have H1 := hid h1
  have H4 := hid h4
  have H5 := hid h5
  clear h1 h4 h5
  go_wp2
  go_ret
  refine ⟨w1.heap.size, H5.out.size, rfl, ⟨A', c', ?_, by rw [← Hn.out]; exact h2, h3, (own_rd H1.out).ext (ext_alloc _ _), TyB.of_own (own_ext H1.out (ext_alloc _ _)), fun h => (H4.out h).2⟩, ext_trans H5.out (ext_alloc _ _)⟩
  rw [blk_new, Hn.out]
end Go.Proofs.Ytgnikijaihmeeaa
