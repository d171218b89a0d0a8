/- wire's writer, on; slices.Clone and slices.Equal at bytes; NewReader; Reader.Bytes. -/
import Derived.Test.YtgnfccdhlpeknaaSwW
open Go Go.RowKit
namespace Go.Proofs.Ytgnfccdhlpeknaa
set_option maxRecDepth 100000
theorem Wbyte_any (B : Nat) (w : World) (bw : Nat) (v : Value) (bs : List Nat) (x : Int) (b : Nat) (hw : WrAt B w bw v bs) (hx : x = b) (hb : bs.length + 10 ≤ 140737488355328) :
    Calls Try.prog 48 #[.pointer (some ⟨bw, 0, none⟩), .int .u8 x] w fun e w' => e = .returned (.tuple #[]) ∧ WrPost B w bw v bs [b] w' := by
  have Hw := hid hw
  have Hb := hid hb
  have Hx := hid hx
  clear hw hb hx
  go_enter Try.func48, Try.ntmps48
  go_wp2_with fail
  refine (add_one B _ bw v bs _ _ _ b (Hw.out.ext (ext_alloc _ _)) (blk_cell (blk_new _ _) 0) Hx.out ?_).mono ?_
  · have := Hb.out; omega
  rintro e w' ⟨rfl, hp⟩
  go_wp2
  go_end0
  exact ⟨rfl, hp.ext (ext_alloc _ _)⟩
def flagB (f : Bool) : List Nat := [if f then 1 else 0]
theorem Wflag_any (B : Nat) (w : World) (bw : Nat) (v : Value) (bs : List Nat) (f : Bool) (hw : WrAt B w bw v bs) (hb : bs.length + 10 ≤ 140737488355328) :
    Calls Try.prog 24 #[.pointer (some ⟨bw, 0, none⟩), .bool f] w fun e w' => e = .returned (.tuple #[]) ∧ WrPost B w bw v bs (flagB f) w' := by
  have Hw := hid hw
  have Hb := hid hb
  clear hw hb
  cases f
  · go_enter Try.func24, Try.ntmps24
    go_wp2_with fail
    refine (add_one B _ bw v bs _ _ _ 0 (Hw.out.ext (ext_alloc _ _)) (blk_cell (blk_new _ _) 0) rfl ?_).mono ?_
    · have := Hb.out; omega
    rintro e w' ⟨rfl, hp⟩
    go_wp2
    go_end0
    exact ⟨rfl, hp.ext (ext_alloc _ _)⟩
  · go_enter Try.func24, Try.ntmps24
    go_wp2_with fail
    refine (add_one B _ bw v bs _ _ _ 1 (Hw.out.ext (ext_alloc _ _)) (blk_cell (blk_new _ _) 0) rfl ?_).mono ?_
    · have := Hb.out; omega
    rintro e w' ⟨rfl, hp⟩
    go_wp2
    go_end0
    exact ⟨rfl, hp.ext (ext_alloc _ _)⟩
theorem zig_bits {n : Int} (h0 : -9223372036854775808 ≤ n) (h1 : n ≤ 9223372036854775807) :
    bits .xor .u64 (IntKind.u64.wrap (IntKind.u64.wrap n * 2)) (IntKind.u64.wrap (n / 9223372036854775808)) = ((zig n : Nat) : Int) := by
  rcases Int.lt_or_le n 0 with hn | hn
  · have e1 : IntKind.u64.wrap (IntKind.u64.wrap n * 2) = ((2 * n + 18446744073709551616).toNat : Int) := by rw [IntKind.wrap_u64, IntKind.wrap_u64]; omega
    have e2 : IntKind.u64.wrap (n / 9223372036854775808) = ((2 ^ 64 - 1 : Nat) : Int) := by rw [IntKind.wrap_u64]; omega
    rw [e1, e2, bits_xor_u64_nat _ _ (by omega) (by decide), Nat.xor_comm, Lib.xor_ones64 _ (by omega)]
    unfold zig
    rw [if_pos hn]
    omega
  · have e1 : IntKind.u64.wrap (IntKind.u64.wrap n * 2) = ((2 * n).toNat : Int) := by rw [IntKind.wrap_u64, IntKind.wrap_u64]; omega
    have e2 : IntKind.u64.wrap (n / 9223372036854775808) = ((0 : Nat) : Int) := by rw [IntKind.wrap_u64]; omega
    rw [e1, e2, bits_xor_u64_nat _ _ (by omega) (by decide), Nat.xor_zero]
    unfold zig
    rw [if_neg (by omega)]
theorem Wnum_any (B : Nat) (w : World) (bw : Nat) (v : Value) (bs : List Nat) (n : Int) (hw : WrAt B w bw v bs) (h0 : -9223372036854775808 ≤ n) (h1 : n ≤ 9223372036854775807) (hb : bs.length + 10 ≤ 140737488355328) :
    Calls Try.prog 29 #[.pointer (some ⟨bw, 0, none⟩), .int .i64 n] w fun e w' => e = .returned (.tuple #[]) ∧ WrPost B w bw v bs (numB n) w' := by
  have Hw := hid hw
  have Hb := hid hb
  clear hw hb
  go_enter Try.func29, Try.ntmps29
  go_wp2_with fail
  rw [zig_bits h0 h1]
  refine (Wcount_any B _ bw v bs (zig n) Hw.out (zig_lt h0 h1) Hb.out).mono ?_
  rintro e w' ⟨rfl, hp⟩
  go_wp2
  go_end0
  exact ⟨rfl, hp⟩
theorem sized_any (B : Nat) (w : World) (bw : Nat) (v : Value) (bs : List Nat) (A : Option Addr) (m c : Nat) (ys : List Nat) (hw : WrAt B w bw v bs) (hm : m = ys.length) (hr : Rd w A (ys.map bv)) (hA : ∀ a, A = some a → 0 < m → a.block ≠ bw ∧ v.ownBlock ≠ some a.block) (hb : bs.length + 10 + ys.length ≤ 140737488355328) :
    Calls Try.prog 51 #[.pointer (some ⟨bw, 0, none⟩), .slice A m c] w fun e w' => e = .returned (.tuple #[]) ∧ WrPost B w bw v bs (cntB ys.length ++ ys) w' := by
  have Hw := hid hw
  have Hb := hid hb
  have Hr := hid hr
  have Hm := hid hm
  have HA := hid hA
  have hlen : m ≤ 140737488355328 := by omega
  clear hw hb hr hm hA
  go_enter Try.func51, Try.ntmps51
  go_wp2_with fail
  refine (Wcount_any B _ bw v bs m Hw.out (by omega) (by have := Hb.out; omega)).mono ?_
  rintro e w1 ⟨rfl, hp⟩
  obtain ⟨v1, h1, h2⟩ := hp
  have Hr1 : Hid (Rd w1 A (ys.map bv)) := by
    refine hid ?_
    rcases Nat.eq_zero_or_pos m with h0 | h0
    · have : ys = [] := List.eq_nil_of_length_eq_zero (by rw [← Hm.out]; exact h0)
      subst this
      exact Rd.nil _ _
    · exact Hr.out.kp h2.1 (fun a ha _ => HA.out a ha h0)
  have H1 := hid h1
  have H2 := hid h2
  have Hl := hid (cntB_len64 (n := m) (by omega))
  clear h1 h2
  go_wp2_with fail
  refine (add_any B _ bw v1 (bs ++ cntB m) A m c ys H1.out Hm.out Hr1.out (by have := Hb.out; have := Hl.out; simp; omega)).mono ?_
  rintro e w2 ⟨rfl, hp⟩
  go_wp2
  go_end0
  obtain ⟨v2, h3, h4⟩ := hp
  refine ⟨rfl, v2, ?_, H2.out.trans h4⟩
  rw [← Hm.out, ← List.append_assoc]
  exact h3
theorem Wbytes_any (B : Nat) (w : World) (bw : Nat) (v : Value) (bs : List Nat) (A : Option Addr) (m c : Nat) (ys : List Nat) (hw : WrAt B w bw v bs) (hm : m = ys.length) (hr : Rd w A (ys.map bv)) (hA : ∀ a, A = some a → 0 < m → a.block ≠ bw ∧ v.ownBlock ≠ some a.block) (hb : bs.length + 10 + ys.length ≤ 140737488355328) :
    Calls Try.prog 26 #[.pointer (some ⟨bw, 0, none⟩), .slice A m c] w fun e w' => e = .returned (.tuple #[]) ∧ WrPost B w bw v bs (cntB ys.length ++ ys) w' := by
  have H := hid (sized_any B w bw v bs A m c ys hw hm hr hA hb)
  clear hw hm hr hA hb
  go_enter Try.func26, Try.ntmps26
  go_wp2_with fail
  refine H.out.mono ?_
  rintro e w' ⟨rfl, hp⟩
  go_wp2
  go_end0
  exact ⟨rfl, hp⟩
/-- what Clone leaves: a slice of its own, or nil -/
def ClonePost (w : World) (xs : List Value) (n : Nat) (e : Ending) (w' : World) : Prop := ∃ A c, e = .returned (.slice A n c) ∧ w'.ownsRow w.heap.size 5 1 (.slice A n c) n xs ∧ n ≤ c ∧ c ≤ maxLen ∧ (A = none → n = 0 ∧ c = 0) ∧ Below w.heap.size w w'
theorem Clone_any (w : World) (A : Option Addr) (n c : Nat) (xs : List Value) (hn : n = xs.length) (hr : Rd w A xs) (h1 : ∀ u ∈ xs, u.oneCell' = true) (hA : A = none → n = 0 ∧ c = 0) (hb : n ≤ 140737488355328) :
    Calls Try.prog 30 #[.slice A n c] w (ClonePost w xs n) := by
  have hu := Try.underlying34
  cases A with
  | none =>
    obtain ⟨rfl, rfl⟩ := hA rfl
    obtain rfl : xs = [] := List.eq_nil_of_length_eq_zero hn.symm
    have hq := fun (w : World) => Lib.run_eql_slice_nil (P := Try.prog) w 34 5 none 0 0 0 0 hu
    clear hu hr h1 hA hn hb
    go_enter Try.func30, Try.ntmps30
    go_wp2
    go_ret
    exact ⟨none, 0, rfl, World.ownsRow_nil _ _ _ _, Nat.le_refl _, by simp [maxLen], fun _ => ⟨rfl, rfl⟩, Below.refl _ _⟩
  | some a =>
    have Hn := hid hn
    have Hr := hid hr
    have hq := fun (w : World) => Lib.run_eql_slice_nil (P := Try.prog) w 34 5 (some a) n c 0 0 hu
    clear hn hr hA
    go_enter Try.func30, Try.ntmps30
    go_wp2_with (first | (at_builtin; refine wl_ap rfl rfl w.heap.size 5 hu info_u8 rfl (by decide) (.slice (some ⟨w.heap.size, 0, none⟩) 0 0) 0 [] rfl (World.ownsRow_lit w #[] 0 (Nat.le_refl _) (by decide) rfl) (some a) n c xs rfl (by rw [Hn.out]; simp) (Hr.out.ext (ext_alloc _ _)) h1 (by unfold maxLen; omega) (by omega) (by simp) ?_))
    intro A' c' w1 hnc hcm hown hkp hhop
    have Hown := hid hown
    have Hkp := hid hkp
    have Hhop := hid hhop
    clear hown hkp hhop
    go_wp2
    go_ret
    refine ⟨A', c', rfl, own_base Hown.out (fun k hk => ?_), hnc, hcm, ?_, ?_⟩
    · rcases Hhop.out k hk with h | h
      · simp [Value.ownBlock] at h; omega
      · simp at h; omega
    · intro hA
      obtain ⟨A2, c2, e, h⟩ := own_form Hown.out
      simp at e
      obtain ⟨rfl, rfl⟩ := e
      exact h.2.2.2 hA
    · exact (ext_alloc _ _).trans ((Hkp.out.below (B := w.heap.size) (by simp) (fun k hk => by simp [Value.ownBlock]; omega)))

theorem Out_any (B : Nat) (w : World) (bw : Nat) (v : Value) (bs : List Nat) (hw : WrAt B w bw v bs) (hb : bs.length ≤ 140737488355328) :
    Calls Try.prog 28 #[.pointer (some ⟨bw, 0, none⟩)] w (ClonePost w (bs.map bv) bs.length) := by
  obtain ⟨A, c, rfl, hlc, hcm, hrd, hA⟩ := own_form hw.2.2
  have hc0 := blk_cell hw.2.1 0
  simp at hc0
  have H := hid (Clone_any w A bs.length c (bs.map bv) (by simp) hrd (bv_one bs) hA hb)
  clear hw hrd hA hcm
  go_enter Try.func28, Try.ntmps28
  go_wp2_with fail
  refine H.out.mono ?_
  rintro e w' ⟨A', c', rfl, h1, h2, h3, h4, h5⟩
  have H1 := hid h1
  have H4 := hid h4
  have H5 := hid h5
  clear h1 h4 h5
  go_wp2
  go_ret
  exact ⟨A', c', rfl, H1.out, h2, h3, H4.out, H5.out⟩
/-- A reader's own post: it is new. -/
theorem NewReader_any (w : World) (A : Option Addr) (n c : Nat) (bs : List Nat) (hn : n = bs.length) (hr : Rd w A (bs.map bv)) (hA : A = none → n = 0 ∧ c = 0) (hb : n ≤ 140737488355328) :
    Calls Try.prog 13 #[.slice A n c] w fun e w' => ∃ br, w.heap.size ≤ br ∧ e = .returned (.pointer (some ⟨br, 0, none⟩)) ∧ Hid (ReaderAt w' br (some bs)) ∧ Hid (Below w.heap.size w w') := by
  have H := hid (Clone_any w A n c (bs.map bv) (by simpa using hn) hr (bv_one bs) hA hb)
  have Hn := hid hn
  clear hr hA hn
  go_enter Try.func13, Try.ntmps13
  go_wp2_with fail
  refine H.out.mono ?_
  rintro e w1 ⟨A', c', rfl, h1, h2, h3, h4, h5⟩
  have H1 := hid h1
  have H4 := hid h4
  have H5 := hid h5
  clear h1 h4 h5
  go_wp2
  go_ret
  refine ⟨w1.heap.size, H5.out.size, rfl, ⟨A', c', ?_, by rw [← Hn.out]; exact h2, h3, (own_rd H1.out).ext (ext_alloc _ _), TyB.of_own (own_ext H1.out (ext_alloc _ _)), fun h => (H4.out h).2⟩, ext_trans H5.out (ext_alloc _ _)⟩
  rw [blk_new, Hn.out]
theorem Rbytes_any (w : World) (br : Nat) (s : St) (hby : Byt s) (h : ReaderAt w br s) :
    Calls Try.prog 34 #[.pointer (some ⟨br, 0, none⟩)] w fun e w' => ∃ A c, e = .returned (.slice A (rBytes s).1.length c) ∧ Hid (Rd w' A ((rBytes s).1.map bv)) ∧ Hid ((rBytes s).1.length ≤ c ∧ c ≤ maxLen ∧ (A = none → c = 0)) ∧ Hid (ReaderAt w' br (rBytes s).2) ∧ Hid (Kp (· ≠ br) w w') := by
  have H := hid (Count_any w br s hby h)
  have hlt := rCount_lt hby
  have e1 : rBytes s = rTake (rCount s).1 (rCount s).2 := rfl
  rw [e1]
  generalize rCount s = q at H hlt
  have Hlt := hid hlt
  clear hby e1 hlt h
  obtain ⟨n, t⟩ := q
  by_cases hn : ∀ l, t = some l → l.length < n
  · have e2 : rTake n t = ([], none) := by
      cases t with
      | none => rfl
      | some l => simp [rTake, hn l rfl]
    rw [e2]
    have Hn := hid hn
    clear hn e2
    go_enter Try.func34, Try.ntmps34
    go_wp2_with fail
    refine H.out.mono ?_
    rintro e w1 ⟨rfl, h1, h2⟩
    go_wp2_with fail
    refine (take_no w1 br t n Hn.out h1.out).mono ?_
    rintro e w2 ⟨rfl, h3, h4⟩
    go_wp2
    go_ret
    exact ⟨none, 0, rfl, hid (Rd.nil _ _), hid ⟨Nat.le_refl _, by simp [maxLen], fun _ => rfl⟩, h3, hid (h2.out.trans h4.out)⟩
  · obtain ⟨l, rfl, hl⟩ : ∃ l, t = some l ∧ n ≤ l.length := by
      cases t with
      | none => exact absurd (fun l h => by cases h) hn
      | some l => exact ⟨l, rfl, by
          rcases Nat.lt_or_ge l.length n with h | h
          · exact absurd (fun l' h' => by cases h'; exact h) hn
          · exact h⟩
    have e2 : rTake n (some l) = (l.take n, some (l.drop n)) := by simp only [rTake]; rw [if_neg (by omega)]
    rw [e2]
    have Hl := hid hl
    clear hn e2 hl
    go_enter Try.func34, Try.ntmps34
    go_wp2_with fail
    refine H.out.mono ?_
    rintro e w1 ⟨rfl, h1, h2⟩
    go_wp2_with fail
    refine (take_ok w1 br l n Hl.out h1.out).mono ?_
    rintro e w2 ⟨A, c, rfl, h3, h4, h5, h6, h7, h8, h9⟩
    have H3 := hid h3
    have H8 := hid h8
    have H9 := hid h9
    have H6 := hid h6
    clear h3 h8 h9 h7 h6
    go_wp2
    go_ret
    have hlen : (l.take n).length = n := by simp; exact Nat.min_eq_left Hl.out
    refine ⟨A, c, ?_, H3, hid ⟨by rw [hlen]; exact h4, h5, H6.out⟩, H8, hid (h2.out.trans H9.out)⟩
    show Ending.returned (.slice A n c) = .returned (.slice A (l.take n).length c)
    rw [hlen]
end Go.Proofs.Ytgnfccdhlpeknaa
