/- The walk of wire's Count, read. -/
import Derived.Test.YtgnikijaihmeeaaSwRb
open Go Go.RowKit
namespace Go.Proofs.Ytgnikijaihmeeaa
set_option linter.unusedVariables false
set_option linter.unusedSimpArgs false
set_option maxRecDepth 100000 in
set_option maxHeartbeats 1000000 in
theorem Count_any (w : World) (br : Nat) (s : St) (hby : Byt s) (h : ReaderAt w br s) :
    Calls Try.prog 51 #[.pointer (some ⟨br, 0, none⟩)] w fun e w' => e = .returned (.int .u64 ((rCount s).1 : Int)) ∧ Hid (ReaderAt w' br (rCount s).2) ∧ Hid (Kp (· ≠ br) w w') := by
  rcases Nat.eq_zero_or_pos (rLeft s) with h0 | h0
  · have hr : rCount s = (0, none) := by
      cases s with
      | none => rfl
      | some l => simp [rLeft] at h0; subst h0; rfl
    rw [hr]
    have H := hid h
    clear h hby
    have H0 := hid h0
    clear h0
    go_enter Try.func51, Try.ntmps51
    go_wp2
    refine wp_loop_rounds 1 ?_
    rw [rounds_succ]
    go_wp2_with (go_at_call 61; refine (take_one_no _ _ _ H0.out H.out).mono ?_; rintro e w' ⟨rfl, hr, hk⟩)
    go_ret
    exact ⟨rfl, hr, hk⟩
  · obtain ⟨l0, rfl⟩ : ∃ l, s = some l := by
      cases s with
      | none => simp [rLeft] at h0
      | some l => exact ⟨l, rfl⟩
    have Hby := hid (hby l0 rfl)
    have H := hid h
    clear h hby h0
    go_enter Try.func51, Try.ntmps51
    go_wp2
    go_loopw [3, 8] (fun v3 v8 wr => ∃ (k acc : Nat) (l : List Nat), v8 = .int .i64 k ∧ k ≤ 10 ∧ v3 = .int .u64 acc ∧ Hid (acc < 128 ^ k) ∧ Hid (ReaderAt wr br (some l)) ∧ Hid (∀ b ∈ l, b < 256) ∧ Hid (cntGo 10 0 0 l0 = cntGo (10 - k) k acc l) ∧ Hid (Kp (· ≠ br) w wr)) (fun _ v8 _ => 10 - (intOf v8).toNat)
    case atStart => exact ⟨0, 0, l0, rfl, by omega, rfl, hid (by simp), H, Hby, hid rfl, hid (Kp.refl _ _)⟩
    case round =>
      obtain ⟨k, acc, l, rfl, hk, rfl, Hacc, Hr, Hb, Hq, Hk⟩ := hrel
      by_cases hlt : k < 10
      · rcases l with _ | ⟨c, l⟩
        · go_wp2_with (go_at_call 61; refine (take_one_no _ _ _ rfl Hr.out).mono ?_; rintro e w' ⟨rfl, hr, hkp⟩)
          go_ret
          rw [cg_out Hq.out]
          exact ⟨rfl, hr, hid (Hk.out.trans hkp.out)⟩
        · have hc : c < 256 := Hb.out c (by simp)
          have H1 : c = 0 ∧ ((c : Int) == 0) = true ∨ 0 < c ∧ ((c : Int) == 0) = false := by simp; omega
          rcases H1 with ⟨c0, cb⟩ | ⟨c0, cb⟩
          · skip
            go_wp2_with (first | (go_at_call 61; refine (take_one _ _ _ _ Hr.out).mono ?_; rintro e w' ⟨bb, oo, cp, rfl, hcc, hr, hkp⟩) | (go_at_call 62; refine (fail_any _ _ _ hr.out).mono ?_; rintro e w2 ⟨rfl, hr2, hk2⟩))
            · go_ret
              rw [cg_break hlt Hq.out (by omega)]
              exact ⟨rfl, hr2, hid (Hk.out.trans (hkp.out.trans hk2.out))⟩
            · go_ret
              rw [cg_break hlt Hq.out (by omega)]
              exact ⟨rfl, hr2, hid (Hk.out.trans (hkp.out.trans hk2.out))⟩
            · go_ret
              rw [cg_ret hlt Hq.out (by omega) (by omega)]
              exact ⟨ret_int (by subst c0; exact cg_bits (c := 0) hlt Hacc.out (by omega) (by omega)), hr, hid (Hk.out.trans hkp.out)⟩
          · skip
            go_wp2_with (first | (go_at_call 61; refine (take_one _ _ _ _ Hr.out).mono ?_; rintro e w' ⟨bb, oo, cp, rfl, hcc, hr, hkp⟩) | (go_at_call 62; refine (fail_any _ _ _ hr.out).mono ?_; rintro e w2 ⟨rfl, hr2, hk2⟩))
            · go_ret
              rw [cg_ret hlt Hq.out (by omega) (by omega)]
              obtain rfl : k = 9 := by omega
              refine ⟨ret_int ?_, hr, hid (Hk.out.trans hkp.out)⟩
              have h := cg_bits (k := 9) hlt Hacc.out hc (by omega)
              rw [show (2 : Int) ^ (7 * 9) = 9223372036854775808 by decide] at h
              exact h
            · go_ret
              rw [cg_break hlt Hq.out (by omega)]
              exact ⟨rfl, hr2, hid (Hk.out.trans (hkp.out.trans hk2.out))⟩
            · go_ret
              rw [cg_ret hlt Hq.out (by omega) (by omega)]
              exact ⟨ret_int (cg_bits hlt Hacc.out hc (by omega)), hr, hid (Hk.out.trans hkp.out)⟩
            · refine ⟨⟨k + 1, acc + (c % 128) * 128 ^ k, l, by go_num, by omega, by rw [cg_bits hlt Hacc.out hc (by omega)], hid (cg_lt Hacc.out), hr, hid (fun b hb => Hb.out b (by simp [hb])), hid (cg_next hlt Hq.out (by omega) (by omega)), hid (Hk.out.trans hkp.out)⟩, ?_⟩
              simp [intOf]
              omega
            · go_ret
              rw [cg_ret hlt Hq.out (by omega) (by omega)]
              exact ⟨ret_int (cg_bits hlt Hacc.out hc (by omega)), hr, hid (Hk.out.trans hkp.out)⟩
            · refine ⟨⟨k + 1, acc + (c % 128) * 128 ^ k, l, by go_num, by omega, by rw [cg_bits hlt Hacc.out hc (by omega)], hid (cg_lt Hacc.out), hr, hid (fun b hb => Hb.out b (by simp [hb])), hid (cg_next hlt Hq.out (by omega) (by omega)), hid (Hk.out.trans hkp.out)⟩, ?_⟩
              simp [intOf]
              omega
      · go_wp2_with (go_at_call 62; refine (fail_any _ _ _ Hr.out).mono ?_; rintro e w2 ⟨rfl, hr2, hk2⟩)
        go_ret
        rw [cg_end hlt Hq.out]
        exact ⟨rfl, hr2, hid (Hk.out.trans hk2.out)⟩
end Go.Proofs.Ytgnikijaihmeeaa
