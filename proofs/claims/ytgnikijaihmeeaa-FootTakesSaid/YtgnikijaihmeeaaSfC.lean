/- The document's order and its good feet. -/
import Derived.Test.YtgnikijaihmeeaaSwFd
import Derived.Test.YtgnikijaihmeeaaSfA
open Go Go.RowKit
namespace Go.Proofs.Ytgnikijaihmeeaa
set_option linter.unusedVariables false
set_option linter.unusedSimpArgs false
set_option maxRecDepth 100000
theorem RLess_any (x y : Ky) (w : World) : Calls Try.prog 50 #[kyV x, kyV y] w fun e w' => e = .returned (.bool (lessR x y)) ∧ Below w.heap.size w w' := by
  obtain ⟨t, k⟩ := x
  obtain ⟨t2, k2⟩ := y
  simp only [kyV]
  by_cases h1 : t < t2
  · go_enter Try.func50, Try.ntmps50
    go_wp2
    go_ret
    exact ⟨ret_bool (by simp [lessR, h1]), two_blocks _ _ _⟩
  by_cases h2 : t = t2
  · have h2' : (t == t2) = true := by simp [h2]
    have H := hid (And.intro h1 h2)
    clear h2
    go_enter Try.func50, Try.ntmps50
    go_wp2
    all_goals
      go_ret
      exact ⟨ret_bool (by simp [lessR, H.out.1, H.out.2]), two_blocks _ _ _⟩
  · have h2' : (t == t2) = false := by simp [h2]
    have H := hid (And.intro h1 h2)
    clear h2
    go_enter Try.func50, Try.ntmps50
    go_wp2
    go_ret
    exact ⟨ret_bool (by simp [lessR, H.out.1, H.out.2]), two_blocks _ _ _⟩
theorem between_any (a b : Int) (ha : inI a) (hb : inI b) (w : World) : Calls Try.prog 25 #[.int .i64 a, .int .i64 b] w fun e w' => e = .returned (.bool (betw a b)) ∧ w = w' := by
  unfold inI at ha hb
  by_cases h1 : a < b
  · have h3 : a + 1 ≤ 9223372036854775807 := by omega
    have E : Hid (betw a b = (a + 1 != b)) := hid (by simp [betw, h1])
    go_enter Try.func25, Try.ntmps25
    go_wp2
    go_ret
    exact ⟨ret_bool (by rw [E.out]), rfl⟩
  · have E : Hid (betw a b = false) := hid (by simp [betw, h1])
    go_enter Try.func25, Try.ntmps25
    go_wp2
    go_ret
    exact ⟨ret_bool E.out.symm, rfl⟩
set_option maxHeartbeats 4000000 in
theorem Rrising_any (w : World) (A : Option Addr) (n c : Nat) (l : List Ky) (hn : n = l.length) (hm : n ≤ 140737488355328) (hr : Rd w A (l.flatMap kyC)) :
    Calls Try.prog 26 #[.slice A n c] w fun e w' => e = .returned (.bool (risR none l)) ∧ Below w.heap.size w w' := by
  have Hr := hid hr
  have Hn := hid hn
  clear hr hn
  go_enter Try.func26, Try.ntmps26
  go_wp2
  go_loopw [3] (fun v3 wr => ∃ k : Nat, v3 = .int .i64 k ∧ k ≤ n ∧ Hid (risR none l = risR (prevK l k) (l.drop k)) ∧ Hid (Below w.heap.size w wr)) (fun v3 _ => n - (intOf v3).toNat)
  case atStart => exact ⟨0, rfl, Nat.zero_le _, hid rfl, Below.refl _ _⟩
  case round =>
    obtain ⟨k, rfl, hk, Ho, Hb⟩ := hrel
    by_cases hlt : k < n
    · have hkx : k < l.length := by rw [← Hn.out]; exact hlt
      obtain ⟨b, o, rfl, hb1, hb2⟩ := Hr.out.addr (by rw [fm_len (s := 2) (fun _ => rfl)]; omega)
      clear hb1 hb2
      have hx := List.getElem?_eq_getElem hkx
      have Hd := hid (List.drop_eq_getElem_cons hkx)
      generalize l[k] = X at hx Hd
      obtain ⟨g0, g1⟩ := (Hr.out.ext Hb.out).ky hx
      have Hx := hid hx
      clear hx hkx
      have l0 : Hid (∀ w', Below wr.heap.size wr w' → w'.cell? ⟨b, o + k * 2, none⟩ = some (.int .i64 X.t)) := hid fun w' h => ext_cell h g0
      have l1 : Hid (∀ w', Below wr.heap.size wr w' → w'.cell? ⟨b, o + k * 2 + 1, none⟩ = some (.int .i64 X.k)) := hid fun w' h => ext_cell h g1
      clear g0 g1
      have hkn : (k : Int) < n := by omega
      by_cases h1 : X.t < 0
      · have F := hid (show risR none l = false by rw [Ho.out, Hd.out, risR_cons]; simp [h1])
        go_wp2
        refine wp_region_ext (by kernel_rfl) (by kernel_rfl) ?_
        repeat ((with_reducible refine wpQuiet_step (fun K hK => ?_)); go_simp; first | (refine hK _ ?_; clear hK K) | (refine ⟨_, fun w' hw' => rfl, hK _ ?_⟩; clear hK K) | (apply Exists.intro; refine ⟨fun w' hw' => ?_, hK _ ?_⟩; (first | (go_at_call 50; exact call_ext hw' (RLess_any _ _ _)) | (have q0 := l0.out w' hw'; have q1 := l1.out w' hw'; go_simp; rfl)); clear hK K))
        refine wpQuiet_nil ?_
        intro w2 hw2
        have Hw2 := hid hw2
        clear hw2
        go_wp2
        go_ret
        exact ⟨ret_bool F.out.symm, ext_trans Hb.out Hw2.out⟩
      by_cases h2 : 3 < X.t
      · have F := hid (show risR none l = false by rw [Ho.out, Hd.out, risR_cons]; simp [h2])
        go_wp2
        refine wp_region_ext (by kernel_rfl) (by kernel_rfl) ?_
        repeat ((with_reducible refine wpQuiet_step (fun K hK => ?_)); go_simp; first | (refine hK _ ?_; clear hK K) | (refine ⟨_, fun w' hw' => rfl, hK _ ?_⟩; clear hK K) | (apply Exists.intro; refine ⟨fun w' hw' => ?_, hK _ ?_⟩; (first | (go_at_call 50; exact call_ext hw' (RLess_any _ _ _)) | (have q0 := l0.out w' hw'; have q1 := l1.out w' hw'; go_simp; rfl)); clear hK K))
        refine wpQuiet_nil ?_
        intro w2 hw2
        have Hw2 := hid hw2
        clear hw2
        go_wp2
        go_ret
        exact ⟨ret_bool F.out.symm, ext_trans Hb.out Hw2.out⟩
      rcases Nat.eq_zero_or_pos k with h0 | h0
      · subst h0
        rw [Nat.zero_mul, Nat.add_zero] at l0 l1
        have F := hid (show risR none l = risR (prevK l (0 + 1)) (l.drop (0 + 1)) by rw [Ho.out, Hd.out, risR_cons, prevK_succ, Hx.out]; simp [h1, h2, prevK])
        go_wp2
        refine wp_region_ext (by kernel_rfl) (by kernel_rfl) ?_
        repeat ((with_reducible refine wpQuiet_step (fun K hK => ?_)); go_simp; first | (refine hK _ ?_; clear hK K) | (refine ⟨_, fun w' hw' => rfl, hK _ ?_⟩; clear hK K) | (apply Exists.intro; refine ⟨fun w' hw' => ?_, hK _ ?_⟩; (first | (go_at_call 50; exact call_ext hw' (RLess_any _ _ _)) | (have q0 := l0.out w' hw'; have q1 := l1.out w' hw'; go_simp; rfl)); clear hK K))
        refine wpQuiet_nil ?_
        intro w2 hw2
        have Hw2 := hid hw2
        clear hw2
        go_wp2
        refine ⟨⟨0 + 1, by go_num, by omega, F, hid (ext_trans Hb.out Hw2.out)⟩, by simp [intOf]; omega⟩
      · obtain ⟨m, rfl⟩ : ∃ m, k = m + 1 := ⟨k - 1, by omega⟩
        obtain ⟨Y, hY⟩ : ∃ Y, l[m]? = some Y := ⟨_, List.getElem?_eq_getElem (by rw [← Hn.out]; omega)⟩
        obtain ⟨g2, g3⟩ := (Hr.out.ext Hb.out).ky hY
        have F := hid (show risR none l = (lessR Y X && risR (prevK l (m + 1 + 1)) (l.drop (m + 1 + 1))) by rw [Ho.out, Hd.out, risR_cons, prevK_succ, prevK_succ, Hx.out, hY]; simp [h1, h2])
        clear hY h0
        have l2 : Hid (∀ w', Below wr.heap.size wr w' → w'.cell? ⟨b, o + m * 2, none⟩ = some (.int .i64 Y.t)) := hid fun w' h => ext_cell h g2
        have l3 : Hid (∀ w', Below wr.heap.size wr w' → w'.cell? ⟨b, o + m * 2 + 1, none⟩ = some (.int .i64 Y.k)) := hid fun w' h => ext_cell h g3
        clear g2 g3
        have HL := hid (RLess_any Y X)
        cases hl : lessR Y X with
        | false =>
          have F2 := hid (show risR none l = false by rw [F.out, hl]; rfl)
          rw [hl] at HL
          clear hl
          go_wp2
          refine wp_region_ext (by kernel_rfl) (by kernel_rfl) ?_
          have hwm : IntKind.i64.wrap (m : Int) = m := by rw [IntKind.wrap_i64]; omega
          have hmn : (m : Int) < n := by omega
          have hm1 : (m : Int) + 1 < n := by omega
          have hm0 : (0 : Int) ≤ (m : Int) + 1 := by omega
          have hmt : ((m : Int) + 1).toNat = m + 1 := by omega
          repeat ((with_reducible refine wpQuiet_step (fun K hK => ?_)); go_simp; first | (refine hK _ ?_; clear hK K) | (refine ⟨_, fun w' hw' => rfl, hK _ ?_⟩; clear hK K) | (apply Exists.intro; refine ⟨fun w' hw' => ?_, hK _ ?_⟩; (first | (go_at_call 50; exact call_ext hw' (HL.out _)) | (have q0 := l0.out w' hw'; have q1 := l1.out w' hw'; have q2 := l2.out w' hw'; have q3 := l3.out w' hw'; go_simp; rfl)); clear hK K))
          refine wpQuiet_nil ?_
          intro w2 hw2
          have Hw2 := hid hw2
          clear hw2
          go_wp2
          go_ret
          exact ⟨ret_bool F2.out.symm, ext_trans Hb.out Hw2.out⟩
        | true =>
          have F2 := hid (show risR none l = risR (prevK l (m + 1 + 1)) (l.drop (m + 1 + 1)) by rw [F.out, hl]; rfl)
          rw [hl] at HL
          clear hl
          go_wp2
          refine wp_region_ext (by kernel_rfl) (by kernel_rfl) ?_
          have hwm : IntKind.i64.wrap (m : Int) = m := by rw [IntKind.wrap_i64]; omega
          have hmn : (m : Int) < n := by omega
          have hm1 : (m : Int) + 1 < n := by omega
          have hm0 : (0 : Int) ≤ (m : Int) + 1 := by omega
          have hmt : ((m : Int) + 1).toNat = m + 1 := by omega
          repeat ((with_reducible refine wpQuiet_step (fun K hK => ?_)); go_simp; first | (refine hK _ ?_; clear hK K) | (refine ⟨_, fun w' hw' => rfl, hK _ ?_⟩; clear hK K) | (apply Exists.intro; refine ⟨fun w' hw' => ?_, hK _ ?_⟩; (first | (go_at_call 50; exact call_ext hw' (HL.out _)) | (have q0 := l0.out w' hw'; have q1 := l1.out w' hw'; have q2 := l2.out w' hw'; have q3 := l3.out w' hw'; go_simp; rfl)); clear hK K))
          refine wpQuiet_nil ?_
          intro w2 hw2
          have Hw2 := hid hw2
          clear hw2
          go_wp2
          refine ⟨⟨m + 1 + 1, by go_num, by omega, F2, hid (ext_trans Hb.out Hw2.out)⟩, by simp [intOf]; omega⟩
    · have F := hid (show risR none l = true by rw [Ho.out, List.drop_of_length_le (by rw [← Hn.out]; omega)]; cases prevK l k <;> rfl)
      go_wp2
      go_ret
      exact ⟨ret_bool F.out.symm, Hb.out⟩
end Go.Proofs.Ytgnikijaihmeeaa
