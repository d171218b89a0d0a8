/- The document's reader: a count. -/
import Derived.Test.YtgnikijaihmeeaaSrD
open Go Go.RowKit
namespace Go.Proofs.Ytgnikijaihmeeaa
set_option linter.unusedVariables false
set_option linter.unusedSimpArgs false
set_option maxRecDepth 100000
theorem val_wrap (V y : Nat) : IntKind.u64.wrap (IntKind.u64.wrap (128 * ((V : Int) % 18446744073709551616)) + (y : Int) % 128) = (((y % 128 + 128 * V) % 18446744073709551616 : Nat) : Int) := by
  simp only [IntKind.wrap_u64]
  omega
set_option maxHeartbeats 4000000 in
theorem R3count_any (w : World) (br : Nat) (s : St) (hby : Byt s) (h : R3At w br s) :
    Calls Try.prog 53 #[.pointer (some ⟨br, 0, none⟩)] w fun e w' => e = .returned (.int .u64 ((rCount s).1 : Int)) ∧ Hid (R3At w' br (rCount s).2) ∧ Hid (Kp (· ≠ br) w w') := by
  cases s with
  | none =>
    have H := hid h
    have hb : w.heap[br]? = some (.cells #[.slice none 0 0, .bool true] 70 (0, 0)) := h
    have hc0 := blk_cell hb 0
    have hc1 := blk_cell hb 1
    simp at hc0 hc1
    clear hb h hby
    go_enter Try.func53, Try.ntmps53
    go_wp2
    refine wp_loop_rounds 1 ?_
    rw [rounds_succ]
    go_wp2_with (go_at_call 63; refine (fail3_any _ _ _ H.out).mono ?_; rintro e w' ⟨rfl, hr, hk⟩)
    go_ret
    exact ⟨rfl, hr, hk⟩
  | some l =>
    have H := hid h
    have Hby := hid (hby l rfl)
    obtain ⟨A, c, hb, hlc, hcm, hrd, hty, hA⟩ := h
    have Hb := hid hb
    have Hr := hid hrd
    have Hty := hid hty
    have HA := hid hA
    have Hlc := hid hlc
    have hc0 := blk_cell hb 0
    have hc1 := blk_cell hb 1
    have hf0 := blk_free hb 0
    simp at hc0 hc1
    unfold maxLen at hcm
    have hlm : l.length ≤ 9223372036854775807 := by omega
    have uB := Try.underlying29
    clear hb hrd hty hA hby
    go_enter Try.func53, Try.ntmps53
    go_wp2
    go_loop [3] (fun v3 => ∃ k : Nat, v3 = .int .i64 k ∧ k ≤ 10 ∧ Hid (∀ i b, i < k → l[i]? = some b → 128 ≤ b)) (fun v3 => 10 - (intOf v3).toNat)
    case atStart => exact ⟨0, rfl, by omega, hid (fun i b h => by omega)⟩
    case round =>
      obtain ⟨k, rfl, hk, Hk⟩ := hrel
      by_cases h1 : k < l.length
      · by_cases h2 : k < 10
        · obtain ⟨b0, o0, rfl, hz1, hz2⟩ := Hr.out.addr (by simp; omega)
          obtain ⟨x, hx⟩ : ∃ x, l[k]? = some x := ⟨_, List.getElem?_eq_getElem h1⟩
          have hxc := hz2 k (bv x) (by simp [hx])
          simp only [bv] at hxc
          have hx256 := Hby.out x (List.mem_of_getElem? hx)
          have Hx := hid hx
          have Hz2 := hid hz2
          clear hz1 hz2 hx
          by_cases h3 : 128 ≤ x
          · go_wp2
            go_round
            case rel => exact ⟨k + 1, by go_num, by omega, hid (fun i b hi hb => by
              by_cases hik : i = k
              · subst hik; rw [Hx.out] at hb; simp at hb; omega
              · exact Hk.out i b (by omega) hb)⟩
            case measure => simp [intOf]; omega
          · have h3' : x < 128 := by omega
            have LN := hid (lead_ne Hby.out Hk.out Hx.out h3')
            have Hkl := hid h1
            go_wp2
            go_loop [4, 5] (fun v4 v5 => ∃ j : Nat, j ≤ k + 1 ∧ v5 = .int .i64 ((j : Int) - 1) ∧ v4 = .int .u64 ((valC ((l.take (k + 1)).drop j) % 18446744073709551616 : Nat) : Int)) (fun _ v5 => (intOf v5 + 1).toNat)
            case atStart => exact ⟨k + 1, Nat.le_refl _, by go_num, by rw [List.drop_eq_nil_of_le (by simp; omega)]; rfl⟩
            case round =>
              obtain ⟨j, hj, rfl, rfl⟩ := hrel
              cases j with
              | succ q =>
                obtain ⟨y, hy⟩ : ∃ y, l[q]? = some y := ⟨_, List.getElem?_eq_getElem (by have := Hkl.out; omega)⟩
                have hyc := Hz2.out q (bv y) (by simp [hy])
                simp only [bv] at hyc
                have hy256 := Hby.out y (List.mem_of_getElem? hy)
                have VS := hid (valC_step (p := l.take (k + 1)) (j := q) (c := y) (by rw [List.getElem?_take, if_pos (by omega)]; exact hy))
                generalize valC ((l.take (k + 1)).drop (q + 1)) = V at VS
                have e5 : (((q + 1 : Nat) : Int)) - 1 = q := by omega
                rw [e5]
                clear hy
                go_wp2
                refine ⟨⟨q, by omega, rfl, ?_⟩, by simp [intOf]⟩
                rw [VS.out, val_wrap]
              | zero =>
                have e5 : (((0 : Nat) : Int)) - 1 = -1 := by omega
                rw [e5, List.drop_zero]
                go_wp2_with fail
                refine (RCount_any w (valC (l.take (k + 1)) % 18446744073709551616) (by omega)).mono ?_
                rintro e w2 ⟨B, d, rfl, ho, _, _, _, hb⟩
                have Ro := hid (own_rd ho)
                have Hb2 := hid hb
                have c0' := ext_blk hb Hb.out
                have r0 : Hid (∀ w', Below w2.heap.size w2 w' → w'.cell? ⟨br, 0, none⟩ = some (.slice (some ⟨b0, o0, none⟩) l.length c)) := hid fun w' h => (blk_cell (ext_blk h c0') 0).trans (by simp)
                have HR2 := hid (Hr.out.ext hb)
                have hub : ∀ x ∈ cntB (valC (l.take (k + 1)) % 18446744073709551616), x < 256 := fun x hx => cntB_lt _ x hx
                have q1 : Hid (∀ w', Below w2.heap.size w2 w' → (convert 29 9 (.slice B (cntB (valC (l.take (k + 1)) % 18446744073709551616)).length d)).run Try.prog w' = .ok (.string (ofB (cntB (valC (l.take (k + 1)) % 18446744073709551616)))) w') :=
                  hid fun w' h => conv_str (P := Try.prog) w' 29 9 5 Try.underlying29 Try.underlying5 Try.underlying9 B _ d _ rfl hub (Ro.out.ext h)
                have q2 : Hid (∀ w', Below w2.heap.size w2 w' → (convert 29 9 (.slice (some ⟨b0, o0, none⟩) (k + 1) c)).run Try.prog w' = .ok (.string (ofB (l.take (k + 1)))) w') :=
                  hid fun w' h => conv_str (P := Try.prog) w' 29 9 5 Try.underlying29 Try.underlying5 Try.underlying9 (some ⟨b0, o0, none⟩) (k + 1) c (l.take (k + 1)) (by simp; have := Hkl.out; omega) (fun x hx => Hby.out x (List.mem_of_mem_take hx)) (by have := (HR2.out.ext h).take (k + 1); rwa [← List.map_take] at this)
                have Hk1 : Hid (k + 1 ≤ l.length) := hid (by have := Hkl.out; omega)
                have hkl1 : (k : Int) + 1 ≤ c := by have := Hkl.out; have := Hlc.out; omega
                have hkw : IntKind.i64.wrap ((k : Int) + 1) = (k : Int) + 1 := by rw [IntKind.wrap_i64]; omega
                have hk0 : ¬ ((k : Int) + 1 < 0) := by omega
                have hkt : ((k : Int) + 1).toNat = k + 1 := by omega
                clear ho hb c0' hub Ro
                generalize (cntB (valC (l.take (k + 1)) % 18446744073709551616)).length = N at *
                by_cases hEq : cntB (valC (l.take (k + 1)) % 18446744073709551616) = l.take (k + 1)
                · have EE := hid (lead_eq (l := l) (k := k) (by omega) hEq)
                  rw [hEq] at q1
                  go_wp2_with fail
                  refine wp_region_ext (by kernel_rfl) (by kernel_rfl) ?_
                  repeat ((with_reducible refine wpQuiet_step (fun K hK => ?_)); go_simp; first | (refine hK _ ?_; clear hK K) | (refine ⟨_, fun w' hw' => rfl, hK _ ?_⟩; clear hK K) | (apply Exists.intro; refine ⟨fun w' hw' => ?_, hK _ ?_⟩; (first | (go_at_call 63; exact fail) | (have q0 := r0.out w' hw'; have q1 := q1.out w' hw'; have q2 := q2.out w' hw'; go_simp; rfl)); clear hK K))
                  refine wpQuiet_nil ?_
                  intro w3 hw3
                  have HB3 := hid (ext_blk (ext_trans Hb2.out hw3) Hb.out)
                  have E3 := hid (ext_trans Hb2.out hw3)
                  have HTy3 : Hid (∀ v, TyB (w3.setCell ⟨br, 0, none⟩ v) (some ⟨b0, o0, none⟩)) := hid fun v => (Hty.out.kp (Kp.of_ext E3.out (fun _ => True)) (fun _ _ _ _ => trivial)).kp (kp_set w3 br 0 v) (fun k cs fz h => blk_ty_ne h HB3.out (by decide))
                  have HRd3 := hid (Hr.out.ext E3.out)
                  have HNe3 : Hid (∀ a, some (⟨b0, o0, none⟩ : Addr) = some a → a.block ≠ br) := hid (ty_ne (Hty.out.kp (Kp.of_ext E3.out (fun _ => True)) (fun _ _ _ _ => trivial)) HB3.out (by decide))
                  have t0 := blk_cell HB3.out 0
                  have t1 := blk_free HB3.out 0
                  simp at t0
                  clear hw3
                  go_wp2_with fail
                  all_goals go_ret
                  all_goals rw [EE.out]
                  · have hLl : l.length = k + 1 := by have := Hk1.out; have := Hlc.out; omega
                    refine ⟨rfl, hid ⟨_, 0, (blk_set HB3.out 0 _).trans ?_, by rw [List.length_drop]; omega, by simp [maxLen], ?_, HTy3.out _, (fun h => by cases h)⟩, hid ((Kp.of_ext E3.out _).trans (kp_set _ _ _ _))⟩
                    · simp [hLl]
                    · rw [List.drop_of_length_le (by omega)]; exact Rd.nil _ _
                  · refine ⟨rfl, hid ⟨some ⟨b0, o0 + (k + 1), none⟩, c - (k + 1), (blk_set HB3.out 0 _).trans ?_, by rw [List.length_drop]; have := Hlc.out; omega, by unfold maxLen; omega, ?_, (fun a ha => ?_), (fun h => by cases h)⟩, hid ((Kp.of_ext E3.out _).trans (kp_set _ _ _ _))⟩
                    · simp
                    · rw [List.map_drop]; exact (HRd3.out.kp (kp_set _ _ _ _) (fun a ha _ => HNe3.out a ha)).drop (k + 1)
                    · simp only [Option.some.injEq] at ha
                      subst ha
                      exact HTy3.out _ ⟨b0, o0, none⟩ rfl
                · have EE := hid (LN.out hEq)
                  have hne := (fun h : ofB (cntB (valC (l.take (k + 1)) % 18446744073709551616)) = ofB (l.take (k + 1)) => hEq (ofB_inj (fun x hx => cntB_lt _ x hx) (fun x hx => Hby.out x (List.mem_of_mem_take hx)) h))
                  generalize ofB (cntB (valC (l.take (k + 1)) % 18446744073709551616)) = sU at q1 hne
                  generalize ofB (l.take (k + 1)) = sT at q2 hne
                  have n2 : ¬ sU.toList = sT.toList := fun e => hne (by
                    rw [ByteArray.toList_eq, ByteArray.toList_eq] at e
                    exact ByteArray.ext (Array.toList_inj.1 e))
                  have n5 : (sU.toList == sT.toList) = false := beq_eq_false_iff_ne.2 n2
                  have n6 : (sU.toList != sT.toList) = true := by simp [bne, n5]
                  clear hEq
                  go_wp2_with fail
                  refine wp_region_ext (by kernel_rfl) (by kernel_rfl) ?_
                  repeat ((with_reducible refine wpQuiet_step (fun K hK => ?_)); go_simp; first | (refine hK _ ?_; clear hK K) | (refine ⟨_, fun w' hw' => rfl, hK _ ?_⟩; clear hK K) | (apply Exists.intro; refine ⟨fun w' hw' => ?_, hK _ ?_⟩; (first | (go_at_call 63; exact fail) | (have q0 := r0.out w' hw'; have q1 := q1.out w' hw'; have q2 := q2.out w' hw'; go_simp; rfl)); clear hK K))
                  refine wpQuiet_nil ?_
                  intro w3 hw3
                  have E3 := hid (ext_trans Hb2.out hw3)
                  have R3 := hid (H.out.ext E3.out)
                  clear hw3
                  go_wp2_with fail
                  refine (fail3_any w3 br (some l) R3.out).mono ?_
                  rintro e w4 ⟨rfl, hr, hk⟩
                  go_wp2
                  go_ret
                  rw [EE.out]
                  exact ⟨rfl, hr, hid ((Kp.of_ext E3.out _).trans hk.out)⟩
        · have E := hid (lead_none Hby.out Hk.out (.inr (by omega)))
          go_wp2_with (go_at_call 63; refine (fail3_any _ _ _ H.out).mono ?_; rintro e w' ⟨rfl, hr, hk⟩)
          go_ret
          rw [E.out]
          exact ⟨rfl, hr, hk⟩
      · have E := hid (lead_none Hby.out Hk.out (.inl (by omega)))
        go_wp2_with (go_at_call 63; refine (fail3_any _ _ _ H.out).mono ?_; rintro e w' ⟨rfl, hr, hk⟩)
        go_ret
        rw [E.out]
        exact ⟨rfl, hr, hk⟩
end Go.Proofs.Ytgnikijaihmeeaa
