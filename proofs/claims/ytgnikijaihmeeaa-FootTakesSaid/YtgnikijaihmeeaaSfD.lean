/- The document's good feet, on. -/
import Derived.Test.YtgnikijaihmeeaaSfC
open Go Go.RowKit
namespace Go.Proofs.Ytgnikijaihmeeaa
set_option linter.unusedVariables false
set_option linter.unusedSimpArgs false
set_option maxRecDepth 100000
set_option maxHeartbeats 4000000 in
theorem RGood10_any (w : World) (f : Ft) (A0 : Option Addr) (n0 c0 : Nat) (A1 : Option Addr) (n1 c1 : Nat) (A2 : Option Addr) (n2 c2 : Nat) (hf : FtRd w f A0 n0 c0 A1 n1 c1 A2 n2 c2) (hi : FtOk f) :
    Calls Try.prog 10 #[.agg #[.slice A0 n0 c0, .slice A1 n1 c1, .slice A2 n2 c2]] w fun e w' => e = .returned (.bool (goodRef f)) ∧ Below w.heap.size w w' := by
  have Hf := hid hf
  have Hi := hid hi.s
  have hb1 := hf.b1
  have Hn := hid hf.e1
  have Hr := hid hf.r1
  clear hf hi
  go_enter Try.func10, Try.ntmps10
  go_wp2
  go_loopw [3] (fun v3 wr => ∃ k : Nat, v3 = .int .i64 k ∧ k ≤ n1 ∧ Hid (spnR none f.s = spnR (prevK f.s k) (f.s.drop k)) ∧ Hid (Below w.heap.size w wr) ∧ Hid (wr.heap[w.heap.size]? = some (.cells #[.slice A0 n0 c0, .slice A1 n1 c1, .slice A2 n2 c2] 25 (0, 0)))) (fun v3 _ => n1 - (intOf v3).toNat)
  case atStart => exact ⟨0, rfl, Nat.zero_le _, hid rfl, hid (ext_alloc _ _), hid (blk_new _ _)⟩
  case round =>
    obtain ⟨k, rfl, hk, Ho, Hb, HB⟩ := hrel
    have q0 := blk_cell HB.out 0
    have q1 := blk_cell HB.out 1
    have q2 := blk_cell HB.out 2
    simp at q0 q1 q2
    have Hlt := hid (heap_lt HB.out)
    by_cases hlt : k < n1
    · have hkx : k < f.s.length := by rw [← Hn.out]; exact hlt
      obtain ⟨b, o, rfl, hz1, hz2⟩ := Hr.out.addr (by rw [fm_len (s := 3) (fun _ => rfl)]; omega)
      have hbl : b < wr.heap.size := Nat.lt_of_lt_of_le hz1 Hb.out.size
      have hwl : w.heap.size < wr.heap.size := Hlt.out
      clear hz1 hz2
      have hx := List.getElem?_eq_getElem hkx
      have Hd := hid (List.drop_eq_getElem_cons hkx)
      have Hxi := hid (Hi.out f.s[k] (List.getElem_mem hkx))
      generalize f.s[k] = X at hx Hd Hxi
      obtain ⟨g0, g1, g2⟩ := (Hr.out.ext Hb.out).sp hx
      have Hx := hid hx
      clear hx hkx
      have HB2 := hid (blk_alloc HB.out (.cells #[.int .i64 X.t, .int .i64 X.lo, .int .i64 X.hi] 46))
      have E2 : Hid (Below w.heap.size w (wr.alloc (.cells #[.int .i64 X.t, .int .i64 X.lo, .int .i64 X.hi] 46))) := hid (Hb.out.trans ((ext_alloc wr _).mono Hb.out.size))
      by_cases h1 : X.t < 0
      · have F := hid (show goodRef f = false by unfold goodRef; rw [Ho.out, Hd.out, spnR_cons]; simp [h1])
        go_wp2
        go_ret
        exact ⟨ret_bool F.out.symm, E2.out⟩
      by_cases h2 : 3 < X.t
      · have F := hid (show goodRef f = false by unfold goodRef; rw [Ho.out, Hd.out, spnR_cons]; simp [h2])
        go_wp2
        go_ret
        exact ⟨ret_bool F.out.symm, E2.out⟩
      by_cases h3 : X.hi < X.lo
      · have F := hid (show goodRef f = false by unfold goodRef; rw [Ho.out, Hd.out, spnR_cons]; simp [h3])
        go_wp2
        go_ret
        exact ⟨ret_bool F.out.symm, E2.out⟩
      rcases Nat.eq_zero_or_pos k with h0 | h0
      · subst h0
        rw [Nat.zero_mul, Nat.add_zero] at g0 g1 g2
        have F := hid (show spnR none f.s = spnR (prevK f.s (0 + 1)) (f.s.drop (0 + 1)) by rw [Ho.out, Hd.out, spnR_cons, prevK_succ, Hx.out]; simp [h1, h2, h3, prevK])
        go_wp2
        refine ⟨⟨0 + 1, by go_num, by omega, F, E2, HB2⟩, by simp [intOf]; omega⟩
      · obtain ⟨m, rfl⟩ : ∃ m, k = m + 1 := ⟨k - 1, by omega⟩
        have hmx : m < f.s.length := by rw [← Hn.out]; omega
        obtain ⟨Y, hY, hYi⟩ : ∃ Y, f.s[m]? = some Y ∧ (inI Y.lo ∧ inI Y.hi) := ⟨_, List.getElem?_eq_getElem hmx, Hi.out _ (List.getElem_mem hmx)⟩
        obtain ⟨g3, g4, g5⟩ := (Hr.out.ext Hb.out).sp hY
        have F := hid (show spnR none f.s = (!(decide (X.t < Y.t) || (Y.t == X.t && !betw Y.hi X.lo)) && spnR (prevK f.s (m + 1 + 1)) (f.s.drop (m + 1 + 1))) by rw [Ho.out, Hd.out, spnR_cons, prevK_succ, prevK_succ, Hx.out, hY]; simp [h1, h2, h3])
        have HBt := hid (fun w => between_any Y.hi X.lo hYi.2 Hxi.out.1 w)
        clear hY h0 hmx hYi
        have HB3 := hid (blk_alloc HB2.out (.cells #[.int .i64 Y.t, .int .i64 Y.lo, .int .i64 Y.hi] 46))
        have E3 : Hid (Below w.heap.size w ((wr.alloc (.cells #[.int .i64 X.t, .int .i64 X.lo, .int .i64 X.hi] 46)).alloc (.cells #[.int .i64 Y.t, .int .i64 Y.lo, .int .i64 Y.hi] 46))) := hid (E2.out.trans ((ext_alloc _ _).mono E2.out.size))
        have hmn : (m : Int) < n1 := by omega
        have hm1 : (m : Int) + 1 < n1 := by omega
        by_cases h4 : X.t < Y.t
        · have F2 := hid (show goodRef f = false by unfold goodRef; rw [F.out]; simp [h4])
          go_wp2
          go_ret
          exact ⟨ret_bool F2.out.symm, E3.out⟩
        by_cases h5 : Y.t = X.t
        · have h5' : (Y.t == X.t) = true := by simp [h5]
          have H5 := hid h5
          clear h5
          cases hbt : betw Y.hi X.lo with
          | false =>
            have F2 := hid (show goodRef f = false by unfold goodRef; rw [F.out, hbt, h5']; simp)
            rw [hbt] at HBt
            clear hbt
            go_wp2_with (go_at_call 25; refine (HBt.out _).mono ?_; rintro e w' ⟨rfl, rfl⟩)
            go_ret
            exact ⟨ret_bool F2.out.symm, E3.out⟩
          | true =>
            have F2 := hid (show spnR none f.s = spnR (prevK f.s (m + 1 + 1)) (f.s.drop (m + 1 + 1)) by rw [F.out, hbt]; simp [h4])
            rw [hbt] at HBt
            clear hbt
            go_wp2_with (go_at_call 25; refine (HBt.out _).mono ?_; rintro e w' ⟨rfl, rfl⟩)
            refine ⟨⟨m + 1 + 1, by go_num, by omega, F2, E3, HB3⟩, by simp [intOf]; omega⟩
        · have h5' : (Y.t == X.t) = false := by simp [h5]
          have F2 := hid (show spnR none f.s = spnR (prevK f.s (m + 1 + 1)) (f.s.drop (m + 1 + 1)) by rw [F.out, h5']; simp [h4])
          have H5 := hid h5
          clear h5
          go_wp2
          refine ⟨⟨m + 1 + 1, by go_num, by omega, F2, E3, HB3⟩, by simp [intOf]; omega⟩
    · have F := hid (show spnR none f.s = true by rw [Ho.out, List.drop_of_length_le (by rw [← Hn.out]; omega)]; cases prevK f.s k <;> rfl)
      have Hg := hid (show goodRef f = (risR none f.r && risR none f.w) by unfold goodRef; rw [F.out]; rfl)
      have H0 := hid (Rrising_any wr A0 n0 c0 f.r Hf.out.e0 Hf.out.b0 (Hf.out.r0.ext Hb.out))
      cases hr0 : risR none f.r with
      | false =>
        rw [hr0] at H0 Hg
        clear hr0
        go_wp2_with fail
        refine H0.out.mono ?_
        rintro e w1 ⟨rfl, hb⟩
        have HB1 := hid hb
        clear hb
        go_wp2
        go_ret
        exact ⟨ret_bool (by rw [Hg.out]; rfl), ext_trans Hb.out HB1.out⟩
      | true =>
        rw [hr0] at H0 Hg
        clear hr0
        go_wp2_with fail
        refine H0.out.mono ?_
        rintro e w1 ⟨rfl, hb⟩
        have HB1 := hid hb
        have q3 := blk_cell (ext_blk hb HB.out) 2
        simp at q3
        clear hb
        go_wp2_with fail
        refine (Rrising_any w1 A2 n2 c2 f.w Hf.out.e2 Hf.out.b2 (Hf.out.r2.ext (ext_trans Hb.out HB1.out))).mono ?_
        rintro e w2 ⟨rfl, hb⟩
        have HB2 := hid hb
        clear hb
        go_wp2
        go_ret
        exact ⟨ret_bool (by rw [Hg.out]; rfl), ext_trans Hb.out (ext_trans HB1.out HB2.out)⟩
end Go.Proofs.Ytgnikijaihmeeaa
