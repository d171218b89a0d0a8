/- The law's small functions. -/
import Derived.Test.YtgnfccdhlpeknaaSwX
import Derived.Test.YtgnfccdhlpeknaaSwVc
open Go Go.RowKit
namespace Go.Proofs.Ytgnfccdhlpeknaa
set_option maxRecDepth 100000
theorem ta_errno (n : Int) (w : World) : (Instr.typeAssert (.iface 45 (.int .i64 n)) 36 45 true).run Try.prog w = .ok (.tuple #[.int .i64 n, .bool true]) w := by kernel_rfl
set_option maxHeartbeats 1000000 in
theorem Num_errno (w : World) (n : Int) (h : (n == 0) = false) (h1 : 0 ≤ n) (h2 : n ≤ 1000) : Calls Try.prog 17 #[errno n] w fun e w' => e = .returned (.int .i64 n) ∧ w = w' := by
  unfold errno
  have hn : (n != 0) = true := by rw [bne, h]; rfl
  have hta := ta_errno n
  go_enter Try.func17, Try.ntmps17
  go_wp2
  refine wp_loop_rounds 1 ?_
  rw [rounds_succ]
  go_wp2
  go_ret
  exact ⟨rfl, rfl⟩
theorem Is_errno (w : World) (n : Int) (h : (n == 0) = false) (h1 : 0 ≤ n) (h2 : n ≤ 1000) : Calls Try.prog 9 #[errno n, .int .i64 n] w fun e w' => e = .returned (.bool true) ∧ w = w' := by
  have H := hid (Num_errno w n h h1 h2)
  clear h
  go_enter Try.func9, Try.ntmps9
  go_wp2_with fail
  refine H.out.mono ?_
  rintro e w' ⟨rfl, rfl⟩
  go_wp2
  go_ret
  exact ⟨by simp, rfl⟩
set_option maxHeartbeats 1000000 in
theorem large_any (w : World) (q : Int) (v : Bool) (fu : Int) (Ac : Option Addr) (nc cc : Nat) (A0 : Option Addr) (n0 c0 : Nat) (A1 : Option Addr) (n1 c1 : Nat) (A2 : Option Addr) (n2 c2 : Nat) (Aw : Option Addr) (nw cw : Nat)
    (hc : nc ≤ 9223372036854775807) (h0 : n0 ≤ 9223372036854775807) (h1 : n1 ≤ 9223372036854775807) (h2 : n2 ≤ 9223372036854775807) (hw : nw ≤ 9223372036854775807) :
    Calls Try.prog 5 #[.agg #[.int .i64 q, .bool v, .int .i64 fu, .slice Ac nc cc, .slice A0 n0 c0, .slice A1 n1 c1, .slice A2 n2 c2, .slice Aw nw cw]] w fun e w' => e = .returned (.bool (decide (60 < nc ∨ 40 < n0 ∨ 40 < n1 ∨ 40 < n2 ∨ 60 < nw))) ∧ Below w.heap.size w w' := by
  by_cases k1 : 60 < nc
  · go_enter Try.func5, Try.ntmps5
    go_wp2
    go_ret
    exact ⟨by simp [k1], ext_alloc _ _⟩
  by_cases k2 : 40 < n0
  · go_enter Try.func5, Try.ntmps5
    go_wp2
    go_ret
    exact ⟨by simp [k1, k2], ext_alloc _ _⟩
  by_cases k3 : 40 < n1
  · go_enter Try.func5, Try.ntmps5
    go_wp2
    go_ret
    exact ⟨by simp [k1, k2, k3], ext_alloc _ _⟩
  by_cases k4 : 40 < n2
  · go_enter Try.func5, Try.ntmps5
    go_wp2
    go_ret
    exact ⟨by simp [k1, k2, k3, k4], ext_alloc _ _⟩
  by_cases k5 : 60 < nw
  all_goals
    go_enter Try.func5, Try.ntmps5
    go_wp2
    go_ret
    exact ⟨ret_bool (by rw [Bool.eq_iff_iff]; simp; omega), ext_alloc _ _⟩
def rec0 : Rec := ⟨1, true, ⟨0, []⟩, ⟨[], [], []⟩, []⟩
theorem rec0_body : bodyB rec0 = [1, 1, 0] := by
  show bodyV 1 [] = _
  unfold bodyV
  rw [cntB_small (by omega)]
  simp only [List.length_nil]
  rw [cntB_small (by omega)]
  rfl
theorem alive_any (w : World) : Calls Try.prog 4 #[] w fun e w' => e = .returned (.bool true) ∧ Below w.heap.size w w' := by
  have hE : encB rec0 = [1, 1, 0] ++ sum4 (sumC [1, 1, 0]) := by unfold encB; rw [rec0_body]
  have hl : (encB rec0).length = 7 := by rw [hE]; rfl
  have hg : goodR rec0 = true := by rfl
  have hrd : RecRd w rec0 none 0 0 none 0 0 none 0 0 none 0 0 none 0 0 := ⟨⟨rfl, by omega, Rd.nil _ _⟩, ⟨rfl, rfl, rfl, by omega, by omega, by omega, Rd.nil _ _, Rd.nil _ _, Rd.nil _ _⟩, rfl, by omega, Rd.nil _ _⟩
  have hok : RecOk rec0 := ⟨⟨by simp [rec0], by simp [rec0], by simp [rec0]⟩, by simp [rec0], by simp [rec0], by simp [rec0], by simp [rec0]⟩
  have H := hid (REncode_any w rec0 none 0 0 none 0 0 none 0 0 none 0 0 none 0 0 hrd hok)
  have HE := hid hE
  have HL := hid hl
  have HG := hid hg
  have uB := Try.underlying34
  have u8 := Try.underlying5
  have uS := Try.underlying9
  clear hE hl hg hrd hok
  go_enter Try.func4, Try.ntmps4
  go_wp2_with fail
  refine H.out.mono ?_
  rintro e w1 ⟨hb, h⟩
  rcases h with ⟨_, A, c, rfl, ho⟩ | ⟨h, _⟩
  · rw [HL.out] at *
    have hr := own_rd ho
    obtain ⟨A2, c2, e2, h7, hcm, _, hA⟩ := own_form ho
    simp only [Value.slice.injEq] at e2
    obtain ⟨rfl, _, rfl⟩ := e2
    unfold maxLen at hcm
    have hb3 : Rd w1 A (([1, 1, 0] : List Nat).map bv) := by
      rw [HE.out, List.map_append] at hr
      exact hr.left
    have hconv := conv_str (P := Try.prog) w1 34 9 5 uB u8 uS A 3 c [1, 1, 0] rfl (by simp) hb3
    cases A with
    | none => exact absurd (hA rfl).1 (by omega)
    | some a =>
    have HB := hid hb
    clear hb hr hb3 hA ho
    go_wp2
    go_ret
    exact ⟨ret_bool (by decide +kernel), HB.out⟩
  · rw [HG.out] at h
    cases h
end Go.Proofs.Ytgnfccdhlpeknaa
