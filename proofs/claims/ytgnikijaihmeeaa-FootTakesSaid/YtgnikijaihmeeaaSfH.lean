/- The law's bound, and errors as numbers. -/
import Derived.Test.YtgnikijaihmeeaaSwFd
open Go Go.RowKit
namespace Go.Proofs.Ytgnikijaihmeeaa
set_option linter.unusedVariables false
set_option linter.unusedSimpArgs false
set_option maxRecDepth 100000
set_option maxHeartbeats 2000000 in
theorem large1_any (w : World) (b c : Nat) (A0 : Option Addr) (n0 c0 : Nat) (A1 : Option Addr) (n1 c1 : Nat) (A2 : Option Addr) (n2 c2 : Nat) (hb : ∃ fz, w.heap[b]? = some (.cells #[.slice A0 n0 c0, .slice A1 n1 c1, .slice A2 n2 c2] 25 fz))
    (h0 : n0 ≤ 9223372036854775807) (h1 : n1 ≤ 9223372036854775807) (h2 : n2 ≤ 9223372036854775807) :
    Calls Try.prog 6 #[.slice (some ⟨b, 0, none⟩) 1 c] w fun e w' => e = .returned (.bool (decide (60 < n0 ∨ 60 < n1 ∨ 60 < n2))) ∧ Below w.heap.size w w' := by
  obtain ⟨fz, hb⟩ := hb
  have q0 := blk_cell hb 0
  have q1 := blk_cell hb 1
  have q2 := blk_cell hb 2
  simp at q0 q1 q2
  clear hb
  by_cases k2 : 60 < n0
  · go_enter Try.func6, Try.ntmps6
    go_wp2
    refine wp_loop_rounds 1 ?_
    rw [rounds_succ]
    go_wp2
    go_ret
    exact ⟨by simp [k2], ext_alloc _ _⟩
  by_cases k3 : 60 < n1
  · go_enter Try.func6, Try.ntmps6
    go_wp2
    refine wp_loop_rounds 1 ?_
    rw [rounds_succ]
    go_wp2
    go_ret
    exact ⟨by simp [k2, k3], ext_alloc _ _⟩
  by_cases k4 : 60 < n2
  · go_enter Try.func6, Try.ntmps6
    go_wp2
    refine wp_loop_rounds 1 ?_
    rw [rounds_succ]
    go_wp2
    go_ret
    exact ⟨by simp [k2, k3, k4], ext_alloc _ _⟩
  go_enter Try.func6, Try.ntmps6
  go_wp2
  refine wp_loop_rounds 2 ?_
  rw [rounds_succ]
  go_wp2
  rw [rounds_succ]
  go_wp2
  go_ret
  exact ⟨by simp [k2, k3, k4], ext_alloc _ _⟩
end Go.Proofs.Ytgnikijaihmeeaa
