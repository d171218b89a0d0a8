/- A copy with marks behind it; an error's number. -/
import Derived.Test.YtgnikijaihmeeaaSrH
import Derived.Test.YtgnikijaihmeeaaSnB
open Go Go.RowKit
namespace Go.Proofs.Ytgnikijaihmeeaa
set_option linter.unusedVariables false
set_option linter.unusedSimpArgs false
set_option maxRecDepth 100000
theorem taN_errno (n : Int) (w : World) : (Instr.typeAssert (.iface 42 (.int .i64 n)) 34 42 true).run Try.prog w = .ok (.tuple #[.int .i64 n, .bool true]) w := by kernel_rfl
set_option maxHeartbeats 1000000 in
theorem NumN_errno (w : World) (n : Int) (h : (n == 0) = false) (h1 : 0 ≤ n) (h2 : n ≤ 1000) : Calls Try.prog 41 #[errno n] w fun e w' => e = .returned (.int .i64 n) ∧ w = w' := by
  unfold errno
  have hn : (n != 0) = true := by rw [bne, h]; rfl
  have hta := taN_errno n
  go_enter Try.func41, Try.ntmps41
  go_wp2
  refine wp_loop_rounds 1 ?_
  rw [rounds_succ]
  go_wp2
  go_ret
  exact ⟨rfl, rfl⟩
theorem IsN_errno (w : World) (n : Int) (h : (n == 0) = false) (h1 : 0 ≤ n) (h2 : n ≤ 1000) : Calls Try.prog 17 #[errno n, .int .i64 n] w fun e w' => e = .returned (.bool true) ∧ w = w' := by
  have H := hid (NumN_errno w n h h1 h2)
  clear h
  go_enter Try.func17, Try.ntmps17
  go_wp2_with fail
  refine H.out.mono ?_
  rintro e w' ⟨rfl, rfl⟩
  go_wp2
  go_ret
  exact ⟨by simp, rfl⟩
def CopyPost (w : World) (bs : List Nat) (e : Ending) (w' : World) : Prop :=
  ∃ g c', e = .returned (.slice (some ⟨g, 0, none⟩) bs.length c') ∧ w'.ownsRow w.heap.size 5 1 (.slice (some ⟨g, 0, none⟩) (bs.length + 2) c') (bs.length + 2) (bs.map bv ++ [.int .u8 165, .int .u8 90]) ∧ bs.length + 2 ≤ c' ∧ c' ≤ maxLen ∧ Below w.heap.size w w'
set_option maxHeartbeats 2000000 in
theorem Copy_any (w : World) (A : Option Addr) (c : Nat) (bs : List Nat) (hr : Rd w A (bs.map bv)) (hz : bs.length ≤ 100000) :
    Calls Try.prog 14 #[.slice A bs.length c] w (CopyPost w bs) := by
  have Hr := hid hr
  have hub := Try.underlying29
  obtain ⟨i, hi, hzr, hs, hby⟩ := info_parts info_u8
  clear hr
  go_enter Try.func14, Try.ntmps14
  go_wp2_with (first
    | (at_make; refine wpList_make_own w rfl _ _ _ rfl w.heap.size 5 i (.int .u8 0) 1 hub hi hzr hs _ _ _ (bs.length + 2) rfl rfl (by simp) (by rw [hby]; omega) (by unfold maxLen; omega) (Nat.le_refl _) ?_; intro w1 ho1 hg1; have O1 := hid ho1; have K1 := hid (Kp.of_grown hg1); clear ho1 hg1)
    | (at_builtin; refine wl_ap rfl rfl w.heap.size 5 hub info_u8 rfl (by decide) (.slice (some ⟨w.heap.size, 0, none⟩) 0 (bs.length + 2)) 0 [] rfl O1.out A bs.length c (bs.map bv) rfl (by simp) (Hr.out.kp K1.out (fun _ _ _ e => by cases e)) (bv_one _) (by unfold maxLen; omega) (by omega) K1.out.size ?_; intro A2 c2 w2 _ _ hown hkp hhop; have O2 : Hid (w2.ownsRow w.heap.size 5 1 (.slice A2 bs.length c2) bs.length (bs.map bv)) := hid (by simpa using hown); have K2 := hid hkp; have Z2 := hid (Nat.le_trans K1.out.size hkp.size); clear hown hkp hhop)
    | (at_builtin; refine wl_ap rfl rfl w.heap.size 5 hub info_u8 rfl (by decide) (.slice A2 bs.length c2) bs.length _ rfl (own_ext O2.out (ext_alloc _ _)) (some ⟨w2.heap.size, 0, none⟩) 2 2 [.int .u8 165, .int .u8 90] rfl rfl (rd_new w2 [.int .u8 165, .int .u8 90] 5) (fun u hu => by simp at hu; rcases hu with rfl | rfl <;> rfl) (by unfold maxLen; omega) (by omega) (by have := Z2.out; simp; omega) ?_; intro A3 c3 w3 hnc hcm hown hkp hhop; have O3 := hid hown; have K3 := hid hkp; clear hown hkp hhop))
  have hl0 : ¬ ((bs.length : Int) < 0) := by omega
  go_wp2
  have E1 : Below w.heap.size w w1 := K1.out.below (Nat.le_refl _) (fun k _ e => by cases e)
  have E2 := own_below E1 K2.out O1.out (Nat.le_refl _)
  have E3 := own_below (E2.trans ((ext_alloc w2 _).mono E2.size)) K3.out (own_ext O2.out (ext_alloc _ _)) (Nat.le_refl _)
  go_ret
  obtain ⟨g, rfl⟩ : ∃ g, A3 = some ⟨g, 0, none⟩ := by
    rcases O3.out.2 with ⟨hv, h0⟩ | ⟨g, cap, cur, hv, _⟩
    · omega
    · simp only [Value.slice.injEq] at hv
      exact ⟨g, hv.1⟩
  exact ⟨g, c3, rfl, O3.out, hnc, hcm, E3⟩
set_option maxHeartbeats 2000000 in
theorem Kept_any (w : World) (B g c' : Nat) (A : Option Addr) (c : Nat) (bs : List Nat) (ho : w.ownsRow B 5 1 (.slice (some ⟨g, 0, none⟩) (bs.length + 2) c') (bs.length + 2) (bs.map bv ++ [.int .u8 165, .int .u8 90])) (hc : bs.length + 2 ≤ c') (hcm : c' ≤ maxLen) (hr : Rd w A (bs.map bv)) (hz : bs.length ≤ 100000) (hby : ∀ b ∈ bs, b < 256) :
    Calls Try.prog 16 #[.slice (some ⟨g, 0, none⟩) bs.length c', .slice A bs.length c] w fun e w' => e = .returned (.bool true) ∧ w = w' := by
  have hrd := own_rd ho
  have k0 := hrd.at (j := bs.length) (u := .int .u8 165) (by simp)
  have k1 := hrd.at (j := bs.length + 1) (u := .int .u8 90) (by rw [List.getElem?_append_right (by simp)]; simp)
  rw [Nat.zero_add] at k0 k1
  have c1 := conv_str (P := Try.prog) w 29 9 5 Try.underlying29 Try.underlying5 Try.underlying9 (some ⟨g, 0, none⟩) bs.length c' bs rfl hby hrd.left
  have c2 := conv_str (P := Try.prog) w 29 9 5 Try.underlying29 Try.underlying5 Try.underlying9 A bs.length c bs rfl hby hr
  have hgl : g < w.heap.size := by obtain ⟨_, cur, h⟩ := own_blk ho (k := g) rfl; exact heap_lt h
  have hci : (bs.length : Int) + 2 ≤ c' := by omega
  unfold maxLen at hcm
  clear ho hr hrd hby
  generalize ofB bs = s at *
  go_enter Try.func16, Try.ntmps16
  go_wp2
  go_ret
  exact ⟨rfl, rfl⟩
end Go.Proofs.Ytgnikijaihmeeaa
