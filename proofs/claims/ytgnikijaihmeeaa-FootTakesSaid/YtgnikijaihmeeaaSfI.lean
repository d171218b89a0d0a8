/- FootPuts, walked. -/
import Derived.Test.YtgnikijaihmeeaaSfH
import Derived.Test.YtgnikijaihmeeaaSfG
import Derived.Test.YtgnikijaihmeeaaSfF
import Derived.Test.YtgnikijaihmeeaaSfD
import Derived.Test.YtgnikijaihmeeaaSnB
import Derived.Test.YtgnikijaihmeeaaSfA
import Derived.Test.YtgnikijaihmeeaaSwI
open Go Go.RowKit
namespace Go.Proofs.Ytgnikijaihmeeaa
set_option linter.unusedVariables false
set_option linter.unusedSimpArgs false
set_option maxRecDepth 100000
theorem footBy_lt' (f : Ft) : ∀ b ∈ footBy f, b < 256 := by
  have fl : ∀ {α : Type} (g : α → List Nat) (l : List α), (∀ x, ∀ b ∈ g x, b < 256) → ∀ b ∈ l.flatMap g, b < 256 := fun g l h b hb => by
    obtain ⟨x, _, hx⟩ := List.mem_flatMap.1 hb
    exact h x b hx
  have ap : ∀ {a b : List Nat}, (∀ x ∈ a, x < 256) → (∀ x ∈ b, x < 256) → ∀ x ∈ a ++ b, x < 256 := fun ha hb x hx => by
    rcases List.mem_append.1 hx with h | h
    · exact ha x h
    · exact hb x h
  have ky : ∀ x, ∀ b ∈ kyB x, b < 256 := fun x => ap (cntB_lt _) (cntB_lt _)
  exact ap (ap (cntB_lt _) (fl kyB _ ky)) (ap (ap (cntB_lt _) (fl spB _ (fun x => ap (cntB_lt _) (ap (cntB_lt _) (cntB_lt _))))) (ap (cntB_lt _) (fl kyB _ ky)))
theorem footBy_len4 {f : Ft} (h0 : kyOk f.r) (h1 : spOk f.s) (h2 : kyOk f.w) (l0 : f.r.length ≤ 1000) (l1 : f.s.length ≤ 1000) (l2 : f.w.length ≤ 1000) : (footBy f).length ≤ 1000000 := by
  have a1 := keysB_len h0 (by omega)
  have a2 := keysB_len h2 (by omega)
  have a3 := flat_len spB 30 f.s (fun x hx => spB_len (h1 x hx).1 (h1 x hx).2)
  have a4 := cntB_len64 (n := f.s.length) (by omega)
  unfold footBy
  simp only [List.length_append]
  omega
set_option maxHeartbeats 4000000 in
theorem Puts_any (hal : ∀ w, Calls Try.prog 5 #[] w fun e w' => e = .returned (.bool true) ∧ Below w.heap.size w w') (w : World) (f : Ft) (A0 : Option Addr) (n0 c0 : Nat) (A1 : Option Addr) (n1 c1 : Nat) (A2 : Option Addr) (n2 c2 : Nat)
    (m0 : n0 ≤ 9223372036854775807) (m1 : n1 ≤ 9223372036854775807) (m2 : n2 ≤ 9223372036854775807) (hf : (60 < n0 ∨ 60 < n1 ∨ 60 < n2) ∨ FtRd w f A0 n0 c0 A1 n1 c1 A2 n2 c2) (hi : FtOk f) :
    Calls Try.prog 3 #[.agg #[.slice A0 n0 c0, .slice A1 n1 c1, .slice A2 n2 c2]] w fun e w' => e = .returned (.bool true) ∧ Below w.heap.size w w' := by
  have Hal := hid hal
  have Hi := hid hi
  have Hf := hid hf
  clear hal hi hf
  have R0 := hid (blk_new w (.cells #[.slice A0 n0 c0, .slice A1 n1 c1, .slice A2 n2 c2] 25))
  go_enter Try.func3, Try.ntmps3
  go_wp2_with fail
  refine (Hal.out _).mono ?_
  rintro e w1 ⟨rfl, hb1⟩
  have R1 := hid (ext_blk hb1 R0.out)
  have E1 : Hid (Below w.heap.size w w1) := hid ((ext_alloc w _).trans (hb1.mono (by simp)))
  clear hb1
  have r0 := blk_cell R1.out 0
  have r1 := blk_cell R1.out 1
  have r2 := blk_cell R1.out 2
  simp at r0 r1 r2
  go_wp2_with fail
  refine (large1_any _ _ _ A0 n0 c0 A1 n1 c1 A2 n2 c2 ⟨_, blk_new w1 _⟩ m0 m1 m2).mono ?_
  rintro e w2 ⟨rfl, hb2⟩
  have R2 := hid (ext_blk hb2 (blk_alloc R1.out _))
  have E2 : Hid (Below w.heap.size w w2) := hid (E1.out.trans (((ext_alloc w1 _).trans (hb2.mono (by simp))).mono E1.out.size))
  clear hb2 r0 r1 r2
  by_cases hL : 60 < n0 ∨ 60 < n1 ∨ 60 < n2
  · rw [decide_eq_true hL]
    have HL := hid hL
    clear hL
    go_wp2
    go_ret
    exact ⟨rfl, E2.out⟩
  rw [decide_eq_false hL]
  have HF := hid (Hf.out.resolve_left hL)
  have s0 : n0 ≤ 60 := by omega
  have s1 : n1 ≤ 60 := by omega
  have s2 : n2 ≤ 60 := by omega
  clear hL Hf
  have r0 := blk_cell R2.out 0
  have r1 := blk_cell R2.out 1
  have r2 := blk_cell R2.out 2
  simp at r0 r1 r2
  go_wp2_with fail
  refine (copies_any w2 f A0 n0 c0 A1 n1 c1 A2 n2 c2 (HF.out.ext E2.out) (by omega) (by omega) (by omega)).mono ?_
  rintro e w3 ⟨B0, k0, d0, B1, k1, d1, B2, k2, d2, rfl, hg, hb3, _⟩
  have E3 : Hid (Below w.heap.size w w3) := hid (E2.out.trans (hb3.mono E2.out.size))
  have R3 := hid (blk_alloc (ext_blk hb3 R2.out) (.cells #[.slice B0 k0 d0, .slice B1 k1 d1, .slice B2 k2 d2] 25))
  have X3 := hid (blk_new w3 (.cells #[.slice B0 k0 d0, .slice B1 k1 d1, .slice B2 k2 d2] 25))
  have E4 : Hid (Below w.heap.size w (w3.alloc (.cells #[.slice B0 k0 d0, .slice B1 k1 d1, .slice B2 k2 d2] 25))) := hid (E3.out.trans ((ext_alloc _ _).mono E3.out.size))
  have G4 := hid (hg.ext (ext_alloc w3 (.cells #[.slice B0 k0 d0, .slice B1 k1 d1, .slice B2 k2 d2] 25)))
  have Hk0 := hid (hg.e0.trans HF.out.e0.symm)
  have Hk1 := hid (hg.e1.trans HF.out.e1.symm)
  have Hk2 := hid (hg.e2.trans HF.out.e2.symm)
  have t0 : k0 ≤ 60 := by have := Hk0.out; omega
  have t1 : k1 ≤ 60 := by have := Hk1.out; omega
  have t2 : k2 ≤ 60 := by have := Hk2.out; omega
  clear hg hb3 r0 r1 r2
  go_wp2_with fail
  have Hgr := hid (goodRef_eq Hi.out)
  cases hgd : goodB f with
  | false =>
    refine (Put_bad _ f B0 k0 d0 B1 k1 d1 B2 k2 d2 G4.out Hi.out hgd).mono ?_
    rintro e w5 ⟨rfl, hb5⟩
    have Hgr2 : Hid (goodRef f = false) := hid (by rw [← Hgr.out, hgd])
    have R5 := hid (ext_blk hb5 R3.out)
    have X5 := hid (ext_blk hb5 X3.out)
    have E5 : Hid (Below w.heap.size w w5) := hid (E4.out.trans (hb5.mono E4.out.size))
    have G5 := hid (G4.out.ext hb5)
    clear hb5 hgd
    have x0 := blk_cell X5.out 0
    have x1 := blk_cell X5.out 1
    have x2 := blk_cell X5.out 2
    have r0 := blk_cell R5.out 0
    have r1 := blk_cell R5.out 1
    have r2 := blk_cell R5.out 2
    simp at x0 x1 x2 r0 r1 r2
    go_wp2_with fail
    refine (Feet_eq w5 f B0 k0 d0 B1 k1 d1 B2 k2 d2 A0 n0 c0 A1 n1 c1 A2 n2 c2 G5.out (HF.out.ext E5.out)).mono ?_
    rintro e w6 ⟨rfl, hb6⟩
    have R6 := hid (ext_blk hb6 R5.out)
    have E6 : Hid (Below w.heap.size w w6) := hid (E5.out.trans (hb6.mono E5.out.size))
    clear hb6 x0 x1 x2 r0 r1 r2
    have r0 := blk_cell R6.out 0
    have r1 := blk_cell R6.out 1
    have r2 := blk_cell R6.out 2
    simp at r0 r1 r2
    go_wp2_with fail
    refine (RGood10_any w6 f A0 n0 c0 A1 n1 c1 A2 n2 c2 (HF.out.ext E6.out) Hi.out).mono ?_
    rintro e w7 ⟨rfl, hb7⟩
    rw [Hgr2.out]
    have E7 : Hid (Below w.heap.size w w7) := hid (E6.out.trans (hb7.mono E6.out.size))
    clear hb7 r0 r1 r2
    go_wp2
    go_ret
    exact ⟨rfl, E7.out⟩
  | true =>
    have Hgr2 : Hid (goodRef f = true) := hid (by rw [← Hgr.out, hgd])
    have Hgd := hid hgd
    have Hok := hid (good_ok hgd Hi.out)
    refine (Put_good _ f B0 k0 d0 B1 k1 d1 B2 k2 d2 G4.out Hi.out hgd (by omega)).mono ?_
    rintro e w5 ⟨P, pc, rfl, ho5, hpc, hpm, hpA, hb5⟩
    have R5 := hid (ext_blk hb5 R3.out)
    have X5 := hid (ext_blk hb5 X3.out)
    have E5 : Hid (Below w.heap.size w w5) := hid (E4.out.trans (hb5.mono E4.out.size))
    have G5 := hid (G4.out.ext hb5)
    have P5 := hid (own_rd ho5)
    have HpA := hid hpA
    have Hpc := hid hpc
    have Hpm := hid hpm
    clear hb5 hgd ho5 hpA hpc hpm
    have HpL := hid (footBy_len4 Hok.out.1 Hok.out.2.1 Hok.out.2.2 (by have := HF.out.e0; omega) (by have := HF.out.e1; omega) (by have := HF.out.e2; omega))
    have HpB := hid (footBy_lt' f)
    have HtP := hid (taken_put Hgd.out Hi.out (by have := HF.out.e0; omega) (by have := HF.out.e1; omega) (by have := HF.out.e2; omega))
    have x0 := blk_cell X5.out 0
    have x1 := blk_cell X5.out 1
    have x2 := blk_cell X5.out 2
    have r0 := blk_cell R5.out 0
    have r1 := blk_cell R5.out 1
    have r2 := blk_cell R5.out 2
    simp at x0 x1 x2 r0 r1 r2
    generalize hps : footBy f = ps at *
    have Hps := hid hps
    clear hps
    go_wp2_with fail
    refine (Feet_eq w5 f B0 k0 d0 B1 k1 d1 B2 k2 d2 A0 n0 c0 A1 n1 c1 A2 n2 c2 G5.out (HF.out.ext E5.out)).mono ?_
    rintro e w6 ⟨rfl, hb6⟩
    have R6 := hid (ext_blk hb6 R5.out)
    have E6 : Hid (Below w.heap.size w w6) := hid (E5.out.trans (hb6.mono E5.out.size))
    have P6 := hid (P5.out.ext hb6)
    clear hb6 x0 x1 x2 r0 r1 r2
    have r0 := blk_cell R6.out 0
    have r1 := blk_cell R6.out 1
    have r2 := blk_cell R6.out 2
    simp at r0 r1 r2
    go_wp2_with fail
    refine (RGood10_any w6 f A0 n0 c0 A1 n1 c1 A2 n2 c2 (HF.out.ext E6.out) Hi.out).mono ?_
    rintro e w7 ⟨rfl, hb7⟩
    rw [Hgr2.out]
    have E7 : Hid (Below w.heap.size w w7) := hid (E6.out.trans (hb7.mono E6.out.size))
    have R7 := hid (ext_blk hb7 R6.out)
    have P7 := hid (P6.out.ext hb7)
    clear hb7 r0 r1 r2
    go_wp2_with fail
    refine (Take_any w7 P ps.length pc ps rfl P7.out HpA.out (by have := HpL.out; omega) HpB.out).mono ?_
    rintro e w8 ⟨hb8, h8⟩
    rcases h8 with ⟨g, C0, l0, e0, C1, l1, e1, C2, l2, e2, hg, rfl, hgr, hgo, _, _⟩ | ⟨hg, _⟩
    · have hgf : g = f := by rw [HtP.out] at hg; simpa using hg.symm
      subst hgf
      have E8 : Hid (Below w.heap.size w w8) := hid (E7.out.trans (hb8.mono E7.out.size))
      have R8 := hid (blk_alloc (ext_blk hb8 R7.out) (.cells #[.slice C0 l0 e0, .slice C1 l1 e1, .slice C2 l2 e2] 25))
      have P8 := hid ((P7.out.ext hb8).ext (ext_alloc w8 (.cells #[.slice C0 l0 e0, .slice C1 l1 e1, .slice C2 l2 e2] 25)))
      have X8 := hid (blk_new w8 (.cells #[.slice C0 l0 e0, .slice C1 l1 e1, .slice C2 l2 e2] 25))
      have E8' : Hid (Below w.heap.size w (w8.alloc (.cells #[.slice C0 l0 e0, .slice C1 l1 e1, .slice C2 l2 e2] 25))) := hid (E8.out.trans ((ext_alloc _ _).mono E8.out.size))
      have G8 := hid (hgr.ext (ext_alloc w8 (.cells #[.slice C0 l0 e0, .slice C1 l1 e1, .slice C2 l2 e2] 25)))
      clear hb8 hg hgr hgo
      have r0 := blk_cell R8.out 0
      have r1 := blk_cell R8.out 1
      have r2 := blk_cell R8.out 2
      simp at r0 r1 r2
      go_wp2_with fail
      refine (Rput10_any _ g A0 n0 c0 A1 n1 c1 A2 n2 c2 (HF.out.ext E8'.out) Hok.out.1 Hok.out.2.1 Hok.out.2.2 (by omega) (by omega) (by omega)).mono ?_
      rintro e w9 ⟨Q, qc, rfl, ho9, _, _, _, hb9⟩
      rw [Hps.out] at ho9 ⊢
      have R9 := hid (ext_blk hb9 R8.out)
      have X9 := hid (ext_blk hb9 X8.out)
      have P9 := hid (P8.out.ext hb9)
      have Q9 := hid (own_rd ho9)
      have E9 : Hid (Below w.heap.size w w9) := hid (E8'.out.trans (hb9.mono E8'.out.size))
      have G9 := hid (G8.out.ext hb9)
      clear hb9 ho9 r0 r1 r2
      go_wp2_with fail
      refine (Same_any w9 P ps.length pc ps Q ps.length qc ps rfl rfl P9.out Q9.out HpB.out HpB.out).mono ?_
      rintro e w' ⟨rfl, rfl⟩
      rw [decide_eq_true rfl]
      have x0 := blk_cell X9.out 0
      have x1 := blk_cell X9.out 1
      have x2 := blk_cell X9.out 2
      have r0 := blk_cell R9.out 0
      have r1 := blk_cell R9.out 1
      have r2 := blk_cell R9.out 2
      simp at x0 x1 x2 r0 r1 r2
      go_wp2_with fail
      refine (Feet_eq w9 g C0 l0 e0 C1 l1 e1 C2 l2 e2 A0 n0 c0 A1 n1 c1 A2 n2 c2 G9.out (HF.out.ext E9.out)).mono ?_
      rintro e w10 ⟨rfl, hb10⟩
      have E10 : Hid (Below w.heap.size w w10) := hid (E9.out.trans (hb10.mono E9.out.size))
      clear hb10 x0 x1 x2 r0 r1 r2
      go_wp2
      go_ret
      exact ⟨rfl, E10.out⟩
    · rw [HtP.out] at hg
      cases hg
end Go.Proofs.Ytgnikijaihmeeaa
