/- The same feet are found the same. -/
import Derived.Test.YtgnikijaihmeeaaSnA
open Go Go.RowKit
namespace Go.Proofs.Ytgnikijaihmeeaa
set_option linter.unusedVariables false
set_option linter.unusedSimpArgs false
set_option maxRecDepth 100000
set_option maxHeartbeats 4000000 in
theorem Feet_eq (w : World) (f : Ft) (A0 : Option Addr) (n0 c0 : Nat) (A1 : Option Addr) (n1 c1 : Nat) (A2 : Option Addr) (n2 c2 : Nat) (B0 : Option Addr) (m0 d0 : Nat) (B1 : Option Addr) (m1 d1 : Nat) (B2 : Option Addr) (m2 d2 : Nat) (hf : FtRd w f A0 n0 c0 A1 n1 c1 A2 n2 c2) (hg : FtRd w f B0 m0 d0 B1 m1 d1 B2 m2 d2) :
    Calls Try.prog 9 #[.agg #[.slice A0 n0 c0, .slice A1 n1 c1, .slice A2 n2 c2], .agg #[.slice B0 m0 d0, .slice B1 m1 d1, .slice B2 m2 d2]] w fun e w' => e = .returned (.bool true) ∧ Below w.heap.size w w' := by
  obtain rfl : n1 = m1 := hf.e1.trans hg.e1.symm
  have Hf := hid hf
  have Hg := hid hg
  have hb1 := hf.b1
  clear hf hg
  have RA := hid (blk_alloc (blk_new w (.cells #[.slice A0 n0 c0, .slice A1 n1 c1, .slice A2 n2 c2] 25)) (.cells #[.slice B0 m0 d0, .slice B1 n1 d1, .slice B2 m2 d2] 25))
  have RB := hid (blk_new (w.alloc (.cells #[.slice A0 n0 c0, .slice A1 n1 c1, .slice A2 n2 c2] 25)) (.cells #[.slice B0 m0 d0, .slice B1 n1 d1, .slice B2 m2 d2] 25))
  have E0 : Hid (Below w.heap.size w ((w.alloc (.cells #[.slice A0 n0 c0, .slice A1 n1 c1, .slice A2 n2 c2] 25)).alloc (.cells #[.slice B0 m0 d0, .slice B1 n1 d1, .slice B2 m2 d2] 25))) := hid (((Below.refl _ w).alloc (Nat.le_refl _) _).alloc (by simp) _)
  simp only [World.size_alloc] at RB
  go_enter Try.func9, Try.ntmps9
  go_wp2_with fail
  refine (Keys_any _ A0 n0 c0 f.r B0 m0 d0 f.r Hf.out.e0 Hg.out.e0 (Hf.out.r0.ext E0.out) (Hg.out.r0.ext E0.out) Hf.out.b0 Hg.out.b0).mono ?_
  rintro e w1 ⟨rfl, hk1⟩
  rw [decide_eq_true rfl]
  have RA1 := hid (ext_blk hk1 RA.out)
  have RB1 := hid (ext_blk hk1 RB.out)
  have E1 : Hid (Below w.heap.size w w1) := hid (E0.out.trans (hk1.mono E0.out.size))
  clear hk1
  have a2 := blk_cell RA1.out 2
  have b2 := blk_cell RB1.out 2
  simp at a2 b2
  go_wp2_with fail
  refine (Keys_any w1 A2 n2 c2 f.w B2 m2 d2 f.w Hf.out.e2 Hg.out.e2 (Hf.out.r2.ext E1.out) (Hg.out.r2.ext E1.out) Hf.out.b2 Hg.out.b2).mono ?_
  rintro e w2 ⟨rfl, hk2⟩
  rw [decide_eq_true rfl]
  have RA2 := hid (ext_blk hk2 RA1.out)
  have RB2 := hid (ext_blk hk2 RB1.out)
  have E2 : Hid (Below w.heap.size w w2) := hid (E1.out.trans (hk2.mono E1.out.size))
  clear hk2 a2 b2
  have a1 := blk_cell RA2.out 1
  have b1 := blk_cell RB2.out 1
  simp at a1 b1
  go_wp2
  go_loopw [32] (fun v32 wr => ∃ k : Nat, v32 = .int .i64 k ∧ k ≤ n1 ∧ Hid (Below w2.heap.size w2 wr)) (fun v32 _ => n1 - (intOf v32).toNat)
  case atStart => exact ⟨0, rfl, Nat.zero_le _, hid (Below.refl _ _)⟩
  case round =>
    clear a1 b1
    obtain ⟨k, rfl, hk, Hb⟩ := hrel
    have E3 : Hid (Below w.heap.size w wr) := hid (E2.out.trans (Hb.out.mono E2.out.size))
    by_cases hlt : k < n1
    · have hkx : k < f.s.length := by rw [← Hf.out.e1]; exact hlt
      obtain ⟨b, o, rfl, hz1, hz2⟩ := Hf.out.r1.addr (by rw [fm_len (s := 3) (fun _ => rfl)]; omega)
      obtain ⟨b', o', rfl, hz3, hz4⟩ := Hg.out.r1.addr (by rw [fm_len (s := 3) (fun _ => rfl)]; omega)
      clear hz1 hz2 hz3 hz4
      have a1 := blk_cell (ext_blk Hb.out RA2.out) 1
      have b1 := blk_cell (ext_blk Hb.out RB2.out) 1
      simp at a1 b1
      obtain ⟨g0, g1, g2⟩ := (Hf.out.r1.ext E3.out).sp (List.getElem?_eq_getElem hkx)
      obtain ⟨g3, g4, g5⟩ := (Hg.out.r1.ext E3.out).sp (List.getElem?_eq_getElem hkx)
      generalize f.s[k] = X at g0 g1 g2 g3 g4 g5
      have hgd := guard_span
      have hq := fun w => neq_span X X w
      simp only [spV, beq_self_eq_true, Bool.and_self, Bool.not_true] at hq
      clear hkx
      go_wp2
      go_quiet (fail)
      go_wp2
      refine ⟨⟨k + 1, by go_num, by omega, hid (below_drewN Hb.out _)⟩, by simp [intOf]; omega⟩
    · go_wp2
      go_ret
      exact ⟨rfl, E3.out⟩
end Go.Proofs.Ytgnikijaihmeeaa
