/- The walk of the law FootTakes. -/
import Derived.Test.YtgnikijaihmeeaaSrI
import Derived.Test.YtgnikijaihmeeaaSfI
import Derived.Test.YtgnikijaihmeeaaSjH
open Go Go.RowKit
namespace Go.Proofs.Ytgnikijaihmeeaa
set_option linter.unusedVariables false
set_option linter.unusedSimpArgs false
set_option maxRecDepth 100000
set_option maxHeartbeats 4000000 in
theorem Takes_any (hal : ∀ w, Calls Try.prog 5 #[] w fun e w' => e = .returned (.bool true) ∧ Below w.heap.size w w') (w : World) (A : Option Addr) (n c : Nat) (bs : List Nat)
    (hnm : n ≤ 9223372036854775807) (hf : 3000 < n ∨ (n = bs.length ∧ Rd w A (bs.map bv) ∧ (A = none → n = 0 ∧ c = 0))) (hby : ∀ b ∈ bs, b < 256) :
    Calls Try.prog 4 #[.slice A n c] w fun e w' => e = .returned (.bool true) ∧ Below w.heap.size w w' := by
  have Hal := hid hal
  have Hf := hid hf
  have Hby := hid hby
  clear hal hf hby
  by_cases hL : 3000 < n
  · have hL2 : (3000 : Int) < n := by omega
    go_enter Try.func4, Try.ntmps4
    go_wp2_with fail
    refine (Hal.out _).mono ?_
    rintro e w1 ⟨rfl, hb1⟩
    have E1 := hid hb1
    clear hb1
    go_wp2
    go_ret
    exact ⟨rfl, E1.out⟩
  · have hL2 : ¬ (3000 : Int) < n := by omega
    obtain ⟨rfl, hr, hA⟩ := Hf.out.resolve_left hL
    have Hr := hid hr
    have HA := hid hA
    have HTR := hid (takenR_eq (bs := bs) Hby.out (by omega))
    clear hr hA hL Hf
    go_enter Try.func4, Try.ntmps4
    go_wp2_with fail
    refine (Hal.out _).mono ?_
    rintro e w1 ⟨rfl, hb1⟩
    have E1 := hid hb1
    clear hb1
    go_wp2_with fail
    refine (Copy_any w1 A c bs (Hr.out.ext E1.out) (by omega)).mono ?_
    rintro e w2 ⟨g, c', rfl, ho, hnc, hcm, hb2⟩
    have O2 := hid (own_base ho (base' := w.heap.size) (fun k hk => Nat.le_trans E1.out.size (own_blk ho hk).1))
    have E2 : Hid (Below w.heap.size w w2) := hid (E1.out.trans (hb2.mono E1.out.size))
    have Hnc := hid hnc
    have Hcm := hid hcm
    clear ho hnc hcm hb2
    go_wp2_with fail
    refine (Take_any w2 (some ⟨g, 0, none⟩) bs.length c' bs rfl (own_rd O2.out).left (fun h => by cases h) (by omega) Hby.out).mono ?_
    rintro e w3 ⟨hb3, hcase⟩
    have E3 : Hid (Below w.heap.size w w3) := hid (E2.out.trans (hb3.mono E2.out.size))
    have O3 := hid (own_ext O2.out hb3)
    clear hb3
    rcases hcase with ⟨f, A0, n0, c0, A1, n1, c1, A2, n2, c2, ht, rfl, hft, hfo, hnn, _⟩ | ⟨ht, rfl⟩
    · have Hft := hid hft
      have Hfo := hid hfo
      have Ht := hid ht
      have HTf : Hid (goodB f = true ∧ footBy f = bs) := hid (by
        have h := ht
        unfold takenF at h
        split at h
        · rename_i hh
          simp only [Option.some.injEq] at h
          subst h
          exact ⟨hh.1, hh.2.2⟩
        · cases h)
      clear ht hft hfo
      go_wp2_with fail
      have E4 : Hid (Below w.heap.size w (w3.alloc (.cells #[.slice A0 n0 c0, .slice A1 n1 c1, .slice A2 n2 c2] 25))) := hid (E3.out.trans ((ext_alloc _ _).mono E3.out.size))
      have B4 := hid (blk_new w3 (.cells #[.slice A0 n0 c0, .slice A1 n1 c1, .slice A2 n2 c2] 25))
      have O4 := hid (own_ext O3.out (ext_alloc w3 (.cells #[.slice A0 n0 c0, .slice A1 n1 c1, .slice A2 n2 c2] 25)))
      have F4 := hid (Hft.out.ext (ext_alloc w3 (.cells #[.slice A0 n0 c0, .slice A1 n1 c1, .slice A2 n2 c2] 25)))
      refine (Take3_any _ A c bs (Hr.out.ext E4.out) (by omega) Hby.out).mono ?_
      rintro e w5 ⟨hb5, hcase⟩
      rcases hcase with ⟨f', P0, m0, k0, P1, m1, k1, P2, m2, k2, ht', rfl, hft'⟩ | ⟨ht', rfl⟩
      · obtain rfl : f = f' := by rw [HTR.out, Ht.out] at ht'; simpa using ht'
        have E5 : Hid (Below w.heap.size w w5) := hid (E4.out.trans (hb5.mono E4.out.size))
        have E6 : Hid (Below w.heap.size w (w5.alloc (.cells #[.slice P0 m0 k0, .slice P1 m1 k1, .slice P2 m2 k2] 25))) := hid (E5.out.trans ((ext_alloc _ _).mono E5.out.size))
        have B6 := hid (blk_alloc (ext_blk hb5 B4.out) (.cells #[.slice P0 m0 k0, .slice P1 m1 k1, .slice P2 m2 k2] 25))
        have C6 := hid (blk_new w5 (.cells #[.slice P0 m0 k0, .slice P1 m1 k1, .slice P2 m2 k2] 25))
        have O6 := hid (own_ext (own_ext O4.out hb5) (ext_alloc w5 (.cells #[.slice P0 m0 k0, .slice P1 m1 k1, .slice P2 m2 k2] 25)))
        have F6 := hid ((F4.out.ext hb5).ext (ext_alloc w5 (.cells #[.slice P0 m0 k0, .slice P1 m1 k1, .slice P2 m2 k2] 25)))
        have G6 := hid (hft'.ext (ext_alloc w5 (.cells #[.slice P0 m0 k0, .slice P1 m1 k1, .slice P2 m2 k2] 25)))
        clear hb5 hft' ht'
        have a0 := blk_cell B6.out 0
        have a1 := blk_cell B6.out 1
        have a2 := blk_cell B6.out 2
        have b0 := blk_cell C6.out 0
        have b1 := blk_cell C6.out 1
        have b2 := blk_cell C6.out 2
        simp at a0 a1 a2 b0 b1 b2
        go_wp2_with fail
        refine (Kept_any _ w.heap.size g c' A c bs O6.out Hnc.out Hcm.out (Hr.out.ext E6.out) (by omega) Hby.out).mono ?_
        rintro e w7 ⟨rfl, rfl⟩
        go_wp2_with fail
        refine (Feet_eq _ f _ _ _ _ _ _ _ _ _ _ _ _ _ _ _ _ _ _ F6.out G6.out).mono ?_
        rintro e w8 ⟨rfl, hb8⟩
        have E8 : Hid (Below w.heap.size w w8) := hid (E6.out.trans (hb8.mono E6.out.size))
        have B8 := hid (ext_blk hb8 B6.out)
        have F8 := hid (F6.out.ext hb8)
        clear hb8 a0 a1 a2 b0 b1 b2
        have a0 := blk_cell B8.out 0
        have a1 := blk_cell B8.out 1
        have a2 := blk_cell B8.out 2
        simp at a0 a1 a2
        go_wp2_with fail
        refine (Put_good w8 f A0 n0 c0 A1 n1 c1 A2 n2 c2 F8.out Hfo.out HTf.out.1 (by have := F8.out.e0; have := F8.out.e1; have := F8.out.e2; have h9 := footBy_ge' f; rw [HTf.out.2] at h9; omega)).mono ?_
        rintro e w9 ⟨P, pc, rfl, ho9, _, _, _, hb9⟩
        have E9 : Hid (Below w.heap.size w w9) := hid (E8.out.trans (hb9.mono E8.out.size))
        have P9 := hid (own_rd ho9)
        have DT : Hid (decide (footBy f = bs) = true) := hid (decide_eq_true HTf.out.2)
        clear ho9 hb9 a0 a1 a2
        go_wp2_with fail
        refine (Same_any w9 P _ pc (footBy f) A bs.length c bs rfl rfl P9.out (Hr.out.ext E9.out) (footBy_lt' f) Hby.out).mono ?_
        rintro e w10 ⟨rfl, rfl⟩
        rw [DT.out]
        go_wp2
        go_ret
        exact ⟨rfl, E9.out⟩
      · exact absurd (ht'.symm.trans (HTR.out.trans Ht.out)) (by simp)
    · have Ht := hid ht
      clear ht
      go_wp2_with fail
      have E4 : Hid (Below w.heap.size w (w3.alloc (.cells #[.slice none 0 0, .slice none 0 0, .slice none 0 0] 25))) := hid (E3.out.trans ((ext_alloc _ _).mono E3.out.size))
      have B4 := hid (blk_new w3 (.cells #[.slice none 0 0, .slice none 0 0, .slice none 0 0] 25))
      have O4 := hid (own_ext O3.out (ext_alloc w3 (.cells #[.slice none 0 0, .slice none 0 0, .slice none 0 0] 25)))
      refine (Take3_any _ A c bs (Hr.out.ext E4.out) (by omega) Hby.out).mono ?_
      rintro e w5 ⟨hb5, hcase⟩
      rcases hcase with ⟨f', P0, m0, k0, P1, m1, k1, P2, m2, k2, ht', rfl, hft'⟩ | ⟨ht', rfl⟩
      · exact absurd (ht'.symm.trans (HTR.out.trans Ht.out)) (by simp)
      · have E5 : Hid (Below w.heap.size w w5) := hid (E4.out.trans (hb5.mono E4.out.size))
        have E6 : Hid (Below w.heap.size w (w5.alloc (.cells #[.slice none 0 0, .slice none 0 0, .slice none 0 0] 25))) := hid (E5.out.trans ((ext_alloc _ _).mono E5.out.size))
        have B6 := hid (blk_alloc (ext_blk hb5 B4.out) (.cells #[.slice none 0 0, .slice none 0 0, .slice none 0 0] 25))
        have C6 := hid (blk_new w5 (.cells #[.slice none 0 0, .slice none 0 0, .slice none 0 0] 25))
        have O6 := hid (own_ext (own_ext O4.out hb5) (ext_alloc w5 (.cells #[.slice none 0 0, .slice none 0 0, .slice none 0 0] 25)))
        clear hb5 ht'
        have a0 := blk_cell B6.out 0
        have a1 := blk_cell B6.out 1
        have a2 := blk_cell B6.out 2
        have b0 := blk_cell C6.out 0
        have b1 := blk_cell C6.out 1
        have b2 := blk_cell C6.out 2
        simp at a0 a1 a2 b0 b1 b2
        unfold errno
        go_wp2_with fail
        refine (Kept_any _ w.heap.size g c' A c bs O6.out Hnc.out Hcm.out (Hr.out.ext E6.out) (by omega) Hby.out).mono ?_
        rintro e w7 ⟨rfl, rfl⟩
        go_wp2_with fail
        refine (IsN_errno _ 2 rfl (by omega) (by omega)).mono ?_
        rintro e w7 ⟨rfl, rfl⟩
        go_wp2_with fail
        refine (Feet_eq _ ⟨[], [], []⟩ none 0 0 none 0 0 none 0 0 none 0 0 none 0 0 none 0 0 ⟨rfl, rfl, rfl, by omega, by omega, by omega, Rd.nil _ _, Rd.nil _ _, Rd.nil _ _⟩ ⟨rfl, rfl, rfl, by omega, by omega, by omega, Rd.nil _ _, Rd.nil _ _, Rd.nil _ _⟩).mono ?_
        rintro e w8 ⟨rfl, hb8⟩
        have E8 : Hid (Below w.heap.size w w8) := hid (E6.out.trans (hb8.mono E6.out.size))
        clear hb8
        go_wp2
        go_ret
        exact ⟨rfl, E8.out⟩
end Go.Proofs.Ytgnikijaihmeeaa
