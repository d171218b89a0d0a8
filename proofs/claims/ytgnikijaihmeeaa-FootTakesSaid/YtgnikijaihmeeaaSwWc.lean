/- slices.Equal at bytes. -/
import Derived.Test.YtgnikijaihmeeaaSwWb
open Go Go.RowKit
namespace Go.Proofs.Ytgnikijaihmeeaa
set_option linter.unusedVariables false
set_option linter.unusedSimpArgs false
set_option maxRecDepth 100000
theorem Equal_any (w : World) (A : Option Addr) (n c : Nat) (xs : List Nat) (B : Option Addr) (m d : Nat) (ys : List Nat) (hn : n = xs.length) (hm : m = ys.length) (hx : Rd w A (xs.map bv)) (hy : Rd w B (ys.map bv)) (hb : n ≤ 140737488355328) (hb2 : m ≤ 140737488355328) :
    Calls Try.prog 33 #[.slice A n c, .slice B m d] w fun e w' => e = .returned (.bool (decide (xs = ys))) ∧ Below w.heap.size w w' := by
  by_cases hl : n = m
  · subst hl
    have Hx := hid hx
    have Hy := hid hy
    have Hn := hid hn
    have Hm := hid hm
    clear hx hy hn hm hb2
    go_enter Try.func33, Try.ntmps33
    go_wp2
    go_loopw [13] (fun v13 wr => ∃ k : Nat, v13 = .int .i64 k ∧ k ≤ n ∧ Hid (xs.take k = ys.take k) ∧ Hid (Below w.heap.size w wr)) (fun v13 _ => n - (intOf v13).toNat)
    case atStart => exact ⟨0, rfl, Nat.zero_le _, hid rfl, Below.refl _ _⟩
    case round =>
      obtain ⟨k, rfl, hk, Ht, Hb⟩ := hrel
      by_cases hlt : k < n
      · have hkx : k < xs.length := by rw [← Hn.out]; exact hlt
        have hky : k < ys.length := by rw [← Hm.out]; exact hlt
        obtain ⟨b, o, rfl, _, hxc⟩ := Hx.out.addr (by simp; omega)
        obtain ⟨b', o', rfl, _, hyc⟩ := Hy.out.addr (by simp; omega)
        have c1 : wr.cell? ⟨b, o + k, none⟩ = some (.int .u8 (xs[k] : Nat)) := ext_cell Hb.out (hxc k (bv xs[k]) (by simp [hkx]))
        have c2 : wr.cell? ⟨b', o' + k, none⟩ = some (.int .u8 (ys[k] : Nat)) := ext_cell Hb.out (hyc k (bv ys[k]) (by simp [hky]))
        have Hkx := hid hkx
        have Hky := hid hky
        generalize hX : xs[k] = X at c1
        generalize hY : ys[k] = Y at c2
        have HX := hid hX
        have HY := hid hY
        clear hxc hyc hX hY hkx hky
        go_wp2
        go_quiet (fail)
        go_wp2
        · go_ret
          refine ⟨ret_bool ?_, below_drewN Hb.out _⟩
          have hXY : X ≠ Y := by
            rename_i h
            intro e
            simp [e] at h
          simp only [Bool.false_eq, decide_eq_false_iff_not]
          intro e
          subst e
          exact hXY (HX.out.symm.trans HY.out)
        · have hXY : X = Y := by
            rename_i h
            have h2 : (X : Int) = (Y : Int) := by simpa using h
            omega
          refine ⟨⟨k + 1, by go_num, by omega, ?_, hid (below_drewN Hb.out _)⟩, by simp [intOf]; omega⟩
          refine hid ?_
          rw [List.take_succ_eq_append_getElem Hkx.out, List.take_succ_eq_append_getElem Hky.out, Ht.out]
          have e : xs[k]'Hkx.out = ys[k]'Hky.out := (HX.out.trans hXY).trans HY.out.symm
          rw [e]
      · have hk' : k = n := by omega
        subst hk'
        go_wp2
        go_ret
        refine ⟨ret_bool ?_, Hb.out⟩
        have h := Ht.out
        rw [List.take_of_length_le (by rw [Hn.out]; exact Nat.le_refl _), List.take_of_length_le (by rw [Hm.out]; exact Nat.le_refl _)] at h
        simp [h]
  · have hne : xs ≠ ys := fun e => hl (by rw [hn, hm, e])
    have hl' : ((n : Int) == m) = false := by simp; omega
    have hl2 : ((n : Int) != m) = true := by simp; omega
    have Hne := hid hne
    clear hx hy hn hm hne
    go_enter Try.func33, Try.ntmps33
    go_wp2
    go_ret
    exact ⟨ret_bool (by simp [Hne.out]), Below.refl _ _⟩
end Go.Proofs.Ytgnikijaihmeeaa
