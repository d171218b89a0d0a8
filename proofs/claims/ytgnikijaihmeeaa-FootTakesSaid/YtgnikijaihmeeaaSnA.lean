/- Keys, feet and bytes side by side. -/
import Derived.Test.YtgnikijaihmeeaaSwFd
import Derived.Test.YtgnikijaihmeeaaSwVc
import Derived.Laws.StructEq
open Go Go.RowKit
namespace Go.Proofs.Ytgnikijaihmeeaa
set_option linter.unusedVariables false
set_option linter.unusedSimpArgs false
set_option maxRecDepth 100000
theorem Same_any (w : World) (A : Option Addr) (n c : Nat) (xs : List Nat) (B : Option Addr) (m d : Nat) (ys : List Nat) (hn : n = xs.length) (hm : m = ys.length) (hx : Rd w A (xs.map bv)) (hy : Rd w B (ys.map bv)) (hb : ∀ b ∈ xs, b < 256) (hb2 : ∀ b ∈ ys, b < 256) :
    Calls Try.prog 12 #[.slice A n c, .slice B m d] w fun e w' => e = .returned (.bool (decide (xs = ys))) ∧ w = w' := by
  have c1 := conv_str (P := Try.prog) w 29 9 5 Try.underlying29 Try.underlying5 Try.underlying9 A n c xs hn hb hx
  have c2 := conv_str (P := Try.prog) w 29 9 5 Try.underlying29 Try.underlying5 Try.underlying9 B m d ys hm hb2 hy
  have Hi := hid (fun h : ofB xs = ofB ys => ofB_inj hb hb2 h)
  clear hx hy hb hb2 hn hm
  have He := hid (show xs = ys → ofB xs = ofB ys from fun h => by rw [h])
  generalize ofB xs = s at *
  generalize ofB ys = t at *
  go_enter Try.func12, Try.ntmps12
  go_wp2
  go_ret
  refine ⟨ret_bool ?_, rfl⟩
  by_cases h : xs = ys
  · rw [decide_eq_true h, He.out h]
    simp
  · rw [decide_eq_false h]
    have : ¬ s = t := fun e => h (Hi.out e)
    have h2 : ¬ s.toList = t.toList := fun e => this (by
      rw [ByteArray.toList_eq, ByteArray.toList_eq] at e
      exact ByteArray.ext (Array.toList_inj.1 e))
    simpa using h2
theorem isAgg_int (w : World) : (isAgg 3).run Try.prog w = .ok false w := by kernel_rfl
theorem eqin_key (X Y : Ky) (w : World) : (Op.equalIn 10000 80 (kyV X) (kyV Y)).run Try.prog w = .ok (X.t == Y.t && X.k == Y.k) w := by
  rw [run_equalIn_agg w 9999 80 _ _ (by kernel_rfl) (by kernel_rfl)]
  simp [Program.fieldsOf, Try.underlying80, Op.eqFields, go_sem, part, Try.underlying3, isAgg_int]
  by_cases h1 : X.t = Y.t <;> by_cases h2 : X.k = Y.k <;> simp [h1, h2]
theorem eqin_span (X Y : Sp) (w : World) : (Op.equalIn 10000 46 (spV X) (spV Y)).run Try.prog w = .ok (X.t == Y.t && (X.lo == Y.lo && X.hi == Y.hi)) w := by
  rw [run_equalIn_agg w 9999 46 _ _ (by kernel_rfl) (by kernel_rfl)]
  simp [Program.fieldsOf, Try.underlying46, Op.eqFields, go_sem, part, Try.underlying3, isAgg_int]
  by_cases h1 : X.t = Y.t <;> by_cases h2 : X.lo = Y.lo <;> by_cases h3 : X.hi = Y.hi <;> simp [h1, h2, h3]
theorem guard_key : Try.prog.eqGuardType Try.prog.depth 80 = false := by kernel_rfl
theorem guard_span : Try.prog.eqGuardType Try.prog.depth 46 = false := by kernel_rfl
theorem neq_key (X Y : Ky) (w : World) : (binOp .neq 80 (kyV X) (kyV Y)).run Try.prog w = .ok (.bool (!(X.t == Y.t && X.k == Y.k))) w := by
  rw [run_neq_struct, eqin_key]
  rfl
theorem eql_key (X Y : Ky) (w : World) : (binOp .eql 80 (kyV X) (kyV Y)).run Try.prog w = .ok (.bool (X.t == Y.t && X.k == Y.k)) w := by
  rw [run_eql_struct, eqin_key]
  rfl
theorem neq_span (X Y : Sp) (w : World) : (binOp .neq 46 (spV X) (spV Y)).run Try.prog w = .ok (.bool (!(X.t == Y.t && (X.lo == Y.lo && X.hi == Y.hi)))) w := by
  rw [run_neq_struct, eqin_span]
  rfl
theorem eql_span (X Y : Sp) (w : World) : (binOp .eql 46 (spV X) (spV Y)).run Try.prog w = .ok (.bool (X.t == Y.t && (X.lo == Y.lo && X.hi == Y.hi))) w := by
  rw [run_eql_struct, eqin_span]
  rfl
theorem Keys_any (w : World) (A : Option Addr) (n c : Nat) (xs : List Ky) (B : Option Addr) (m d : Nat) (ys : List Ky) (hn : n = xs.length) (hm : m = ys.length) (hx : Rd w A (xs.flatMap kyC)) (hy : Rd w B (ys.flatMap kyC)) (hb : n ≤ 140737488355328) (hb2 : m ≤ 140737488355328) :
    Calls Try.prog 24 #[.slice A n c, .slice B m d] w fun e w' => e = .returned (.bool (decide (xs = ys))) ∧ Below w.heap.size w w' := by
  by_cases hl : n = m
  · subst hl
    have Hx := hid hx
    have Hy := hid hy
    have Hn := hid hn
    have Hm := hid hm
    clear hx hy hn hm hb2
    go_enter Try.func24, Try.ntmps24
    go_wp2
    go_loopw [13] (fun v13 wr => ∃ k : Nat, v13 = .int .i64 k ∧ k ≤ n ∧ Hid (xs.take k = ys.take k) ∧ Hid (Below w.heap.size w wr)) (fun v13 _ => n - (intOf v13).toNat)
    case atStart => exact ⟨0, rfl, Nat.zero_le _, hid rfl, Below.refl _ _⟩
    case round =>
      obtain ⟨k, rfl, hk, Ht, Hb⟩ := hrel
      by_cases hlt : k < n
      · have hkx : k < xs.length := by rw [← Hn.out]; exact hlt
        have hky : k < ys.length := by rw [← Hm.out]; exact hlt
        obtain ⟨b, o, rfl, hz1, hz2⟩ := Hx.out.addr (by rw [fm_len (s := 2) (fun _ => rfl)]; omega)
        obtain ⟨b', o', rfl, hz3, hz4⟩ := Hy.out.addr (by rw [fm_len (s := 2) (fun _ => rfl)]; omega)
        clear hz1 hz2 hz3 hz4
        obtain ⟨c1, c2⟩ := (Hx.out.ext Hb.out).ky (List.getElem?_eq_getElem hkx)
        obtain ⟨c3, c4⟩ := (Hy.out.ext Hb.out).ky (List.getElem?_eq_getElem hky)
        have Hkx := hid hkx
        have Hky := hid hky
        generalize hX : xs[k] = X at c1 c2
        generalize hY : ys[k] = Y at c3 c4
        have HX := hid hX
        have HY := hid hY
        clear hX hY hkx hky
        have hgd := guard_key
        have hq := fun w => neq_key X Y w
        simp only [kyV] at hq
        by_cases hXY : X.t = Y.t ∧ X.k = Y.k
        · have e0 : (!(X.t == Y.t && X.k == Y.k)) = false := by simp [hXY.1, hXY.2]
          rw [e0] at hq
          have HXY := hid hXY
          clear hXY e0
          go_wp2
          go_quiet (fail)
          go_wp2
          refine ⟨⟨k + 1, by go_num, by omega, ?_, hid (below_drewN Hb.out _)⟩, by simp [intOf]; omega⟩
          refine hid ?_
          rw [List.take_succ_eq_append_getElem Hkx.out, List.take_succ_eq_append_getElem Hky.out, Ht.out]
          have e1 : X = Y := by
            obtain ⟨a, b⟩ := X
            obtain ⟨a', b'⟩ := Y
            have h := HXY.out
            simp only at h
            rw [h.1, h.2]
          have e : xs[k]'Hkx.out = ys[k]'Hky.out := (HX.out.trans e1).trans HY.out.symm
          rw [e]
        · have e0 : (!(X.t == Y.t && X.k == Y.k)) = true := by
            by_cases h1 : X.t = Y.t
            · have h2 : X.k ≠ Y.k := fun h => hXY ⟨h1, h⟩
              simp [h2]
            · simp [h1]
          rw [e0] at hq
          have HXY := hid hXY
          clear hXY e0
          go_wp2
          go_quiet (fail)
          go_wp2
          go_ret
          refine ⟨ret_bool ?_, below_drewN Hb.out _⟩
          simp only [Bool.false_eq, decide_eq_false_iff_not]
          intro e
          subst e
          have e2 : X = Y := HX.out.symm.trans HY.out
          subst e2
          exact HXY.out ⟨rfl, rfl⟩
      · have hk' : k = n := by omega
        subst hk'
        go_wp2
        go_ret
        refine ⟨ret_bool ?_, Hb.out⟩
        have h := Ht.out
        rw [List.take_of_length_le (by rw [Hn.out]; exact Nat.le_refl _), List.take_of_length_le (by rw [Hm.out]; exact Nat.le_refl _)] at h
        simp [h]
  · have hne : xs ≠ ys := fun e => hl (by rw [hn, hm, e])
    have hl' : ((n : Int) == m) = false := by simp; omega
    have hl2 : ((n : Int) != m) = true := by simp; omega
    have Hne := hid hne
    clear hx hy hn hm hne
    go_enter Try.func24, Try.ntmps24
    go_wp2
    go_ret
    exact ⟨ret_bool (by simp [Hne.out]), Below.refl _ _⟩
end Go.Proofs.Ytgnikijaihmeeaa
