/- The walk of foot.spans. -/
import Derived.Test.YtgnikijaihmeeaaSjD
import Derived.Test.YtgnikijaihmeeaaSwFb
import Derived.Test.YtgnikijaihmeeaaSwI
import Derived.Test.YtgnikijaihmeeaaSfE
open Go Go.RowKit
namespace Go.Proofs.Ytgnikijaihmeeaa
set_option linter.unusedVariables false
set_option linter.unusedSimpArgs false
set_option maxRecDepth 100000
def spI (l : List Sp) : Prop := ∀ x ∈ l, (-9223372036854775808 ≤ x.t ∧ x.t ≤ 9223372036854775807) ∧ (-9223372036854775808 ≤ x.lo ∧ x.lo ≤ 9223372036854775807) ∧ (-9223372036854775808 ≤ x.hi ∧ x.hi ≤ 9223372036854775807)
/-- what the sort of spans does -/
def SortS : Prop := ∀ (w : World) (B : Nat) (A : Option Addr) (n c : Nat) (l : List Sp), w.ownsRow B 46 3 (.slice A n c) n (l.flatMap spC) → n ≤ 1000000 →
  Calls Try.prog 57 #[.slice A n c, .func (.func 45) #[] #[]] w fun e w' => e = .returned (.tuple #[]) ∧ w'.ownsRow B 46 3 (.slice A n c) n ((l.mergeSort sLe).flatMap spC) ∧ Kp (fun x => (Value.slice A n c).ownBlock ≠ some x) w w'
def SpansPost (w : World) (v : Value) (l : List Sp) (e : Ending) (w' : World) : Prop :=
  ∃ A' n' c', e = .returned (.slice A' n' c') ∧ n' = (spansJ l).length ∧ w'.ownsRow w.heap.size 46 3 (.slice A' n' c') n' ((spansJ l).flatMap spC) ∧ Kp (fun x => v.ownBlock ≠ some x) w w'
set_option maxHeartbeats 4000000 in
theorem spans_any (hs : SortS) (w : World) (B : Nat) (A : Option Addr) (n c : Nat) (l : List Sp) (ho : w.ownsRow B 46 3 (.slice A n c) n (l.flatMap spC)) (hn : n ≤ 1000000) (hr : hiIn l) :
    Calls Try.prog 43 #[.slice A n c] w (SpansPost w (.slice A n c) l) := by
  have hu := Try.underlying23
  have Hs := hid (hs w B A n c l ho hn)
  have Hl : Hid (l.length = n) := hid (by have := ho.1; rw [fm_len (s := 3) (fun _ => rfl)] at this; omega)
  have Hr := hid hr
  have hlt : ∀ k, (Value.slice A n c).ownBlock = some k → k < w.heap.size := fun k hk => by obtain ⟨_, cur, h⟩ := own_blk ho hk; exact heap_lt h
  have Hlt := hid hlt
  clear hs ho hr hlt
  go_enter Try.func43, Try.ntmps43
  go_wp2_with fail
  refine Hs.out.mono ?_
  rintro e w1 ⟨rfl, ho1, hk1⟩
  have Hsz := hid hk1.size
  have Hk1 := hid hk1
  have Rs := hid (own_rd ho1)
  have HS : Hid (hiIn (l.mergeSort sLe)) := hid fun x hx => Hr.out x (List.mem_mergeSort.1 hx)
  have HSl : Hid ((l.mergeSort sLe).length = n) := hid (by rw [List.length_mergeSort]; exact Hl.out)
  have Hj : Hid (spansJ l = (l.mergeSort sLe).foldl spStep []) := hid rfl
  generalize l.mergeSort sLe = S at *
  have Nil := hid (show w1.ownsRow w1.heap.size 46 3 (.slice none 0 0) 0 [] from ⟨rfl, .inl ⟨rfl, rfl⟩⟩)
  clear ho1 hk1
  go_wp2
  go_loopw [3, 11] (fun v3 v11 wr => ∃ (k m : Nat) (A' : Option Addr) (c' : Nat) (out : List Sp), v11 = .int .i64 k ∧ k ≤ n ∧ v3 = .slice A' m c' ∧ m = out.length ∧ m ≤ k ∧ Hid (out = (S.take k).foldl spStep []) ∧ Hid (wr.ownsRow w1.heap.size 46 3 (.slice A' m c') m (out.flatMap spC)) ∧ Hid (Below w1.heap.size w1 wr)) (fun _ v11 _ => n - (intOf v11).toNat)
  case atStart => exact ⟨0, 0, none, 0, [], rfl, Nat.zero_le _, rfl, rfl, Nat.le_refl _, hid rfl, Nil, hid (Below.refl _ _)⟩
  case round =>
    obtain ⟨k, m, A', c', out, rfl, hk, rfl, hm, hmk, Hd, Ho, Hb⟩ := hrel
    have Hm := hid hm
    clear hm
    by_cases hlt : k < n
    · have hkx : k < S.length := by rw [HSl.out]; exact hlt
      obtain ⟨b, o, rfl, hz1, hz2⟩ := Rs.out.addr (by rw [fm_len (s := 3) (fun _ => rfl)]; omega)
      have hbl : b < wr.heap.size := Nat.lt_of_lt_of_le hz1 Hb.out.size
      clear hz1 hz2
      have hx := List.getElem?_eq_getElem hkx
      have HXi := hid (HS.out S[k] (List.getElem_mem hkx))
      have HF := hid (fold_next hx)
      generalize S[k] = X at hx HXi HF
      obtain ⟨t, lo, hi⟩ := X
      obtain ⟨g0, g1, g2⟩ := (Rs.out.ext Hb.out).sp hx
      simp only at g0 g1 g2
      have hkn : (k : Int) < n := by omega
      clear hx hkx
      by_cases h1 : hi < lo
      · go_wp2
        refine ⟨⟨k + 1, m, A', c', out, by go_num, by omega, rfl, Hm.out, by omega, hid ?_, hid (own_ext Ho.out (ext_alloc _ _)), hid (Hb.out.trans ((ext_alloc _ _).mono Hb.out.size))⟩, by simp [intOf]; omega⟩
        rw [HF.out, spStep_rev h1]
        exact Hd.out
      have HnB := hid (blk_new wr (Obj.cells #[.int .i64 t, .int .i64 lo, .int .i64 hi] 46))
      have l0 : Hid (∀ w', Below (wr.alloc (Obj.cells #[.int .i64 t, .int .i64 lo, .int .i64 hi] 46)).heap.size (wr.alloc (Obj.cells #[.int .i64 t, .int .i64 lo, .int .i64 hi] 46)) w' → w'.cell? ⟨wr.heap.size, 0, none⟩ = some (.int .i64 t)) := hid fun w' h => ext_cell h (blk_cell HnB.out 0)
      have l1 : Hid (∀ w', Below (wr.alloc (Obj.cells #[.int .i64 t, .int .i64 lo, .int .i64 hi] 46)).heap.size (wr.alloc (Obj.cells #[.int .i64 t, .int .i64 lo, .int .i64 hi] 46)) w' → w'.cell? ⟨wr.heap.size, 1, none⟩ = some (.int .i64 lo)) := hid fun w' h => ext_cell h (blk_cell HnB.out 1)
      have l2 : Hid (∀ w', Below (wr.alloc (Obj.cells #[.int .i64 t, .int .i64 lo, .int .i64 hi] 46)).heap.size (wr.alloc (Obj.cells #[.int .i64 t, .int .i64 lo, .int .i64 hi] 46)) w' → w'.cell? ⟨wr.heap.size, 2, none⟩ = some (.int .i64 hi)) := hid fun w' h => ext_cell h (blk_cell HnB.out 2)
      have OW := hid (own_ext Ho.out (ext_alloc wr (Obj.cells #[.int .i64 t, .int .i64 lo, .int .i64 hi] 46)))
      have EW : Hid (Below w1.heap.size w1 (wr.alloc (Obj.cells #[.int .i64 t, .int .i64 lo, .int .i64 hi] 46))) := hid (Hb.out.trans ((ext_alloc _ _).mono Hb.out.size))
      rcases List.eq_nil_or_concat out with rfl | ⟨I, Y, rfl⟩
      · obtain rfl : m = 0 := Hm.out
        go_wp2
        refine wp_region_ext (by kernel_rfl) (by kernel_rfl) ?_
        generalize wr.alloc (Obj.cells #[.int .i64 t, .int .i64 lo, .int .i64 hi] 46) = W at *
        clear g0 g1 g2
        repeat ((with_reducible refine wpQuiet_step (fun K hK => ?_)); go_simp; first | (refine hK _ ?_; clear hK K) | (refine ⟨_, fun w' hw' => rfl, hK _ ?_⟩; clear hK K) | (apply Exists.intro; refine ⟨fun w' hw' => ?_, hK _ ?_⟩; (first | (go_at_call 46; exact call_ext hw' (apart_any _ _ _ (HXi.out).1 (HXi.out).2)) | (have q0 := l0.out w' hw'; have q1 := l1.out w' hw'; have q2 := l2.out w' hw'; go_simp; rfl)); clear hK K))
        refine wpQuiet_nil ?_
        intro w2 hw2
        have z0 := l0.out w2 hw2
        have z1 := l1.out w2 hw2
        have z2 := l2.out w2 hw2
        have O2 := hid (own_ext OW.out hw2)
        have E2 : Hid (Below w1.heap.size w1 w2) := hid (EW.out.trans (hw2.mono EW.out.size))
        clear hw2
        go_wp2_with (at_builtin; refine wl_ap rfl rfl w1.heap.size 46 hu info_span rfl (by decide) (.slice A' 0 c') 0 [] rfl (own_ext O2.out (ext_alloc _ _)) (some ⟨w2.heap.size, 0, none⟩) 1 1 (spC ⟨t, lo, hi⟩) rfl rfl (rd_new w2 (spC ⟨t, lo, hi⟩) 46) (fun u hu => by simp [spC] at hu; rcases hu with rfl | rfl | rfl <;> rfl) (by unfold maxLen; omega) (by omega) (by have := E2.out.size; simp; omega) ?_; intro A3 c3 w3 _ _ hown hkp hhop; have O3 := hid hown; have E3 := hid (own_below (E2.out.trans ((ext_alloc _ _).mono E2.out.size)) hkp (own_ext O2.out (ext_alloc _ _)) (Nat.le_refl _)); clear hown hkp hhop)
        refine ⟨⟨k + 1, 1, A3, c3, [⟨t, lo, hi⟩], by go_num, by omega, rfl, rfl, by omega, hid ?_, hid (by simpa using O3.out), E3⟩, by simp [intOf]; omega⟩
        rw [HF.out, ← Hd.out, spStep_nil (by simp only; omega)]
      · rw [List.concat_eq_append] at *
        have HY : Hid (-9223372036854775808 ≤ Y.hi ∧ Y.hi ≤ 9223372036854775807) := hid (by
          have h9 := foldl_in (S.take k) [] (fun x hx => by simp at hx) (fun x hx => HS.out x (List.mem_of_mem_take hx))
          rw [← Hd.out] at h9
          exact h9 Y (by simp))
        obtain ⟨g, rfl, hgl⟩ : ∃ g, A' = some ⟨g, 0, none⟩ ∧ g < wr.heap.size := by
          rcases Ho.out.2 with ⟨hv, h0⟩ | ⟨g, cap, cur, hv, _, hg, _⟩
          · have := Hm.out; rw [h0] at this; simp at this
          · simp only [Value.slice.injEq] at hv
            exact ⟨g, hv.1, heap_lt hg⟩
        have hq : I.length < m := by have := Hm.out; simp at this; omega
        obtain ⟨y0, y1, y2⟩ := (own_rd Ho.out).sp (i := I.length) (x := Y) (by simp)
        rw [Nat.zero_add] at y0 y1 y2
        have HmI : Hid (m = I.length + 1) := hid (by have := Hm.out; simpa using this)
        have ES : Hid (∀ v : Int, ((I ++ [Y]).flatMap spC).set (I.length * 3 + 2) (.int .i64 v) = (I ++ [(⟨Y.t, Y.lo, v⟩ : Sp)]).flatMap spC) := hid (set_last I Y)
        have HI := hid (rfl : I.length = I.length)
        generalize hql : I.length = q at y0 y1 y2 hq HmI ES
        have Hql := hid hql
        clear hql
        obtain rfl : m = q + 1 := HmI.out
        have m0 : Hid (∀ w', Below (wr.alloc (Obj.cells #[.int .i64 t, .int .i64 lo, .int .i64 hi] 46)).heap.size (wr.alloc (Obj.cells #[.int .i64 t, .int .i64 lo, .int .i64 hi] 46)) w' → w'.cell? ⟨g, q * 3, none⟩ = some (.int .i64 Y.t)) := hid fun w' h => ext_cell h (ext_cell (ext_alloc _ _) y0)
        have m1 : Hid (∀ w', Below (wr.alloc (Obj.cells #[.int .i64 t, .int .i64 lo, .int .i64 hi] 46)).heap.size (wr.alloc (Obj.cells #[.int .i64 t, .int .i64 lo, .int .i64 hi] 46)) w' → w'.cell? ⟨g, q * 3 + 1, none⟩ = some (.int .i64 Y.lo)) := hid fun w' h => ext_cell h (ext_cell (ext_alloc _ _) y1)
        have m2 : Hid (∀ w', Below (wr.alloc (Obj.cells #[.int .i64 t, .int .i64 lo, .int .i64 hi] 46)).heap.size (wr.alloc (Obj.cells #[.int .i64 t, .int .i64 lo, .int .i64 hi] 46)) w' → w'.cell? ⟨g, q * 3 + 2, none⟩ = some (.int .i64 Y.hi)) := hid fun w' h => ext_cell h (ext_cell (ext_alloc _ _) y2)
        have hwm : IntKind.i64.wrap (q : Int) = q := by rw [IntKind.wrap_i64]; omega
        have hqn : ¬ (q : Int) < 0 := by omega
        have hqm : (q : Int) < (q : Int) + 1 := by omega
        have HA := hid (apart_any Y ⟨t, lo, hi⟩)
        cases hap : apartB Y ⟨t, lo, hi⟩ with
        | true =>
          rw [hap] at HA
          have HN := hid (show (S.take (k + 1)).foldl spStep [] = (I ++ [Y]) ++ [⟨t, lo, hi⟩] by rw [HF.out, ← Hd.out]; exact spStep_ap (by simp only; omega) I hap)
          clear hap
          go_wp2
          refine wp_region_ext (by kernel_rfl) (by kernel_rfl) ?_
          generalize wr.alloc (Obj.cells #[.int .i64 t, .int .i64 lo, .int .i64 hi] 46) = W at *
          clear g0 g1 g2 y0 y1 y2
          repeat ((with_reducible refine wpQuiet_step (fun K hK => ?_)); go_simp; first | (refine hK _ ?_; clear hK K) | (refine ⟨_, fun w' hw' => rfl, hK _ ?_⟩; clear hK K) | (apply Exists.intro; refine ⟨fun w' hw' => ?_, hK _ ?_⟩; (first | (go_at_call 46; exact call_ext hw' (HA.out _ (HY.out).1 (HY.out).2)) | (have q0 := l0.out w' hw'; have q1 := l1.out w' hw'; have q2 := l2.out w' hw'; have q3 := m0.out w' hw'; have q4 := m1.out w' hw'; have q5 := m2.out w' hw'; go_simp; rfl)); clear hK K))
          refine wpQuiet_nil ?_
          intro w2 hw2
          have z0 := l0.out w2 hw2
          have z1 := l1.out w2 hw2
          have z2 := l2.out w2 hw2
          have O2 := hid (own_ext OW.out hw2)
          have E2 : Hid (Below w1.heap.size w1 w2) := hid (EW.out.trans (hw2.mono EW.out.size))
          clear hw2
          go_wp2_with (at_builtin; refine wl_ap rfl rfl w1.heap.size 46 hu info_span rfl (by decide) (.slice (some ⟨g, 0, none⟩) (q + 1) c') (q + 1) ((I ++ [Y]).flatMap spC) rfl (own_ext O2.out (ext_alloc _ _)) (some ⟨w2.heap.size, 0, none⟩) 1 1 (spC ⟨t, lo, hi⟩) rfl rfl (rd_new w2 (spC ⟨t, lo, hi⟩) 46) (fun u hu => by simp [spC] at hu; rcases hu with rfl | rfl | rfl <;> rfl) (by unfold maxLen; omega) (by omega) (by have := E2.out.size; simp; omega) ?_; intro A3 c3 w3 _ _ hown hkp hhop; have O3 := hid hown; have E3 := hid (own_below (E2.out.trans ((ext_alloc _ _).mono E2.out.size)) hkp (own_ext O2.out (ext_alloc _ _)) (Nat.le_refl _)); clear hown hkp hhop)
          refine ⟨⟨k + 1, q + 1 + 1, A3, c3, (I ++ [Y]) ++ [⟨t, lo, hi⟩], by go_num, by omega, rfl, by have := Hm.out; simp at this ⊢; omega, by omega, hid HN.out.symm, hid (by have := O3.out; simpa using this), E3⟩, by simp [intOf]; omega⟩
        | false =>
          rw [hap] at HA
          have HN := hid (show (S.take (k + 1)).foldl spStep [] = I ++ [⟨Y.t, Y.lo, max Y.hi hi⟩] by rw [HF.out, ← Hd.out]; exact spStep_mg (by simp only; omega) I hap)
          clear hap
          go_wp2
          refine wp_region_ext (by kernel_rfl) (by kernel_rfl) ?_
          generalize wr.alloc (Obj.cells #[.int .i64 t, .int .i64 lo, .int .i64 hi] 46) = W at *
          clear g0 g1 g2 y0 y1 y2
          repeat ((with_reducible refine wpQuiet_step (fun K hK => ?_)); go_simp; first | (refine hK _ ?_; clear hK K) | (refine ⟨_, fun w' hw' => rfl, hK _ ?_⟩; clear hK K) | (apply Exists.intro; refine ⟨fun w' hw' => ?_, hK _ ?_⟩; (first | (go_at_call 46; exact call_ext hw' (HA.out _ (HY.out).1 (HY.out).2)) | (have q0 := l0.out w' hw'; have q1 := l1.out w' hw'; have q2 := l2.out w' hw'; have q3 := m0.out w' hw'; have q4 := m1.out w' hw'; have q5 := m2.out w' hw'; go_simp; rfl)); clear hK K))
          refine wpQuiet_nil ?_
          intro w2 hw2
          have z0 := l0.out w2 hw2
          have z1 := l1.out w2 hw2
          have z2 := l2.out w2 hw2
          have x0 := m0.out w2 hw2
          have x1 := m1.out w2 hw2
          have x2 := m2.out w2 hw2
          have O2 := hid (own_ext OW.out hw2)
          have E2 : Hid (Below w1.heap.size w1 w2) := hid (EW.out.trans (hw2.mono EW.out.size))
          have fz : w2.frozen? ⟨g, q * 3 + 2, none⟩ = false := by
            obtain ⟨_, cur, hg⟩ := own_blk O2.out (k := g) rfl
            exact blk_free hg _
          clear hw2
          go_wp2
          go_region
          go_wp2
          have OS := own_set (i := q * 3 + 2) O2.out (.int .i64 (max Y.hi hi))
          rw [ES.out] at OS
          refine ⟨⟨k + 1, q + 1, some ⟨g, 0, none⟩, c', I ++ [⟨Y.t, Y.lo, max Y.hi hi⟩], by go_num, by omega, rfl, by have := Hm.out; simp at this ⊢; omega, by omega, hid HN.out.symm, hid (own_ext OS (ext_drew _)), hid ?_⟩, by simp [intOf]; omega⟩
          have hg := (own_blk O2.out (k := g) rfl).1
          exact (E2.out.trans ((kp_set w2 g (q * 3 + 2) (.int .i64 (max Y.hi hi))).below E2.out.size (fun x hx e => by omega))).drew
    · go_wp2
      go_ret
      have hk' : k = n := by omega
      subst hk'
      refine ⟨A', m, c', rfl, ?_, ?_, ?_⟩
      · rw [Hj.out, Hm.out, Hd.out, List.take_of_length_le (by rw [HSl.out]; exact Nat.le_refl _)]
      · have := own_base Ho.out (base' := w.heap.size) (fun k hk => Nat.le_trans Hsz.out (own_blk Ho.out hk).1)
        rw [Hj.out]
        rw [Hd.out, List.take_of_length_le (by rw [HSl.out]; exact Nat.le_refl _)] at this
        exact this
      · exact Hk1.out.trans2 (Kp.of_below Hb.out) (fun i hi _ => Nat.lt_of_lt_of_le hi Hsz.out)
end Go.Proofs.Ytgnikijaihmeeaa
