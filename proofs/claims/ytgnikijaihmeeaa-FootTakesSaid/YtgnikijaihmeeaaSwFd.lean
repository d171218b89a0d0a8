/- The walk of foot.Good. -/
import Derived.Test.YtgnikijaihmeeaaSwFc
open Go Go.RowKit
namespace Go.Proofs.Ytgnikijaihmeeaa
set_option linter.unusedVariables false
set_option linter.unusedSimpArgs false
set_option maxRecDepth 100000
/-- are spans in order, of tables that are, behind p? -/
def spnF : Option Sp → List Sp → Bool
  | _, [] => true
  | p, x :: r => tableB x.t && (!decide (x.hi < x.lo) && ((match p with | none => true | some q => decide (cmpSpan q x < 0) && apartB q x) && spnF (some x) r))
theorem spnF_cons (p : Option Sp) (x : Sp) (r : List Sp) : spnF p (x :: r) = (tableB x.t && (!decide (x.hi < x.lo) && ((match p with | none => true | some q => decide (cmpSpan q x < 0) && apartB q x) && spnF (some x) r))) := by cases p <;> rfl
structure Ft where
  r : List Ky
  s : List Sp
  w : List Ky
def goodB (f : Ft) : Bool := spnF none f.s && (risB f.r && risB f.w)
def inI (a : Int) : Prop := -9223372036854775808 ≤ a ∧ a ≤ 9223372036854775807
/-- a foot's value, read -/
structure FtRd (w : World) (f : Ft) (A0 : Option Addr) (n0 c0 : Nat) (A1 : Option Addr) (n1 c1 : Nat) (A2 : Option Addr) (n2 c2 : Nat) : Prop where
  e0 : n0 = f.r.length
  e1 : n1 = f.s.length
  e2 : n2 = f.w.length
  b0 : n0 ≤ 140737488355328
  b1 : n1 ≤ 140737488355328
  b2 : n2 ≤ 140737488355328
  r0 : Rd w A0 (f.r.flatMap kyC)
  r1 : Rd w A1 (f.s.flatMap spC)
  r2 : Rd w A2 (f.w.flatMap kyC)
theorem FtRd.ext {w w' : World} {f : Ft} {A0 A1 A2 : Option Addr} {n0 c0 n1 c1 n2 c2 : Nat} (h : FtRd w f A0 n0 c0 A1 n1 c1 A2 n2 c2) (hb : Below w.heap.size w w') : FtRd w' f A0 n0 c0 A1 n1 c1 A2 n2 c2 :=
  ⟨h.e0, h.e1, h.e2, h.b0, h.b1, h.b2, h.r0.ext hb, h.r1.ext hb, h.r2.ext hb⟩
set_option maxHeartbeats 4000000 in
theorem Good_any (w : World) (f : Ft) (A0 : Option Addr) (n0 c0 : Nat) (A1 : Option Addr) (n1 c1 : Nat) (A2 : Option Addr) (n2 c2 : Nat) (hf : FtRd w f A0 n0 c0 A1 n1 c1 A2 n2 c2) (hi : ∀ x ∈ f.s, inI x.hi) :
    Calls Try.prog 19 #[.agg #[.slice A0 n0 c0, .slice A1 n1 c1, .slice A2 n2 c2]] w fun e w' => e = .returned (.bool (goodB f)) ∧ Below w.heap.size w w' := by
  have Hf := hid hf
  have Hi := hid hi
  have hm := hf.b1
  clear hf hi
  go_enter Try.func19, Try.ntmps19
  go_wp2
  have H0 := hid (ext_alloc w (Obj.cells #[.slice A0 n0 c0, .slice A1 n1 c1, .slice A2 n2 c2] 25))
  have HB0 := hid (blk_new w (Obj.cells #[.slice A0 n0 c0, .slice A1 n1 c1, .slice A2 n2 c2] 25))
  go_loopw [8] (fun v8 wr => ∃ k : Nat, v8 = .int .i64 k ∧ k ≤ n1 ∧ Hid (spnF none f.s = spnF (prevK f.s k) (f.s.drop k)) ∧ Hid (Below w.heap.size w wr) ∧ Hid (wr.heap[w.heap.size]? = some (.cells #[.slice A0 n0 c0, .slice A1 n1 c1, .slice A2 n2 c2] 25 (0, 0)))) (fun v8 _ => n1 - (intOf v8).toNat)
  case atStart => exact ⟨0, rfl, by omega, hid rfl, H0, HB0⟩
  case round =>
    obtain ⟨k, rfl, hk, Ho, Hb, HBx⟩ := hrel
    by_cases hlt : k < n1
    · have hkx : k < f.s.length := by rw [← Hf.out.e1]; exact hlt
      have Hr := hid Hf.out.r1
      obtain ⟨b, o, rfl, hb1, hb2⟩ := Hr.out.addr (by rw [fm_len (s := 3) (fun _ => rfl)]; omega)
      clear hb1 hb2
      have hx := List.getElem?_eq_getElem hkx
      have Hd := hid (List.drop_eq_getElem_cons hkx)
      generalize f.s[k] = X at hx Hd
      obtain ⟨g0, g1, g2⟩ := (Hr.out.ext Hb.out).sp hx
      have Hx := hid hx
      clear hx hkx
      have Hs := hid (ext_alloc wr (Obj.cells #[.int .i64 X.t, .int .i64 X.lo, .int .i64 X.hi] 46))
      have HnB := hid (blk_new wr (Obj.cells #[.int .i64 X.t, .int .i64 X.lo, .int .i64 X.hi] 46))
      have l0 : Hid (∀ w', Below (wr.alloc (Obj.cells #[.int .i64 X.t, .int .i64 X.lo, .int .i64 X.hi] 46)).heap.size (wr.alloc (Obj.cells #[.int .i64 X.t, .int .i64 X.lo, .int .i64 X.hi] 46)) w' → w'.cell? ⟨wr.heap.size, 0, none⟩ = some (.int .i64 X.t)) := hid fun w' h => ext_cell h (blk_cell HnB.out 0)
      have l1 : Hid (∀ w', Below (wr.alloc (Obj.cells #[.int .i64 X.t, .int .i64 X.lo, .int .i64 X.hi] 46)).heap.size (wr.alloc (Obj.cells #[.int .i64 X.t, .int .i64 X.lo, .int .i64 X.hi] 46)) w' → w'.cell? ⟨wr.heap.size, 1, none⟩ = some (.int .i64 X.lo)) := hid fun w' h => ext_cell h (blk_cell HnB.out 1)
      have l2 : Hid (∀ w', Below (wr.alloc (Obj.cells #[.int .i64 X.t, .int .i64 X.lo, .int .i64 X.hi] 46)).heap.size (wr.alloc (Obj.cells #[.int .i64 X.t, .int .i64 X.lo, .int .i64 X.hi] 46)) w' → w'.cell? ⟨wr.heap.size, 2, none⟩ = some (.int .i64 X.hi)) := hid fun w' h => ext_cell h (blk_cell HnB.out 2)
      have lb : Hid (∀ w', Below (wr.alloc (Obj.cells #[.int .i64 X.t, .int .i64 X.lo, .int .i64 X.hi] 46)).heap.size (wr.alloc (Obj.cells #[.int .i64 X.t, .int .i64 X.lo, .int .i64 X.hi] 46)) w' → w'.cell? ⟨w.heap.size, 1, none⟩ = some (.slice (some ⟨b, o, none⟩) n1 c1)) := hid fun w' h => ext_cell h (ext_cell Hs.out (blk_cell HBx.out 1))
      cases ht : tableB X.t with
      | false =>
        have F := hid (show goodB f = false by unfold goodB; rw [Ho.out, Hd.out, spnF_cons, ht]; rfl)
        go_wp2
        refine wp_region_ext (by kernel_rfl) (by kernel_rfl) ?_
        clear HnB
        generalize wr.alloc (Obj.cells #[.int .i64 X.t, .int .i64 X.lo, .int .i64 X.hi] 46) = W at *
        clear g0 g1 g2
        repeat ((with_reducible refine wpQuiet_step (fun K hK => ?_)); go_simp; first | (refine hK _ ?_; clear hK K) | (refine ⟨_, fun w' hw' => rfl, hK _ ?_⟩; clear hK K) | (apply Exists.intro; refine ⟨fun w' hw' => ?_, hK _ ?_⟩; (first | (go_at_call 44; exact call_ext_same hw' (table_any _ _)) | (have q0 := l0.out w' hw'; have q1 := l1.out w' hw'; have q2 := l2.out w' hw'; have q3 := lb.out w' hw'; go_simp; rfl)); clear hK K))
        refine wpQuiet_nil ?_
        intro w2 hw2
        have Hw2 := hid hw2
        clear hw2
        go_wp2
        go_ret
        exact ⟨ret_bool F.out.symm, ext_trans Hb.out (ext_trans Hs.out Hw2.out)⟩
      | true =>
        by_cases hlh : X.hi < X.lo
        · have F := hid (show goodB f = false by unfold goodB; rw [Ho.out, Hd.out, spnF_cons, ht, decide_eq_true hlh]; rfl)
          go_wp2
          refine wp_region_ext (by kernel_rfl) (by kernel_rfl) ?_
          clear HnB
          generalize wr.alloc (Obj.cells #[.int .i64 X.t, .int .i64 X.lo, .int .i64 X.hi] 46) = W at *
          clear g0 g1 g2
          repeat ((with_reducible refine wpQuiet_step (fun K hK => ?_)); go_simp; first | (refine hK _ ?_; clear hK K) | (refine ⟨_, fun w' hw' => rfl, hK _ ?_⟩; clear hK K) | (apply Exists.intro; refine ⟨fun w' hw' => ?_, hK _ ?_⟩; (first | (go_at_call 44; exact call_ext_same hw' (table_any _ _)) | (have q0 := l0.out w' hw'; have q1 := l1.out w' hw'; have q2 := l2.out w' hw'; have q3 := lb.out w' hw'; go_simp; rfl)); clear hK K))
          refine wpQuiet_nil ?_
          intro w2 hw2
          have Hw2 := hid hw2
          clear hw2
          go_wp2
          go_ret
          exact ⟨ret_bool F.out.symm, ext_trans Hb.out (ext_trans Hs.out Hw2.out)⟩
        · rcases Nat.eq_zero_or_pos k with h0 | h0
          · subst h0
            rw [Nat.zero_mul, Nat.add_zero] at g0 g1 g2
            have F := hid (show spnF none f.s = spnF (prevK f.s (0 + 1)) (f.s.drop (0 + 1)) by rw [Ho.out, Hd.out, spnF_cons, ht, decide_eq_false hlh, prevK_succ, Hx.out]; rfl)
            go_wp2
            refine wp_region_ext (by kernel_rfl) (by kernel_rfl) ?_
            clear HnB
            generalize wr.alloc (Obj.cells #[.int .i64 X.t, .int .i64 X.lo, .int .i64 X.hi] 46) = W at *
            clear g0 g1 g2
            repeat ((with_reducible refine wpQuiet_step (fun K hK => ?_)); go_simp; first | (refine hK _ ?_; clear hK K) | (refine ⟨_, fun w' hw' => rfl, hK _ ?_⟩; clear hK K) | (apply Exists.intro; refine ⟨fun w' hw' => ?_, hK _ ?_⟩; (first | (go_at_call 44; exact call_ext_same hw' (table_any _ _)) | (have q0 := l0.out w' hw'; have q1 := l1.out w' hw'; have q2 := l2.out w' hw'; have q3 := lb.out w' hw'; go_simp; rfl)); clear hK K))
            refine wpQuiet_nil ?_
            intro w2 hw2
            have Hw2 := hid hw2
            clear hw2
            go_wp2
            refine ⟨⟨0 + 1, by go_num, by omega, F, hid (ext_trans Hb.out (ext_trans Hs.out Hw2.out)), hid (ext_blk (ext_trans Hs.out Hw2.out) HBx.out)⟩, by simp [intOf]; omega⟩
          · obtain ⟨m, rfl⟩ : ∃ m, k = m + 1 := ⟨k - 1, by omega⟩
            obtain ⟨Y, hY⟩ : ∃ Y, f.s[m]? = some Y := ⟨_, List.getElem?_eq_getElem (by rw [← Hf.out.e1]; omega)⟩
            obtain ⟨y0, y1, y2⟩ := (Hr.out.ext Hb.out).sp hY
            have Hyi := hid (Hi.out Y (List.mem_of_getElem? hY))
            have F0 := hid (show spnF none f.s = ((decide (cmpSpan Y X < 0) && apartB Y X) && spnF (prevK f.s (m + 1 + 1)) (f.s.drop (m + 1 + 1))) by rw [Ho.out, Hd.out, spnF_cons, ht, decide_eq_false hlh, prevK_succ, prevK_succ, Hx.out, hY]; rfl)
            clear hY h0
            have l3 : Hid (∀ w', Below (wr.alloc (Obj.cells #[.int .i64 X.t, .int .i64 X.lo, .int .i64 X.hi] 46)).heap.size (wr.alloc (Obj.cells #[.int .i64 X.t, .int .i64 X.lo, .int .i64 X.hi] 46)) w' → w'.cell? ⟨b, o + m * 3, none⟩ = some (.int .i64 Y.t)) := hid fun w' h => ext_cell h (ext_cell Hs.out y0)
            have l4 : Hid (∀ w', Below (wr.alloc (Obj.cells #[.int .i64 X.t, .int .i64 X.lo, .int .i64 X.hi] 46)).heap.size (wr.alloc (Obj.cells #[.int .i64 X.t, .int .i64 X.lo, .int .i64 X.hi] 46)) w' → w'.cell? ⟨b, o + m * 3 + 1, none⟩ = some (.int .i64 Y.lo)) := hid fun w' h => ext_cell h (ext_cell Hs.out y1)
            have l5 : Hid (∀ w', Below (wr.alloc (Obj.cells #[.int .i64 X.t, .int .i64 X.lo, .int .i64 X.hi] 46)).heap.size (wr.alloc (Obj.cells #[.int .i64 X.t, .int .i64 X.lo, .int .i64 X.hi] 46)) w' → w'.cell? ⟨b, o + m * 3 + 2, none⟩ = some (.int .i64 Y.hi)) := hid fun w' h => ext_cell h (ext_cell Hs.out y2)
            by_cases hcs : cmpSpan Y X < 0
            · cases hap : apartB Y X with
              | false =>
                have F := hid (show goodB f = false by unfold goodB; rw [F0.out, hap, Bool.and_false]; rfl)
                go_wp2
                refine wp_region_ext (by kernel_rfl) (by kernel_rfl) ?_
                clear HnB
                generalize wr.alloc (Obj.cells #[.int .i64 X.t, .int .i64 X.lo, .int .i64 X.hi] 46) = W at *
                clear g0 g1 g2
                clear y0 y1 y2
                have hwm : IntKind.i64.wrap (m : Int) = m := by rw [IntKind.wrap_i64]; omega
                have hmn : (m : Int) < n1 := by omega
                repeat ((with_reducible refine wpQuiet_step (fun K hK => ?_)); go_simp; first | (refine hK _ ?_; clear hK K) | (refine ⟨_, fun w' hw' => rfl, hK _ ?_⟩; clear hK K) | (apply Exists.intro; refine ⟨fun w' hw' => ?_, hK _ ?_⟩; (first | (go_at_call 44; exact call_ext_same hw' (table_any _ _)) | (go_at_call 45; exact call_ext hw' (bySpan_any Y X _)) | (go_at_call 46; exact call_ext hw' (apart_any Y X _ (Hyi.out).1 (Hyi.out).2)) | (have q0 := l0.out w' hw'; have q1 := l1.out w' hw'; have q2 := l2.out w' hw'; have q3 := lb.out w' hw'; have q4 := l3.out w' hw'; have q5 := l4.out w' hw'; have q6 := l5.out w' hw'; go_simp; rfl)); clear hK K))
                refine wpQuiet_nil ?_
                intro w2 hw2
                have Hw2 := hid hw2
                clear hw2
                go_wp2
                go_ret
                exact ⟨ret_bool F.out.symm, ext_trans Hb.out (ext_trans Hs.out Hw2.out)⟩
              | true =>
                have F := hid (show spnF none f.s = spnF (prevK f.s (m + 1 + 1)) (f.s.drop (m + 1 + 1)) by rw [F0.out, hap, decide_eq_true hcs]; rfl)
                go_wp2
                refine wp_region_ext (by kernel_rfl) (by kernel_rfl) ?_
                clear HnB
                generalize wr.alloc (Obj.cells #[.int .i64 X.t, .int .i64 X.lo, .int .i64 X.hi] 46) = W at *
                clear g0 g1 g2
                clear y0 y1 y2
                have hwm : IntKind.i64.wrap (m : Int) = m := by rw [IntKind.wrap_i64]; omega
                have hmn : (m : Int) < n1 := by omega
                repeat ((with_reducible refine wpQuiet_step (fun K hK => ?_)); go_simp; first | (refine hK _ ?_; clear hK K) | (refine ⟨_, fun w' hw' => rfl, hK _ ?_⟩; clear hK K) | (apply Exists.intro; refine ⟨fun w' hw' => ?_, hK _ ?_⟩; (first | (go_at_call 44; exact call_ext_same hw' (table_any _ _)) | (go_at_call 45; exact call_ext hw' (bySpan_any Y X _)) | (go_at_call 46; exact call_ext hw' (apart_any Y X _ (Hyi.out).1 (Hyi.out).2)) | (have q0 := l0.out w' hw'; have q1 := l1.out w' hw'; have q2 := l2.out w' hw'; have q3 := lb.out w' hw'; have q4 := l3.out w' hw'; have q5 := l4.out w' hw'; have q6 := l5.out w' hw'; go_simp; rfl)); clear hK K))
                refine wpQuiet_nil ?_
                intro w2 hw2
                have Hw2 := hid hw2
                clear hw2
                go_wp2
                refine ⟨⟨m + 1 + 1, by go_num, by omega, F, hid (ext_trans Hb.out (ext_trans Hs.out Hw2.out)), hid (ext_blk (ext_trans Hs.out Hw2.out) HBx.out)⟩, by simp [intOf]; omega⟩
            · have F := hid (show goodB f = false by unfold goodB; rw [F0.out, decide_eq_false hcs]; rfl)
              go_wp2
              refine wp_region_ext (by kernel_rfl) (by kernel_rfl) ?_
              clear HnB
              generalize wr.alloc (Obj.cells #[.int .i64 X.t, .int .i64 X.lo, .int .i64 X.hi] 46) = W at *
              clear g0 g1 g2
              clear y0 y1 y2
              have hwm : IntKind.i64.wrap (m : Int) = m := by rw [IntKind.wrap_i64]; omega
              have hmn : (m : Int) < n1 := by omega
              repeat ((with_reducible refine wpQuiet_step (fun K hK => ?_)); go_simp; first | (refine hK _ ?_; clear hK K) | (refine ⟨_, fun w' hw' => rfl, hK _ ?_⟩; clear hK K) | (apply Exists.intro; refine ⟨fun w' hw' => ?_, hK _ ?_⟩; (first | (go_at_call 44; exact call_ext_same hw' (table_any _ _)) | (go_at_call 45; exact call_ext hw' (bySpan_any Y X _)) | (go_at_call 46; exact call_ext hw' (apart_any Y X _ (Hyi.out).1 (Hyi.out).2)) | (have q0 := l0.out w' hw'; have q1 := l1.out w' hw'; have q2 := l2.out w' hw'; have q3 := lb.out w' hw'; have q4 := l3.out w' hw'; have q5 := l4.out w' hw'; have q6 := l5.out w' hw'; go_simp; rfl)); clear hK K))
              refine wpQuiet_nil ?_
              intro w2 hw2
              have Hw2 := hid hw2
              clear hw2
              go_wp2
              go_ret
              exact ⟨ret_bool F.out.symm, ext_trans Hb.out (ext_trans Hs.out Hw2.out)⟩
    · have F := hid (show spnF none f.s = true by rw [Ho.out, List.drop_of_length_le (by rw [← Hf.out.e1]; omega)]; cases prevK f.s k <;> rfl)
      have c0' := blk_cell HBx.out 0
      have c2' := blk_cell HBx.out 2
      simp at c0' c2'
      cases hr0 : risB f.r with
      | false =>
        go_wp2_with fail
        refine (rising_any _ A0 n0 c0 f.r Hf.out.e0 Hf.out.b0 (Hf.out.r0.ext Hb.out)).mono ?_
        rintro e w1 ⟨rfl, hb1⟩
        have Hb1 := hid hb1
        clear hb1
        rw [hr0]
        go_wp2
        go_ret
        exact ⟨ret_bool (by unfold goodB; rw [F.out, hr0]; rfl), ext_trans Hb.out Hb1.out⟩
      | true =>
        go_wp2_with fail
        refine (rising_any _ A0 n0 c0 f.r Hf.out.e0 Hf.out.b0 (Hf.out.r0.ext Hb.out)).mono ?_
        rintro e w1 ⟨rfl, hb1⟩
        have c3' := ext_cell hb1 c2'
        have Hb1 := hid hb1
        clear hb1
        rw [hr0]
        go_wp2_with fail
        refine (rising_any _ A2 n2 c2 f.w Hf.out.e2 Hf.out.b2 (Hf.out.r2.ext (ext_trans Hb.out Hb1.out))).mono ?_
        rintro e w2 ⟨rfl, hb2⟩
        have Hb2 := hid hb2
        clear hb2
        go_wp2
        go_ret
        exact ⟨ret_bool (by unfold goodB; rw [F.out, hr0]; simp), ext_trans Hb.out (ext_trans Hb1.out Hb2.out)⟩
end Go.Proofs.Ytgnikijaihmeeaa
