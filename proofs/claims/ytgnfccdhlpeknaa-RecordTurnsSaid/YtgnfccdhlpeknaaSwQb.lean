/- record.rising. -/
import Derived.Test.YtgnfccdhlpeknaaSwQ
open Go Go.RowKit
namespace Go.Proofs.Ytgnfccdhlpeknaa
set_option maxRecDepth 100000
def Wi.key (x : Wi) : Ky := ⟨x.t, x.k⟩
def wiB (x : Wi) : Bool := !decide (x.t < 0) && (!decide (4 ≤ x.t) && !(x.dead && !decide (x.v = 0)))
def wrF : Option Wi → List Wi → Bool
  | _, [] => true
  | p, x :: r => wiB x && ((match p with | none => true | some q => keyLt q.key x.key) && wrF (some x) r)
theorem wrF_cons (p : Option Wi) (x : Wi) (r : List Wi) : wrF p (x :: r) = (wiB x && ((match p with | none => true | some q => keyLt q.key x.key) && wrF (some x) r)) := by cases p <;> rfl
theorem Rd.wi {w : World} {b o : Nat} {l : List Wi} (h : Rd w (some ⟨b, o, none⟩) (l.flatMap wiC)) {i : Nat} {x : Wi} (hx : l[i]? = some x) :
    w.cell? ⟨b, o + i * 4, none⟩ = some (.int .i64 x.t) ∧ w.cell? ⟨b, o + i * 4 + 1, none⟩ = some (.int .i64 x.k) ∧ w.cell? ⟨b, o + i * 4 + 2, none⟩ = some (.int .i64 x.v) ∧ w.cell? ⟨b, o + i * 4 + 3, none⟩ = some (.bool x.dead) := by
  have g := fun (j : Nat) (hj : j < 4) (u : Value) (hu : (wiC x)[j]? = some u) => h.at (j := i * 4 + j) ((fm_get (f := wiC) (s := 4) (fun _ => rfl) l i x hx j hj).trans hu)
  exact ⟨g 0 (by omega) _ rfl, g 1 (by omega) _ rfl, g 2 (by omega) _ rfl, g 3 (by omega) _ rfl⟩
theorem wiB_neg {x : Wi} (h : x.t < 0) : wiB x = false := by simp [wiB, h]
theorem wiB_big {x : Wi} (h : 4 ≤ x.t) : wiB x = false := by simp [wiB, h]
theorem wiB_dead {x : Wi} (h : x.dead = true) (hv : ¬ x.v = 0) : wiB x = false := by simp [wiB, h, hv]
theorem wiB_live {x : Wi} (h : ¬ x.t < 0) (h2 : ¬ 4 ≤ x.t) (hd : x.dead = false) : wiB x = true := by simp [wiB, h, h2, hd]
theorem wiB_gone {x : Wi} (h : ¬ x.t < 0) (h2 : ¬ 4 ≤ x.t) (hv : x.v = 0) : wiB x = true := by simp [wiB, h, h2, hv]
set_option maxHeartbeats 4000000 in
theorem wrising_any (w : World) (A : Option Addr) (n c : Nat) (l : List Wi) (hn : n = l.length) (hm : n ≤ 140737488355328) (hr : Rd w A (l.flatMap wiC)) :
    Calls Try.prog 19 #[.slice A n c] w fun e w' => e = .returned (.bool (wrF none l)) ∧ Below w.heap.size w w' := by
  have Hr := hid hr
  have Hn := hid hn
  clear hr hn
  go_enter Try.func19, Try.ntmps19
  go_wp2
  go_loopw [7] (fun v7 wr => ∃ k : Nat, v7 = .int .i64 k ∧ k ≤ n ∧ Hid (wrF none l = wrF (prevK l k) (l.drop k)) ∧ Hid (Below w.heap.size w wr)) (fun v7 _ => n - (intOf v7).toNat)
  case atStart => exact ⟨0, rfl, by omega, hid rfl, Below.refl _ _⟩
  case round =>
    obtain ⟨k, rfl, hk, Ho, Hb⟩ := hrel
    by_cases hlt : k < n
    · have hkx : k < l.length := by rw [← Hn.out]; exact hlt
      obtain ⟨b, o, rfl, hb1, hb2⟩ := Hr.out.addr (by rw [fm_len (s := 4) (fun _ => rfl)]; omega)
      clear hb1 hb2
      have hx := List.getElem?_eq_getElem hkx
      have Hd := hid (List.drop_eq_getElem_cons hkx)
      generalize l[k] = X at hx Hd
      obtain ⟨g0, g1, g2, g3⟩ := (Hr.out.ext Hb.out).wi hx
      have Hx := hid hx
      clear hx hkx
      obtain ⟨D, hD⟩ : ∃ D, D = X.dead := ⟨_, rfl⟩
      rw [← hD] at g3
      have HD := hid hD
      clear hD
      have Hs := hid (ext_alloc wr (Obj.cells #[.int .i64 X.t, .int .i64 X.k, .int .i64 X.v, .bool D] 74))
      have HnB := hid (blk_new wr (Obj.cells #[.int .i64 X.t, .int .i64 X.k, .int .i64 X.v, .bool D] 74))
      have l0 : Hid (∀ w', Below (wr.alloc (Obj.cells #[.int .i64 X.t, .int .i64 X.k, .int .i64 X.v, .bool D] 74)).heap.size (wr.alloc (Obj.cells #[.int .i64 X.t, .int .i64 X.k, .int .i64 X.v, .bool D] 74)) w' → w'.cell? ⟨wr.heap.size, 0, none⟩ = some (.int .i64 X.t)) := hid fun w' h => ext_cell h (blk_cell HnB.out 0)
      have l1 : Hid (∀ w', Below (wr.alloc (Obj.cells #[.int .i64 X.t, .int .i64 X.k, .int .i64 X.v, .bool D] 74)).heap.size (wr.alloc (Obj.cells #[.int .i64 X.t, .int .i64 X.k, .int .i64 X.v, .bool D] 74)) w' → w'.cell? ⟨wr.heap.size, 1, none⟩ = some (.int .i64 X.k)) := hid fun w' h => ext_cell h (blk_cell HnB.out 1)
      have l2 : Hid (∀ w', Below (wr.alloc (Obj.cells #[.int .i64 X.t, .int .i64 X.k, .int .i64 X.v, .bool D] 74)).heap.size (wr.alloc (Obj.cells #[.int .i64 X.t, .int .i64 X.k, .int .i64 X.v, .bool D] 74)) w' → w'.cell? ⟨wr.heap.size, 2, none⟩ = some (.int .i64 X.v)) := hid fun w' h => ext_cell h (blk_cell HnB.out 2)
      have l3 : Hid (∀ w', Below (wr.alloc (Obj.cells #[.int .i64 X.t, .int .i64 X.k, .int .i64 X.v, .bool D] 74)).heap.size (wr.alloc (Obj.cells #[.int .i64 X.t, .int .i64 X.k, .int .i64 X.v, .bool D] 74)) w' → w'.cell? ⟨wr.heap.size, 3, none⟩ = some (.bool D)) := hid fun w' h => ext_cell h (blk_cell HnB.out 3)
      by_cases c1 : X.t < 0
      · have hX := hid (wiB_neg c1)
        have F := hid (show wrF none l = false by rw [Ho.out, Hd.out, wrF_cons, hX.out]; rfl)
        have hk' : k < n := hlt
        go_wp2
        refine wp_region_ext (by kernel_rfl) (by kernel_rfl) ?_
        clear HnB
        generalize wr.alloc (Obj.cells #[.int .i64 X.t, .int .i64 X.k, .int .i64 X.v, .bool D] 74) = W at *
        clear g0 g1 g2 g3
        repeat ((with_reducible refine wpQuiet_step (fun K hK => ?_)); go_simp; first | (refine hK _ ?_; clear hK K) | (refine ⟨_, fun w' hw' => rfl, hK _ ?_⟩; clear hK K) | (apply Exists.intro; refine ⟨fun w' hw' => ?_, hK _ ?_⟩; (first | (go_at_call 38; exact call_ext hw' (Less_any _ _ _)) | (have q0 := l0.out w' hw'; have q1 := l1.out w' hw'; have q2 := l2.out w' hw'; have q3 := l3.out w' hw'; go_simp; rfl)); clear hK K))
        refine wpQuiet_nil ?_
        intro w2 hw2
        have Hw2 := hid hw2
        clear hw2
        go_wp2
        go_ret
        exact ⟨ret_bool F.out.symm, ext_trans Hb.out (ext_trans Hs.out Hw2.out)⟩
      by_cases c2 : 4 ≤ X.t
      · have hX := hid (wiB_big c2)
        have F := hid (show wrF none l = false by rw [Ho.out, Hd.out, wrF_cons, hX.out]; rfl)
        have hk' : k < n := hlt
        go_wp2
        refine wp_region_ext (by kernel_rfl) (by kernel_rfl) ?_
        clear HnB
        generalize wr.alloc (Obj.cells #[.int .i64 X.t, .int .i64 X.k, .int .i64 X.v, .bool D] 74) = W at *
        clear g0 g1 g2 g3
        repeat ((with_reducible refine wpQuiet_step (fun K hK => ?_)); go_simp; first | (refine hK _ ?_; clear hK K) | (refine ⟨_, fun w' hw' => rfl, hK _ ?_⟩; clear hK K) | (apply Exists.intro; refine ⟨fun w' hw' => ?_, hK _ ?_⟩; (first | (go_at_call 38; exact call_ext hw' (Less_any _ _ _)) | (have q0 := l0.out w' hw'; have q1 := l1.out w' hw'; have q2 := l2.out w' hw'; have q3 := l3.out w' hw'; go_simp; rfl)); clear hK K))
        refine wpQuiet_nil ?_
        intro w2 hw2
        have Hw2 := hid hw2
        clear hw2
        go_wp2
        go_ret
        exact ⟨ret_bool F.out.symm, ext_trans Hb.out (ext_trans Hs.out Hw2.out)⟩
      cases D with
      | false =>
        have hX : Hid (wiB X = true) := hid (wiB_live c1 c2 HD.out.symm)
        rcases Nat.eq_zero_or_pos k with h0 | h0
        · subst h0
          rw [Nat.zero_mul, Nat.add_zero] at g0 g1 g2 g3
          have F := hid (show wrF none l = wrF (prevK l (0 + 1)) (l.drop (0 + 1)) by rw [Ho.out, Hd.out, wrF_cons, hX.out, prevK_succ, Hx.out]; rfl)
          go_wp2
          refine wp_region_ext (by kernel_rfl) (by kernel_rfl) ?_
          clear HnB
          generalize wr.alloc (Obj.cells #[.int .i64 X.t, .int .i64 X.k, .int .i64 X.v, .bool false] 74) = W at *
          clear g0 g1 g2 g3
          repeat ((with_reducible refine wpQuiet_step (fun K hK => ?_)); go_simp; first | (refine hK _ ?_; clear hK K) | (refine ⟨_, fun w' hw' => rfl, hK _ ?_⟩; clear hK K) | (apply Exists.intro; refine ⟨fun w' hw' => ?_, hK _ ?_⟩; (first | (go_at_call 38; exact call_ext hw' (Less_any _ _ _)) | (have q0 := l0.out w' hw'; have q1 := l1.out w' hw'; have q2 := l2.out w' hw'; have q3 := l3.out w' hw'; go_simp; rfl)); clear hK K))
          refine wpQuiet_nil ?_
          intro w2 hw2
          have Hw2 := hid hw2
          clear hw2
          go_wp2
          refine ⟨⟨0 + 1, by go_num, by omega, F, hid (ext_trans Hb.out (ext_trans Hs.out Hw2.out))⟩, by simp [intOf]; omega⟩
        · obtain ⟨m, rfl⟩ : ∃ m, k = m + 1 := ⟨k - 1, by omega⟩
          obtain ⟨Y, hY⟩ : ∃ Y, l[m]? = some Y := ⟨_, List.getElem?_eq_getElem (by rw [← Hn.out]; omega)⟩
          obtain ⟨y0, y1, _, _⟩ := (Hr.out.ext Hb.out).wi hY
          have F0 := hid (show wrF none l = (keyLt Y.key X.key && wrF (prevK l (m + 1 + 1)) (l.drop (m + 1 + 1))) by rw [Ho.out, Hd.out, wrF_cons, hX.out, prevK_succ, prevK_succ, Hx.out, hY]; rfl)
          clear hY h0
          have l4 : Hid (∀ w', Below (wr.alloc (Obj.cells #[.int .i64 X.t, .int .i64 X.k, .int .i64 X.v, .bool false] 74)).heap.size (wr.alloc (Obj.cells #[.int .i64 X.t, .int .i64 X.k, .int .i64 X.v, .bool false] 74)) w' → w'.cell? ⟨b, o + m * 4, none⟩ = some (.int .i64 Y.t)) := hid fun w' h => ext_cell h (ext_cell Hs.out y0)
          have l5 : Hid (∀ w', Below (wr.alloc (Obj.cells #[.int .i64 X.t, .int .i64 X.k, .int .i64 X.v, .bool false] 74)).heap.size (wr.alloc (Obj.cells #[.int .i64 X.t, .int .i64 X.k, .int .i64 X.v, .bool false] 74)) w' → w'.cell? ⟨b, o + m * 4 + 1, none⟩ = some (.int .i64 Y.k)) := hid fun w' h => ext_cell h (ext_cell Hs.out y1)
          cases hl : keyLt ⟨Y.t, Y.k⟩ ⟨X.t, X.k⟩ with
          | false =>
            have F := hid (show wrF none l = false by rw [F0.out]; unfold Wi.key; rw [hl]; rfl)
            go_wp2
            refine wp_region_ext (by kernel_rfl) (by kernel_rfl) ?_
            clear HnB
            generalize wr.alloc (Obj.cells #[.int .i64 X.t, .int .i64 X.k, .int .i64 X.v, .bool false] 74) = W at *
            clear g0 g1 g2 g3
            clear y0 y1
            have hwm : IntKind.i64.wrap (m : Int) = m := by rw [IntKind.wrap_i64]; omega
            have hmn : (m : Int) < n := by omega
            repeat ((with_reducible refine wpQuiet_step (fun K hK => ?_)); go_simp; first | (refine hK _ ?_; clear hK K) | (refine ⟨_, fun w' hw' => rfl, hK _ ?_⟩; clear hK K) | (apply Exists.intro; refine ⟨fun w' hw' => ?_, hK _ ?_⟩; (first | (go_at_call 38; exact call_ext hw' (Less_any ⟨Y.t, Y.k⟩ ⟨X.t, X.k⟩ _)) | (have q0 := l0.out w' hw'; have q1 := l1.out w' hw'; have q2 := l2.out w' hw'; have q3 := l3.out w' hw'; have q4 := l4.out w' hw'; have q5 := l5.out w' hw'; go_simp; rfl)); clear hK K))
            refine wpQuiet_nil ?_
            intro w2 hw2
            have Hw2 := hid hw2
            clear hw2
            go_wp2
            go_ret
            exact ⟨ret_bool F.out.symm, ext_trans Hb.out (ext_trans Hs.out Hw2.out)⟩
          | true =>
            have F := hid (show wrF none l = wrF (prevK l (m + 1 + 1)) (l.drop (m + 1 + 1)) by rw [F0.out]; unfold Wi.key; rw [hl]; rfl)
            go_wp2
            refine wp_region_ext (by kernel_rfl) (by kernel_rfl) ?_
            clear HnB
            generalize wr.alloc (Obj.cells #[.int .i64 X.t, .int .i64 X.k, .int .i64 X.v, .bool false] 74) = W at *
            clear g0 g1 g2 g3
            clear y0 y1
            have hwm : IntKind.i64.wrap (m : Int) = m := by rw [IntKind.wrap_i64]; omega
            have hmn : (m : Int) < n := by omega
            repeat ((with_reducible refine wpQuiet_step (fun K hK => ?_)); go_simp; first | (refine hK _ ?_; clear hK K) | (refine ⟨_, fun w' hw' => rfl, hK _ ?_⟩; clear hK K) | (apply Exists.intro; refine ⟨fun w' hw' => ?_, hK _ ?_⟩; (first | (go_at_call 38; exact call_ext hw' (Less_any ⟨Y.t, Y.k⟩ ⟨X.t, X.k⟩ _)) | (have q0 := l0.out w' hw'; have q1 := l1.out w' hw'; have q2 := l2.out w' hw'; have q3 := l3.out w' hw'; have q4 := l4.out w' hw'; have q5 := l5.out w' hw'; go_simp; rfl)); clear hK K))
            refine wpQuiet_nil ?_
            intro w2 hw2
            have Hw2 := hid hw2
            clear hw2
            go_wp2
            refine ⟨⟨m + 1 + 1, by go_num, by omega, F, hid (ext_trans Hb.out (ext_trans Hs.out Hw2.out))⟩, by simp [intOf]; omega⟩
      | true =>
        by_cases c3 : X.v = 0
        · have hX0 := hid (wiB_gone c1 c2 c3)
          have C3 := hid c3
          clear c3
          have hX : Hid (wiB X = true) := hid (hX0.out)
          rcases Nat.eq_zero_or_pos k with h0 | h0
          · subst h0
            rw [Nat.zero_mul, Nat.add_zero] at g0 g1 g2 g3
            have F := hid (show wrF none l = wrF (prevK l (0 + 1)) (l.drop (0 + 1)) by rw [Ho.out, Hd.out, wrF_cons, hX.out, prevK_succ, Hx.out]; rfl)
            go_wp2
            refine wp_region_ext (by kernel_rfl) (by kernel_rfl) ?_
            clear HnB
            generalize wr.alloc (Obj.cells #[.int .i64 X.t, .int .i64 X.k, .int .i64 X.v, .bool true] 74) = W at *
            clear g0 g1 g2 g3
            have l2 := hid (show ∀ w', Below W.heap.size W w' → w'.cell? ⟨wr.heap.size, 2, none⟩ = some (.int .i64 0) from fun w' h => (l2.out w' h).trans (by rw [C3.out]))
            repeat ((with_reducible refine wpQuiet_step (fun K hK => ?_)); go_simp; first | (refine hK _ ?_; clear hK K) | (refine ⟨_, fun w' hw' => rfl, hK _ ?_⟩; clear hK K) | (apply Exists.intro; refine ⟨fun w' hw' => ?_, hK _ ?_⟩; (first | (go_at_call 38; exact call_ext hw' (Less_any _ _ _)) | (have q0 := l0.out w' hw'; have q1 := l1.out w' hw'; have q2 := l2.out w' hw'; have q3 := l3.out w' hw'; go_simp; rfl)); clear hK K))
            refine wpQuiet_nil ?_
            intro w2 hw2
            have Hw2 := hid hw2
            clear hw2
            go_wp2
            refine ⟨⟨0 + 1, by go_num, by omega, F, hid (ext_trans Hb.out (ext_trans Hs.out Hw2.out))⟩, by simp [intOf]; omega⟩
          · obtain ⟨m, rfl⟩ : ∃ m, k = m + 1 := ⟨k - 1, by omega⟩
            obtain ⟨Y, hY⟩ : ∃ Y, l[m]? = some Y := ⟨_, List.getElem?_eq_getElem (by rw [← Hn.out]; omega)⟩
            obtain ⟨y0, y1, _, _⟩ := (Hr.out.ext Hb.out).wi hY
            have F0 := hid (show wrF none l = (keyLt Y.key X.key && wrF (prevK l (m + 1 + 1)) (l.drop (m + 1 + 1))) by rw [Ho.out, Hd.out, wrF_cons, hX.out, prevK_succ, prevK_succ, Hx.out, hY]; rfl)
            clear hY h0
            have l4 : Hid (∀ w', Below (wr.alloc (Obj.cells #[.int .i64 X.t, .int .i64 X.k, .int .i64 X.v, .bool true] 74)).heap.size (wr.alloc (Obj.cells #[.int .i64 X.t, .int .i64 X.k, .int .i64 X.v, .bool true] 74)) w' → w'.cell? ⟨b, o + m * 4, none⟩ = some (.int .i64 Y.t)) := hid fun w' h => ext_cell h (ext_cell Hs.out y0)
            have l5 : Hid (∀ w', Below (wr.alloc (Obj.cells #[.int .i64 X.t, .int .i64 X.k, .int .i64 X.v, .bool true] 74)).heap.size (wr.alloc (Obj.cells #[.int .i64 X.t, .int .i64 X.k, .int .i64 X.v, .bool true] 74)) w' → w'.cell? ⟨b, o + m * 4 + 1, none⟩ = some (.int .i64 Y.k)) := hid fun w' h => ext_cell h (ext_cell Hs.out y1)
            cases hl : keyLt ⟨Y.t, Y.k⟩ ⟨X.t, X.k⟩ with
            | false =>
              have F := hid (show wrF none l = false by rw [F0.out]; unfold Wi.key; rw [hl]; rfl)
              go_wp2
              refine wp_region_ext (by kernel_rfl) (by kernel_rfl) ?_
              clear HnB
              generalize wr.alloc (Obj.cells #[.int .i64 X.t, .int .i64 X.k, .int .i64 X.v, .bool true] 74) = W at *
              clear g0 g1 g2 g3
              have l2 := hid (show ∀ w', Below W.heap.size W w' → w'.cell? ⟨wr.heap.size, 2, none⟩ = some (.int .i64 0) from fun w' h => (l2.out w' h).trans (by rw [C3.out]))
              clear y0 y1
              have hwm : IntKind.i64.wrap (m : Int) = m := by rw [IntKind.wrap_i64]; omega
              have hmn : (m : Int) < n := by omega
              repeat ((with_reducible refine wpQuiet_step (fun K hK => ?_)); go_simp; first | (refine hK _ ?_; clear hK K) | (refine ⟨_, fun w' hw' => rfl, hK _ ?_⟩; clear hK K) | (apply Exists.intro; refine ⟨fun w' hw' => ?_, hK _ ?_⟩; (first | (go_at_call 38; exact call_ext hw' (Less_any ⟨Y.t, Y.k⟩ ⟨X.t, X.k⟩ _)) | (have q0 := l0.out w' hw'; have q1 := l1.out w' hw'; have q2 := l2.out w' hw'; have q3 := l3.out w' hw'; have q4 := l4.out w' hw'; have q5 := l5.out w' hw'; go_simp; rfl)); clear hK K))
              refine wpQuiet_nil ?_
              intro w2 hw2
              have Hw2 := hid hw2
              clear hw2
              go_wp2
              go_ret
              exact ⟨ret_bool F.out.symm, ext_trans Hb.out (ext_trans Hs.out Hw2.out)⟩
            | true =>
              have F := hid (show wrF none l = wrF (prevK l (m + 1 + 1)) (l.drop (m + 1 + 1)) by rw [F0.out]; unfold Wi.key; rw [hl]; rfl)
              go_wp2
              refine wp_region_ext (by kernel_rfl) (by kernel_rfl) ?_
              clear HnB
              generalize wr.alloc (Obj.cells #[.int .i64 X.t, .int .i64 X.k, .int .i64 X.v, .bool true] 74) = W at *
              clear g0 g1 g2 g3
              have l2 := hid (show ∀ w', Below W.heap.size W w' → w'.cell? ⟨wr.heap.size, 2, none⟩ = some (.int .i64 0) from fun w' h => (l2.out w' h).trans (by rw [C3.out]))
              clear y0 y1
              have hwm : IntKind.i64.wrap (m : Int) = m := by rw [IntKind.wrap_i64]; omega
              have hmn : (m : Int) < n := by omega
              repeat ((with_reducible refine wpQuiet_step (fun K hK => ?_)); go_simp; first | (refine hK _ ?_; clear hK K) | (refine ⟨_, fun w' hw' => rfl, hK _ ?_⟩; clear hK K) | (apply Exists.intro; refine ⟨fun w' hw' => ?_, hK _ ?_⟩; (first | (go_at_call 38; exact call_ext hw' (Less_any ⟨Y.t, Y.k⟩ ⟨X.t, X.k⟩ _)) | (have q0 := l0.out w' hw'; have q1 := l1.out w' hw'; have q2 := l2.out w' hw'; have q3 := l3.out w' hw'; have q4 := l4.out w' hw'; have q5 := l5.out w' hw'; go_simp; rfl)); clear hK K))
              refine wpQuiet_nil ?_
              intro w2 hw2
              have Hw2 := hid hw2
              clear hw2
              go_wp2
              refine ⟨⟨m + 1 + 1, by go_num, by omega, F, hid (ext_trans Hb.out (ext_trans Hs.out Hw2.out))⟩, by simp [intOf]; omega⟩
        · have hX := hid (wiB_dead HD.out.symm c3)
          have F := hid (show wrF none l = false by rw [Ho.out, Hd.out, wrF_cons, hX.out]; rfl)
          have hk' : k < n := hlt
          go_wp2
          refine wp_region_ext (by kernel_rfl) (by kernel_rfl) ?_
          clear HnB
          generalize wr.alloc (Obj.cells #[.int .i64 X.t, .int .i64 X.k, .int .i64 X.v, .bool true] 74) = W at *
          clear g0 g1 g2 g3
          repeat ((with_reducible refine wpQuiet_step (fun K hK => ?_)); go_simp; first | (refine hK _ ?_; clear hK K) | (refine ⟨_, fun w' hw' => rfl, hK _ ?_⟩; clear hK K) | (apply Exists.intro; refine ⟨fun w' hw' => ?_, hK _ ?_⟩; (first | (go_at_call 38; exact call_ext hw' (Less_any _ _ _)) | (have q0 := l0.out w' hw'; have q1 := l1.out w' hw'; have q2 := l2.out w' hw'; have q3 := l3.out w' hw'; go_simp; rfl)); clear hK K))
          refine wpQuiet_nil ?_
          intro w2 hw2
          have Hw2 := hid hw2
          clear hw2
          go_wp2
          go_ret
          exact ⟨ret_bool F.out.symm, ext_trans Hb.out (ext_trans Hs.out Hw2.out)⟩
    · have F := hid (show wrF none l = true by rw [Ho.out, List.drop_of_length_le (by rw [← Hn.out]; omega)]; cases prevK l k <;> rfl)
      go_wp2
      go_ret
      exact ⟨ret_bool F.out.symm, Hb.out⟩
end Go.Proofs.Ytgnfccdhlpeknaa
