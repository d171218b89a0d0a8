/- The walks of foot.rising and foot.Good. -/
import Derived.Test.YtgnikijaihmeeaaSwFb
open Go Go.RowKit
namespace Go.Proofs.Ytgnikijaihmeeaa
set_option linter.unusedVariables false
set_option linter.unusedSimpArgs false
set_option maxRecDepth 100000
/-- do keys rise, of tables that are, behind p? -/
def risF : Option Ky → List Ky → Bool
  | _, [] => true
  | p, x :: r => tableB x.t && (match p with | none => true | some q => keyLt q x) && risF (some x) r
theorem risF_cons (p : Option Ky) (x : Ky) (r : List Ky) : risF p (x :: r) = (tableB x.t && (match p with | none => true | some q => keyLt q x) && risF (some x) r) := by cases p <;> rfl
def risB (l : List Ky) : Bool := risF none l
def prevK {α : Type} (l : List α) (k : Nat) : Option α := if k = 0 then none else l[k - 1]?
theorem prevK_succ {α : Type} (l : List α) (k : Nat) : prevK l (k + 1) = l[k]? := by simp [prevK]
theorem okI {a : Int} : Hid (-9223372036854775808 ≤ a ∧ a ≤ 9223372036854775807) → -9223372036854775808 ≤ a ∧ a ≤ 9223372036854775807 := fun h => h
set_option maxHeartbeats 2000000 in
theorem rising_any (w : World) (A : Option Addr) (n c : Nat) (l : List Ky) (hn : n = l.length) (hm : n ≤ 140737488355328) (hr : Rd w A (l.flatMap kyC)) :
    Calls Try.prog 47 #[.slice A n c] w fun e w' => e = .returned (.bool (risB l)) ∧ Below w.heap.size w w' := by
  have Hr := hid hr
  have Hn := hid hn
  clear hr hn
  go_enter Try.func47, Try.ntmps47
  go_wp2
  go_loopw [7] (fun v7 wr => ∃ k : Nat, v7 = .int .i64 k ∧ k ≤ n ∧ Hid (risB l = risF (prevK l k) (l.drop k)) ∧ Hid (Below w.heap.size w wr)) (fun v7 _ => n - (intOf v7).toNat)
  case atStart => exact ⟨0, rfl, by omega, hid rfl, Below.refl _ _⟩
  case round =>
    obtain ⟨k, rfl, hk, Ho, Hb⟩ := hrel
    by_cases hlt : k < n
    · have hkx : k < l.length := by rw [← Hn.out]; exact hlt
      obtain ⟨b, o, rfl, hb1, hb2⟩ := Hr.out.addr (by rw [fm_len (s := 2) (fun _ => rfl)]; omega)
      clear hb1 hb2
      have hx := List.getElem?_eq_getElem hkx
      have Hd := hid (List.drop_eq_getElem_cons hkx)
      generalize l[k] = X at hx Hd
      obtain ⟨g0, g1⟩ := (Hr.out.ext Hb.out).ky hx
      have Hx := hid hx
      clear hx hkx
      have Hs := hid (ext_alloc wr (Obj.cells #[.int .i64 X.t, .int .i64 X.k] 80))
      have HnB := hid (blk_new wr (Obj.cells #[.int .i64 X.t, .int .i64 X.k] 80))
      have l0 : Hid (∀ w', Below (wr.alloc (Obj.cells #[.int .i64 X.t, .int .i64 X.k] 80)).heap.size (wr.alloc (Obj.cells #[.int .i64 X.t, .int .i64 X.k] 80)) w' → w'.cell? ⟨wr.heap.size, 0, none⟩ = some (.int .i64 X.t)) := hid fun w' h => ext_cell h (blk_cell HnB.out 0)
      have l1 : Hid (∀ w', Below (wr.alloc (Obj.cells #[.int .i64 X.t, .int .i64 X.k] 80)).heap.size (wr.alloc (Obj.cells #[.int .i64 X.t, .int .i64 X.k] 80)) w' → w'.cell? ⟨wr.heap.size, 1, none⟩ = some (.int .i64 X.k)) := hid fun w' h => ext_cell h (blk_cell HnB.out 1)
      cases ht : tableB X.t with
      | false =>
        have F := hid (show risB l = false by rw [Ho.out, Hd.out, risF_cons, ht]; rfl)
        have hk' : k < n := hlt
        go_wp2
        refine wp_region_ext (by kernel_rfl) (by kernel_rfl) ?_
        clear HnB
        generalize wr.alloc (Obj.cells #[.int .i64 X.t, .int .i64 X.k] 80) = W at *
        clear g0 g1
        skip
        repeat ((with_reducible refine wpQuiet_step (fun K hK => ?_)); go_simp; first | (refine hK _ ?_; clear hK K) | (refine ⟨_, fun w' hw' => rfl, hK _ ?_⟩; clear hK K) | (apply Exists.intro; refine ⟨fun w' hw' => ?_, hK _ ?_⟩; (first | (go_at_call 44; exact call_ext_same hw' (table_any _ _)) | (go_at_call 60; exact call_ext hw' (Less_any _ _ _)) | (have q0 := l0.out w' hw'; have q1 := l1.out w' hw'; go_simp; rfl)); clear hK K))
        refine wpQuiet_nil ?_
        intro w2 hw2
        have Hw2 := hid hw2
        clear hw2
        go_wp2
        go_ret
        exact ⟨ret_bool F.out.symm, ext_trans Hb.out (ext_trans Hs.out Hw2.out)⟩
      | true =>
        rcases Nat.eq_zero_or_pos k with h0 | h0
        · subst h0
          rw [Nat.zero_mul, Nat.add_zero] at g0 g1
          have F := hid (show risB l = risF (prevK l (0 + 1)) (l.drop (0 + 1)) by rw [Ho.out, Hd.out, risF_cons, ht, prevK_succ, Hx.out]; rfl)
          go_wp2
          refine wp_region_ext (by kernel_rfl) (by kernel_rfl) ?_
          clear HnB
          generalize wr.alloc (Obj.cells #[.int .i64 X.t, .int .i64 X.k] 80) = W at *
          clear g0 g1
          skip
          repeat ((with_reducible refine wpQuiet_step (fun K hK => ?_)); go_simp; first | (refine hK _ ?_; clear hK K) | (refine ⟨_, fun w' hw' => rfl, hK _ ?_⟩; clear hK K) | (apply Exists.intro; refine ⟨fun w' hw' => ?_, hK _ ?_⟩; (first | (go_at_call 44; exact call_ext_same hw' (table_any _ _)) | (go_at_call 60; exact call_ext hw' (Less_any _ _ _)) | (have q0 := l0.out w' hw'; have q1 := l1.out w' hw'; go_simp; rfl)); clear hK K))
          refine wpQuiet_nil ?_
          intro w2 hw2
          have Hw2 := hid hw2
          clear hw2
          go_wp2
          refine ⟨⟨0 + 1, by go_num, by omega, F, hid (ext_trans Hb.out (ext_trans Hs.out Hw2.out))⟩, by simp [intOf]; omega⟩
        · obtain ⟨m, rfl⟩ : ∃ m, k = m + 1 := ⟨k - 1, by omega⟩
          obtain ⟨Y, hY⟩ : ∃ Y, l[m]? = some Y := ⟨_, List.getElem?_eq_getElem (by rw [← Hn.out]; omega)⟩
          obtain ⟨g2, g3⟩ := (Hr.out.ext Hb.out).ky hY
          have F := hid (show risB l = (keyLt Y X && risF (prevK l (m + 1 + 1)) (l.drop (m + 1 + 1))) by rw [Ho.out, Hd.out, risF_cons, ht, prevK_succ, prevK_succ, Hx.out, hY]; rfl)
          clear hY h0
          have l2 : Hid (∀ w', Below (wr.alloc (Obj.cells #[.int .i64 X.t, .int .i64 X.k] 80)).heap.size (wr.alloc (Obj.cells #[.int .i64 X.t, .int .i64 X.k] 80)) w' → w'.cell? ⟨b, o + m * 2, none⟩ = some (.int .i64 Y.t)) := hid fun w' h => ext_cell h (ext_cell Hs.out g2)
          have l3 : Hid (∀ w', Below (wr.alloc (Obj.cells #[.int .i64 X.t, .int .i64 X.k] 80)).heap.size (wr.alloc (Obj.cells #[.int .i64 X.t, .int .i64 X.k] 80)) w' → w'.cell? ⟨b, o + m * 2 + 1, none⟩ = some (.int .i64 Y.k)) := hid fun w' h => ext_cell h (ext_cell Hs.out g3)
          cases hl : keyLt Y X with
          | false =>
            have F2 := hid (show risB l = false by rw [F.out, hl]; rfl)
            go_wp2
            refine wp_region_ext (by kernel_rfl) (by kernel_rfl) ?_
            clear HnB
            generalize wr.alloc (Obj.cells #[.int .i64 X.t, .int .i64 X.k] 80) = W at *
            clear g0 g1 g2 g3
            have hwm : IntKind.i64.wrap (m : Int) = m := by rw [IntKind.wrap_i64]; omega
            have hmn : (m : Int) < n := by omega
            repeat ((with_reducible refine wpQuiet_step (fun K hK => ?_)); go_simp; first | (refine hK _ ?_; clear hK K) | (refine ⟨_, fun w' hw' => rfl, hK _ ?_⟩; clear hK K) | (apply Exists.intro; refine ⟨fun w' hw' => ?_, hK _ ?_⟩; (first | (go_at_call 44; exact call_ext_same hw' (table_any _ _)) | (go_at_call 60; exact call_ext hw' (Less_any _ _ _)) | (have q0 := l0.out w' hw'; have q1 := l1.out w' hw'; have q2 := l2.out w' hw'; have q3 := l3.out w' hw'; go_simp; rfl)); clear hK K))
            refine wpQuiet_nil ?_
            intro w2 hw2
            have Hw2 := hid hw2
            clear hw2
            go_wp2
            go_ret
            exact ⟨ret_bool F2.out.symm, ext_trans Hb.out (ext_trans Hs.out Hw2.out)⟩
          | true =>
            have F2 := hid (show risB l = risF (prevK l (m + 1 + 1)) (l.drop (m + 1 + 1)) by rw [F.out, hl]; rfl)
            go_wp2
            refine wp_region_ext (by kernel_rfl) (by kernel_rfl) ?_
            clear HnB
            generalize wr.alloc (Obj.cells #[.int .i64 X.t, .int .i64 X.k] 80) = W at *
            clear g0 g1 g2 g3
            have hwm : IntKind.i64.wrap (m : Int) = m := by rw [IntKind.wrap_i64]; omega
            have hmn : (m : Int) < n := by omega
            repeat ((with_reducible refine wpQuiet_step (fun K hK => ?_)); go_simp; first | (refine hK _ ?_; clear hK K) | (refine ⟨_, fun w' hw' => rfl, hK _ ?_⟩; clear hK K) | (apply Exists.intro; refine ⟨fun w' hw' => ?_, hK _ ?_⟩; (first | (go_at_call 44; exact call_ext_same hw' (table_any _ _)) | (go_at_call 60; exact call_ext hw' (Less_any _ _ _)) | (have q0 := l0.out w' hw'; have q1 := l1.out w' hw'; have q2 := l2.out w' hw'; have q3 := l3.out w' hw'; go_simp; rfl)); clear hK K))
            refine wpQuiet_nil ?_
            intro w2 hw2
            have Hw2 := hid hw2
            clear hw2
            go_wp2
            refine ⟨⟨m + 1 + 1, by go_num, by omega, F2, hid (ext_trans Hb.out (ext_trans Hs.out Hw2.out))⟩, by simp [intOf]; omega⟩
    · have F := hid (show risB l = true by rw [Ho.out, List.drop_of_length_le (by rw [← Hn.out]; omega)]; cases prevK l k <;> rfl)
      go_wp2
      go_ret
      exact ⟨ret_bool F.out.symm, Hb.out⟩
end Go.Proofs.Ytgnikijaihmeeaa
