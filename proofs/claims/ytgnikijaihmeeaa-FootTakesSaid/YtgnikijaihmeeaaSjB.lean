/- The comparisons once more: the world grows by blocks and draws alone; the sort laid. -/
import Derived.Test.YtgnikijaihmeeaaSwFd
import Derived.Test.YtgnikijaihmeeaaSrt
open Go Go.RowKit Go.Shelf Go.Lib Go.Sort
namespace Go.Proofs.Ytgnikijaihmeeaa
set_option linter.unusedVariables false
set_option linter.unusedSimpArgs false
set_option maxRecDepth 100000
/-- by blocks and draws alone -/
def Grew (w w' : World) : Prop := ∃ q os, w' = grow (w.drewN q) os
theorem Grew.refl (w : World) : Grew w w := ⟨0, #[], by simp [World.drewN]⟩
theorem Grew.alloc {w w' : World} (h : Grew w w') (o : Obj) : Grew w (w'.alloc o) := by
  obtain ⟨q, os, rfl⟩ := h
  exact ⟨q, os ++ #[o], by rw [alloc_eq_grow, grow_grow]⟩
theorem Grew.drew {w w' : World} (h : Grew w w') : Grew w w'.drew := by
  obtain ⟨q, os, rfl⟩ := h
  exact ⟨q + 1, os, rfl⟩
theorem two_grew (w : World) (x y : Obj) : Grew w ((w.alloc x).alloc y) := ((Grew.refl w).alloc x).alloc y
set_option maxHeartbeats 1000000 in
theorem byKey_grew (x y : Ky) (w : World) : Calls Try.prog 55 #[kyV x, kyV y] w fun e w' => e = .returned (.int .i64 (cmpKey x y)) ∧ Grew w w' := by
  obtain ⟨t, k⟩ := x
  obtain ⟨t2, k2⟩ := y
  simp only [kyV]
  have E : Hid (cmpKey ⟨t, k⟩ ⟨t2, k2⟩ = orL [cmpI t t2, cmpI k k2]) := rfl
  go_enter Try.func55, Try.ntmps55
  go_wp2
  have Hb := hid (two_grew w (Obj.cells #[.int .i64 t, .int .i64 k] 80) (Obj.cells #[.int .i64 t2, .int .i64 k2] 80))
  have h1 := blk_alloc (blk_new w (Obj.cells #[.int .i64 t, .int .i64 k] 80)) (Obj.cells #[.int .i64 t2, .int .i64 k2] 80)
  have h2 := blk_new (w.alloc (Obj.cells #[.int .i64 t, .int .i64 k] 80)) (Obj.cells #[.int .i64 t2, .int .i64 k2] 80)
  simp only [World.size_alloc] at h2
  have hz : ((w.alloc (Obj.cells #[.int .i64 t, .int .i64 k] 80)).alloc (Obj.cells #[.int .i64 t2, .int .i64 k2] 80)).heap.size = w.heap.size + 2 := by simp
  generalize (w.alloc (Obj.cells #[.int .i64 t, .int .i64 k] 80)).alloc (Obj.cells #[.int .i64 t2, .int .i64 k2] 80) = W at *
  have a0 := blk_cell h1 0
  have a1 := blk_cell h1 1
  have a2 := blk_cell h2 0
  have a3 := blk_cell h2 1
  simp at a0 a1 a2 a3
  clear h1 h2
  go_region_held3 (fun w' => w'.cell? ⟨w.heap.size, 0, none⟩ = some (.int .i64 t) ∧ w'.cell? ⟨w.heap.size, 1, none⟩ = some (.int .i64 k) ∧ w'.cell? ⟨w.heap.size+1, 0, none⟩ = some (.int .i64 t2) ∧ w'.cell? ⟨w.heap.size+1, 1, none⟩ = some (.int .i64 k2)) (go_keep) (first | (go_at_call 59; refine (Compare_any _ _ _).mono ?_; rintro e w' ⟨rfl, rfl⟩) | (go_at_call 58; refine (Or_any [cmpI t t2, cmpI k k2] _ _ _ _ rfl (by simp) (fun j x hj => by rcases j with _ | _ | j <;> simp at hj <;> subst hj <;> simp [← hz])).mono ?_; rintro e w1 ⟨rfl, rfl⟩))
  go_wp2
  go_ret
  exact ⟨ret_int E.out.symm, (Hb.out.drew).alloc _⟩
set_option maxHeartbeats 2000000 in
theorem bySpan_grew (x y : Sp) (w : World) : Calls Try.prog 45 #[spV x, spV y] w fun e w' => e = .returned (.int .i64 (cmpSpan x y)) ∧ Grew w w' := by
  obtain ⟨t, l, h⟩ := x
  obtain ⟨t2, l2, h2⟩ := y
  simp only [spV]
  have E : Hid (cmpSpan ⟨t, l, h⟩ ⟨t2, l2, h2⟩ = orL [cmpI t t2, cmpI l l2, cmpI h h2]) := rfl
  go_enter Try.func45, Try.ntmps45
  go_wp2
  have Hb := hid (two_grew w (Obj.cells #[.int .i64 t, .int .i64 l, .int .i64 h] 46) (Obj.cells #[.int .i64 t2, .int .i64 l2, .int .i64 h2] 46))
  have g1 := blk_alloc (blk_new w (Obj.cells #[.int .i64 t, .int .i64 l, .int .i64 h] 46)) (Obj.cells #[.int .i64 t2, .int .i64 l2, .int .i64 h2] 46)
  have g2 := blk_new (w.alloc (Obj.cells #[.int .i64 t, .int .i64 l, .int .i64 h] 46)) (Obj.cells #[.int .i64 t2, .int .i64 l2, .int .i64 h2] 46)
  simp only [World.size_alloc] at g2
  have hz : ((w.alloc (Obj.cells #[.int .i64 t, .int .i64 l, .int .i64 h] 46)).alloc (Obj.cells #[.int .i64 t2, .int .i64 l2, .int .i64 h2] 46)).heap.size = w.heap.size + 2 := by simp
  generalize (w.alloc (Obj.cells #[.int .i64 t, .int .i64 l, .int .i64 h] 46)).alloc (Obj.cells #[.int .i64 t2, .int .i64 l2, .int .i64 h2] 46) = W at *
  have a0 := blk_cell g1 0
  have a1 := blk_cell g1 1
  have a2 := blk_cell g1 2
  have a3 := blk_cell g2 0
  have a4 := blk_cell g2 1
  have a5 := blk_cell g2 2
  simp at a0 a1 a2 a3 a4 a5
  clear g1 g2
  go_region_held3 (fun w' => w'.cell? ⟨w.heap.size, 0, none⟩ = some (.int .i64 t) ∧ w'.cell? ⟨w.heap.size, 1, none⟩ = some (.int .i64 l) ∧ w'.cell? ⟨w.heap.size, 2, none⟩ = some (.int .i64 h) ∧ w'.cell? ⟨w.heap.size+1, 0, none⟩ = some (.int .i64 t2) ∧ w'.cell? ⟨w.heap.size+1, 1, none⟩ = some (.int .i64 l2) ∧ w'.cell? ⟨w.heap.size+1, 2, none⟩ = some (.int .i64 h2)) (go_keep) (first | (go_at_call 59; refine (Compare_any _ _ _).mono ?_; rintro e w' ⟨rfl, rfl⟩) | (go_at_call 58; refine (Or_any [cmpI t t2, cmpI l l2, cmpI h h2] _ _ _ _ rfl (by simp) (fun j x hj => by rcases j with _ | _ | _ | j <;> simp at hj <;> subst hj <;> simp [← hz])).mono ?_; rintro e w1 ⟨rfl, rfl⟩))
  go_wp2
  go_ret
  exact ⟨ret_int E.out.symm, (Hb.out.drew).alloc _⟩
end Go.Proofs.Ytgnikijaihmeeaa
