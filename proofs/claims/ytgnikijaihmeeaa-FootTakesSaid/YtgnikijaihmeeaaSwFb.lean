/- The walks of foot's comparisons, on. -/
import Derived.Test.YtgnikijaihmeeaaSwF
open Go Go.RowKit
namespace Go.Proofs.Ytgnikijaihmeeaa
set_option linter.unusedVariables false
set_option linter.unusedSimpArgs false
set_option maxRecDepth 100000
abbrev kyV (x : Ky) : Value := .agg #[.int .i64 x.t, .int .i64 x.k]
abbrev spV (x : Sp) : Value := .agg #[.int .i64 x.t, .int .i64 x.lo, .int .i64 x.hi]
def cmpKey (a b : Ky) : Int := orL [cmpI a.t b.t, cmpI a.k b.k]
def cmpSpan (a b : Sp) : Int := orL [cmpI a.t b.t, cmpI a.lo b.lo, cmpI a.hi b.hi]
def keyLt (a b : Ky) : Bool := decide (cmpKey a b < 0)
theorem two_blocks (w : World) (x y : Obj) : Below w.heap.size w ((w.alloc x).alloc y) := ((Below.refl _ _).alloc (Nat.le_refl _) _).alloc (by simp) _
set_option maxHeartbeats 1000000 in
theorem byKey_any (x y : Ky) (w : World) : Calls Try.prog 55 #[kyV x, kyV y] w fun e w' => e = .returned (.int .i64 (cmpKey x y)) ∧ Below w.heap.size w w' := by
  obtain ⟨t, k⟩ := x
  obtain ⟨t2, k2⟩ := y
  simp only [kyV]
  have E : Hid (cmpKey ⟨t, k⟩ ⟨t2, k2⟩ = orL [cmpI t t2, cmpI k k2]) := rfl
  go_enter Try.func55, Try.ntmps55
  go_wp2
  have Hb := hid (two_blocks w (Obj.cells #[.int .i64 t, .int .i64 k] 80) (Obj.cells #[.int .i64 t2, .int .i64 k2] 80))
  have h1 := blk_alloc (blk_new w (Obj.cells #[.int .i64 t, .int .i64 k] 80)) (Obj.cells #[.int .i64 t2, .int .i64 k2] 80)
  have h2 := blk_new (w.alloc (Obj.cells #[.int .i64 t, .int .i64 k] 80)) (Obj.cells #[.int .i64 t2, .int .i64 k2] 80)
  simp only [World.size_alloc] at h2
  have hz : ((w.alloc (Obj.cells #[.int .i64 t, .int .i64 k] 80)).alloc (Obj.cells #[.int .i64 t2, .int .i64 k2] 80)).heap.size = w.heap.size + 2 := by simp
  generalize (w.alloc (Obj.cells #[.int .i64 t, .int .i64 k] 80)).alloc (Obj.cells #[.int .i64 t2, .int .i64 k2] 80) = W at *
  have a0 := blk_cell h1 0
  have a1 := blk_cell h1 1
  have a2 := blk_cell h2 0
  have a3 := blk_cell h2 1
  simp at a0 a1 a2 a3
  clear h1 h2
  go_region_held3 (fun w' => w'.cell? ⟨w.heap.size, 0, none⟩ = some (.int .i64 t) ∧ w'.cell? ⟨w.heap.size, 1, none⟩ = some (.int .i64 k) ∧ w'.cell? ⟨w.heap.size+1, 0, none⟩ = some (.int .i64 t2) ∧ w'.cell? ⟨w.heap.size+1, 1, none⟩ = some (.int .i64 k2)) (go_keep) (first | (go_at_call 59; refine (Compare_any _ _ _).mono ?_; rintro e w' ⟨rfl, rfl⟩) | (go_at_call 58; refine (Or_any [cmpI t t2, cmpI k k2] _ _ _ _ rfl (by simp) (fun j x hj => by rcases j with _ | _ | j <;> simp at hj <;> subst hj <;> simp [← hz])).mono ?_; rintro e w1 ⟨rfl, rfl⟩))
  go_wp2
  go_ret
  exact ⟨ret_int E.out.symm, Hb.out.drew.alloc (by show w.heap.size ≤ W.heap.size; omega) _⟩
theorem Less_any (x y : Ky) (w : World) : Calls Try.prog 60 #[kyV x, kyV y] w fun e w' => e = .returned (.bool (keyLt x y)) ∧ Below w.heap.size w w' := by
  have H := fun w => byKey_any x y w
  obtain ⟨t, k⟩ := x
  obtain ⟨t2, k2⟩ := y
  simp only [kyV] at H ⊢
  have E : Hid (keyLt ⟨t, k⟩ ⟨t2, k2⟩ = decide (cmpKey ⟨t, k⟩ ⟨t2, k2⟩ < 0)) := rfl
  generalize cmpKey ⟨t, k⟩ ⟨t2, k2⟩ = q at H E
  have H' := hid H
  clear H
  go_enter Try.func60, Try.ntmps60
  go_wp2_with fail
  refine (H'.out _).mono ?_
  rintro e w1 ⟨rfl, hb⟩
  have Hb := hid hb
  clear hb
  go_wp2
  go_ret
  exact ⟨ret_bool E.out.symm, ext_trans (two_blocks _ _ _) Hb.out⟩
set_option maxHeartbeats 2000000 in
theorem bySpan_any (x y : Sp) (w : World) : Calls Try.prog 45 #[spV x, spV y] w fun e w' => e = .returned (.int .i64 (cmpSpan x y)) ∧ Below w.heap.size w w' := by
  obtain ⟨t, l, h⟩ := x
  obtain ⟨t2, l2, h2⟩ := y
  simp only [spV]
  have E : Hid (cmpSpan ⟨t, l, h⟩ ⟨t2, l2, h2⟩ = orL [cmpI t t2, cmpI l l2, cmpI h h2]) := rfl
  go_enter Try.func45, Try.ntmps45
  go_wp2
  have Hb := hid (two_blocks w (Obj.cells #[.int .i64 t, .int .i64 l, .int .i64 h] 46) (Obj.cells #[.int .i64 t2, .int .i64 l2, .int .i64 h2] 46))
  have g1 := blk_alloc (blk_new w (Obj.cells #[.int .i64 t, .int .i64 l, .int .i64 h] 46)) (Obj.cells #[.int .i64 t2, .int .i64 l2, .int .i64 h2] 46)
  have g2 := blk_new (w.alloc (Obj.cells #[.int .i64 t, .int .i64 l, .int .i64 h] 46)) (Obj.cells #[.int .i64 t2, .int .i64 l2, .int .i64 h2] 46)
  simp only [World.size_alloc] at g2
  have hz : ((w.alloc (Obj.cells #[.int .i64 t, .int .i64 l, .int .i64 h] 46)).alloc (Obj.cells #[.int .i64 t2, .int .i64 l2, .int .i64 h2] 46)).heap.size = w.heap.size + 2 := by simp
  generalize (w.alloc (Obj.cells #[.int .i64 t, .int .i64 l, .int .i64 h] 46)).alloc (Obj.cells #[.int .i64 t2, .int .i64 l2, .int .i64 h2] 46) = W at *
  have a0 := blk_cell g1 0
  have a1 := blk_cell g1 1
  have a2 := blk_cell g1 2
  have a3 := blk_cell g2 0
  have a4 := blk_cell g2 1
  have a5 := blk_cell g2 2
  simp at a0 a1 a2 a3 a4 a5
  clear g1 g2
  go_region_held3 (fun w' => w'.cell? ⟨w.heap.size, 0, none⟩ = some (.int .i64 t) ∧ w'.cell? ⟨w.heap.size, 1, none⟩ = some (.int .i64 l) ∧ w'.cell? ⟨w.heap.size, 2, none⟩ = some (.int .i64 h) ∧ w'.cell? ⟨w.heap.size+1, 0, none⟩ = some (.int .i64 t2) ∧ w'.cell? ⟨w.heap.size+1, 1, none⟩ = some (.int .i64 l2) ∧ w'.cell? ⟨w.heap.size+1, 2, none⟩ = some (.int .i64 h2)) (go_keep) (first | (go_at_call 59; refine (Compare_any _ _ _).mono ?_; rintro e w' ⟨rfl, rfl⟩) | (go_at_call 58; refine (Or_any [cmpI t t2, cmpI l l2, cmpI h h2] _ _ _ _ rfl (by simp) (fun j x hj => by rcases j with _ | _ | _ | j <;> simp at hj <;> subst hj <;> simp [← hz])).mono ?_; rintro e w1 ⟨rfl, rfl⟩))
  go_wp2
  go_ret
  exact ⟨ret_int E.out.symm, Hb.out.drew.alloc (by show w.heap.size ≤ W.heap.size; omega) _⟩
/-- is there a number between two spans of which one begins first? -/
def apartB (a b : Sp) : Bool := a.t != b.t || (decide (a.hi < 9223372036854775806) && decide (a.hi + 1 < b.lo))
def tableB (t : Int) : Bool := decide (0 ≤ t) && decide (t < 4)
theorem apart_any (x y : Sp) (w : World) (hx : -9223372036854775808 ≤ x.hi) (hx2 : x.hi ≤ 9223372036854775807) : Calls Try.prog 46 #[spV x, spV y] w fun e w' => e = .returned (.bool (apartB x y)) ∧ Below w.heap.size w w' := by
  obtain ⟨t, l, h⟩ := x
  obtain ⟨t2, l2, h2⟩ := y
  simp only [spV] at hx hx2 ⊢
  go_enter Try.func46, Try.ntmps46
  go_wp2
  all_goals (go_ret; exact ⟨ret_bool (by unfold apartB; first | (simp [*]; done) | (simp [*]; omega)), two_blocks _ _ _⟩)
theorem table_any (t : Int) (w : World) : Calls Try.prog 44 #[.int .i64 t] w fun e w' => e = .returned (.bool (tableB t)) ∧ w = w' := by
  have E : Hid (tableB t = (decide (0 ≤ t) && decide (t < 4))) := rfl
  go_enter Try.func44, Try.ntmps44
  go_wp2
  all_goals (go_ret; exact ⟨ret_bool (by rw [E.out]; first | (simp [*]; done) | (simp [*]; omega)), rfl⟩)
end Go.Proofs.Ytgnikijaihmeeaa
