/- The walk of prog.good. -/
import Derived.Test.YtgnfccdhlpeknaaSwJ
open Go Go.RowKit
namespace Go.Proofs.Ytgnfccdhlpeknaa
set_option maxRecDepth 100000
structure Cd where
  op : Int
  a : Int
  b : Int
  c : Int
  t : Int
  n : Int
deriving DecidableEq, Inhabited
def Cd.l (x : Cd) : List Int := [x.op, x.a, x.b, x.c, x.t, x.n]
abbrev iv (n : Int) : Value := .int .i64 n
abbrev cdV (x : Cd) : Value := .agg #[.int .i64 x.op, .int .i64 x.a, .int .i64 x.b, .int .i64 x.c, .int .i64 x.t, .int .i64 x.n]
theorem two_new (w : World) (x y : Obj) : Below w.heap.size w ((w.alloc x).alloc y) := ((Below.refl _ _).alloc (Nat.le_refl _) _).alloc (by simp) _
def lets (s : ByteArray) : List Int := s.data.toList.map fun b => (b.toNat : Int)
theorem lets_len (s : ByteArray) : (lets s).length = s.size := by simp [lets]
theorem lets_get (s : ByteArray) (k : Nat) (h : k < s.size) : (lets s)[k]? = some (s[k].toNat : Int) := by
  unfold lets
  rw [List.getElem?_map, List.getElem?_eq_getElem (by simpa using h)]
  rfl
def gI (l : List Int) (i : Nat) : Int := l.getD i 0
def goodGo : List Int → List Int → List Int → Int → Bool
  | [], x, rest, _ => decide (rest = [gI x 0, 0, 0, 0, 0, 0])
  | l :: r, x, rest, bh => soundB l (gI x (fldI l)) bh && goodGo r x (rest.set (fldI l) 0) bh
theorem six_eq {rl : List Int} (h : rl.length = 6) (a : Int) : decide (rl = [a, 0, 0, 0, 0, 0]) = (gI rl 0 == a && (gI rl 1 == 0 && (gI rl 2 == 0 && (gI rl 3 == 0 && (gI rl 4 == 0 && gI rl 5 == 0))))) := by
  obtain ⟨r0, r1, r2, r3, r4, r5, rfl⟩ : ∃ r0 r1 r2 r3 r4 r5, rl = [r0, r1, r2, r3, r4, r5] := by
    match rl, h with
    | [r0, r1, r2, r3, r4, r5], _ => exact ⟨r0, r1, r2, r3, r4, r5, rfl⟩
  rw [Bool.eq_iff_iff]
  simp [gI]
def goodC (x : Cd) (bh : Int) : Bool := shapeOk x.op && goodGo (lets (shapeS x.op)) x.l x.l bh
/-- a block of six numbers -/
def Six (w : World) (b : Nat) (l : List Int) : Prop := w.heap[b]? = some (.cells (l.map iv).toArray 93 (0, 0)) ∧ l.length = 6
theorem Six.cell {w : World} {b : Nat} {l : List Int} (h : Six w b l) (i : Nat) (hi : i < 6) : w.cell? ⟨b, i, none⟩ = some (.int .i64 (gI l i)) := by
  unfold gI
  rw [blk_cell h.1, List.getElem?_toArray, List.getElem?_map, List.getElem?_eq_getElem (by rw [h.2]; exact hi)]
  simp [List.getD, List.getElem?_eq_getElem (show i < l.length by rw [h.2]; exact hi)]
theorem Six.set {w : World} {b : Nat} {l : List Int} (h : Six w b l) (i : Nat) (v : Int) : Six (w.setCell ⟨b, i, none⟩ (.int .i64 v)) b (l.set i v) := by
  refine ⟨?_, by simp [h.2]⟩
  rw [blk_set h.1]
  congr 2
  apply Array.ext'
  simp [List.map_set]
theorem Six.ext {w w' : World} {b : Nat} {l : List Int} (h : Six w b l) (hb : Below w.heap.size w w') : Six w' b l := ⟨ext_blk hb h.1, h.2⟩
theorem shape_size (op : Int) : (shapeS op).size ≤ 5 := by unfold shapeS; (repeat' split) <;> decide
set_option maxHeartbeats 1000000 in
theorem pgood_any (w : World) (x : Cd) (bh : Int) : Calls Try.prog 41 #[cdV x, .int .i64 bh] w fun e w' => e = .returned (.bool (goodC x bh)) ∧ Below w.heap.size w w' := by
  have HB : Six (w.alloc (Obj.cells #[.int .i64 x.op, .int .i64 x.a, .int .i64 x.b, .int .i64 x.c, .int .i64 x.t, .int .i64 x.n] 93)) w.heap.size x.l := ⟨blk_new _ _, rfl⟩
  have HB' := hid HB
  clear HB
  cases hok : shapeOk x.op with
  | false =>
    have F := hid (show goodC x bh = false by unfold goodC; rw [hok]; rfl)
    go_enter Try.func41, Try.ntmps41
    go_wp2_with (go_at_call 49; refine (Shape_any _ _).mono ?_; rintro e w' ⟨rfl, rfl⟩)
    go_ret
    exact ⟨ret_bool F.out.symm, ext_alloc _ _⟩
  | true =>
    have F := hid (show goodC x bh = goodGo (lets (shapeS x.op)) x.l x.l bh by unfold goodC; rw [hok]; rfl)
    have hsz := shape_size x.op
    generalize hs : shapeS x.op = s at *
    have Hs := hid hs
    clear hs
    go_enter Try.func41, Try.ntmps41
    go_wp2_with (go_at_call 49; refine (Shape_any _ _).mono ?_; rw [Hs.out]; rintro e w' ⟨rfl, rfl⟩)
    have HR : Hid (Six ((w.alloc (Obj.cells #[.int .i64 x.op, .int .i64 x.a, .int .i64 x.b, .int .i64 x.c, .int .i64 x.t, .int .i64 x.n] 93)).alloc (Obj.cells #[.int .i64 x.op, .int .i64 x.a, .int .i64 x.b, .int .i64 x.c, .int .i64 x.t, .int .i64 x.n] 93)) (w.heap.size + 1) x.l) := hid ⟨by have := blk_new (w.alloc (Obj.cells #[.int .i64 x.op, .int .i64 x.a, .int .i64 x.b, .int .i64 x.c, .int .i64 x.t, .int .i64 x.n] 93)) (Obj.cells #[.int .i64 x.op, .int .i64 x.a, .int .i64 x.b, .int .i64 x.c, .int .i64 x.t, .int .i64 x.n] 93); rw [World.size_alloc] at this; exact this, rfl⟩
    go_loopw [20] (fun v20 wr => ∃ (k : Nat) (rl : List Int), v20 = .int .i64 k ∧ k ≤ s.size ∧ Hid (Six wr w.heap.size x.l) ∧ Hid (Six wr (w.heap.size + 1) rl) ∧ Hid (goodC x bh = goodGo ((lets s).drop k) x.l rl bh) ∧ Hid (Below w.heap.size w wr)) (fun v20 _ => s.size - (intOf v20).toNat)
    case atStart => exact ⟨0, x.l, rfl, by omega, hid (HB'.out.ext (ext_alloc _ _)), HR, F, hid (two_new _ _ _)⟩
    case round =>
      obtain ⟨k, rl, rfl, hk, Hx, Hr, Hg, Hb⟩ := hrel
      by_cases hlt : k < s.size
      · have hL := lets_get s k hlt
        have hd : (lets s).drop k = (s[k].toNat : Int) :: (lets s).drop (k + 1) := by
          obtain ⟨h1, h2⟩ := List.getElem?_eq_some_iff.1 hL
          rw [List.drop_eq_getElem_cons h1, h2]
        have Hd := hid hd
        clear hL hd
        generalize hlv : (s[k].toNat : Int) = lv at Hd
        have Hlv := hid hlv
        have hf := fldI_lt lv
        have Hf := hid hf
        have l0 : Hid (∀ w', Below wr.heap.size wr w' → w'.cell? ⟨w.heap.size, fldI lv, none⟩ = some (.int .i64 (gI x.l (fldI lv)))) := hid fun w' h => (Hx.out.ext h).cell _ Hf.out.1
        clear hf
        cases hsd : soundB lv (gI x.l (fldI lv)) bh with
        | false =>
          go_wp2
          refine wp_region_ext (by kernel_rfl) (by kernel_rfl) ?_
          repeat ((with_reducible refine wpQuiet_step (fun K hK => ?_)); go_simp; first | (refine hK _ ?_; clear hK K) | (refine ⟨_, fun w' hw' => rfl, hK _ ?_⟩; clear hK K) | (apply Exists.intro; refine ⟨fun w' hw' => ?_, hK _ ?_⟩; (first | (go_at_call 50; exact call_ext_same hw' (pfield_any _ _ _)) | (go_at_call 62; exact call_ext_same hw' (sound_any _ _ _ _)) | (have q0 := l0.out w' hw'; go_simp; rfl)); clear hK K))
          refine wpQuiet_nil ?_
          intro w2 hw2
          have Hw2 := hid hw2
          clear hw2
          go_wp2
          go_ret
          exact ⟨ret_bool (by rw [Hg.out, Hd.out, goodGo, hsd]; rfl), ext_trans Hb.out Hw2.out⟩
        | true =>
          have G2 := hid (show goodC x bh = goodGo ((lets s).drop (k + 1)) x.l (rl.set (fldI lv) 0) bh by rw [Hg.out, Hd.out, goodGo, hsd]; rfl)
          go_wp2
          refine wp_region_ext (by kernel_rfl) (by kernel_rfl) ?_
          repeat ((with_reducible refine wpQuiet_step (fun K hK => ?_)); go_simp; first | (refine hK _ ?_; clear hK K) | (refine ⟨_, fun w' hw' => rfl, hK _ ?_⟩; clear hK K) | (apply Exists.intro; refine ⟨fun w' hw' => ?_, hK _ ?_⟩; (first | (go_at_call 50; exact call_ext_same hw' (pfield_any _ _ _)) | (go_at_call 62; exact call_ext_same hw' (sound_any _ _ _ _)) | (have q0 := l0.out w' hw'; go_simp; rfl)); clear hK K))
          refine wpQuiet_nil ?_
          intro w2 hw2
          have hr2 := (Hr.out.ext hw2).cell (fldI lv) Hf.out.1
          have hf2 := blk_free (Hr.out.ext hw2).1 (fldI lv)
          have Hw2 := hid hw2
          clear hw2
          go_wp2_with (go_at_call 50; refine (pfield_any _ _ _).mono ?_; rintro e w' ⟨rfl, rfl⟩)
          refine ⟨⟨k + 1, rl.set (fldI lv) 0, by go_num, by omega, hid ?_, hid ((Hr.out.ext Hw2.out).set _ _), G2, hid ?_⟩, by simp [intOf]; omega⟩
          · exact ⟨blk_set_ne (Hx.out.ext Hw2.out).1 (by simp) _, (Hx.out).2⟩
          · exact (ext_trans Hb.out Hw2.out).trans ((kp_set _ _ _ _).below (by have := Hb.out.size; have := Hw2.out.size; omega) (fun i hi => by omega))
      · have hx0 := Hx.out.cell 0 (by omega)
        have hr0 := Hr.out.cell 0 (by omega)
        have hr1 := Hr.out.cell 1 (by omega)
        have hr2 := Hr.out.cell 2 (by omega)
        have hr3 := Hr.out.cell 3 (by omega)
        have hr4 := Hr.out.cell 4 (by omega)
        have hr5 := Hr.out.cell 5 (by omega)
        have F3 := hid (show goodC x bh = (gI rl 0 == gI x.l 0 && (gI rl 1 == 0 && (gI rl 2 == 0 && (gI rl 3 == 0 && (gI rl 4 == 0 && gI rl 5 == 0))))) by rw [Hg.out, List.drop_of_length_le (by rw [lets_len]; omega), goodGo, six_eq Hr.out.2])
        go_wp2
        all_goals (go_ret; exact ⟨ret_bool (by rw [F3.out]; simp [*]), Hb.out⟩)
end Go.Proofs.Ytgnfccdhlpeknaa
