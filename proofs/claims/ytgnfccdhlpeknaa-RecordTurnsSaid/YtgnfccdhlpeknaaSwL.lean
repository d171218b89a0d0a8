/- The walk of prog.code. -/
import Derived.Test.YtgnfccdhlpeknaaSwK
import Derived.Test.YtgnfccdhlpeknaaSwI
open Go Go.RowKit
namespace Go.Proofs.Ytgnfccdhlpeknaa
set_option maxRecDepth 100000
def rSm (s : St) : Nat × St := ((rCount s).1 % 4611686018427387904, (rCount s).2)
theorem mask62 {n : Nat} (h : n < 18446744073709551616) : bits .and .u64 (n : Int) 4611686018427387903 = ((n % 4611686018427387904 : Nat) : Int) := by
  have := bits_mask .u64 64 (by decide) wraps64 62 (by decide) (n : Int) (by omega) (by omega)
  rw [show (4611686018427387903 : Int) = 2 ^ 62 - 1 by decide, this]
  omega
theorem psmall_any (w : World) (br : Nat) (s : St) (hby : Byt s) (h : ReaderAt w br s) :
    Calls Try.prog 56 #[.pointer (some ⟨br, 0, none⟩)] w fun e w' => e = .returned (.int .i64 ((rSm s).1 : Int)) ∧ Hid (ReaderAt w' br (rSm s).2) ∧ Hid (Kp (· ≠ br) w w') := by
  have H := hid (Count_any w br s hby h)
  have e1 : Hid (rSm s = ((rCount s).1 % 4611686018427387904, (rCount s).2)) := rfl
  have hlt := rCount_lt hby
  generalize rCount s = q at H hlt e1
  obtain ⟨n, t⟩ := q
  clear hby h
  have Hlt := hid hlt
  clear hlt
  rw [e1.out]
  go_enter Try.func56, Try.ntmps56
  go_wp2_with fail
  refine H.out.mono ?_
  rintro e w1 ⟨rfl, h1, h2⟩
  go_wp2
  go_ret
  refine ⟨ret_int ?_, h1, h2⟩
  rw [mask62 Hlt.out]
  unfold wrap64
  omega
def codeGo : List Int → List Int → St → List Int × St
  | [], x, s => (x, s)
  | l :: r, x, s => if l == 110 then codeGo r (x.set 5 (rNum s).1) (rNum s).2 else codeGo r (x.set (fldI l) ((rSm s).1 : Int)) (rSm s).2
def rCode (s : St) : List Int × St := codeGo (lets (shapeS ((rByte s).1 : Int))) [((rByte s).1 : Int), 0, 0, 0, 0, 0] (rByte s).2
def ofL (l : List Int) : Cd := ⟨gI l 0, gI l 1, gI l 2, gI l 3, gI l 4, gI l 5⟩
theorem rByte_byt {s : St} (h : Byt s) : Byt (rByte s).2 := by
  cases s with
  | none => exact Byt.none
  | some l => cases l with
    | nil => exact Byt.none
    | cons b r => exact Byt.some (fun x hx => h _ rfl x (by simp [hx]))
theorem rByte_lt {s : St} (h : Byt s) : (rByte s).1 < 256 := by
  cases s with
  | none => simp [rByte]
  | some l => cases l with
    | nil => simp [rByte]
    | cons b r => exact h _ rfl b (by simp)
theorem rSm_byt {s : St} (h : Byt s) : Byt (rSm s).2 := rCount_byt h
theorem gI_set {l : List Int} (h : l.length = 6) (i j : Nat) (hi : i < 6) (v : Int) : gI (l.set i v) j = if j = i then v else gI l j := by
  unfold gI
  simp only [List.getD_eq_getElem?_getD, List.getElem?_set]
  split
  · rename_i h1; subst h1; simp [h, hi]
  · rename_i h1; rw [if_neg (fun e => h1 e.symm)]
set_option maxHeartbeats 1000000 in
theorem code_any (w : World) (br : Nat) (s : St) (hby : Byt s) (h : ReaderAt w br s) :
    Calls Try.prog 57 #[.pointer (some ⟨br, 0, none⟩)] w fun e w' => e = .returned (cdV (ofL (rCode s).1)) ∧ Hid (ReaderAt w' br (rCode s).2) ∧ Hid (Kp (· ≠ br) w w') := by
  have H := hid h
  have Hby := hid hby
  have hb := rByte_lt hby
  clear h hby
  go_enter Try.func57, Try.ntmps57
  go_wp2_with fail
  refine (Byte_any _ br s (H.out.ext (ext_alloc _ _))).mono ?_
  rintro e w1 ⟨rfl, h1, h2⟩
  have By1 := hid (rByte_byt Hby.out)
  have E : Hid (rCode s = codeGo (lets (shapeS ((rByte s).1 : Int))) [((rByte s).1 : Int), 0, 0, 0, 0, 0] (rByte s).2) := rfl
  have hbr : w.heap.size ≠ br := fun e => by have := H.out.lt; omega
  have rs1 := h2.out.blk (blk_new w (Obj.cells #[.int .i64 0, .int .i64 0, .int .i64 0, .int .i64 0, .int .i64 0, .int .i64 0] 93)) hbr
  have Rs1 := hid rs1
  have K1 : Hid (Kp (· ≠ br) w w1) := hid ((Kp.alloc _ _ _).trans h2.out)
  clear rs1 h2
  generalize rByte s = q at *
  obtain ⟨op, s1⟩ := q
  simp only at *
  have hsz := shape_size (op : Int)
  generalize hs : shapeS (op : Int) = sh at *
  have Hs := hid hs
  clear hs Hby H
  go_wp2_with (go_at_call 49; refine (Shape_any _ _).mono ?_; rw [Hs.out]; rintro e w' ⟨rfl, rfl⟩)
  have Hsz1 : Hid (w.heap.size < w1.heap.size) := hid (heap_lt Rs1.out)
  have Six0 : Hid (Six (w1.alloc (Obj.cells #[.int .i64 (op : Int), .int .i64 0, .int .i64 0, .int .i64 0, .int .i64 0, .int .i64 0] 93)) w1.heap.size [(op : Int), 0, 0, 0, 0, 0]) := hid ⟨blk_new _ _, rfl⟩
  go_loopw [19] (fun v19 wr => ∃ (j : Nat) (x : List Int) (t : St), v19 = .int .i64 j ∧ j ≤ sh.size ∧ Hid (Six wr w1.heap.size x) ∧ Hid (ReaderAt wr br t) ∧ Hid (Byt t) ∧ Hid (rCode s = codeGo ((lets sh).drop j) x t) ∧ Hid (wr.heap[w.heap.size]? = some (.cells #[.int .i64 0, .int .i64 0, .int .i64 0, .int .i64 0, .int .i64 0, .int .i64 0] 93 (0, 0))) ∧ Hid (Kp (· ≠ br) w wr)) (fun v19 _ => sh.size - (intOf v19).toNat)
  case atStart => exact ⟨0, _, s1, rfl, by omega, Six0, hid (h1.out.ext (ext_alloc _ _)), By1, E, hid (blk_alloc Rs1.out _), hid (K1.out.trans (Kp.alloc _ _ _))⟩
  case round =>
    clear Six0 h1 By1 E Rs1 K1
    obtain ⟨j, x, t, rfl, hj, Sx, Hr, By, Hg, Rs, K⟩ := hrel
    by_cases hjlt : j < sh.size
    · have hL := lets_get sh j hjlt
      have hd : (lets sh).drop j = (sh[j].toNat : Int) :: (lets sh).drop (j + 1) := by
        obtain ⟨h1, h2⟩ := List.getElem?_eq_some_iff.1 hL
        rw [List.drop_eq_getElem_cons h1, h2]
      generalize hlv : (sh[j].toNat : Int) = lv at hd
      have Hd := hid hd
      clear hL hd
      have Hf := hid (fldI_lt lv)
      cases hlb : lv == 110 with
      | true =>
        have G2 := hid (show rCode s = codeGo ((lets sh).drop (j + 1)) (x.set 5 (rNum t).1) (rNum t).2 by rw [Hg.out, Hd.out, codeGo, if_pos hlb])
        go_wp2_with fail
        refine (Num_any _ br t By.out (Count_any _ br t By.out Hr.out)).mono ?_
        rintro e w4 ⟨rfl, h3, h4⟩
        have S4 := hid (show Six w4 w1.heap.size x from ⟨h4.out.blk Sx.out.1 (fun e => by obtain ⟨cs, hb⟩ := Hr.out.blk; exact blk_ty_ne Sx.out.1 hb (by decide) e), Sx.out.2⟩)
        have hc := S4.out.cell 5 (by omega)
        have hf := blk_free S4.out.1 5
        go_wp2
        refine ⟨⟨j + 1, _, _, by go_num, by omega, hid (S4.out.set 5 _), hid (h3.out.kp (kp_set _ _ _ _) (fun e => by obtain ⟨cs, hb⟩ := h3.out.blk; exact blk_ty_ne hb S4.out.1 (by decide) e) (fun k cs fz h => blk_ty_ne h S4.out.1 (by decide))), hid (rNum_byt By.out), G2, hid (blk_set_ne (h4.out.blk Rs.out hbr) (by have := Hsz1.out; simp; omega) _), hid ((K.out.trans h4.out).trans2 (kp_set _ _ _ _) (fun i hi _ => by have := Hsz1.out; omega))⟩, by simp [intOf]; omega⟩
      | false =>
        have G2 := hid (show rCode s = codeGo ((lets sh).drop (j + 1)) (x.set (fldI lv) ((rSm t).1 : Int)) (rSm t).2 by rw [Hg.out, Hd.out, codeGo, if_neg (by rw [hlb]; simp)])
        go_wp2_with (go_at_call 50; refine (pfield_any _ _ _).mono ?_; rintro e w' ⟨rfl, rfl⟩)
        refine (psmall_any _ br t By.out Hr.out).mono ?_
        rintro e w4 ⟨rfl, h3, h4⟩
        have S4 := hid (show Six w4 w1.heap.size x from ⟨h4.out.blk Sx.out.1 (fun e => by obtain ⟨cs, hb⟩ := Hr.out.blk; exact blk_ty_ne Sx.out.1 hb (by decide) e), Sx.out.2⟩)
        have hc := S4.out.cell (fldI lv) Hf.out.1
        have hf := blk_free S4.out.1 (fldI lv)
        go_wp2
        refine ⟨⟨j + 1, _, _, by go_num, by omega, hid (S4.out.set (fldI lv) _), hid (h3.out.kp (kp_set _ _ _ _) (fun e => by obtain ⟨cs, hb⟩ := h3.out.blk; exact blk_ty_ne hb S4.out.1 (by decide) e) (fun k cs fz h => blk_ty_ne h S4.out.1 (by decide))), hid (rSm_byt By.out), G2, hid (blk_set_ne (h4.out.blk Rs.out hbr) (by have := Hsz1.out; simp; omega) _), hid ((K.out.trans h4.out).trans2 (kp_set _ _ _ _) (fun i hi _ => by have := Hsz1.out; omega))⟩, by simp [intOf]; omega⟩
    · have G2 := hid (show rCode s = (x, t) by rw [Hg.out, List.drop_of_length_le (by rw [lets_len]; omega)]; rfl)
      have z0 := Sx.out.cell 0 (by omega)
      have z1 := Sx.out.cell 1 (by omega)
      have z2 := Sx.out.cell 2 (by omega)
      have z3 := Sx.out.cell 3 (by omega)
      have z4 := Sx.out.cell 4 (by omega)
      have z5 := Sx.out.cell 5 (by omega)
      have r0 := blk_cell Rs.out 0
      have r1 := blk_cell Rs.out 1
      have r2 := blk_cell Rs.out 2
      have r3 := blk_cell Rs.out 3
      have r4 := blk_cell Rs.out 4
      have r5 := blk_cell Rs.out 5
      have f0 := blk_free Rs.out 0
      have f1 := blk_free Rs.out 1
      have f2 := blk_free Rs.out 2
      have f3 := blk_free Rs.out 3
      have f4 := blk_free Rs.out 4
      have f5 := blk_free Rs.out 5
      simp at r0 r1 r2 r3 r4 r5
      go_wp2
      rw [G2.out]
      refine bodyPost_ret (v := cdV (ofL x)) (by simp [results, Try.results57, go_sem, r0, r1, r2, r3, r4, r5, f0, f1, f2, f3, f4, f5, ofL]) rfl ⟨rfl, ?_, ?_⟩
      · exact hid (Hr.out.kp ((((((kp_set wr w.heap.size 0 _).trans (kp_set _ w.heap.size 1 _)).trans (kp_set _ w.heap.size 2 _)).trans (kp_set _ w.heap.size 3 _)).trans (kp_set _ w.heap.size 4 _)).trans (kp_set _ w.heap.size 5 _)) (Ne.symm hbr) (fun k cs fz h => blk_ty_ne h Rs.out (by decide)))
      · exact hid (K.out.trans2 ((((((kp_set wr w.heap.size 0 _).trans (kp_set _ w.heap.size 1 _)).trans (kp_set _ w.heap.size 2 _)).trans (kp_set _ w.heap.size 3 _)).trans (kp_set _ w.heap.size 4 _)).trans (kp_set _ w.heap.size 5 _)) (fun i hi _ => by omega))
end Go.Proofs.Ytgnfccdhlpeknaa
