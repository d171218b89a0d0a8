/- record.Encode. -/
import Derived.Test.YtgnfccdhlpeknaaSwS
open Go Go.RowKit
namespace Go.Proofs.Ytgnfccdhlpeknaa
set_option maxRecDepth 100000
def REncPost (w : World) (x : Rec) (e : Ending) (w' : World) : Prop := Below w.heap.size w w' ∧
  ((goodR x = true ∧ ∃ A c, e = .returned (.tuple #[.slice A (encB x).length c, .nilIface]) ∧ w'.ownsRow w.heap.size 5 1 (.slice A (encB x).length c) (encB x).length ((encB x).map bv)) ∨
   (goodR x = false ∧ e = .returned (.tuple #[.slice none 0 0, errno 2])))
set_option maxHeartbeats 4000000 in
theorem REncode_any (w : World) (x : Rec) (Ac : Option Addr) (nc cc : Nat) (A0 : Option Addr) (n0 c0 : Nat) (A1 : Option Addr) (n1 c1 : Nat) (A2 : Option Addr) (n2 c2 : Nat) (Aw : Option Addr) (nw cw : Nat) (h : RecRd w x Ac nc cc A0 n0 c0 A1 n1 c1 A2 n2 c2 Aw nw cw) (hk : RecOk x) :
    Calls Try.prog 6 #[.agg #[.int .i64 x.seq, .bool x.val, .int .i64 x.pg.fuel, .slice Ac nc cc, .slice A0 n0 c0, .slice A1 n1 c1, .slice A2 n2 c2, .slice Aw nw cw]] w (REncPost w x) := by
  have HG := hid fun w' (hb : Below w.heap.size w w') => RGood_any w' x Ac nc cc A0 n0 c0 A1 n1 c1 A2 n2 c2 Aw nw cw (h.ext hb) (fun y hy => (hk.ft.s y hy).2)
  have HBo := hid fun (hg : goodR x = true) w' (hb : Below w.heap.size w w') => body_any w' x Ac nc cc A0 n0 c0 A1 n1 c1 A2 n2 c2 Aw nw cw (h.ext hb) hk hg
  have HLt := hid (bodyB_lt x)
  have HEn := hid (show encB x = bodyB x ++ sum4 (sumC (bodyB x)) from rfl)
  have hP : ∀ e w', REncPost w x e w' ↔ (Below w.heap.size w w' ∧
      ((goodR x = true ∧ ∃ A c, e = .returned (.tuple #[.slice A (encB x).length c, .nilIface]) ∧ w'.ownsRow w.heap.size 5 1 (.slice A (encB x).length c) (encB x).length ((encB x).map bv)) ∨
       (goodR x = false ∧ e = .returned (.tuple #[.slice none 0 0, errno 2])))) := fun e w' => Iff.rfl
  have HP := hid hP
  clear h hk hP
  generalize REncPost w x = PP at *
  generalize goodR x = G at *
  generalize encB x = EB at *
  generalize bodyB x = BB at *
  generalize x.seq = S at *
  generalize x.val = V at *
  generalize x.pg.fuel = F at *
  have Hs0 := hid (ext_alloc w (Obj.cells #[.int .i64 S, .bool V, .int .i64 F, .slice Ac nc cc, .slice A0 n0 c0, .slice A1 n1 c1, .slice A2 n2 c2, .slice Aw nw cw] 39))
  have HnB := hid (blk_new w (Obj.cells #[.int .i64 S, .bool V, .int .i64 F, .slice Ac nc cc, .slice A0 n0 c0, .slice A1 n1 c1, .slice A2 n2 c2, .slice Aw nw cw] 39))
  go_enter Try.func6, Try.ntmps6
  go_wp2_with fail
  refine (HG.out _ Hs0.out).mono ?_
  rintro e w1 ⟨rfl, hb1⟩
  have Hb1 := hid hb1
  clear hb1
  have HB1 := hid (ext_blk Hb1.out HnB.out)
  cases G with
  | false =>
    go_wp2
    exact (HP.out _ _).2 ⟨ext_trans Hs0.out Hb1.out, .inr (by first | exact ⟨trivial, rfl⟩ | exact ⟨rfl, rfl⟩ | simp)⟩
  | true =>
    have Hw1 := hid (ext_trans Hs0.out Hb1.out)
    have l0 : w1.cell? ⟨w.heap.size, 0, none⟩ = some (.int .i64 S) := by rw [blk_cell HB1.out]; rfl
    have l1 : w1.cell? ⟨w.heap.size, 1, none⟩ = some (.bool V) := by rw [blk_cell HB1.out]; rfl
    have l2 : w1.cell? ⟨w.heap.size, 2, none⟩ = some (.int .i64 F) := by rw [blk_cell HB1.out]; rfl
    have l3 : w1.cell? ⟨w.heap.size, 3, none⟩ = some (.slice Ac nc cc) := by rw [blk_cell HB1.out]; rfl
    have l4 : w1.cell? ⟨w.heap.size, 4, none⟩ = some (.slice A0 n0 c0) := by rw [blk_cell HB1.out]; rfl
    have l5 : w1.cell? ⟨w.heap.size, 5, none⟩ = some (.slice A1 n1 c1) := by rw [blk_cell HB1.out]; rfl
    have l6 : w1.cell? ⟨w.heap.size, 6, none⟩ = some (.slice A2 n2 c2) := by rw [blk_cell HB1.out]; rfl
    have l7 : w1.cell? ⟨w.heap.size, 7, none⟩ = some (.slice Aw nw cw) := by rw [blk_cell HB1.out]; rfl
    obtain ⟨hl, hbo⟩ := HBo.out rfl _ Hw1.out
    have Hl := hid hl
    have Hbo := hid hbo
    clear hl hbo
    go_wp2_with fail
    refine Hbo.out.mono ?_
    rintro e w2 ⟨A2', c2', rfl, h1, h2, h3, h4, h5⟩
    have H1 := hid h1
    have H5 := hid h5
    clear h1 h2 h3 h4 h5 l0 l1 l2 l3 l4 l5 l6 l7
    have hB : w.heap.size ≤ w2.heap.size := Nat.le_trans Hw1.out.size H5.out.size
    have HBs := hid hB
    clear hB
    go_wp2_with fail
    refine (summed_any w.heap.size w2 A2' BB.length c2' BB rfl HLt.out HBs.out (own_base H1.out (fun k e => by have := (own_blk H1.out e).1; have := Hw1.out.size; omega)) (by have := Hl.out; omega)).mono ?_
    rintro e w3 ⟨A3, c3, rfl, h6, h7⟩
    have H6 := hid h6
    have H7 := hid h7
    clear h6 h7
    go_wp2
    have hlen : BB.length + 4 = EB.length := by rw [HEn.out]; simp [sum4]
    refine (HP.out _ _).2 ⟨Hw1.out.trans ((H5.out.mono Hw1.out.size).trans H7.out), .inl ⟨by simp, A3, c3, ?_, ?_⟩⟩
    · rw [← hlen]; rfl
    · have := H6.out
      rw [hlen, ← HEn.out] at this
      exact this
end Go.Proofs.Ytgnfccdhlpeknaa
