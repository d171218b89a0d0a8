/- The walk of record.take: a record of a program. -/
import Derived.Test.YtgnfccdhlpeknaaSwTd
open Go Go.RowKit
namespace Go.Proofs.Ytgnfccdhlpeknaa
set_option maxRecDepth 100000
set_option maxHeartbeats 4000000 in
theorem RtakeP_any (w : World) (br : Nat) (s : St) (hby : Byt s) (h : ReaderAt w br s) (hz : rLeft s ≤ 1000000000000) (hv : (rFlag (rSm s).2).1 = false) :
    Calls Try.prog 14 #[.pointer (some ⟨br, 0, none⟩)] w (RTakePost w br s) := by
  have Hby := hid hby
  have Hrd := hid h
  have Hz := hid hz
  have Hv := hid hv
  clear hby h hz hv
  go_enter Try.func14, Try.ntmps14
  go_wp2_with fail
  refine (rsmall_any _ br s Hby.out (Hrd.out.ext (ext_alloc _ _))).mono ?_
  rintro e w1 ⟨rfl, h1, h2⟩
  have By1 := hid (rSm_byt Hby.out)
  go_wp2_with fail
  refine (Flag_any w1 br (rSm s).2 By1.out h1.out).mono ?_
  rintro e w2 ⟨rfl, h3, h4⟩
  have By2 := hid (rFlag_byt By1.out)
  have Kp2 : Hid (Kp (· ≠ br) w w2) := hid (((Kp.alloc _ w _).trans h2.out).trans h4.out)
  have Lt := hid Hrd.out.lt
  have Rs2 := hid ((h2.out.trans h4.out).blk (blk_new w (Obj.cells #[.int .i64 0, .bool false, .int .i64 0, .slice none 0 0, .slice none 0 0, .slice none 0 0, .slice none 0 0, .slice none 0 0] 39)) (by have := Lt.out; omega))
  have Sz2 : Hid (rLeft (rFlag (rSm s).2).2 ≤ 1000000000000) := hid (by
    have a1 := rCount_le s
    have a2 : rLeft (rFlag (rSm s).2).2 ≤ rLeft (rSm s).2 := by
      cases (rSm s).2 with
      | none => simp [rFlag, rLeft]
      | some l => cases l with
        | nil => simp [rFlag, rLeft]
        | cons b r => simp only [rFlag]; split <;> simp [rLeft]
    have a3 : rLeft (rSm s).2 ≤ rLeft s := a1
    have := Hz.out
    omega)
  have HT : Hid (takeR s = (⟨(rSm s).1, false, (decP (rBytes (rFlag (rSm s).2).2).1).getD ⟨0, []⟩, (takenF (rBytes (rBytes (rFlag (rSm s).2).2).2).1).getD ⟨[], [], []⟩, []⟩, (rBytes (rBytes (rFlag (rSm s).2).2).2).2)) := hid (by unfold takeR; simp only [Hv.out, Bool.false_eq_true, if_false])
  rw [Hv.out]
  generalize (rFlag (rSm s).2).2 = s2 at *
  go_wp2_with fail
  have Bx2 := hid (blk_new w2 (Obj.cells #[.int .i64 ((rSm s).1 : Int), .bool false, .int .i64 0, .slice none 0 0, .slice none 0 0, .slice none 0 0, .slice none 0 0, .slice none 0 0] 39))
  have Rd2 := hid (h3.out.ext (ext_alloc w2 (Obj.cells #[.int .i64 ((rSm s).1 : Int), .bool false, .int .i64 0, .slice none 0 0, .slice none 0 0, .slice none 0 0, .slice none 0 0, .slice none 0 0] 39)))
  have Kp2' : Hid (Kp (· ≠ br) w (w2.alloc (Obj.cells #[.int .i64 ((rSm s).1 : Int), .bool false, .int .i64 0, .slice none 0 0, .slice none 0 0, .slice none 0 0, .slice none 0 0, .slice none 0 0] 39))) := hid (Kp2.out.trans (Kp.alloc _ w2 _))
  have Rs2' := hid (blk_alloc Rs2.out (Obj.cells #[.int .i64 ((rSm s).1 : Int), .bool false, .int .i64 0, .slice none 0 0, .slice none 0 0, .slice none 0 0, .slice none 0 0, .slice none 0 0] 39))
  have Hw2 : Hid (w.heap.size < w2.heap.size) := hid (heap_lt Rs2.out)
  clear h1 h2 h3 h4 Rs2
  generalize w2.alloc (Obj.cells #[.int .i64 ((rSm s).1 : Int), .bool false, .int .i64 0, .slice none 0 0, .slice none 0 0, .slice none 0 0, .slice none 0 0, .slice none 0 0] 39) = W2 at *
  refine (Rbytes_any W2 br s2 By2.out Rd2.out).mono ?_
  rintro e w3 ⟨Ab, cb, rfl, r1, r2, r3, r4⟩
  have Fq := hid (rBytes_facts By2.out)
  generalize hq : rBytes s2 = q at *
  obtain ⟨b1, s3⟩ := q
  have Hq := hid hq
  clear hq
  simp only at *
  have hFbr : w2.heap.size ≠ br := by have := Lt.out; have := Hw2.out; omega
  have Bx3 := hid (r4.out.blk Bx2.out hFbr)
  have Rs3 := hid (r4.out.blk Rs2'.out (by have := Lt.out; omega))
  have Kp3 := hid (Kp2'.out.trans r4.out)
  have HF := hid hFbr
  go_wp2_with fail
  refine (Decode_any w3 Ab b1.length cb b1 rfl r1.out (fun ha => ⟨by have := r2.out.1; have := r2.out.2.2 ha; omega, r2.out.2.2 ha⟩) (by have := Fq.out.2.2; have := Sz2.out; omega) Fq.out.2.1).mono ?_
  rintro e w4 ⟨hb4, hD⟩
  have hD2 : ∃ (p : Pg) (A : Option Addr) (n c : Nat) (v : Value), (decP b1).getD ⟨0, []⟩ = p ∧ e = .returned (.tuple #[.agg #[.int .i64 p.fuel, .slice A n c], v]) ∧ PgRd w4 p A n c ∧ (∀ x ∈ p.code, CdOk x) ∧ (∀ a, A = some a → w3.heap.size ≤ a.block) := by
    rcases hD with ⟨p, A, n, c, h1, h2, h3, h4, _, h6⟩ | ⟨h1, h2⟩
    · exact ⟨p, A, n, c, _, by rw [h1]; rfl, h2, h3, h4, h6⟩
    · exact ⟨⟨0, []⟩, none, 0, 0, _, by rw [h1]; rfl, h2, ⟨rfl, by omega, Rd.nil _ _⟩, by simp, by simp⟩
  obtain ⟨p, Ac, nc, cc, ve, hp, rfl, hpr, hpc, hpf⟩ := hD2
  have Hp := hid hp
  have Hpr := hid hpr
  have Hpc := hid hpc
  have Hpf := hid hpf
  have Hb4 := hid hb4
  have bx4 := ext_blk hb4 Bx3.out
  have z2 := blk_cell bx4 2
  have z3 := blk_cell bx4 3
  have f2 := blk_free bx4 2
  have f3 := blk_free bx4 3
  simp at z2 z3
  have Bx4 := hid bx4
  have Rs4 := hid (ext_blk hb4 Rs3.out)
  have Rd4 := hid (r3.out.ext hb4)
  have Kp4 := hid (Kp3.out.trans (Kp.of_ext hb4 _))
  clear hD hp hpr hpc hpf bx4 hb4 r1 r2 r3 r4
  go_wp2_with fail
  have Hw34 : Hid (w2.heap.size < w3.heap.size) := hid (heap_lt Bx3.out)
  have Bx5 := hid (blk_set (blk_set Bx4.out 2 (.int .i64 p.fuel)) 3 (.slice Ac nc cc))
  have Kp45 := hid ((kp_set w4 w2.heap.size 2 (.int .i64 p.fuel)).trans (kp_set _ w2.heap.size 3 (.slice Ac nc cc)))
  have Rs5 := hid (Kp45.out.blk Rs4.out (by have := Hw2.out; omega))
  have Rd5 := hid (Rd4.out.kp Kp45.out (fun e => HF.out e.symm) (fun k cs fz h => blk_ty_ne h Bx4.out (by decide)))
  have Pr5 := hid (show PgRd _ p Ac nc cc from ⟨Hpr.out.e, Hpr.out.b, Hpr.out.r.kp Kp45.out (fun a ha _ => by have := Hpf.out a ha; have := Hw34.out; omega)⟩)
  clear z2 z3 f2 f3
  generalize ((w4.setCell ⟨w2.heap.size, 2, none⟩ (.int .i64 p.fuel)).setCell ⟨w2.heap.size, 3, none⟩ (.slice Ac nc cc)) = w5 at *
  simp at Bx5
  refine (Rbytes_any w5 br s3 Fq.out.1 Rd5.out).mono ?_
  rintro e w6 ⟨Ab2, cb2, rfl, r5, r6, r7, r8⟩
  have Fq2 := hid (rBytes_facts Fq.out.1)
  generalize hq : rBytes s3 = q at *
  obtain ⟨b2, s4⟩ := q
  have Hq2 := hid hq
  clear hq
  simp only at *
  have Bx6 := hid (r8.out.blk Bx5 HF.out)
  have Rs6 := hid (r8.out.blk Rs5.out (by have := Lt.out; omega))
  have Pr6 := hid (show PgRd w6 p Ac nc cc from ⟨Hpr.out.e, Hpr.out.b, Pr5.out.r.kp r8.out (fun a ha _ => by have := Hpf.out a ha; have := Hw34.out; have := Hw2.out; have := Lt.out; omega)⟩)
  go_wp2_with fail
  refine (Take_any w6 Ab2 b2.length cb2 b2 rfl r5.out (fun ha => ⟨by have := r6.out.1; have := r6.out.2.2 ha; omega, r6.out.2.2 ha⟩) (by have := Fq2.out.2.2; have := Fq.out.2.2; have := Sz2.out; omega) Fq2.out.2.1).mono ?_
  rintro e w7 ⟨hb7, hT⟩
  have hT2 : ∃ (f : Ft) (A0 : Option Addr) (n0 c0 : Nat) (A1 : Option Addr) (n1 c1 : Nat) (A2 : Option Addr) (n2 c2 : Nat) (v : Value), (takenF b2).getD ⟨[], [], []⟩ = f ∧ e = .returned (.tuple #[.agg #[.slice A0 n0 c0, .slice A1 n1 c1, .slice A2 n2 c2], v]) ∧ FtRd w7 f A0 n0 c0 A1 n1 c1 A2 n2 c2 ∧ FtOk f ∧ f.r.length + f.s.length + f.w.length ≤ b2.length ∧
      (∀ a, A0 = some a → w6.heap.size ≤ a.block) ∧ (∀ a, A1 = some a → w6.heap.size ≤ a.block) ∧ (∀ a, A2 = some a → w6.heap.size ≤ a.block) := by
    rcases hT with ⟨f, A0, n0, c0, A1, n1, c1, A2, n2, c2, h1, h2, h3, h4, _, h6⟩ | ⟨h1, h2⟩
    · exact ⟨f, A0, n0, c0, A1, n1, c1, A2, n2, c2, _, by rw [h1]; rfl, h2, h3, h4, takenF_sz h1, h6⟩
    · exact ⟨⟨[], [], []⟩, none, 0, 0, none, 0, 0, none, 0, 0, _, by rw [h1]; rfl, h2, ⟨rfl, rfl, rfl, by omega, by omega, by omega, Rd.nil _ _, Rd.nil _ _, Rd.nil _ _⟩, ⟨by simp, by simp, by simp⟩, by simp, by simp, by simp, by simp⟩
  obtain ⟨f, A0, n0, c0, A1, n1, c1, A2, n2, c2, vf, hf, rfl, hfr, hfo, hfs, hff⟩ := hT2
  have bx7 := hid (ext_blk hb7 Bx6.out)
  have rs7 := hid (ext_blk hb7 Rs6.out)
  have Hne : Hid (w.heap.size ≠ w2.heap.size) := hid (by have := Hw2.out; omega)
  have Rs8 := hid (blk_set_ne (blk_set_ne (blk_set_ne rs7.out (p := ⟨w2.heap.size, 4, none⟩) Hne.out (.slice A0 n0 c0)) (p := ⟨w2.heap.size, 5, none⟩) Hne.out (.slice A1 n1 c1)) (p := ⟨w2.heap.size, 6, none⟩) Hne.out (.slice A2 n2 c2))
  have HTh := hid (row_there (n := 8) Rs8.out (by simp))
  have hi2 := hid (show (Try.prog.info? 39).map (·.size) = some 8 by kernel_rfl)
  have F7 := hid (And.intro hf (And.intro hfr (And.intro hfo (And.intro hfs hff))))
  have HB7 := hid hb7
  have Rd7 := hid (r7.out.ext hb7)
  have Pr7 := hid (Pr6.out.ext hb7)
  have Kp7 : Hid (Kp (· ≠ br) w w7) := hid (((Kp4.out.trans2 Kp45.out (fun i hi _ => by have := Hw2.out; omega)).trans r8.out).trans (Kp.of_ext hb7 _))
  have Hs6 : Hid (w2.heap.size < w6.heap.size) := hid (heap_lt Bx6.out)
  have y4 := blk_cell bx7.out 4
  have y5 := blk_cell bx7.out 5
  have y6 := blk_cell bx7.out 6
  have y0 := blk_cell bx7.out 0
  have y1 := blk_cell bx7.out 1
  have y2 := blk_cell bx7.out 2
  have y3 := blk_cell bx7.out 3
  have y7 := blk_cell bx7.out 7
  have k4 := blk_free bx7.out 4
  have k5 := blk_free bx7.out 5
  have k6 := blk_free bx7.out 6
  simp at y0 y1 y2 y3 y4 y5 y6 y7
  clear hT hf hfr hfo hfs hff hb7 r5 r6 r7 r8
  have hne := Hne.out
  have hne2 : w2.heap.size ≠ w.heap.size := fun e => hne e.symm
  have e0 := blk_cell rs7.out 0
  have e1 := blk_cell rs7.out 1
  have e2 := blk_cell rs7.out 2
  have e3 := blk_cell rs7.out 3
  have e4 := blk_cell rs7.out 4
  have e5 := blk_cell rs7.out 5
  have e6 := blk_cell rs7.out 6
  have e7 := blk_cell rs7.out 7
  have g0 := blk_free rs7.out 0
  have g1 := blk_free rs7.out 1
  have g2 := blk_free rs7.out 2
  have g3 := blk_free rs7.out 3
  have g4 := blk_free rs7.out 4
  have g5 := blk_free rs7.out 5
  have g6 := blk_free rs7.out 6
  have g7 := blk_free rs7.out 7
  simp at e0 e1 e2 e3 e4 e5 e6 e7
  go_wp2_with fail
  have EQ : takeR s = (⟨(rSm s).1, false, p, f, []⟩, s4) := by rw [HT.out, Hp.out, F7.out.1]
  refine bodyPost_ret (v := .agg #[.int .i64 ((rSm s).1 : Int), .bool false, .int .i64 p.fuel, .slice Ac nc cc, .slice A0 n0 c0, .slice A1 n1 c1, .slice A2 n2 c2, .slice none 0 0]) (by simp [results, Try.results14, go_sem, hne, hne2, e0, e1, e2, e3, e4, e5, e6, e7]) rfl ?_
  refine ⟨Ac, nc, cc, A0, n0, c0, A1, n1, c1, A2, n2, c2, none, 0, 0, by rw [EQ], ?_⟩
  rw [EQ]
  have KZ : ∀ W, Kp (fun k => k ≠ w2.heap.size ∧ k ≠ w.heap.size) w7 W → RecRd W ⟨(rSm s).1, false, p, f, []⟩ Ac nc cc A0 n0 c0 A1 n1 c1 A2 n2 c2 none 0 0 ∧ RecOk ⟨(rSm s).1, false, p, f, []⟩ ∧ ReaderAt W br s4 ∧ Byt s4 ∧ Kp (· ≠ br) w W ∧ (Fresh w.heap.size Ac ∧ Fresh w.heap.size A0 ∧ Fresh w.heap.size A1 ∧ Fresh w.heap.size A2 ∧ Fresh w.heap.size none) := fun W hk => by
    have z1 := Hw2.out
    have z2 := Hw34.out
    have z3 := Hs6.out
    obtain ⟨_, hfr, hfo, hfs, hff⟩ := F7.out
    refine ⟨⟨Pr7.out.kp hk (fun a ha => by have := Hpf.out a ha; constructor <;> omega), hfr.kp hk (fun a ha => by have := hff.1 a ha; constructor <;> omega) (fun a ha => by have := hff.2.1 a ha; constructor <;> omega) (fun a ha => by have := hff.2.2 a ha; constructor <;> omega), rfl, by omega, Rd.nil _ _⟩,
      ⟨hfo, Hpc.out, by simp, by have := Fq2.out.2.2; have := Fq.out.2.2; have := Sz2.out; simp only; omega, by simp⟩, Rd7.out.kp hk ⟨fun e => HF.out e.symm, fun e => by have := Lt.out; omega⟩ (fun k cs fz h => ⟨blk_ty_ne h bx7.out (by decide), blk_ty_ne h rs7.out (by decide)⟩), Fq2.out.1, Kp7.out.trans2 hk (fun i hi _ => ⟨by omega, by omega⟩), fun a ha => by have := Hpf.out a ha; omega, fun a ha => by have := hff.1 a ha; omega, fun a ha => by have := hff.2.1 a ha; omega, fun a ha => by have := hff.2.2 a ha; omega, Fresh.none _⟩
  refine KZ _ ?_
  repeat (first | refine Kp.set ?_ (fun _ h => h.1) | refine Kp.set ?_ (fun _ h => h.2))
  exact Kp.refl _ _
end Go.Proofs.Ytgnfccdhlpeknaa
