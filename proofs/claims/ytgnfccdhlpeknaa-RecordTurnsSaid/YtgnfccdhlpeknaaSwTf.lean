/- The walk of record.Decode. -/
import Derived.Test.YtgnfccdhlpeknaaSwTb
import Derived.Test.YtgnfccdhlpeknaaSwTe
import Derived.Test.YtgnfccdhlpeknaaSwSb
open Go Go.RowKit
namespace Go.Proofs.Ytgnfccdhlpeknaa
set_option maxRecDepth 100000
theorem Rtake_any (w : World) (br : Nat) (s : St) (hby : Byt s) (h : ReaderAt w br s) (hz : rLeft s ≤ 1000000000000) : Calls Try.prog 14 #[.pointer (some ⟨br, 0, none⟩)] w (RTakePost w br s) := by
  cases hv : (rFlag (rSm s).2).1
  · exact RtakeP_any w br s hby h hz hv
  · exact RtakeV_any w br s hby h hz hv
/-- The record of bytes. -/
def decR (bs : List Nat) : Option Rec :=
  if bs.length < 4 then none else
  if goodR (takeR (some (bs.take (bs.length - 4)))).1 = true ∧ (takeR (some (bs.take (bs.length - 4)))).2 = some [] ∧ encB (takeR (some (bs.take (bs.length - 4)))).1 = bs then some (takeR (some (bs.take (bs.length - 4)))).1 else none
def RDecPost (w : World) (bs : List Nat) (e : Ending) (w' : World) : Prop := Below w.heap.size w w' ∧
  ((∃ (x : Rec) (Ac : Option Addr) (nc cc : Nat) (A0 : Option Addr) (n0 c0 : Nat) (A1 : Option Addr) (n1 c1 : Nat) (A2 : Option Addr) (n2 c2 : Nat) (Aw : Option Addr) (nw cw : Nat), decR bs = some x ∧
     e = .returned (.tuple #[.agg #[.int .i64 x.seq, .bool x.val, .int .i64 x.pg.fuel, .slice Ac nc cc, .slice A0 n0 c0, .slice A1 n1 c1, .slice A2 n2 c2, .slice Aw nw cw], .nilIface]) ∧ RecRd w' x Ac nc cc A0 n0 c0 A1 n1 c1 A2 n2 c2 Aw nw cw ∧ RecOk x ∧ goodR x = true ∧ (Fresh w.heap.size Ac ∧ Fresh w.heap.size A0 ∧ Fresh w.heap.size A1 ∧ Fresh w.heap.size A2 ∧ Fresh w.heap.size Aw)) ∨
   (decR bs = none ∧ e = .returned (.tuple #[.agg #[.int .i64 0, .bool false, .int .i64 0, .slice none 0 0, .slice none 0 0, .slice none 0 0, .slice none 0 0, .slice none 0 0], errno 9])))
set_option maxHeartbeats 4000000 in
theorem RDecode_any (w : World) (A : Option Addr) (n c : Nat) (bs : List Nat) (hn : n = bs.length) (hr : Rd w A (bs.map bv)) (hA : A = none → n = 0 ∧ c = 0) (hz : n ≤ 1000000000000) (hnc : n ≤ c) (hcm : c ≤ maxLen) (hby : ∀ b ∈ bs, b < 256) :
    Calls Try.prog 8 #[.slice A n c] w (RDecPost w bs) := by
  unfold maxLen at hcm
  by_cases h4 : n < 4
  · have HT : Hid (decR bs = none) := hid (by unfold decR; rw [if_pos (by omega)])
    clear hr hA hby hn
    go_enter Try.func8, Try.ntmps8
    go_wp2
    exact bodyPost_ret (v := .tuple #[.agg #[.int .i64 0, .bool false, .int .i64 0, .slice none 0 0, .slice none 0 0, .slice none 0 0, .slice none 0 0, .slice none 0 0], errno 9]) (by simp [results, Try.results8, go_sem, errno]) rfl ⟨ext_alloc _ _, .inr ⟨HT.out, rfl⟩⟩
  · have Hn := hid hn
    have Hr := hid hr
    have Hby := hid hby
    cases A with
    | none => exact absurd (hA rfl).1 (by omega)
    | some a =>
    clear hr hA hby hn
    go_enter Try.func8, Try.ntmps8
    go_wp2_with fail
    refine (NewReader_any _ _ _ _ (bs.take (bs.length - 4)) (by rw [List.length_take]; have := Hn.out; omega) (by rw [List.map_take]; exact (Hr.out.take _).ext (ext_alloc _ _)) (fun h => by cases h) (by omega)).mono ?_
    rintro e w1 ⟨br, hbr, rfl, h1, h2⟩
    have By0 := hid (Byt.some (fun b (hb : b ∈ bs.take (bs.length - 4)) => Hby.out b (List.mem_of_mem_take hb)))
    have Sz0 : Hid (rLeft (some (bs.take (bs.length - 4))) ≤ 1000000000000) := hid (by simp only [rLeft, List.length_take]; have := Hn.out; omega)
    have HT : Hid (decR bs = if goodR (takeR (some (bs.take (bs.length - 4)))).1 = true ∧ (takeR (some (bs.take (bs.length - 4)))).2 = some [] ∧ encB (takeR (some (bs.take (bs.length - 4)))).1 = bs then some (takeR (some (bs.take (bs.length - 4)))).1 else none) := hid (by unfold decR; rw [if_neg (by have := Hn.out; omega)])
    generalize hs0 : (some (bs.take (bs.length - 4)) : St) = s0 at *
    have Rs1 := hid (ext_blk h2.out (blk_new w (Obj.cells recZero 39)))
    have Hbr : Hid (w.heap.size < br) := hid (by simp at hbr; omega)
    have Be1 : Hid (Below w.heap.size w w1) := hid ((ext_alloc _ _).trans (h2.out.mono (by simp)))
    clear hs0 hbr h2
    go_wp2_with fail
    refine (Rtake_any w1 br s0 By0.out h1.out Sz0.out).mono ?_
    rintro e w2 ⟨Ac, nc, cc, A0, n0, c0, A1, n1, c1, A2, n2, c2, Aw, nw, cw, rfl, h3, h4, h5, h6, h7, hfr⟩
    generalize hq : takeR s0 = q at *
    obtain ⟨x, s1⟩ := q
    simp only at *
    have H3 := hid h3
    have H4 := hid h4
    have H5 := hid h5
    have H7 := hid h7
    have HFr := hid hfr
    have Rs2 := hid (h7.blk Rs1.out (by have := Hbr.out; omega))
    have Be2 : Hid (Below w.heap.size w w2) := hid (Be1.out.trans (h7.below Be1.out.size (fun k hk => by have := Hbr.out; omega)))
    clear hq h3 h4 h5 h6 h7 h1 hfr
    go_wp2_with fail
    have hRs2 := Rs2
    refine (REncode_any _ x Ac nc cc A0 n0 c0 A1 n1 c1 A2 n2 c2 Aw nw cw (H3.out.ext (ext_alloc _ _)) H4.out).mono ?_
    rintro e w3 ⟨hb3, hE⟩
    have Hb3 := hid hb3
    have Hx3 : Hid (Below w2.heap.size w2 w3) := hid ((ext_alloc _ _).trans (hb3.mono (by simp)))
    clear hb3
    rcases hE with ⟨hg, A', c', rfl, ho⟩ | ⟨hg, rfl⟩
    · have Ho := hid ho
      have Hg := hid hg
      clear ho hg
      have Ln : Hid ((encB x).length ≤ 140737488355328) := hid (by
          have h := (body_any w2 x Ac nc cc A0 n0 c0 A1 n1 c1 A2 n2 c2 Aw nw cw H3.out H4.out Hg.out).1
          unfold encB sum4
          simp
          omega)
      by_cases hs1 : s1 = some []
      · subst hs1
        go_wp2_with fail
        refine (End_ok w3 br (H5.out.ext Hx3.out)).mono ?_
        rintro e w' ⟨rfl, rfl⟩
        go_wp2_with fail
        refine (Equal_any w3 _ _ _ (encB x) _ _ _ bs rfl Hn.out (own_rd Ho.out) (Hr.out.kp2 (Be2.out.trans (Hx3.out.mono Be2.out.size)) (fun a' ha h0 => by obtain ⟨b, o, e, hb, _⟩ := Hr.out.addr h0; rw [ha] at e; simp at e; rw [e]; exact hb)) Ln.out (by omega)).mono ?_
        rintro e w4 ⟨rfl, hb4⟩
        have Hb34 := hid (Hb3.out.trans (hb4.mono Hb3.out.size))
        have Hx4 : Hid (Below w2.heap.size w2 w4) := hid (Hx3.out.trans (hb4.mono Hx3.out.size))
        clear hb4
        have rs3 := hid (ext_blk Hx4.out Rs2.out)
        have e0 := blk_cell rs3.out 0
        have e1 := blk_cell rs3.out 1
        have e2 := blk_cell rs3.out 2
        have e3 := blk_cell rs3.out 3
        have e4 := blk_cell rs3.out 4
        have e5 := blk_cell rs3.out 5
        have e6 := blk_cell rs3.out 6
        have e7 := blk_cell rs3.out 7
        have g0 := blk_free rs3.out 0
        have g1 := blk_free rs3.out 1
        have g2 := blk_free rs3.out 2
        have g3 := blk_free rs3.out 3
        have g4 := blk_free rs3.out 4
        have g5 := blk_free rs3.out 5
        have g6 := blk_free rs3.out 6
        have g7 := blk_free rs3.out 7
        simp [recZero] at e0 e1 e2 e3 e4 e5 e6 e7
        have KZ : ∀ W, Kp (fun k => k ≠ w.heap.size) w4 W → Below w.heap.size w W := fun W hk => (Be2.out.trans (Hx4.out.mono Be2.out.size)).trans (hk.below (by have := Be2.out.size; have := Hx4.out.size; (try simp at this); omega) (fun k hk => by omega))
        have HKZ := hid KZ
        clear KZ
        by_cases he : encB x = bs
        · rw [decide_eq_true he]
          have He := hid he
          clear he
          have bx4 := hid (ext_blk Hb34.out (blk_new w2 _))
          have y0 := blk_cell bx4.out 0
          have y1 := blk_cell bx4.out 1
          have y2 := blk_cell bx4.out 2
          have y3 := blk_cell bx4.out 3
          have y4 := blk_cell bx4.out 4
          have y5 := blk_cell bx4.out 5
          have y6 := blk_cell bx4.out 6
          have y7 := blk_cell bx4.out 7
          simp at y0 y1 y2 y3 y4 y5 y6 y7
          have Hne : Hid (w.heap.size < w2.heap.size) := hid (heap_lt Rs2.out)
          have hne : w.heap.size ≠ w2.heap.size := fun e => by have := Hne.out; omega
          have hne2 : w2.heap.size ≠ w.heap.size := fun e => hne e.symm
          have H34 := hid (H3.out.ext Hx4.out)
          go_wp2
          refine bodyPost_ret (v := .tuple #[.agg #[.int .i64 x.seq, .bool x.val, .int .i64 x.pg.fuel, .slice Ac nc cc, .slice A0 n0 c0, .slice A1 n1 c1, .slice A2 n2 c2, .slice Aw nw cw], .nilIface]) (by simp [results, Try.results8, go_sem, hne, hne2, e0, e1, e2, e3, e4, e5, e6, e7]) rfl ?_
          have KW : ∀ W, Kp (fun k => k ≠ w.heap.size) w4 W → RDecPost w bs (.returned (.tuple #[.agg #[.int .i64 x.seq, .bool x.val, .int .i64 x.pg.fuel, .slice Ac nc cc, .slice A0 n0 c0, .slice A1 n1 c1, .slice A2 n2 c2, .slice Aw nw cw], .nilIface])) W := fun W hk => by
            obtain ⟨f1, f2, f3, f4, f5⟩ := HFr.out
            have z1 := Be1.out.size
            have z2 := heap_lt Rs1.out
            refine ⟨HKZ.out W hk, .inl ⟨x, Ac, nc, cc, A0, n0, c0, A1, n1, c1, A2, n2, c2, Aw, nw, cw, ?_, rfl, ⟨H34.out.p.kp hk (fun a ha => by have := f1 a ha; omega), H34.out.f.kp hk (fun a ha => by have := f2 a ha; omega) (fun a ha => by have := f3 a ha; omega) (fun a ha => by have := f4 a ha; omega), H34.out.en, H34.out.bn, H34.out.rw.kp hk (fun a ha _ => by have := f5 a ha; omega)⟩, H4.out, Hg.out, f1.mono z1, f2.mono z1, f3.mono z1, f4.mono z1, f5.mono z1⟩⟩
            rw [HT.out, if_pos (by simp [Hg.out, He.out])]
          refine KW _ ?_
          repeat (refine Kp.set ?_ (fun _ h => h))
          exact Kp.refl _ _
        · rw [decide_eq_false he]
          have He := hid he
          clear he
          go_wp2
          refine bodyPost_ret (v := .tuple #[.agg #[.int .i64 0, .bool false, .int .i64 0, .slice none 0 0, .slice none 0 0, .slice none 0 0, .slice none 0 0, .slice none 0 0], errno 9]) (by simp [results, Try.results8, go_sem, errno, e0, e1, e2, e3, e4, e5, e6, e7]) rfl ⟨?_, .inr ⟨?_, rfl⟩⟩
          · refine HKZ.out _ ?_
            repeat (refine Kp.set ?_ (fun _ h => h))
            exact Kp.refl _ _
          · rw [HT.out, if_neg (by simp [He.out])]
      · go_wp2_with fail
        refine (End_bad w3 br s1 hs1 (H5.out.ext Hx3.out)).mono ?_
        rintro e w' ⟨rfl, rfl⟩
        have rs3 := hid (ext_blk Hx3.out Rs2.out)
        have e0 := blk_cell rs3.out 0
        have e1 := blk_cell rs3.out 1
        have e2 := blk_cell rs3.out 2
        have e3 := blk_cell rs3.out 3
        have e4 := blk_cell rs3.out 4
        have e5 := blk_cell rs3.out 5
        have e6 := blk_cell rs3.out 6
        have e7 := blk_cell rs3.out 7
        have g0 := blk_free rs3.out 0
        have g1 := blk_free rs3.out 1
        have g2 := blk_free rs3.out 2
        have g3 := blk_free rs3.out 3
        have g4 := blk_free rs3.out 4
        have g5 := blk_free rs3.out 5
        have g6 := blk_free rs3.out 6
        have g7 := blk_free rs3.out 7
        simp [recZero] at e0 e1 e2 e3 e4 e5 e6 e7
        have KZ : ∀ W, Kp (fun k => k ≠ w.heap.size) w3 W → Below w.heap.size w W := fun W hk => (Be2.out.trans (Hx3.out.mono Be2.out.size)).trans (hk.below (by have := Be2.out.size; have := Hx3.out.size; (try simp at this); omega) (fun k hk => by omega))
        have HKZ := hid KZ
        clear KZ
        have Hs1 := hid hs1
        clear hs1
        unfold errno
        go_wp2
        refine bodyPost_ret (v := .tuple #[.agg #[.int .i64 0, .bool false, .int .i64 0, .slice none 0 0, .slice none 0 0, .slice none 0 0, .slice none 0 0, .slice none 0 0], errno 9]) (by simp [results, Try.results8, go_sem, errno, e0, e1, e2, e3, e4, e5, e6, e7]) rfl ⟨?_, .inr ⟨?_, rfl⟩⟩
        · refine HKZ.out _ ?_
          repeat (refine Kp.set ?_ (fun _ h => h))
          exact Kp.refl _ _
        · rw [HT.out, if_neg (by simp [Hs1.out])]
    · skip
      have rs3 := hid (ext_blk Hx3.out Rs2.out)
      have e0 := blk_cell rs3.out 0
      have e1 := blk_cell rs3.out 1
      have e2 := blk_cell rs3.out 2
      have e3 := blk_cell rs3.out 3
      have e4 := blk_cell rs3.out 4
      have e5 := blk_cell rs3.out 5
      have e6 := blk_cell rs3.out 6
      have e7 := blk_cell rs3.out 7
      have g0 := blk_free rs3.out 0
      have g1 := blk_free rs3.out 1
      have g2 := blk_free rs3.out 2
      have g3 := blk_free rs3.out 3
      have g4 := blk_free rs3.out 4
      have g5 := blk_free rs3.out 5
      have g6 := blk_free rs3.out 6
      have g7 := blk_free rs3.out 7
      simp [recZero] at e0 e1 e2 e3 e4 e5 e6 e7
      have KZ : ∀ W, Kp (fun k => k ≠ w.heap.size) w3 W → Below w.heap.size w W := fun W hk => (Be2.out.trans (Hx3.out.mono Be2.out.size)).trans (hk.below (by have := Be2.out.size; have := Hx3.out.size; (try simp at this); omega) (fun k hk => by omega))
      have HKZ := hid KZ
      clear KZ
      have Hg := hid hg
      clear hg
      unfold errno
      go_wp2
      refine bodyPost_ret (v := .tuple #[.agg #[.int .i64 0, .bool false, .int .i64 0, .slice none 0 0, .slice none 0 0, .slice none 0 0, .slice none 0 0, .slice none 0 0], errno 9]) (by simp [results, Try.results8, go_sem, errno, e0, e1, e2, e3, e4, e5, e6, e7]) rfl ⟨?_, .inr ⟨?_, rfl⟩⟩
      · refine HKZ.out _ ?_
        repeat (refine Kp.set ?_ (fun _ h => h))
        exact Kp.refl _ _
      · rw [HT.out, if_neg (by simp [Hg.out])]
end Go.Proofs.Ytgnfccdhlpeknaa
