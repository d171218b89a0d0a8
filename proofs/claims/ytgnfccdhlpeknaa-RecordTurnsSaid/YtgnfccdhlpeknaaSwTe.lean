/- The walk of record.take: a record of writes. -/
import Derived.Test.YtgnfccdhlpeknaaSwTc
import Derived.Deep.LoopGhost
open Go Go.RowKit
namespace Go.Proofs.Ytgnfccdhlpeknaa
set_option maxRecDepth 100000
theorem rd_new2 (w : World) (o : Obj) (cs : List Value) (t : TypeId) : Rd ((w.alloc o).alloc (.cells cs.toArray t)) (some ⟨w.heap.size + 1, 0, none⟩) cs := by have := rd_new (w.alloc o) cs t; simpa using this
theorem rd_new3 (w : World) (p : Addr) (v : Value) (cs : List Value) (t : TypeId) : Rd ((w.setCell p v).alloc (.cells cs.toArray t)) (some ⟨w.heap.size, 0, none⟩) cs := by have := rd_new (w.setCell p v) cs t; simpa [World.setCell] using this
set_option maxHeartbeats 4000000 in
theorem RtakeV_any (w : World) (br : Nat) (s : St) (hby : Byt s) (h : ReaderAt w br s) (hz : rLeft s ≤ 1000000000000) (hv : (rFlag (rSm s).2).1 = true) :
    Calls Try.prog 14 #[.pointer (some ⟨br, 0, none⟩)] w (RTakePost w br s) := by
  have Hby := hid hby
  have Hrd := hid h
  have Hz := hid hz
  have Hv := hid hv
  have hu := Try.underlying29
  clear hby h hz hv
  go_enter Try.func14, Try.ntmps14
  go_wp2_with fail
  refine (rsmall_any _ br s Hby.out (Hrd.out.ext (ext_alloc _ _))).mono ?_
  rintro e w1 ⟨rfl, h1, h2⟩
  have By1 := hid (rSm_byt Hby.out)
  go_wp2_with fail
  refine (Flag_any w1 br (rSm s).2 By1.out h1.out).mono ?_
  rintro e w2 ⟨rfl, h3, h4⟩
  have By2 := hid (rFlag_byt By1.out)
  have Kp2 : Hid (Kp (· ≠ br) w w2) := hid (((Kp.alloc _ w _).trans h2.out).trans h4.out)
  have Lt := hid Hrd.out.lt
  have Rs2 := hid ((h2.out.trans h4.out).blk (blk_new w (Obj.cells #[.int .i64 0, .bool false, .int .i64 0, .slice none 0 0, .slice none 0 0, .slice none 0 0, .slice none 0 0, .slice none 0 0] 39)) (by have := Lt.out; omega))
  have Sz2 : Hid (rLeft (rFlag (rSm s).2).2 ≤ 1000000000000) := hid (by
    have a1 := rCount_le s
    have a2 := rFlag_le (rSm s).2
    have a3 : rLeft (rSm s).2 ≤ rLeft s := a1
    have := Hz.out
    omega)
  have HT : Hid (takeR s = (⟨(rSm s).1, true, ⟨0, []⟩, ⟨[], [], []⟩, (wsGo (rSm (rFlag (rSm s).2).2).1 (rSm (rFlag (rSm s).2).2).2).1⟩, (wsGo (rSm (rFlag (rSm s).2).2).1 (rSm (rFlag (rSm s).2).2).2).2)) := hid (by unfold takeR; simp only [Hv.out, if_true])
  rw [Hv.out]
  generalize (rFlag (rSm s).2).2 = s2 at *
  generalize hqq : (rSm s).1 = q0 at *
  have Hqq := hid hqq
  clear hqq
  go_wp2_with fail
  have Bx2 := hid (blk_new w2 (Obj.cells #[.int .i64 (q0 : Int), .bool true, .int .i64 0, .slice none 0 0, .slice none 0 0, .slice none 0 0, .slice none 0 0, .slice none 0 0] 39))
  have Rd2 := hid (h3.out.ext (ext_alloc w2 (Obj.cells #[.int .i64 (q0 : Int), .bool true, .int .i64 0, .slice none 0 0, .slice none 0 0, .slice none 0 0, .slice none 0 0, .slice none 0 0] 39)))
  have Kp2' : Hid (Kp (· ≠ br) w (w2.alloc (Obj.cells #[.int .i64 (q0 : Int), .bool true, .int .i64 0, .slice none 0 0, .slice none 0 0, .slice none 0 0, .slice none 0 0, .slice none 0 0] 39))) := hid (Kp2.out.trans (Kp.alloc _ w2 _))
  have Rs2' := hid (blk_alloc Rs2.out (Obj.cells #[.int .i64 (q0 : Int), .bool true, .int .i64 0, .slice none 0 0, .slice none 0 0, .slice none 0 0, .slice none 0 0, .slice none 0 0] 39))
  have Hw2 : Hid (w.heap.size < w2.heap.size) := hid (heap_lt Rs2.out)
  clear h1 h2 h3 h4 Rs2
  generalize w2.alloc (Obj.cells #[.int .i64 (q0 : Int), .bool true, .int .i64 0, .slice none 0 0, .slice none 0 0, .slice none 0 0, .slice none 0 0, .slice none 0 0] 39) = W2 at *
  refine (rsmall_any W2 br s2 By2.out Rd2.out).mono ?_
  rintro e w3 ⟨rfl, r1, r2⟩
  have By3 := hid (rSm_byt By2.out)
  have Sz3 : Hid (rLeft (rSm s2).2 ≤ 1000000000000) := hid (Nat.le_trans (rCount_le s2) Sz2.out)
  have hm : (rSm s2).1 < 4611686018427387904 := by unfold rSm; simp only; omega
  have hFbr : w2.heap.size ≠ br := by have := Lt.out; have := Hw2.out; omega
  have Bx3 := hid (r2.out.blk Bx2.out hFbr)
  have Rs3 := hid (r2.out.blk Rs2'.out (by have := Lt.out; omega))
  have Kp3 := hid (Kp2'.out.trans r2.out)
  generalize hq : rSm s2 = q at *
  obtain ⟨m, s3⟩ := q
  have Hq := hid hq
  clear hq
  simp only at *
  have HF := hid hFbr
  have Hne : Hid (w.heap.size ≠ w2.heap.size) := hid (by have := Hw2.out; omega)
  have Hne2 : Hid (w2.heap.size ≠ w.heap.size) := hid (by have := Hw2.out; omega)
  clear hFbr Kp2 Kp2' Rd2 Bx2 Rs2' r2
  go_wp2
  go_loopg [] m (fun g wr => ∃ (xs : List Wi) (s' : St) (A1 : Option Addr) (c1 : Nat), g = m - xs.length ∧ xs.length ≤ m ∧ Hid (WsInv w br w2.heap.size (q0 : Int) s3 m xs s' A1 c1 wr))
  case atStart => exact ⟨[], s3, none, 0, by simp, by simp, hid ⟨World.ownsRow_nil _ _ _ _, Bx3.out, Rs3.out, r1.out, By3.out, by simp, rfl, by simp, Kp3.out⟩⟩
  case round =>
    clear Bx3 Rs3 r1 Kp3
    obtain ⟨xs, s', A1, c1, hg, hle, I⟩ := hrel
    have Hg := hid hg
    clear hg
    have hb1 := blk_cell I.out.box 7
    simp [wsBox] at hb1
    by_cases hlt : xs.length < m
    · rcases Nat.eq_zero_or_pos (rLeft s') with h0 | h0
      · skip
        have E5 : Hid (wsGo m s3 = (xs, s')) := hid (by rw [I.out.eq, wsGo_end _ h0]; simp)
        have EQ : Hid (takeR s = (⟨q0, true, ⟨0, []⟩, ⟨[], [], []⟩, xs⟩, s')) := hid (by rw [HT.out, E5.out])
        have hne := Hne.out
        have hne2 := Hne2.out
        have y0 := blk_cell I.out.box 0
        have y1 := blk_cell I.out.box 1
        have y2 := blk_cell I.out.box 2
        have y3 := blk_cell I.out.box 3
        have y4 := blk_cell I.out.box 4
        have y5 := blk_cell I.out.box 5
        have y6 := blk_cell I.out.box 6
        have e0 := blk_cell I.out.res 0
        have e1 := blk_cell I.out.res 1
        have e2 := blk_cell I.out.res 2
        have e3 := blk_cell I.out.res 3
        have e4 := blk_cell I.out.res 4
        have e5 := blk_cell I.out.res 5
        have e6 := blk_cell I.out.res 6
        have e7 := blk_cell I.out.res 7
        have g0 := blk_free I.out.res 0
        have g1 := blk_free I.out.res 1
        have g2 := blk_free I.out.res 2
        have g3 := blk_free I.out.res 3
        have g4 := blk_free I.out.res 4
        have g5 := blk_free I.out.res 5
        have g6 := blk_free I.out.res 6
        have g7 := blk_free I.out.res 7
        simp [wsBox, recZero] at y0 y1 y2 y3 y4 y5 y6 e0 e1 e2 e3 e4 e5 e6 e7
        have Hl := hid (Left_any wr br s' I.out.rd)
        rw [h0] at Hl
        go_wp2_with (go_at_call 36; refine Hl.out.mono ?_; rintro e w' ⟨rfl, rfl⟩)
        refine bodyPost_ret (v := .agg #[.int .i64 (q0 : Int), .bool true, .int .i64 0, .slice none 0 0, .slice none 0 0, .slice none 0 0, .slice none 0 0, .slice A1 xs.length c1]) (by simp [results, Try.results14, go_sem, hne, hne2, e0, e1, e2, e3, e4, e5, e6, e7]) rfl ?_
        refine ⟨none, 0, 0, none, 0, 0, none, 0, 0, none, 0, 0, A1, xs.length, c1, by rw [EQ.out], ?_⟩
        rw [EQ.out]
        have hxs : xs.length ≤ 1000000000000 := by have := I.out.sz; have := Sz3.out; omega
        have KZ : ∀ W, Kp (fun k => k ≠ w2.heap.size ∧ k ≠ w.heap.size) wr W → RecRd W ⟨q0, true, ⟨0, []⟩, ⟨[], [], []⟩, xs⟩ none 0 0 none 0 0 none 0 0 none 0 0 A1 xs.length c1 ∧ RecOk ⟨q0, true, ⟨0, []⟩, ⟨[], [], []⟩, xs⟩ ∧ ReaderAt W br s' ∧ Byt s' ∧ Kp (· ≠ br) w W ∧ (Fresh w.heap.size none ∧ Fresh w.heap.size none ∧ Fresh w.heap.size none ∧ Fresh w.heap.size none ∧ Fresh w.heap.size A1) := fun W hk => by
          have z1 := Hw2.out
          have z2 := Lt.out
          have wf := (wsGo_facts m s3 By3.out).1
          rw [E5.out] at wf
          refine ⟨⟨⟨rfl, by omega, Rd.nil _ _⟩, ⟨rfl, rfl, rfl, by omega, by omega, by omega, Rd.nil _ _, Rd.nil _ _, Rd.nil _ _⟩, rfl, by omega, own_rd (own_kp I.out.own hk (fun k hkk => ?_))⟩, ⟨⟨by simp, by simp, by simp⟩, by simp, wf, by simp, by simpa using hxs⟩, I.out.rd.kp hk ⟨fun e => HF.out e.symm, fun e => by omega⟩ (fun k cs fz h => ⟨blk_ty_ne h I.out.box (by decide), blk_ty_ne h I.out.res (by decide)⟩), I.out.by_, I.out.kp.trans2 hk (fun i hi _ => ⟨by omega, by omega⟩), Fresh.none _, Fresh.none _, Fresh.none _, Fresh.none _, fun a ha => (own_blk I.out.own (k := a.block) (by rw [ha]; rfl)).1⟩
          obtain ⟨_, cur, h2⟩ := own_blk I.out.own hkk
          exact ⟨blk_ty_ne h2 I.out.box (by decide), blk_ty_ne h2 I.out.res (by decide)⟩
        refine KZ _ ?_
        repeat (first | refine Kp.set ?_ (fun _ h => h.1) | refine Kp.set ?_ (fun _ h => h.2))
        exact Kp.refl _ _
      · skip
        have Hl := hid (Left_any wr br s' I.out.rd)
        have hl0 : 0 < (rLeft s' : Int) := by omega
        have H0 := hid h0
        clear h0
        have hxs : xs.length ≤ 1000000000000 := by have := I.out.sz; have := Sz3.out; omega
        go_wp2_with (go_at_call 36; refine Hl.out.mono ?_; rintro e w' ⟨rfl, rfl⟩)
        refine (rsmall_any wr br s' I.out.by_ I.out.rd).mono ?_
        rintro e w4 ⟨rfl, q1, q2⟩
        have Cy1 := hid (rSm_byt I.out.by_)
        go_wp2_with fail
        refine (Num_any w4 br _ Cy1.out (Count_any w4 br _ Cy1.out q1.out)).mono ?_
        rintro e w5 ⟨rfl, q3, q4⟩
        have Cy2 := hid (rNum_byt Cy1.out)
        go_wp2_with fail
        refine (Flag_any w5 br _ Cy2.out q3.out).mono ?_
        rintro e w6 ⟨rfl, q5, q6⟩
        have Cy3 := hid (rFlag_byt Cy2.out)
        have Hsz : Hid (xs.length + 1 ≤ 1000000000000) := by
          have := I.out.sz
          have := Sz3.out
          have := H0.out
          exact hid (by omega)
        have HnF : Hid ((Value.slice A1 xs.length c1).ownBlock ≠ some w2.heap.size) := hid fun e => by obtain ⟨_, cur, h2⟩ := own_blk I.out.own e; rw [I.out.box] at h2; simp at h2
        have Hrow : Hid (∀ k, (Value.slice A1 xs.length c1).ownBlock = some k → k ≠ br) := hid (own_rdr I.out.rd I.out.own (by decide))
        have K6 : Hid (Kp (· ≠ br) wr w6) := hid ((q2.out.trans q4.out).trans q6.out)
        generalize hwt : (rSm s').1 = wt at *
        generalize hwk : (rNum (rSm s').2).1 = wk at *
        generalize hs5 : (rFlag (rNum (rSm s').2).2).2 = s5 at *
        have Hwt := hid hwt
        have Hwk := hid hwk
        have Hs5 := hid hs5
        clear hwt hwk hs5 q1 q2 q3 q4 q6
        cases hf : (rFlag (rNum (rSm s').2).2).1 with
        | true =>
          have HW : Hid (rWi s' = (⟨wt, wk, 0, true⟩, s5)) := hid (by unfold rWi; simp only [hf, if_true]; rw [Hwt.out, Hwk.out, Hs5.out])
          clear hf
          have BX6 := hid (K6.out.blk I.out.box HF.out)
          have hF3 := blk_cell BX6.out 7
          simp [wsBox] at hF3
          have Hw6 : Hid (w.heap.size ≤ w6.heap.size) := hid (Nat.le_trans I.out.kp.size K6.out.size)
          have Hwr6 : Hid (wr.heap.size ≤ w6.heap.size) := hid K6.out.size
          have hF4 := ext_cell (ext_alloc w6 (Obj.cells #[.int .i64 (wt : Int), .int .i64 wk, .int .i64 0, .bool true] 74)) hF3
          have Own6 := hid (own_ext (own_kp I.out.own K6.out Hrow.out) (ext_alloc w6 (Obj.cells #[.int .i64 (wt : Int), .int .i64 wk, .int .i64 0, .bool true] 74)))
          have Rd6 := hid (q5.out.ext (ext_alloc w6 (Obj.cells #[.int .i64 (wt : Int), .int .i64 wk, .int .i64 0, .bool true] 74)))
          clear hF3
          go_wp2_with (at_builtin; refine wl_ap rfl rfl w.heap.size 74 hu info_write rfl (by decide) (.slice A1 xs.length c1) xs.length (xs.flatMap wiC) rfl (own_ext Own6.out (ext_alloc _ _)) (some ⟨w6.heap.size + 1, 0, none⟩) 1 1 [.int .i64 (wt : Int), .int .i64 wk, .int .i64 0, .bool true] rfl rfl (rd_new2 w6 _ [.int .i64 (wt : Int), .int .i64 wk, .int .i64 0, .bool true] 74) (fun u hu => by simp at hu; rcases hu with rfl | rfl | rfl | rfl <;> rfl) (by have := Hsz.out; unfold maxLen; omega) (by have := Hsz.out; omega) (by have := Hw6.out; simp; omega) ?_; intro A' c' w7 hnc hcm hown hkp hhop; have bx7 := hkp.blk (blk_alloc (blk_alloc BX6.out _) _) HnF.out; have hc7 := blk_cell bx7 7; have hf7 := blk_free bx7 7; simp [wsBox] at hc7; have Bx7 := hid bx7; have Hown := hid hown; have Hkp := hid hkp; clear hown hkp hhop bx7)
          go_roundg (m - (xs.length + 1))
          case measure => rw [Hg.out]; omega
          case rel => exact ⟨xs ++ [⟨wt, wk, 0, true⟩], s5, A', c', by simp, by simp; omega, hid (by
            have hn := I.out.next (o := .cells #[.int .i64 (wt : Int), .int .i64 wk, .int .i64 0, .bool true] 74) (w6 := w6.alloc (Obj.cells #[.int .i64 (wt : Int), .int .i64 wk, .int .i64 0, .bool true] 74)) (w7 := w7) (A' := A') (c' := c') Lt.out Hw2.out H0.out hlt (K6.out.trans (Kp.alloc _ _ _)) (by rw [HW.out]; exact Rd6.out) (by rw [HW.out]; exact Hown.out) Hkp.out Bx7.out
            rw [HW.out] at hn
            exact hn)⟩
        | false =>
          have HW : Hid (rWi s' = (⟨wt, wk, (rNum s5).1, false⟩, (rNum s5).2)) := hid (by unfold rWi; simp only [hf, Bool.false_eq_true, if_false]; rw [Hwt.out, Hwk.out, Hs5.out])
          clear hf
          have BX6 := hid (K6.out.blk I.out.box HF.out)
          have hF3 := blk_cell BX6.out 7
          simp [wsBox] at hF3
          have Hw6 : Hid (w.heap.size ≤ w6.heap.size) := hid (Nat.le_trans I.out.kp.size K6.out.size)
          have Hwr6 : Hid (wr.heap.size ≤ w6.heap.size) := hid K6.out.size
          have Own6 := hid (own_ext (own_kp I.out.own K6.out Hrow.out) (ext_alloc w6 (Obj.cells #[.int .i64 (wt : Int), .int .i64 wk, .int .i64 0, .bool false] 74)))
          have Rd6 := hid (q5.out.ext (ext_alloc w6 (Obj.cells #[.int .i64 (wt : Int), .int .i64 wk, .int .i64 0, .bool false] 74)))
          clear hF3
          have Bz6 := hid (blk_new w6 (Obj.cells #[.int .i64 (wt : Int), .int .i64 wk, .int .i64 0, .bool false] 74))
          have BX6' := hid (blk_alloc BX6.out (Obj.cells #[.int .i64 (wt : Int), .int .i64 wk, .int .i64 0, .bool false] 74))
          go_wp2_with fail
          refine (Num_any _ br s5 Cy3.out (Count_any _ br s5 Cy3.out Rd6.out)).mono ?_
          rintro e w7 ⟨rfl, p1, p2⟩
          have Hb6 : Hid (w6.heap.size ≠ br) := hid (by have := Lt.out; have := Hw6.out; omega)
          have bz7 := hid (p2.out.blk Bz6.out Hb6.out)
          have bx7 := hid (p2.out.blk BX6'.out HF.out)
          have Own7 := hid (own_kp Own6.out p2.out Hrow.out)
          have K7 : Hid (Kp (· ≠ br) wr w7) := hid ((K6.out.trans (Kp.alloc _ _ _)).trans p2.out)
          have Hx6 : Hid (w2.heap.size < w6.heap.size) := hid (heap_lt BX6.out)
          generalize hwv : (rNum s5).1 = wv at *
          generalize hs6 : (rNum s5).2 = s6 at *
          have hn6 : w6.heap.size ≠ w2.heap.size := fun e => by have := Hx6.out; omega
          have hn6' : w2.heap.size ≠ w6.heap.size := fun e => hn6 e.symm
          have hz0 := blk_cell bz7.out 0
          have hz1 := blk_cell bz7.out 1
          have hz2 := blk_cell bz7.out 2
          have hz3 := blk_cell bz7.out 3
          have hzf := blk_free bz7.out 2
          have hc7 := blk_cell bx7.out 7
          simp [wsBox] at hz0 hz1 hz2 hz3 hc7
          have Hwv := hid hwv
          have Hs6 := hid hs6
          clear hwv hs6
          have Hw7 : Hid (w.heap.size ≤ w7.heap.size) := hid (Nat.le_trans I.out.kp.size K7.out.size)
          have HnZ : Hid (∀ k, (Value.slice A1 xs.length c1).ownBlock = some k → k ≠ w6.heap.size) := hid (fun k hk e => by obtain ⟨_, cur, h2⟩ := own_blk I.out.own hk; have := heap_lt h2; have := Hwr6.out; omega)
          go_wp2_with (at_builtin; refine wl_ap rfl rfl w.heap.size 74 hu info_write rfl (by decide) (.slice A1 xs.length c1) xs.length (xs.flatMap wiC) rfl (own_ext (own_kp Own7.out (kp_set w7 w6.heap.size 2 (.int .i64 wv)) HnZ.out) (ext_alloc _ _)) (some ⟨w7.heap.size, 0, none⟩) 1 1 [.int .i64 (wt : Int), .int .i64 wk, .int .i64 wv, .bool false] rfl rfl (rd_new3 w7 _ _ [.int .i64 (wt : Int), .int .i64 wk, .int .i64 wv, .bool false] 74) (fun u hu => by simp at hu; rcases hu with rfl | rfl | rfl | rfl <;> rfl) (by have := Hsz.out; unfold maxLen; omega) (by have := Hsz.out; omega) (by have := Hw7.out; simp [World.setCell]; omega) ?_; intro A' c' w8 hnc hcm hown hkp hhop; have bx8 := hkp.blk (blk_alloc (blk_set_ne bx7.out hn6' _) _) HnF.out; have hc8 := blk_cell bx8 7; have hf8 := blk_free bx8 7; simp [wsBox] at hc8; have Bx8 := hid bx8; have Hown := hid hown; have Hkp := hid hkp; clear hown hkp hhop bx8)
          go_roundg (m - (xs.length + 1))
          case measure => rw [Hg.out]; omega
          case rel => exact ⟨xs ++ [⟨wt, wk, wv, false⟩], s6, A', c', by simp, by simp; omega, hid (by
            have hn := I.out.next (o := .cells #[.int .i64 (wt : Int), .int .i64 wk, .int .i64 wv, .bool false] 74) (w6 := w7.setCell ⟨w6.heap.size, 2, none⟩ (.int .i64 wv)) (w7 := w8) (A' := A') (c' := c') Lt.out Hw2.out H0.out hlt (K7.out.trans2 (kp_set _ _ _ _) (fun i hi _ => by have := Hwr6.out; omega)) (by rw [HW.out]; exact p1.out.kp (kp_set _ _ _ _) (Ne.symm Hb6.out) (fun k cs fz h => blk_ty_ne h bz7.out (by decide))) (by rw [HW.out]; exact Hown.out) Hkp.out Bx8.out
            rw [HW.out] at hn
            exact hn)⟩
    · skip
      have E5 : Hid (wsGo m s3 = (xs, s')) := hid (by rw [I.out.eq, show m - xs.length = 0 by omega]; simp [wsGo])
      have EQ : Hid (takeR s = (⟨q0, true, ⟨0, []⟩, ⟨[], [], []⟩, xs⟩, s')) := hid (by rw [HT.out, E5.out])
      have hne := Hne.out
      have hne2 := Hne2.out
      have y0 := blk_cell I.out.box 0
      have y1 := blk_cell I.out.box 1
      have y2 := blk_cell I.out.box 2
      have y3 := blk_cell I.out.box 3
      have y4 := blk_cell I.out.box 4
      have y5 := blk_cell I.out.box 5
      have y6 := blk_cell I.out.box 6
      have e0 := blk_cell I.out.res 0
      have e1 := blk_cell I.out.res 1
      have e2 := blk_cell I.out.res 2
      have e3 := blk_cell I.out.res 3
      have e4 := blk_cell I.out.res 4
      have e5 := blk_cell I.out.res 5
      have e6 := blk_cell I.out.res 6
      have e7 := blk_cell I.out.res 7
      have g0 := blk_free I.out.res 0
      have g1 := blk_free I.out.res 1
      have g2 := blk_free I.out.res 2
      have g3 := blk_free I.out.res 3
      have g4 := blk_free I.out.res 4
      have g5 := blk_free I.out.res 5
      have g6 := blk_free I.out.res 6
      have g7 := blk_free I.out.res 7
      simp [wsBox, recZero] at y0 y1 y2 y3 y4 y5 y6 e0 e1 e2 e3 e4 e5 e6 e7
      go_wp2_with fail
      refine bodyPost_ret (v := .agg #[.int .i64 (q0 : Int), .bool true, .int .i64 0, .slice none 0 0, .slice none 0 0, .slice none 0 0, .slice none 0 0, .slice A1 xs.length c1]) (by simp [results, Try.results14, go_sem, hne, hne2, e0, e1, e2, e3, e4, e5, e6, e7]) rfl ?_
      refine ⟨none, 0, 0, none, 0, 0, none, 0, 0, none, 0, 0, A1, xs.length, c1, by rw [EQ.out], ?_⟩
      rw [EQ.out]
      have hxs : xs.length ≤ 1000000000000 := by have := I.out.sz; have := Sz3.out; omega
      have KZ : ∀ W, Kp (fun k => k ≠ w2.heap.size ∧ k ≠ w.heap.size) wr W → RecRd W ⟨q0, true, ⟨0, []⟩, ⟨[], [], []⟩, xs⟩ none 0 0 none 0 0 none 0 0 none 0 0 A1 xs.length c1 ∧ RecOk ⟨q0, true, ⟨0, []⟩, ⟨[], [], []⟩, xs⟩ ∧ ReaderAt W br s' ∧ Byt s' ∧ Kp (· ≠ br) w W ∧ (Fresh w.heap.size none ∧ Fresh w.heap.size none ∧ Fresh w.heap.size none ∧ Fresh w.heap.size none ∧ Fresh w.heap.size A1) := fun W hk => by
        have z1 := Hw2.out
        have z2 := Lt.out
        have wf := (wsGo_facts m s3 By3.out).1
        rw [E5.out] at wf
        refine ⟨⟨⟨rfl, by omega, Rd.nil _ _⟩, ⟨rfl, rfl, rfl, by omega, by omega, by omega, Rd.nil _ _, Rd.nil _ _, Rd.nil _ _⟩, rfl, by omega, own_rd (own_kp I.out.own hk (fun k hkk => ?_))⟩, ⟨⟨by simp, by simp, by simp⟩, by simp, wf, by simp, by simpa using hxs⟩, I.out.rd.kp hk ⟨fun e => HF.out e.symm, fun e => by omega⟩ (fun k cs fz h => ⟨blk_ty_ne h I.out.box (by decide), blk_ty_ne h I.out.res (by decide)⟩), I.out.by_, I.out.kp.trans2 hk (fun i hi _ => ⟨by omega, by omega⟩), Fresh.none _, Fresh.none _, Fresh.none _, Fresh.none _, fun a ha => (own_blk I.out.own (k := a.block) (by rw [ha]; rfl)).1⟩
        obtain ⟨_, cur, h2⟩ := own_blk I.out.own hkk
        exact ⟨blk_ty_ne h2 I.out.box (by decide), blk_ty_ne h2 I.out.res (by decide)⟩
      refine KZ _ ?_
      repeat (first | refine Kp.set ?_ (fun _ h => h.1) | refine Kp.set ?_ (fun _ h => h.2))
      exact Kp.refl _ _
end Go.Proofs.Ytgnfccdhlpeknaa
