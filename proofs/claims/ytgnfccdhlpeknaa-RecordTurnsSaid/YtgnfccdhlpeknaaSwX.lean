/- The law's copy of a record. -/
import Derived.Test.YtgnfccdhlpeknaaSwTf
import Derived.Test.YtgnfccdhlpeknaaSwVb
open Go Go.RowKit
namespace Go.Proofs.Ytgnfccdhlpeknaa
set_option maxRecDepth 100000
def ProgPost (w : World) (x : Rec) (e : Ending) (w' : World) : Prop :=
  ∃ (Ac : Option Addr) (nc cc : Nat) (A0 : Option Addr) (n0 c0 : Nat) (A1 : Option Addr) (n1 c1 : Nat) (A2 : Option Addr) (n2 c2 : Nat) (Aw : Option Addr) (nw cw : Nat),
    e = .returned (.agg #[.int .i64 x.seq, .bool x.val, .int .i64 x.pg.fuel, .slice Ac nc cc, .slice A0 n0 c0, .slice A1 n1 c1, .slice A2 n2 c2, .slice Aw nw cw]) ∧
    RecRd w' x Ac nc cc A0 n0 c0 A1 n1 c1 A2 n2 c2 Aw nw cw ∧ Below w.heap.size w w' ∧ (Fresh w.heap.size Ac ∧ Fresh w.heap.size A0 ∧ Fresh w.heap.size A1 ∧ Fresh w.heap.size A2 ∧ Fresh w.heap.size Aw)
set_option maxHeartbeats 4000000 in
theorem program_any (w : World) (x : Rec) (Ac : Option Addr) (nc cc : Nat) (A0 : Option Addr) (n0 c0 : Nat) (A1 : Option Addr) (n1 c1 : Nat) (A2 : Option Addr) (n2 c2 : Nat) (Aw : Option Addr) (nw cw : Nat) (h : RecRd w x Ac nc cc A0 n0 c0 A1 n1 c1 A2 n2 c2 Aw nw cw)
    (hc : nc ≤ 1000000) (h0 : n0 ≤ 1000000) (h1 : n1 ≤ 1000000) (h2 : n2 ≤ 1000000) (hw : nw ≤ 1000000) :
    Calls Try.prog 7 #[.agg #[.int .i64 x.seq, .bool x.val, .int .i64 x.pg.fuel, .slice Ac nc cc, .slice A0 n0 c0, .slice A1 n1 c1, .slice A2 n2 c2, .slice Aw nw cw]] w (ProgPost w x) := by
  have H := hid h
  have hu := Try.underlying22
  have huk := Try.underlying25
  have hus := Try.underlying26
  have huw := Try.underlying29
  clear h
  go_enter Try.func7, Try.ntmps7
  have HO := hid (show ((((w.alloc (.cells #[.int .i64 x.seq, .bool x.val, .int .i64 x.pg.fuel, .slice Ac nc cc, .slice A0 n0 c0, .slice A1 n1 c1, .slice A2 n2 c2, .slice Aw nw cw] 31)).alloc (.cells #[.int .i64 0, .bool false, .int .i64 0, .slice none 0 0, .slice none 0 0, .slice none 0 0, .slice none 0 0, .slice none 0 0] 39)).alloc (.cells #[.int .i64 x.seq, .bool x.val, .int .i64 x.pg.fuel, .slice Ac nc cc, .slice A0 n0 c0, .slice A1 n1 c1, .slice A2 n2 c2, .slice Aw nw cw] 39)).alloc (.cells #[] 93)).ownsRow w.heap.size 93 6 (.slice (some ⟨w.heap.size + 3, 0, none⟩) 0 0) 0 [] from by
    have := row_empty (((w.alloc (.cells #[.int .i64 x.seq, .bool x.val, .int .i64 x.pg.fuel, .slice Ac nc cc, .slice A0 n0 c0, .slice A1 n1 c1, .slice A2 n2 c2, .slice Aw nw cw] 31)).alloc (.cells #[.int .i64 0, .bool false, .int .i64 0, .slice none 0 0, .slice none 0 0, .slice none 0 0, .slice none 0 0, .slice none 0 0] 39)).alloc (.cells #[.int .i64 x.seq, .bool x.val, .int .i64 x.pg.fuel, .slice Ac nc cc, .slice A0 n0 c0, .slice A1 n1 c1, .slice A2 n2 c2, .slice Aw nw cw] 39)) 93 6 w.heap.size (by simp; omega)
    simpa using this)
  have RB0 := hid (blk_alloc (blk_alloc (blk_alloc (blk_new w (.cells #[.int .i64 x.seq, .bool x.val, .int .i64 x.pg.fuel, .slice Ac nc cc, .slice A0 n0 c0, .slice A1 n1 c1, .slice A2 n2 c2, .slice Aw nw cw] 31)) (.cells #[.int .i64 0, .bool false, .int .i64 0, .slice none 0 0, .slice none 0 0, .slice none 0 0, .slice none 0 0, .slice none 0 0] 39)) (.cells #[.int .i64 x.seq, .bool x.val, .int .i64 x.pg.fuel, .slice Ac nc cc, .slice A0 n0 c0, .slice A1 n1 c1, .slice A2 n2 c2, .slice Aw nw cw] 39)) (.cells #[] 93))
  have ZB0 := hid (blk_alloc (blk_alloc (blk_new (w.alloc (.cells #[.int .i64 x.seq, .bool x.val, .int .i64 x.pg.fuel, .slice Ac nc cc, .slice A0 n0 c0, .slice A1 n1 c1, .slice A2 n2 c2, .slice Aw nw cw] 31)) (.cells #[.int .i64 0, .bool false, .int .i64 0, .slice none 0 0, .slice none 0 0, .slice none 0 0, .slice none 0 0, .slice none 0 0] 39)) (.cells #[.int .i64 x.seq, .bool x.val, .int .i64 x.pg.fuel, .slice Ac nc cc, .slice A0 n0 c0, .slice A1 n1 c1, .slice A2 n2 c2, .slice Aw nw cw] 39)) (.cells #[] 93))
  have FB0 := hid (blk_alloc (blk_new ((w.alloc (.cells #[.int .i64 x.seq, .bool x.val, .int .i64 x.pg.fuel, .slice Ac nc cc, .slice A0 n0 c0, .slice A1 n1 c1, .slice A2 n2 c2, .slice Aw nw cw] 31)).alloc (.cells #[.int .i64 0, .bool false, .int .i64 0, .slice none 0 0, .slice none 0 0, .slice none 0 0, .slice none 0 0, .slice none 0 0] 39)) (.cells #[.int .i64 x.seq, .bool x.val, .int .i64 x.pg.fuel, .slice Ac nc cc, .slice A0 n0 c0, .slice A1 n1 c1, .slice A2 n2 c2, .slice Aw nw cw] 39)) (.cells #[] 93))
  have E4 : Hid (Below w.heap.size w ((((w.alloc (.cells #[.int .i64 x.seq, .bool x.val, .int .i64 x.pg.fuel, .slice Ac nc cc, .slice A0 n0 c0, .slice A1 n1 c1, .slice A2 n2 c2, .slice Aw nw cw] 31)).alloc (.cells #[.int .i64 0, .bool false, .int .i64 0, .slice none 0 0, .slice none 0 0, .slice none 0 0, .slice none 0 0, .slice none 0 0] 39)).alloc (.cells #[.int .i64 x.seq, .bool x.val, .int .i64 x.pg.fuel, .slice Ac nc cc, .slice A0 n0 c0, .slice A1 n1 c1, .slice A2 n2 c2, .slice Aw nw cw] 39)).alloc (.cells #[] 93))) := hid (((((Below.refl _ w).alloc (Nat.le_refl _) _).alloc (by simp) _).alloc (by simp; omega) _).alloc (by simp; omega) _)
  simp only [World.size_alloc] at RB0 ZB0 FB0
  go_wp2_with (at_builtin; refine wl_ap0 rfl rfl w.heap.size (w.heap.size + 3) 93 hu info_code rfl (by decide) rfl HO.out Ac nc cc (x.pg.code.flatMap cdC) rfl ?hl (H.out.p.r.ext E4.out) (cd_one _) ?h6 ?hb ?hB ?_; rotate_left 4; intro A3 c3 w4 hnc hcm hown hbl; have RB1 := hid (ext_blk hbl RB0.out); have ZB1 := hid (ext_blk hbl ZB0.out); have FB1 := hid (ext_blk hbl FB0.out); have z3 := blk_cell FB1.out 3; have g3 := blk_free FB1.out 3; simp at z3; have E5 := hid (E4.out.trans (hbl.mono E4.out.size)); have HOC := hid hown; clear hbl hown; rotate_right 4)
  case hl => rw [H.out.p.e]; exact fm_len (fun y => by simp [cdC, Cd.l]) _
  case h6 => unfold maxLen; omega
  case hb => omega
  case hB => simp; omega
  have RB := hid (blk_set_ne RB1.out (p := ⟨w.heap.size + 1 + 1, 3, none⟩) (by simp; omega) (.slice A3 nc c3))
  have ZB := hid (blk_set_ne ZB1.out (p := ⟨w.heap.size + 1 + 1, 3, none⟩) (by simp; try omega) (.slice A3 nc c3))
  have FB := hid (blk_set FB1.out 3 (.slice A3 nc c3))
  have hlt := heap_lt FB1.out
  have E6 : Hid (Below w.heap.size w (w4.setCell ⟨w.heap.size + 1 + 1, 3, none⟩ (.slice A3 nc c3))) := hid (E5.out.trans ((kp_set _ _ _ _).below (by omega) (fun k hk => by omega)))
  have OC := hid (own_kp HOC.out (kp_set w4 (w.heap.size + 1 + 1) 3 (.slice A3 nc c3)) (fun k hk => by obtain ⟨_, cur, h2⟩ := own_blk HOC.out hk; exact blk_ty_ne h2 FB1.out (by decide)))
  clear z3 g3 RB1 ZB1 FB1 RB0 ZB0 FB0 HO HOC E4 E5
  generalize w4.setCell ⟨w.heap.size + 1 + 1, 3, none⟩ (.slice A3 nc c3) = W5 at *
  have H5 := H.out
  refine wp_region_rel (n := 17) (fun j v w' => match j with
    | 0 => ∃ g, v = .slice (some ⟨g, 0, none⟩) 0 0 ∧ w'.ownsRow w.heap.size 72 2 v 0 []
    | 1 => v = .pointer (some ⟨w.heap.size, 4, none⟩)
    | 2 => v = .pointer (some ⟨w.heap.size, 4, none⟩)
    | 3 => v = .slice A0 n0 c0
    | 4 => ∃ A' c', v = .slice A' n0 c' ∧ w'.ownsRow w.heap.size 72 2 v n0 (x.ft.r.flatMap kyC)
    | 5 => ∃ g, v = .slice (some ⟨g, 0, none⟩) 0 0 ∧ w'.ownsRow w.heap.size 96 3 v 0 []
    | 6 => v = .pointer (some ⟨w.heap.size, 4, none⟩)
    | 7 => v = .pointer (some ⟨w.heap.size, 5, none⟩)
    | 8 => v = .slice A1 n1 c1
    | 9 => ∃ A' c', v = .slice A' n1 c' ∧ w'.ownsRow w.heap.size 96 3 v n1 (x.ft.s.flatMap spC)
    | 10 => ∃ g, v = .slice (some ⟨g, 0, none⟩) 0 0 ∧ w'.ownsRow w.heap.size 72 2 v 0 []
    | 11 => v = .pointer (some ⟨w.heap.size, 4, none⟩)
    | 12 => v = .pointer (some ⟨w.heap.size, 6, none⟩)
    | 13 => v = .slice A2 n2 c2
    | 14 => ∃ A' c', v = .slice A' n2 c' ∧ w'.ownsRow w.heap.size 72 2 v n2 (x.ft.w.flatMap kyC)
    | 15 => ∃ B0 d0 B1 d1 B2 d2, v = .agg #[.slice B0 n0 d0, .slice B1 n1 d1, .slice B2 n2 d2] ∧ w'.ownsRow w.heap.size 72 2 (.slice B0 n0 d0) n0 (x.ft.r.flatMap kyC) ∧ w'.ownsRow w.heap.size 96 3 (.slice B1 n1 d1) n1 (x.ft.s.flatMap spC) ∧ w'.ownsRow w.heap.size 72 2 (.slice B2 n2 d2) n2 (x.ft.w.flatMap kyC)
    | 16 => v = .pointer (some ⟨w.heap.size + 1 + 1, 4, none⟩)
    | _ => True) (fun a b => Below a.heap.size a b) (by kernel_rfl) (by kernel_rfl) rfl rfl (fun _ => Below.refl _ _) (fun _ _ _ h k => ext_trans h k) ?hV ?hstep ?hlast
  case hV =>
    intro j v a b h hk
    split at h <;> first
      | exact h
      | (obtain ⟨g, h1, h2⟩ := h; exact ⟨g, h1, own_ext h2 hk⟩)
      | (obtain ⟨A', c', h1, h2⟩ := h; exact ⟨A', c', h1, own_ext h2 hk⟩)
      | (obtain ⟨B0, d0, B1, d1, B2, d2, h1, h2, h3, h4⟩ := h; exact ⟨B0, d0, B1, d1, B2, d2, h1, own_ext h2 hk, own_ext h3 hk, own_ext h4 hk⟩)
  case hstep =>
    intro j o ho hj a w' I
    have t1 := (I.other 1 (noDst_spec (by kernel_rfl))).trans rfl
    have t3 := (I.other 3 (noDst_spec (by kernel_rfl))).trans rfl
    have hwb : w.heap.size ≤ w'.heap.size := Nat.le_trans E6.out.size I.rel.size
    have q4 := ext_cell I.rel (blk_cell (blk_drew RB.out) 4)
    have q5 := ext_cell I.rel (blk_cell (blk_drew RB.out) 5)
    have q6 := ext_cell I.rel (blk_cell (blk_drew RB.out) 6)
    simp at q4 q5 q6
    have E7 : Below w.heap.size w w' := (E6.out.trans ((ext_drew W5).mono E6.out.size)).trans (I.rel.mono E6.out.size)
    have RE : ∀ A cs, Rd w A cs → Rd w' A cs := fun A cs h => fun j u hu => by
      obtain ⟨b, o, hA, hc⟩ := h j u hu
      exact ⟨b, o, hA, (E7.cell (World.block_lt_of_cell? w _ hc)).trans hc⟩
    match j, hj with
    | 0, _ =>
      injection ho with ho
      subst ho
      exact op_val rfl rfl (v := .slice (some ⟨w'.heap.size, 0, none⟩) 0 0) (w' := w'.alloc (.cells #[] 72)) (by simp [execOp, go_sem, huk]) ⟨_, rfl, ⟨_, rfl, row_empty w' _ _ _ hwb⟩, ext_alloc _ _⟩
    | 1, _ =>
      injection ho with ho
      subst ho
      exact op_val rfl rfl (v := .pointer (some ⟨w.heap.size, 4, none⟩)) (w' := w') (by simp [execOp, go_sem, t1]) ⟨_, rfl, rfl, Below.refl _ _⟩
    | 2, _ =>
      injection ho with ho
      subst ho
      obtain ⟨v, rfl, hv⟩ := I.dep _ rfl ⟨1, .data⟩ (by simp) rfl
      have hv := hv _ rfl
      exact op_val rfl rfl (v := .pointer (some ⟨w.heap.size, 4, none⟩)) (w' := w') (by simp [execOp, go_sem, hv]) ⟨_, rfl, rfl, Below.refl _ _⟩
    | 3, _ =>
      injection ho with ho
      subst ho
      obtain ⟨v, rfl, hv⟩ := I.dep _ rfl ⟨2, .data⟩ (by simp) rfl
      have hv := hv _ rfl
      exact op_val rfl rfl (v := .slice A0 n0 c0) (w' := w') (by simp [execOp, go_sem, hv, q4]) ⟨_, rfl, rfl, Below.refl _ _⟩
    | 4, _ =>
      injection ho with ho
      subst ho
      obtain ⟨v, ⟨g, rfl, hgo⟩, hv⟩ := I.dep _ rfl ⟨0, .data⟩ (by simp) rfl
      have hv := hv _ rfl
      obtain ⟨v, rfl, hv2⟩ := I.dep _ rfl ⟨3, .data⟩ (by simp) rfl
      have hv2 := hv2 _ rfl
      exact op_ap0 rfl rfl rfl w.heap.size g 72 huk info_key rfl (by decide) (eval_tmp hv) hgo A0 n0 c0 (x.ft.r.flatMap kyC) (eval_tmp hv2) (by rw [H5.f.e0]; exact fm_len (fun y => by simp [kyC]) _) (RE _ _ H5.f.r0) (ky_one _) (by unfold maxLen; omega) (by omega) hwb (fun A' c' w9 _ _ ho hb => ⟨_, rfl, ⟨A', c', rfl, ho⟩, hb⟩)
    | 5, _ =>
      injection ho with ho
      subst ho
      exact op_val rfl rfl (v := .slice (some ⟨w'.heap.size, 0, none⟩) 0 0) (w' := w'.alloc (.cells #[] 96)) (by simp [execOp, go_sem, hus]) ⟨_, rfl, ⟨_, rfl, row_empty w' _ _ _ hwb⟩, ext_alloc _ _⟩
    | 6, _ =>
      injection ho with ho
      subst ho
      exact op_val rfl rfl (v := .pointer (some ⟨w.heap.size, 4, none⟩)) (w' := w') (by simp [execOp, go_sem, t1]) ⟨_, rfl, rfl, Below.refl _ _⟩
    | 7, _ =>
      injection ho with ho
      subst ho
      obtain ⟨v, rfl, hv⟩ := I.dep _ rfl ⟨6, .data⟩ (by simp) rfl
      have hv := hv _ rfl
      exact op_val rfl rfl (v := .pointer (some ⟨w.heap.size, 5, none⟩)) (w' := w') (by simp [execOp, go_sem, hv]) ⟨_, rfl, rfl, Below.refl _ _⟩
    | 8, _ =>
      injection ho with ho
      subst ho
      obtain ⟨v, rfl, hv⟩ := I.dep _ rfl ⟨7, .data⟩ (by simp) rfl
      have hv := hv _ rfl
      exact op_val rfl rfl (v := .slice A1 n1 c1) (w' := w') (by simp [execOp, go_sem, hv, q5]) ⟨_, rfl, rfl, Below.refl _ _⟩
    | 9, _ =>
      injection ho with ho
      subst ho
      obtain ⟨v, ⟨g, rfl, hgo⟩, hv⟩ := I.dep _ rfl ⟨5, .data⟩ (by simp) rfl
      have hv := hv _ rfl
      obtain ⟨v, rfl, hv2⟩ := I.dep _ rfl ⟨8, .data⟩ (by simp) rfl
      have hv2 := hv2 _ rfl
      exact op_ap0 rfl rfl rfl w.heap.size g 96 hus info_span rfl (by decide) (eval_tmp hv) hgo A1 n1 c1 (x.ft.s.flatMap spC) (eval_tmp hv2) (by rw [H5.f.e1]; exact fm_len (fun y => by simp [spC]) _) (RE _ _ H5.f.r1) (sp_one _) (by unfold maxLen; omega) (by omega) hwb (fun A' c' w9 _ _ ho hb => ⟨_, rfl, ⟨A', c', rfl, ho⟩, hb⟩)
    | 10, _ =>
      injection ho with ho
      subst ho
      exact op_val rfl rfl (v := .slice (some ⟨w'.heap.size, 0, none⟩) 0 0) (w' := w'.alloc (.cells #[] 72)) (by simp [execOp, go_sem, huk]) ⟨_, rfl, ⟨_, rfl, row_empty w' _ _ _ hwb⟩, ext_alloc _ _⟩
    | 11, _ =>
      injection ho with ho
      subst ho
      exact op_val rfl rfl (v := .pointer (some ⟨w.heap.size, 4, none⟩)) (w' := w') (by simp [execOp, go_sem, t1]) ⟨_, rfl, rfl, Below.refl _ _⟩
    | 12, _ =>
      injection ho with ho
      subst ho
      obtain ⟨v, rfl, hv⟩ := I.dep _ rfl ⟨11, .data⟩ (by simp) rfl
      have hv := hv _ rfl
      exact op_val rfl rfl (v := .pointer (some ⟨w.heap.size, 6, none⟩)) (w' := w') (by simp [execOp, go_sem, hv]) ⟨_, rfl, rfl, Below.refl _ _⟩
    | 13, _ =>
      injection ho with ho
      subst ho
      obtain ⟨v, rfl, hv⟩ := I.dep _ rfl ⟨12, .data⟩ (by simp) rfl
      have hv := hv _ rfl
      exact op_val rfl rfl (v := .slice A2 n2 c2) (w' := w') (by simp [execOp, go_sem, hv, q6]) ⟨_, rfl, rfl, Below.refl _ _⟩
    | 14, _ =>
      injection ho with ho
      subst ho
      obtain ⟨v, ⟨g, rfl, hgo⟩, hv⟩ := I.dep _ rfl ⟨10, .data⟩ (by simp) rfl
      have hv := hv _ rfl
      obtain ⟨v, rfl, hv2⟩ := I.dep _ rfl ⟨13, .data⟩ (by simp) rfl
      have hv2 := hv2 _ rfl
      exact op_ap0 rfl rfl rfl w.heap.size g 72 huk info_key rfl (by decide) (eval_tmp hv) hgo A2 n2 c2 (x.ft.w.flatMap kyC) (eval_tmp hv2) (by rw [H5.f.e2]; exact fm_len (fun y => by simp [kyC]) _) (RE _ _ H5.f.r2) (ky_one _) (by unfold maxLen; omega) (by omega) hwb (fun A' c' w9 _ _ ho hb => ⟨_, rfl, ⟨A', c', rfl, ho⟩, hb⟩)
    | 15, _ =>
      injection ho with ho
      subst ho
      obtain ⟨v, ⟨B0, d0, rfl, o0⟩, v0⟩ := I.dep _ rfl ⟨4, .data⟩ (by simp) rfl
      have v0 := v0 _ rfl
      obtain ⟨v, ⟨B1, d1, rfl, o1⟩, v1⟩ := I.dep _ rfl ⟨9, .data⟩ (by simp) rfl
      have v1 := v1 _ rfl
      obtain ⟨v, ⟨B2, d2, rfl, o2⟩, v2⟩ := I.dep _ rfl ⟨14, .data⟩ (by simp) rfl
      have v2 := v2 _ rfl
      exact op_val rfl rfl (v := .agg #[.slice B0 n0 d0, .slice B1 n1 d1, .slice B2 n2 d2]) (w' := w') (by simp [execOp, go_sem, v0, v1, v2]) ⟨_, rfl, ⟨_, _, _, _, _, _, rfl, o0, o1, o2⟩, Below.refl _ _⟩
    | 16, _ =>
      injection ho with ho
      subst ho
      exact op_val rfl rfl (v := .pointer (some ⟨w.heap.size + 1 + 1, 4, none⟩)) (w' := w') (by simp [execOp, go_sem, t3]) ⟨_, rfl, rfl, Below.refl _ _⟩
    | k + 17, hk => omega
  case hlast =>
    intro vals w' hlen hR hv
    have RB2 := hid (ext_blk hR (blk_drew RB.out))
    have ZB2 := hid (ext_blk hR (blk_drew ZB.out))
    have FB2 := hid (ext_blk hR (blk_drew FB.out))
    have E7 := hid ((E6.out.trans ((ext_drew W5).mono E6.out.size)).trans (hR.mono E6.out.size))
    have OC2 := hid (own_ext (own_ext OC.out (ext_drew W5)) hR)
    match vals, hlen with
    | [v0, v1, v2, v3, v4, v5, v6, v7, v8, v9, v10, v11, v12, v13, v14, v15, v16], _ =>
    obtain ⟨B0, d0, B1, d1, B2, d2, e15, o0, o1, o2⟩ := hv 15 v15 rfl
    have e16 : v16 = .pointer (some ⟨w.heap.size + 1 + 1, 4, none⟩) := hv 16 v16 rfl
    subst e15 e16
    have O0 := hid o0
    have O1 := hid o1
    have O2 := hid o2
    clear hv hR o0 o1 o2
    refine op_list rfl ?_
    have FB6 := hid (blk_alloc (blk_set (blk_set (blk_set FB2.out 4 (.slice B0 n0 d0)) 5 (.slice B1 n1 d1)) 6 (.slice B2 n2 d2)) (.cells #[] 74))
    have ZB6 := hid (blk_alloc (blk_set_ne (blk_set_ne (blk_set_ne ZB2.out (p := ⟨w.heap.size + 1 + 1, 4, none⟩) (by simp) (.slice B0 n0 d0)) (p := ⟨w.heap.size + 1 + 1, 5, none⟩) (by simp) (.slice B1 n1 d1)) (p := ⟨w.heap.size + 1 + 1, 6, none⟩) (by simp) (.slice B2 n2 d2)) (.cells #[] 74))
    have KS : Hid (Kp (fun k => k ≠ w.heap.size + 1 + 1) w' ((((w'.setCell ⟨w.heap.size + 1 + 1, 4, none⟩ (.slice B0 n0 d0)).setCell ⟨w.heap.size + 1 + 1, 5, none⟩ (.slice B1 n1 d1)).setCell ⟨w.heap.size + 1 + 1, 6, none⟩ (.slice B2 n2 d2)).alloc (.cells #[] 74))) := hid ((((((Kp.refl _ w').set (fun _ h => h)).set (fun _ h => h)).set (fun _ h => h))).trans (Kp.alloc _ _ _))
    have hsz' := heap_lt FB2.out
    have E8 : Hid (Below w.heap.size w ((((w'.setCell ⟨w.heap.size + 1 + 1, 4, none⟩ (.slice B0 n0 d0)).setCell ⟨w.heap.size + 1 + 1, 5, none⟩ (.slice B1 n1 d1)).setCell ⟨w.heap.size + 1 + 1, 6, none⟩ (.slice B2 n2 d2)).alloc (.cells #[] 74))) := hid (E7.out.trans (KS.out.below (by omega) (fun k hk => by omega)))
    have HO6 := hid (show ((((w'.setCell ⟨w.heap.size + 1 + 1, 4, none⟩ (.slice B0 n0 d0)).setCell ⟨w.heap.size + 1 + 1, 5, none⟩ (.slice B1 n1 d1)).setCell ⟨w.heap.size + 1 + 1, 6, none⟩ (.slice B2 n2 d2)).alloc (.cells #[] 74)).ownsRow w.heap.size 74 4 (.slice (some ⟨w'.heap.size, 0, none⟩) 0 0) 0 [] from by
      have := row_empty (((w'.setCell ⟨w.heap.size + 1 + 1, 4, none⟩ (.slice B0 n0 d0)).setCell ⟨w.heap.size + 1 + 1, 5, none⟩ (.slice B1 n1 d1)).setCell ⟨w.heap.size + 1 + 1, 6, none⟩ (.slice B2 n2 d2)) 74 4 w.heap.size (by simp [World.setCell]; omega)
      simpa [World.setCell] using this)
    have noF : ∀ {e size n : Nat} {v : Value} {xs : List Value}, w'.ownsRow w.heap.size e size v n xs → e ≠ 39 → ((((w'.setCell ⟨w.heap.size + 1 + 1, 4, none⟩ (.slice B0 n0 d0)).setCell ⟨w.heap.size + 1 + 1, 5, none⟩ (.slice B1 n1 d1)).setCell ⟨w.heap.size + 1 + 1, 6, none⟩ (.slice B2 n2 d2)).alloc (.cells #[] 74)).ownsRow w.heap.size e size v n xs := fun ho he => own_kp ho KS.out (fun k hk => by obtain ⟨_, cur, h2⟩ := own_blk ho hk; exact blk_ty_ne h2 FB2.out he)
    have OC3 := hid (noF OC2.out (by decide))
    have O03 := hid (noF O0.out (by decide))
    have O13 := hid (noF O1.out (by decide))
    have O23 := hid (noF O2.out (by decide))
    clear noF
    have z4 := blk_cell FB2.out 4
    have z5 := blk_cell FB2.out 5
    have z6 := blk_cell FB2.out 6
    have z7 := blk_cell RB2.out 7
    have g4 := blk_free FB2.out 4
    have g5 := blk_free FB2.out 5
    have g6 := blk_free FB2.out 6
    simp at z4 z5 z6 z7
    have hsz2 : w.heap.size < w'.heap.size := by omega
    have H5 := H.out
    have Hx5 := hid H5
    clear H5 OC RB ZB FB E6
    simp only [putAll, List.take_succ_cons, List.take_zero, Act.put]
    go_wp2_with (at_builtin; refine wl_ap0 rfl rfl w.heap.size w'.heap.size 74 huw info_write rfl (by decide) rfl HO6.out Aw nw cw (x.ws.flatMap wiC) rfl ?hl (H.out.rw.ext E8.out) (wi_one _) ?h6 ?hb ?hB ?_; rotate_left 4; intro A9 c9 w9 hnc9 hcm9 hown hbl; have FB9 := hid (ext_blk hbl FB6.out); have ZB9 := hid (ext_blk hbl ZB6.out); have E9 := hid (E8.out.trans (hbl.mono E8.out.size)); have HO9 := hid hown; have HE9 := hid hbl; have y0 := blk_cell FB9.out 0; have y1 := blk_cell FB9.out 1; have y2 := blk_cell FB9.out 2; have y3 := blk_cell FB9.out 3; have y4 := blk_cell FB9.out 4; have y5 := blk_cell FB9.out 5; have y6 := blk_cell FB9.out 6; have y7 := blk_cell FB9.out 7; have k7 := blk_free FB9.out 7; have e0 := blk_cell ZB9.out 0; have e1 := blk_cell ZB9.out 1; have e2 := blk_cell ZB9.out 2; have e3 := blk_cell ZB9.out 3; have e4 := blk_cell ZB9.out 4; have e5 := blk_cell ZB9.out 5; have e6 := blk_cell ZB9.out 6; have e7 := blk_cell ZB9.out 7; have f0 := blk_free ZB9.out 0; have f1 := blk_free ZB9.out 1; have f2 := blk_free ZB9.out 2; have f3 := blk_free ZB9.out 3; have f4 := blk_free ZB9.out 4; have f5 := blk_free ZB9.out 5; have f6 := blk_free ZB9.out 6; have f7 := blk_free ZB9.out 7; simp at y0 y1 y2 y3 y4 y5 y6 y7 e0 e1 e2 e3 e4 e5 e6 e7; clear hbl hown; rotate_right 4)
    case hl => rw [H.out.en]; exact fm_len (fun y => by simp [wiC]) _
    case h6 => unfold maxLen; omega
    case hb => omega
    case hB => simp [World.setCell]; omega
    refine bodyPost_ret (v := .agg #[.int .i64 x.seq, .bool x.val, .int .i64 x.pg.fuel, .slice A3 nc c3, .slice B0 n0 d0, .slice B1 n1 d1, .slice B2 n2 d2, .slice A9 nw c9]) (by simp [results, Try.results7, go_sem, e0, e1, e2, e3, e4, e5, e6, e7]) rfl ?_
    have KW : ∀ W, Kp (fun k => k ≠ w.heap.size + 1 + 1 ∧ k ≠ w.heap.size + 1) w9 W → ProgPost w x (.returned (.agg #[.int .i64 x.seq, .bool x.val, .int .i64 x.pg.fuel, .slice A3 nc c3, .slice B0 n0 d0, .slice B1 n1 d1, .slice B2 n2 d2, .slice A9 nw c9])) W := fun W hk => by
      have far : ∀ {e size n : Nat} {v : Value} {xs : List Value}, w9.ownsRow w.heap.size e size v n xs → e ≠ 39 → W.ownsRow w.heap.size e size v n xs := fun ho he => own_kp ho hk (fun k hk => by obtain ⟨_, cur, h2⟩ := own_blk ho hk; exact ⟨blk_ty_ne h2 FB9.out he, blk_ty_ne h2 ZB9.out he⟩)
      have fresh : ∀ {A : Option Addr} {e size n c m : Nat} {xs : List Value}, W.ownsRow w.heap.size e size (.slice A n c) m xs → Fresh w.heap.size A := fun ho a ha => (own_blk ho (k := a.block) (by rw [ha]; rfl)).1
      have a1 := far (own_ext OC3.out HE9.out) (by decide)
      have a2 := far (own_ext O03.out HE9.out) (by decide)
      have a3 := far (own_ext O13.out HE9.out) (by decide)
      have a4 := far (own_ext O23.out HE9.out) (by decide)
      have a5 := far HO9.out (by decide)
      have H5 := H.out
      exact ⟨A3, nc, c3, B0, n0, d0, B1, n1, d1, B2, n2, d2, A9, nw, c9, rfl, ⟨⟨H5.p.e, H5.p.b, own_rd a1⟩, ⟨H5.f.e0, H5.f.e1, H5.f.e2, H5.f.b0, H5.f.b1, H5.f.b2, own_rd a2, own_rd a3, own_rd a4⟩, H5.en, H5.bn, own_rd a5⟩, E9.out.trans (hk.below E9.out.size (fun k hk => by omega)), fresh a1, fresh a2, fresh a3, fresh a4, fresh a5⟩
    refine KW _ ?_
    repeat (first | refine Kp.set ?_ (fun _ h => h.1) | refine Kp.set ?_ (fun _ h => h.2))
    exact Kp.refl _ _
end Go.Proofs.Ytgnfccdhlpeknaa
