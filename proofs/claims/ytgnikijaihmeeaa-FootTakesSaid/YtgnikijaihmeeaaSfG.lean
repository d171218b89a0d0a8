/- The law's copy of a foot. -/
import Derived.Test.YtgnikijaihmeeaaSwVb
import Derived.Test.YtgnikijaihmeeaaSwI
open Go Go.RowKit
namespace Go.Proofs.Ytgnikijaihmeeaa
set_option linter.unusedVariables false
set_option linter.unusedSimpArgs false
set_option maxRecDepth 100000
/-- A leads into blocks from B on -/
def FreshA (B : Nat) (A : Option Addr) : Prop := ∀ a, A = some a → B ≤ a.block
theorem FtRd.kp' {S : Nat → Prop} {w w' : World} {f : Ft} {A0 : Option Addr} {n0 c0 : Nat} {A1 : Option Addr} {n1 c1 : Nat} {A2 : Option Addr} {n2 c2 : Nat} (h : FtRd w f A0 n0 c0 A1 n1 c1 A2 n2 c2) (hk : Kp S w w')
    (h0 : ∀ a, A0 = some a → S a.block) (h1 : ∀ a, A1 = some a → S a.block) (h2 : ∀ a, A2 = some a → S a.block) : FtRd w' f A0 n0 c0 A1 n1 c1 A2 n2 c2 :=
  ⟨h.e0, h.e1, h.e2, h.b0, h.b1, h.b2, h.r0.kp hk (fun a ha _ => h0 a ha), h.r1.kp hk (fun a ha _ => h1 a ha), h.r2.kp hk (fun a ha _ => h2 a ha)⟩
def CopPost (w : World) (f : Ft) (e : Ending) (w' : World) : Prop :=
  ∃ (A0 : Option Addr) (n0 c0 : Nat) (A1 : Option Addr) (n1 c1 : Nat) (A2 : Option Addr) (n2 c2 : Nat), e = .returned (.agg #[.slice A0 n0 c0, .slice A1 n1 c1, .slice A2 n2 c2]) ∧ FtRd w' f A0 n0 c0 A1 n1 c1 A2 n2 c2 ∧ Below w.heap.size w w' ∧ (FreshA w.heap.size A0 ∧ FreshA w.heap.size A1 ∧ FreshA w.heap.size A2)
set_option maxHeartbeats 4000000 in
theorem copies_any (w : World) (f : Ft) (A0 : Option Addr) (n0 c0 : Nat) (A1 : Option Addr) (n1 c1 : Nat) (A2 : Option Addr) (n2 c2 : Nat) (hf : FtRd w f A0 n0 c0 A1 n1 c1 A2 n2 c2) (h0 : n0 ≤ 1000000) (h1 : n1 ≤ 1000000) (h2 : n2 ≤ 1000000) :
    Calls Try.prog 7 #[.agg #[.slice A0 n0 c0, .slice A1 n1 c1, .slice A2 n2 c2]] w (CopPost w f) := by
  have H := hid hf
  have huk := Try.underlying22
  have hus := Try.underlying23
  clear hf
  go_enter Try.func7, Try.ntmps7
  go_wp2
  have RB := hid (blk_alloc (blk_new w (.cells #[.slice A0 n0 c0, .slice A1 n1 c1, .slice A2 n2 c2] 25)) (.cells #[.slice none 0 0, .slice none 0 0, .slice none 0 0] 25))
  have ZB := hid (blk_new (w.alloc (.cells #[.slice A0 n0 c0, .slice A1 n1 c1, .slice A2 n2 c2] 25)) (.cells #[.slice none 0 0, .slice none 0 0, .slice none 0 0] 25))
  have E6 : Hid (Below w.heap.size w ((w.alloc (.cells #[.slice A0 n0 c0, .slice A1 n1 c1, .slice A2 n2 c2] 25)).alloc (.cells #[.slice none 0 0, .slice none 0 0, .slice none 0 0] 25))) := hid (((Below.refl _ w).alloc (Nat.le_refl _) _).alloc (by simp) _)
  simp only [World.size_alloc] at ZB
  generalize (w.alloc (.cells #[.slice A0 n0 c0, .slice A1 n1 c1, .slice A2 n2 c2] 25)).alloc (.cells #[.slice none 0 0, .slice none 0 0, .slice none 0 0] 25) = W5 at *
  have H5 := H.out
  refine wp_region_rel (n := 13) (fun j v w' => match j with
    | 0 => ∃ g, v = .slice (some ⟨g, 0, none⟩) 0 0 ∧ w'.ownsRow w.heap.size 80 2 v 0 []
    | 1 => v = .pointer (some ⟨w.heap.size, 0, none⟩)
    | 2 => v = .slice A0 n0 c0
    | 3 => ∃ A' c', v = .slice A' n0 c' ∧ w'.ownsRow w.heap.size 80 2 v n0 (f.r.flatMap kyC)
    | 4 => ∃ g, v = .slice (some ⟨g, 0, none⟩) 0 0 ∧ w'.ownsRow w.heap.size 46 3 v 0 []
    | 5 => v = .pointer (some ⟨w.heap.size, 1, none⟩)
    | 6 => v = .slice A1 n1 c1
    | 7 => ∃ A' c', v = .slice A' n1 c' ∧ w'.ownsRow w.heap.size 46 3 v n1 (f.s.flatMap spC)
    | 8 => ∃ g, v = .slice (some ⟨g, 0, none⟩) 0 0 ∧ w'.ownsRow w.heap.size 80 2 v 0 []
    | 9 => v = .pointer (some ⟨w.heap.size, 2, none⟩)
    | 10 => v = .slice A2 n2 c2
    | 11 => ∃ A' c', v = .slice A' n2 c' ∧ w'.ownsRow w.heap.size 80 2 v n2 (f.w.flatMap kyC)
    | 12 => ∃ B0 d0 B1 d1 B2 d2, v = .agg #[.slice B0 n0 d0, .slice B1 n1 d1, .slice B2 n2 d2] ∧ w'.ownsRow w.heap.size 80 2 (.slice B0 n0 d0) n0 (f.r.flatMap kyC) ∧ w'.ownsRow w.heap.size 46 3 (.slice B1 n1 d1) n1 (f.s.flatMap spC) ∧ w'.ownsRow w.heap.size 80 2 (.slice B2 n2 d2) n2 (f.w.flatMap kyC)
    | _ => True) (fun a b => Below a.heap.size a b) (by kernel_rfl) (by kernel_rfl) rfl rfl (fun _ => Below.refl _ _) (fun _ _ _ h k => ext_trans h k) ?hV ?hstep ?hlast
  case hV =>
    intro j v a b h hk
    split at h <;> first
      | exact h
      | (obtain ⟨g, h1, h2⟩ := h; exact ⟨g, h1, own_ext h2 hk⟩)
      | (obtain ⟨A', c', h1, h2⟩ := h; exact ⟨A', c', h1, own_ext h2 hk⟩)
      | (obtain ⟨B0, d0, B1, d1, B2, d2, h1, h2, h3, h4⟩ := h; exact ⟨B0, d0, B1, d1, B2, d2, h1, own_ext h2 hk, own_ext h3 hk, own_ext h4 hk⟩)
  case hstep =>
    intro j o ho hj a w' I
    have t1 := (I.other 1 (noDst_spec (by kernel_rfl))).trans rfl
    have hwb : w.heap.size ≤ w'.heap.size := Nat.le_trans E6.out.size I.rel.size
    have q0 := ext_cell I.rel (blk_cell (blk_drew RB.out) 0)
    have q1 := ext_cell I.rel (blk_cell (blk_drew RB.out) 1)
    have q2 := ext_cell I.rel (blk_cell (blk_drew RB.out) 2)
    simp at q0 q1 q2
    have E7 : Below w.heap.size w w' := (E6.out.trans ((ext_drew W5).mono E6.out.size)).trans (I.rel.mono E6.out.size)
    have RE : ∀ A cs, Rd w A cs → Rd w' A cs := fun A cs h => fun j u hu => by
      obtain ⟨b, o, hA, hc⟩ := h j u hu
      exact ⟨b, o, hA, (E7.cell (World.block_lt_of_cell? w _ hc)).trans hc⟩
    match j, hj with
    | 0, _ =>
      injection ho with ho
      subst ho
      exact op_val rfl rfl (v := .slice (some ⟨w'.heap.size, 0, none⟩) 0 0) (w' := w'.alloc (.cells #[] 80)) (by simp [execOp, go_sem, huk]) ⟨_, rfl, ⟨_, rfl, row_empty w' _ _ _ hwb⟩, ext_alloc _ _⟩
    | 1, _ =>
      injection ho with ho
      subst ho
      exact op_val rfl rfl (v := .pointer (some ⟨w.heap.size, 0, none⟩)) (w' := w') (by simp [execOp, go_sem, t1]) ⟨_, rfl, rfl, Below.refl _ _⟩
    | 2, _ =>
      injection ho with ho
      subst ho
      obtain ⟨v, rfl, hv⟩ := I.dep _ rfl ⟨1, .data⟩ (by simp) rfl
      have hv := hv _ rfl
      exact op_val rfl rfl (v := .slice A0 n0 c0) (w' := w') (by simp [execOp, go_sem, hv, q0]) ⟨_, rfl, rfl, Below.refl _ _⟩
    | 3, _ =>
      injection ho with ho
      subst ho
      obtain ⟨v, ⟨g, rfl, hgo⟩, hv⟩ := I.dep _ rfl ⟨0, .data⟩ (by simp) rfl
      have hv := hv _ rfl
      obtain ⟨v, rfl, hv2⟩ := I.dep _ rfl ⟨2, .data⟩ (by simp) rfl
      have hv2 := hv2 _ rfl
      exact op_ap0 rfl rfl rfl w.heap.size g 80 huk info_key rfl (by decide) (eval_tmp hv) hgo A0 n0 c0 (f.r.flatMap kyC) (eval_tmp hv2) (by rw [H5.e0]; exact fm_len (fun y => by simp [kyC]) _) (RE _ _ H5.r0) (ky_one _) (by unfold maxLen; omega) (by omega) hwb (fun A' c' w9 _ _ ho hb => ⟨_, rfl, ⟨A', c', rfl, ho⟩, hb⟩)
    | 4, _ =>
      injection ho with ho
      subst ho
      exact op_val rfl rfl (v := .slice (some ⟨w'.heap.size, 0, none⟩) 0 0) (w' := w'.alloc (.cells #[] 46)) (by simp [execOp, go_sem, hus]) ⟨_, rfl, ⟨_, rfl, row_empty w' _ _ _ hwb⟩, ext_alloc _ _⟩
    | 5, _ =>
      injection ho with ho
      subst ho
      exact op_val rfl rfl (v := .pointer (some ⟨w.heap.size, 1, none⟩)) (w' := w') (by simp [execOp, go_sem, t1]) ⟨_, rfl, rfl, Below.refl _ _⟩
    | 6, _ =>
      injection ho with ho
      subst ho
      obtain ⟨v, rfl, hv⟩ := I.dep _ rfl ⟨5, .data⟩ (by simp) rfl
      have hv := hv _ rfl
      exact op_val rfl rfl (v := .slice A1 n1 c1) (w' := w') (by simp [execOp, go_sem, hv, q1]) ⟨_, rfl, rfl, Below.refl _ _⟩
    | 7, _ =>
      injection ho with ho
      subst ho
      obtain ⟨v, ⟨g, rfl, hgo⟩, hv⟩ := I.dep _ rfl ⟨4, .data⟩ (by simp) rfl
      have hv := hv _ rfl
      obtain ⟨v, rfl, hv2⟩ := I.dep _ rfl ⟨6, .data⟩ (by simp) rfl
      have hv2 := hv2 _ rfl
      exact op_ap0 rfl rfl rfl w.heap.size g 46 hus info_span rfl (by decide) (eval_tmp hv) hgo A1 n1 c1 (f.s.flatMap spC) (eval_tmp hv2) (by rw [H5.e1]; exact fm_len (fun y => by simp [spC]) _) (RE _ _ H5.r1) (sp_one _) (by unfold maxLen; omega) (by omega) hwb (fun A' c' w9 _ _ ho hb => ⟨_, rfl, ⟨A', c', rfl, ho⟩, hb⟩)
    | 8, _ =>
      injection ho with ho
      subst ho
      exact op_val rfl rfl (v := .slice (some ⟨w'.heap.size, 0, none⟩) 0 0) (w' := w'.alloc (.cells #[] 80)) (by simp [execOp, go_sem, huk]) ⟨_, rfl, ⟨_, rfl, row_empty w' _ _ _ hwb⟩, ext_alloc _ _⟩
    | 9, _ =>
      injection ho with ho
      subst ho
      exact op_val rfl rfl (v := .pointer (some ⟨w.heap.size, 2, none⟩)) (w' := w') (by simp [execOp, go_sem, t1]) ⟨_, rfl, rfl, Below.refl _ _⟩
    | 10, _ =>
      injection ho with ho
      subst ho
      obtain ⟨v, rfl, hv⟩ := I.dep _ rfl ⟨9, .data⟩ (by simp) rfl
      have hv := hv _ rfl
      exact op_val rfl rfl (v := .slice A2 n2 c2) (w' := w') (by simp [execOp, go_sem, hv, q2]) ⟨_, rfl, rfl, Below.refl _ _⟩
    | 11, _ =>
      injection ho with ho
      subst ho
      obtain ⟨v, ⟨g, rfl, hgo⟩, hv⟩ := I.dep _ rfl ⟨8, .data⟩ (by simp) rfl
      have hv := hv _ rfl
      obtain ⟨v, rfl, hv2⟩ := I.dep _ rfl ⟨10, .data⟩ (by simp) rfl
      have hv2 := hv2 _ rfl
      exact op_ap0 rfl rfl rfl w.heap.size g 80 huk info_key rfl (by decide) (eval_tmp hv) hgo A2 n2 c2 (f.w.flatMap kyC) (eval_tmp hv2) (by rw [H5.e2]; exact fm_len (fun y => by simp [kyC]) _) (RE _ _ H5.r2) (ky_one _) (by unfold maxLen; omega) (by omega) hwb (fun A' c' w9 _ _ ho hb => ⟨_, rfl, ⟨A', c', rfl, ho⟩, hb⟩)
    | 12, _ =>
      injection ho with ho
      subst ho
      obtain ⟨v, ⟨B0, d0, rfl, o0⟩, v0⟩ := I.dep _ rfl ⟨3, .data⟩ (by simp) rfl
      have v0 := v0 _ rfl
      obtain ⟨v, ⟨B1, d1, rfl, o1⟩, v1⟩ := I.dep _ rfl ⟨7, .data⟩ (by simp) rfl
      have v1 := v1 _ rfl
      obtain ⟨v, ⟨B2, d2, rfl, o2⟩, v2⟩ := I.dep _ rfl ⟨11, .data⟩ (by simp) rfl
      have v2 := v2 _ rfl
      exact op_val rfl rfl (v := .agg #[.slice B0 n0 d0, .slice B1 n1 d1, .slice B2 n2 d2]) (w' := w') (by simp [execOp, go_sem, v0, v1, v2]) ⟨_, rfl, ⟨_, _, _, _, _, _, rfl, o0, o1, o2⟩, Below.refl _ _⟩
    | k + 13, hk => omega
  case hlast =>
    intro vals w' hlen hR hv
    have ZB2 := hid (ext_blk hR (blk_drew ZB.out))
    have E7 := hid ((E6.out.trans ((ext_drew W5).mono E6.out.size)).trans (hR.mono E6.out.size))
    match vals, hlen with
    | [v0, v1, v2, v3, v4, v5, v6, v7, v8, v9, v10, v11, v12], _ =>
    obtain ⟨B0, d0, B1, d1, B2, d2, e12, o0, o1, o2⟩ := hv 12 v12 rfl
    subst e12
    have O0 := hid o0
    have O1 := hid o1
    have O2 := hid o2
    clear hv hR o0 o1 o2
    refine op_list rfl ?_
    have z0 := blk_cell ZB2.out 0
    have z1 := blk_cell ZB2.out 1
    have z2 := blk_cell ZB2.out 2
    have g0 := blk_free ZB2.out 0
    have g1 := blk_free ZB2.out 1
    have g2 := blk_free ZB2.out 2
    simp at z0 z1 z2
    have Hx5 := hid H5
    clear H5 RB ZB E6
    simp only [putAll, List.take_succ_cons, List.take_zero, Act.put]
    go_wp2
    refine bodyPost_ret (v := .agg #[.slice B0 n0 d0, .slice B1 n1 d1, .slice B2 n2 d2]) (by simp [results, Try.results7, go_sem, z0, z1, z2]) rfl ?_
    have KW : ∀ W, Kp (fun k => k ≠ w.heap.size + 1) w' W → CopPost w f (.returned (.agg #[.slice B0 n0 d0, .slice B1 n1 d1, .slice B2 n2 d2])) W := fun W hk => by
      have far : ∀ {e size n : Nat} {v : Value} {xs : List Value}, w'.ownsRow w.heap.size e size v n xs → e ≠ 25 → W.ownsRow w.heap.size e size v n xs := fun ho he => own_kp ho hk (fun k hk => by obtain ⟨_, cur, h2⟩ := own_blk ho hk; exact blk_ty_ne h2 ZB2.out he)
      have fresh : ∀ {A : Option Addr} {e size n c m : Nat} {xs : List Value}, W.ownsRow w.heap.size e size (.slice A n c) m xs → FreshA w.heap.size A := fun ho a ha => (own_blk ho (k := a.block) (by rw [ha]; rfl)).1
      have a2 := far O0.out (by decide)
      have a3 := far O1.out (by decide)
      have a4 := far O2.out (by decide)
      have H5 := H.out
      exact ⟨B0, n0, d0, B1, n1, d1, B2, n2, d2, rfl, ⟨H5.e0, H5.e1, H5.e2, H5.b0, H5.b1, H5.b2, own_rd a2, own_rd a3, own_rd a4⟩, E7.out.trans (hk.below E7.out.size (fun k hk => by omega)), fresh a2, fresh a3, fresh a4⟩
    refine KW _ ?_
    have kset : ∀ {a b : World} {i : Nat} {v : Value}, Kp (fun k => k ≠ w.heap.size + 1) a b → Kp (fun k => k ≠ w.heap.size + 1) a (b.setCell ⟨w.heap.size + 1, i, none⟩ v) := fun h => h.trans (kp_set _ _ _ _)
    exact kset (kset (kset (Kp.refl _ _)))
end Go.Proofs.Ytgnikijaihmeeaa
