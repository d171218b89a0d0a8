/- The walk of foot.Put. -/
import Derived.Test.YtgnikijaihmeeaaSwG
open Go Go.RowKit
namespace Go.Proofs.Ytgnikijaihmeeaa
set_option linter.unusedVariables false
set_option linter.unusedSimpArgs false
set_option maxRecDepth 100000
def spB (x : Sp) : List Nat := cntB x.t.toNat ++ (numB x.lo ++ numB x.hi)
def footBy (f : Ft) : List Nat := keysB f.r ++ ((cntB f.s.length ++ f.s.flatMap spB) ++ keysB f.w)
structure FtOk (f : Ft) : Prop where
  r : ∀ x ∈ f.r, inI x.k
  s : ∀ x ∈ f.s, inI x.lo ∧ inI x.hi
  w : ∀ x ∈ f.w, inI x.k
theorem table_in {t : Int} (h : tableB t = true) : 0 ≤ t ∧ t < 4 := by unfold tableB at h; simpa using h
theorem risF_tab : ∀ (l : List Ky) (p : Option Ky), risF p l = true → ∀ x ∈ l, 0 ≤ x.t ∧ x.t < 4
  | [], _, _, x, hx => by cases hx
  | y :: l, p, h, x, hx => by
    rw [risF_cons] at h
    simp only [Bool.and_eq_true] at h
    rcases List.mem_cons.1 hx with rfl | hx
    · exact table_in h.1.1
    · exact risF_tab l _ h.2 x hx
theorem spnF_tab : ∀ (l : List Sp) (p : Option Sp), spnF p l = true → ∀ x ∈ l, 0 ≤ x.t ∧ x.t < 4
  | [], _, _, x, hx => by cases hx
  | y :: l, p, h, x, hx => by
    rw [spnF_cons] at h
    simp only [Bool.and_eq_true] at h
    rcases List.mem_cons.1 hx with rfl | hx
    · exact table_in h.1
    · exact spnF_tab l _ h.2.2.2 x hx
theorem keysB_len {l : List Ky} (h : kyOk l) (hl : l.length < 18446744073709551616) : (keysB l).length ≤ 10 + 20 * l.length := by
  have h1 := cntB_len64 hl
  have h2 := flat_len kyB 20 l (fun x hx => kyB_len (h x hx).1 (h x hx).2)
  unfold keysB
  rw [List.length_append]
  omega
theorem spB_len {x : Sp} (h : 0 ≤ x.t ∧ x.t < 4) (hk : inI x.lo ∧ inI x.hi) : (spB x).length ≤ 30 := by
  have h1 := cntB_len64 (n := x.t.toNat) (by omega)
  have h2 := cntB_len64 (zig_lt hk.1.1 hk.1.2)
  have h3 := cntB_len64 (zig_lt hk.2.1 hk.2.2)
  unfold spB numB
  simp only [List.length_append]
  omega
theorem WrAt.born (w : World) : WrAt w.heap.size (w.alloc (.cells #[.slice none 0 0] 50)) w.heap.size (.slice none 0 0) [] :=
  ⟨Nat.le_refl _, blk_new _ _, World.ownsRow_nil _ _ _ _⟩
theorem Put_bad (w : World) (f : Ft) (A0 : Option Addr) (n0 c0 : Nat) (A1 : Option Addr) (n1 c1 : Nat) (A2 : Option Addr) (n2 c2 : Nat) (hf : FtRd w f A0 n0 c0 A1 n1 c1 A2 n2 c2) (hi : FtOk f) (hg : goodB f = false) :
    Calls Try.prog 8 #[.agg #[.slice A0 n0 c0, .slice A1 n1 c1, .slice A2 n2 c2]] w fun e w' => e = .returned (.slice none 0 0) ∧ Below w.heap.size w w' := by
  have H := fun w' (h : Below w.heap.size w w') => Good_any w' f A0 n0 c0 A1 n1 c1 A2 n2 c2 (hf.ext h) (fun x hx => (hi.s x hx).2)
  rw [hg] at H
  have H' := hid H
  clear H hf hi hg
  go_enter Try.func8, Try.ntmps8
  go_wp2_with fail
  refine (H'.out _ (ext_alloc _ _)).mono ?_
  rintro e w1 ⟨rfl, hb⟩
  have Hb := hid hb
  clear hb
  go_wp2
  go_ret
  exact ⟨rfl, ext_trans (ext_alloc _ _) Hb.out⟩
set_option maxHeartbeats 2000000 in
theorem Put_good (w : World) (f : Ft) (A0 : Option Addr) (n0 c0 : Nat) (A1 : Option Addr) (n1 c1 : Nat) (A2 : Option Addr) (n2 c2 : Nat) (hf : FtRd w f A0 n0 c0 A1 n1 c1 A2 n2 c2) (hi : FtOk f) (hg : goodB f = true) (hz : n0 + n1 + n2 ≤ 1000000000000) :
    Calls Try.prog 8 #[.agg #[.slice A0 n0 c0, .slice A1 n1 c1, .slice A2 n2 c2]] w (ClonePost w ((footBy f).map bv) (footBy f).length) := by
  have H := fun w' (h : Below w.heap.size w w') => Good_any w' f A0 n0 c0 A1 n1 c1 A2 n2 c2 (hf.ext h) (fun x hx => (hi.s x hx).2)
  rw [hg] at H
  have H' := hid H
  have Hf := hid hf
  simp only [goodB, Bool.and_eq_true] at hg
  have Ok0 : Hid (kyOk f.r) := fun x hx => ⟨risF_tab _ _ hg.2.1 x hx, hi.r x hx⟩
  have Ok2 : Hid (kyOk f.w) := fun x hx => ⟨risF_tab _ _ hg.2.2 x hx, hi.w x hx⟩
  have Ok1 : Hid (∀ x ∈ f.s, (0 ≤ x.t ∧ x.t < 4) ∧ inI x.lo ∧ inI x.hi) := fun x hx => ⟨spnF_tab _ _ hg.1 x hx, hi.s x hx⟩
  have Lt0 : Hid (∀ a, A0 = some a → 0 < n0 → a.block < w.heap.size) := fun a ha h0 => by
    obtain ⟨b, o, e, hb, _⟩ := hf.r0.addr (by rw [fm_len (s := 2) (fun _ => rfl), ← hf.e0]; omega)
    rw [ha] at e
    simp at e
    rw [e]; exact hb
  have Lt1 : Hid (∀ a, A1 = some a → 0 < n1 → a.block < w.heap.size) := fun a ha h0 => by
    obtain ⟨b, o, e, hb, _⟩ := hf.r1.addr (by rw [fm_len (s := 3) (fun _ => rfl), ← hf.e1]; omega)
    rw [ha] at e
    simp at e
    rw [e]; exact hb
  have Lt2 : Hid (∀ a, A2 = some a → 0 < n2 → a.block < w.heap.size) := fun a ha h0 => by
    obtain ⟨b, o, e, hb, _⟩ := hf.r2.addr (by rw [fm_len (s := 2) (fun _ => rfl), ← hf.e2]; omega)
    rw [ha] at e
    simp at e
    rw [e]; exact hb
  clear H hi hg hf
  go_enter Try.func8, Try.ntmps8
  go_wp2_with fail
  refine (H'.out _ (ext_alloc _ _)).mono ?_
  rintro e w1 ⟨rfl, hb⟩
  have hbx := ext_blk hb (blk_new w (Obj.cells #[.slice A0 n0 c0, .slice A1 n1 c1, .slice A2 n2 c2] 25))
  have Hb := hid (ext_trans (ext_alloc _ _) hb)
  have hb0 := blk_cell (blk_alloc hbx (.cells #[.slice none 0 0] 50)) 0
  simp at hb0
  have Hbx := hid hbx
  clear hb hbx
  go_wp2_with fail
  have Hsz : Hid (w.heap.size < w1.heap.size) := heap_lt Hbx.out
  refine (putKeys_any w1.heap.size _ w1.heap.size (.slice none 0 0) [] A0 n0 c0 f.r (WrAt.born w1) Hf.out.e0 (Hf.out.r0.ext (ext_trans Hb.out (ext_alloc _ _))) (fun a ha h0 => by have := Lt0.out a ha h0; have := Hsz.out; omega) Ok0.out (by have := Hf.out.e0; simp; omega)).mono ?_
  rintro e w2 ⟨rfl, hp⟩
  obtain ⟨v2, h3, h4⟩ := hp
  have Hbel2 := hid (h4.below (WrAt.born w1))
  have hbx2 := (Kp.of_below Hbel2.out).blk (blk_alloc Hbx.out (.cells #[.slice none 0 0] 50)) Hsz.out
  have h2b1 := blk_cell hbx2 1
  simp at h2b1
  have Hbx2 := hid hbx2
  have H3 := hid h3
  have H4 := hid h4
  have Hl0 := hid (keysB_len Ok0.out (by have := Hf.out.e0; omega))
  clear h3 h4 hbx2 hb0
  go_wp2_with fail
  refine (Wcount_any w1.heap.size _ w1.heap.size v2 _ n1 H3.out (by omega) (by have := Hl0.out; have := Hf.out.e0; simp; omega)).mono ?_
  rintro e w3 ⟨rfl, hp⟩
  obtain ⟨v3, h5, h6⟩ := hp
  have Hs3 := hid (H4.out.trans h6)
  have Hbel3 := hid (Hs3.out.below (WrAt.born w1))
  have hbx3 := (Kp.of_below Hbel3.out).blk (blk_alloc Hbx.out (.cells #[.slice none 0 0] 50)) Hsz.out
  have h3b1 := blk_cell hbx3 1
  simp at h3b1
  have H5 := hid h5
  have Hl1 := hid (cntB_len64 (n := n1) (by omega))
  clear h5 h6 hbx3 h2b1
  go_wp2
  go_loopw [24] (fun v24 wr => ∃ (k : Nat) (u : Value), v24 = .int .i64 k ∧ k ≤ n1 ∧ Hid (WrAt w1.heap.size wr w1.heap.size u (keysB f.r ++ (cntB n1 ++ (f.s.take k).flatMap spB))) ∧ Hid (WrStep (w1.alloc (.cells #[.slice none 0 0] 50)) w1.heap.size (.slice none 0 0) wr u)) (fun v24 _ => n1 - (intOf v24).toNat)
  case atStart => exact ⟨0, v3, rfl, by omega, by simpa using H5, Hs3⟩
  case round =>
    obtain ⟨k, u, rfl, hk, Hu, Hs⟩ := hrel
    have Hbel := hid (Hs.out.below (WrAt.born w1))
    by_cases hlt : k < n1
    · have hkx : k < f.s.length := by rw [← Hf.out.e1]; exact hlt
      have Hr := hid Hf.out.r1
      obtain ⟨b, o, rfl, hb1, hb2⟩ := Hr.out.addr (by rw [fm_len (s := 3) (fun _ => rfl)]; omega)
      clear hb1 hb2
      have hx := List.getElem?_eq_getElem hkx
      have Hxl := hid (Ok1.out _ (List.getElem_mem hkx))
      generalize f.s[k] = X at hx Hxl
      have Hrw := hid (((Hr.out.ext (ext_trans Hb.out (ext_alloc _ _))).kp (Kp.of_below Hbel.out) (fun a ha _ => by have := Lt1.out a ha (by omega); have := Hsz.out; omega)))
      obtain ⟨g0, g1, g2⟩ := Hrw.out.sp hx
      have Hx := hid hx
      clear hx hkx
      have Hlen : Hid ((keysB f.r ++ (cntB n1 ++ (f.s.take k).flatMap spB)).length + 50 ≤ 100000000000000) := by
        refine hid ?_
        have h3 := flat_len spB 30 (f.s.take k) (fun x hx => spB_len (Ok1.out x (List.mem_of_mem_take hx)).1 (Ok1.out x (List.mem_of_mem_take hx)).2)
        have h4 : (f.s.take k).length ≤ k := List.length_take_le _ _
        have := Hl0.out
        have := Hl1.out
        have := Hf.out.e0
        simp only [List.length_append]
        omega
      have Hwt : Hid (IntKind.u64.wrap X.t = (X.t.toNat : Int)) := hid <| by rw [IntKind.wrap_u64]; have := Hxl.out.1; omega
      go_wp2_with fail
      rw [Hwt.out]
      refine (Wcount_any w1.heap.size _ w1.heap.size u _ X.t.toNat (Hu.out.ext (ext_alloc _ _)) (by have := Hxl.out.1; omega) (by have := Hlen.out; omega)).mono ?_
      rintro e w4 ⟨rfl, hp⟩
      obtain ⟨v4, h7, h8⟩ := hp
      have hfar := Hu.out.new (w := wr) (Nat.le_refl _) (.inl rfl)
      have hc1 := h8.1.cell (blk_cell (blk_new wr (Obj.cells #[.int .i64 X.t, .int .i64 X.lo, .int .i64 X.hi] 46)) 1) hfar
      have hblk := h8.1.blk (blk_new wr (Obj.cells #[.int .i64 X.t, .int .i64 X.lo, .int .i64 X.hi] 46)) hfar
      simp at hc1
      have Hfar4 : Hid (wr.heap.size ≠ w1.heap.size ∧ v4.ownBlock ≠ some wr.heap.size) := by
        refine hid ⟨hfar.1, fun e => ?_⟩
        obtain ⟨_, cur, h2⟩ := own_blk h7.2.2 e
        rw [hblk] at h2
        simp at h2
      have H7 := hid h7
      have H8 := hid h8
      have Hblk := hid hblk
      have Hl4 := hid (cntB_len64 (n := X.t.toNat) (by have := Hxl.out.1; omega))
      have Hl5 := hid (cntB_len64 (zig_lt Hxl.out.2.1.1 Hxl.out.2.1.2))
      clear h7 h8 hfar g0 g1 g2 hblk
      go_wp2_with fail
      refine (Wnum_any w1.heap.size _ w1.heap.size v4 _ X.lo H7.out Hxl.out.2.1.1 Hxl.out.2.1.2 (by have := Hlen.out; have := Hl4.out; rw [List.length_append]; omega)).mono ?_
      rintro e w5 ⟨rfl, hp⟩
      obtain ⟨v5, h9, h10⟩ := hp
      have hc2 := h10.1.cell (blk_cell Hblk.out 2) Hfar4.out
      simp at hc2
      have H9 := hid h9
      have H10 := hid h10
      clear h9 h10 hc1
      go_wp2_with fail
      refine (Wnum_any w1.heap.size _ w1.heap.size v5 _ X.hi H9.out Hxl.out.2.2.1 Hxl.out.2.2.2 (by have h1 := Hlen.out; have := Hl4.out; have := Hl5.out; unfold numB; simp only [List.length_append] at h1 ⊢; omega)).mono ?_
      rintro e w6 ⟨rfl, hp⟩
      obtain ⟨v6, h11, h12⟩ := hp
      have H11 := hid h11
      have H12 := hid h12
      clear h11 h12 hc2
      go_wp2
      refine ⟨⟨k + 1, v6, by go_num, by omega, hid ?_, hid (Hs.out.trans ((WrStep.of_ext (ext_alloc _ _)).trans (H8.out.trans (H10.out.trans H12.out))))⟩, by simp [intOf]; omega⟩
      have := H11.out
      rw [flat_snoc spB f.s k X Hx.out, show spB X = cntB X.t.toNat ++ (numB X.lo ++ numB X.hi) from rfl]
      simpa [List.append_assoc] using this
    · obtain rfl : k = n1 := by omega
      have hbx4 := (Kp.of_below Hbel.out).blk (blk_alloc Hbx.out (.cells #[.slice none 0 0] 50)) Hsz.out
      have h4b2 := blk_cell hbx4 2
      simp at h4b2
      clear hbx4
      have Hl2 : Hid ((keysB f.r ++ (cntB k ++ (f.s.take k).flatMap spB)).length + 50 ≤ 100000000000000) := by
        refine hid ?_
        have h3 := flat_len spB 30 (f.s.take k) (fun x hx => spB_len (Ok1.out x (List.mem_of_mem_take hx)).1 (Ok1.out x (List.mem_of_mem_take hx)).2)
        have h4 : (f.s.take k).length ≤ k := List.length_take_le _ _
        have := Hl0.out
        have := Hl1.out
        have := Hf.out.e0
        simp only [List.length_append]
        omega
      go_wp2_with fail
      refine (putKeys_any w1.heap.size _ w1.heap.size u _ A2 n2 c2 f.w Hu.out Hf.out.e2 ((Hf.out.r2.ext (ext_trans Hb.out (ext_alloc _ _))).kp2 Hbel.out (fun a ha h0 => by have := Lt2.out a ha (by rw [Hf.out.e2]; rw [fm_len (s := 2) (fun _ => rfl)] at h0; omega); have := Hsz.out; omega)) (fun a ha h0 => by have := Lt2.out a ha h0; have := Hsz.out; omega) Ok2.out (by have := Hl2.out; have := Hf.out.e2; omega)).mono ?_
      rintro e w7 ⟨rfl, hp⟩
      obtain ⟨v7, h13, h14⟩ := hp
      have H13 := hid h13
      have H14 := hid h14
      clear h13 h14 h4b2
      have E : Hid (keysB f.r ++ (cntB k ++ (f.s.take k).flatMap spB) ++ keysB f.w = footBy f) := by
        refine hid ?_
        rw [List.take_of_length_le (by rw [← Hf.out.e1]; exact Nat.le_refl _)]
        unfold footBy
        rw [← Hf.out.e1, List.append_assoc]
      go_wp2_with fail
      refine (Out_any w1.heap.size _ w1.heap.size v7 (footBy f) (by rw [← E.out]; exact H13.out) ?_).mono ?_
      · have h1 := keysB_len Ok2.out (by have := Hf.out.e2; omega)
        have := Hl2.out
        have := Hf.out.e2
        rw [← E.out, List.length_append]
        omega
      rintro e w8 ⟨A', c', rfl, h1, h2, h3, h4, h5⟩
      have J1 := hid h1
      have J4 := hid h4
      have J5 := hid h5
      clear h1 h4 h5
      go_wp2
      go_ret
      have Hall := (Hs.out.trans H14.out).below (WrAt.born w1)
      have Hall2 : Below w.heap.size w w8 := (Hb.out.trans ((ext_alloc w1 (.cells #[.slice none 0 0] 50)).mono (Nat.le_of_lt Hsz.out))).trans ((Hall.mono (Nat.le_of_lt Hsz.out)).trans (J5.out.mono (by have := Hall.size; have := Hsz.out; simp at *; omega)))
      refine ⟨A', c', rfl, own_base J1.out (fun i hi => ?_), h2, h3, J4.out, Hall2⟩
      have := (own_blk J1.out hi).1
      have := Hall.size
      have := Hsz.out
      simp at *
      omega
end Go.Proofs.Ytgnikijaihmeeaa
