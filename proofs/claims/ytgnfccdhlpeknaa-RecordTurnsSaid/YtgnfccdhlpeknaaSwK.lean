/- The walk of prog.Encode. -/
import Derived.Test.YtgnfccdhlpeknaaSwJc
import Derived.Test.YtgnfccdhlpeknaaSwGb
open Go Go.RowKit
namespace Go.Proofs.Ytgnfccdhlpeknaa
set_option maxRecDepth 100000
def letB (l n : Int) : List Nat := if l == 110 then numB n else cntB (n % 18446744073709551616).toNat
def codeB (x : Cd) : List Nat := (x.op % 256).toNat :: (lets (shapeS x.op)).flatMap (fun l => letB l (gI x.l (fldI l)))
def progB (fuel : Int) (cs : List Cd) : List Nat := cntB fuel.toNat ++ (cntB cs.length ++ cs.flatMap codeB)
def CdOk (x : Cd) : Prop := ∀ i, i < 6 → inI (gI x.l i)
theorem letB_len {l n : Int} (h : inI n) : (letB l n).length ≤ 10 := by
  unfold letB
  split
  · exact cntB_len64 (zig_lt h.1 h.2)
  · exact cntB_len64 (by omega)
theorem codeB_len {x : Cd} (h : CdOk x) : (codeB x).length ≤ 60 := by
  have h1 := flat_len (fun l => letB l (gI x.l (fldI l))) 10 (lets (shapeS x.op)) (fun l _ => letB_len (h _ (fldI_lt l).1))
  rw [lets_len] at h1
  have := shape_size x.op
  unfold codeB
  simp only [List.length_cons]
  omega
theorem u64_low {n : Int} : IntKind.u64.wrap n = ((n % 18446744073709551616).toNat : Int) := by rw [IntKind.wrap_u64]; omega
theorem u8_low2 {n : Int} : IntKind.u8.wrap n = ((n % 256).toNat : Int) := by rw [IntKind.wrap_u8]; omega
theorem Six.wr {w w' : World} {bw cb B : Nat} {v v' : Value} {bs l : List _} (h : Six w cb l) (hs : WrStep w bw v w' v') (hw : WrAt B w bw v bs) : Six w' cb l :=
  ⟨hs.1.blk h.1 ⟨blk_ty_ne h.1 hw.2.1 (by decide), fun e => by obtain ⟨_, cur, h2⟩ := own_blk hw.2.2 e; exact blk_ty_ne h.1 h2 (by decide) rfl⟩, h.2⟩
/-- What Encode answers. -/
def EncPost (w : World) (r : Option Int) (bs : List Nat) (e : Ending) (w' : World) : Prop := Below w.heap.size w w' ∧ match r with
  | none => ∃ A c, e = .returned (.tuple #[.slice A bs.length c, .nilIface]) ∧ w'.ownsRow w.heap.size 5 1 (.slice A bs.length c) bs.length (bs.map bv)
  | some i => ∃ v, e = .returned (.tuple #[.slice none 0 0, v]) ∧ FaultAt w' v i 5
set_option maxHeartbeats 2000000 in
theorem Encode_any (w : World) (fuel : Int) (A : Option Addr) (n c : Nat) (cs : List Cd) (hn : n = cs.length) (hr : Rd w A (cs.flatMap cdC)) (hm : n ≤ 140737488355328) (hi : ∀ x ∈ cs, CdOk x) :
    Calls Try.prog 25 #[.agg #[.int .i64 fuel, .slice A n c]] w (EncPost w (checkP fuel cs) (progB fuel cs)) := by
  have H := hid fun w' (h : Below w.heap.size w w') => Check_any w' fuel A n c cs hn (hr.ext h) hm
  have Hr := hid hr
  have Hn := hid hn
  have Hi := hid hi
  have Lt : Hid (∀ a, A = some a → 0 < n → a.block < w.heap.size) := fun a ha h0 => by
    obtain ⟨b, o, e, hb, _⟩ := hr.addr (by rw [fm_len (s := 6) (fun _ => rfl), ← hn]; omega)
    rw [ha] at e
    simp at e
    rw [e]; exact hb
  clear hr hn hi
  cases hc : checkP fuel cs with
  | some i =>
    rw [hc] at H
    go_enter Try.func25, Try.ntmps25
    go_wp2_with fail
    refine (H.out _ (ext_alloc _ _)).mono ?_
    rintro e w1 ⟨hb, v, rfl, b, rfl, hv⟩
    have Hb := hid hb
    have Hv := hid hv
    clear hb hv
    go_wp2
    go_ret2
    exact ⟨ext_trans (ext_alloc _ _) Hb.out, _, rfl, b, rfl, Hv.out⟩
  | none =>
    rw [hc] at H
    have hfuel : withinB fuel 1 1000 = true ∧ withinB cs.length 1 32 = true := by
      unfold checkP at hc
      split at hc
      · rename_i h; simpa using h
      · cases hc
    have hf2 : 1 ≤ fuel ∧ fuel ≤ 1000 ∧ n ≤ 32 := by have h1 := hfuel.1; have h2 := hfuel.2; unfold withinB at h1 h2; simp at h1 h2; have := Hn.out; omega
    obtain ⟨hf0, hf1, hn32⟩ := hf2
    obtain ⟨fn, rfl⟩ := Int.eq_ofNat_of_zero_le (show 0 ≤ fuel by omega)
    have Et : Hid (((fn : Int)).toNat = fn) := hid (by simp)
    clear hfuel hc
    go_enter Try.func25, Try.ntmps25
    go_wp2_with fail
    refine (H.out _ (ext_alloc _ _)).mono ?_
    rintro e w1 ⟨hb, rfl⟩
    have hbx := ext_blk hb (blk_new w (Obj.cells #[.int .i64 fn, .slice A n c] 24))
    have Hb := hid (ext_trans (ext_alloc _ _) hb)
    have hbw := blk_alloc hbx (.cells #[.slice none 0 0] 63)
    have hb0 := blk_cell hbw 0
    have hb1 := blk_cell hbw 1
    simp at hb0 hb1
    have Hbw := hid hbw
    have Hsz : Hid (w.heap.size < w1.heap.size) := heap_lt hbx
    clear hb hbx hbw
    go_wp2_with fail
    refine (Wcount_any w1.heap.size _ w1.heap.size (.slice none 0 0) [] fn (WrAt.born w1) (by omega) (by simp)).mono ?_
    rintro e w2 ⟨rfl, hp⟩
    obtain ⟨v2, h3, h4⟩ := hp
    have hbx2 := (Kp.of_below (h4.below (WrAt.born w1))).blk Hbw.out Hsz.out
    have h2b1 := blk_cell hbx2 1
    simp at h2b1
    have H3 := hid h3
    have H4 := hid h4
    have Hl0 := hid (cntB_len64 (n := fn) (by omega))
    clear h3 h4 hbx2 hb0 hb1
    go_wp2_with fail
    refine (Wcount_any w1.heap.size _ w1.heap.size v2 _ n H3.out (by omega) (by have := Hl0.out; simp; omega)).mono ?_
    rintro e w3 ⟨rfl, hp⟩
    obtain ⟨v3, h5, h6⟩ := hp
    have Hs3 := hid (H4.out.trans h6)
    have hbx3 := (Kp.of_below (Hs3.out.below (WrAt.born w1))).blk Hbw.out Hsz.out
    have h3b1 := blk_cell hbx3 1
    simp at h3b1
    have H5 := hid h5
    have Hl1 := hid (cntB_len64 (n := n) (by omega))
    clear h5 h6 hbx3 h2b1
    go_wp2
    go_loopw [33] (fun v33 wr => ∃ (k : Nat) (u : Value), v33 = .int .i64 k ∧ k ≤ n ∧ Hid (WrAt w1.heap.size wr w1.heap.size u (cntB fn ++ (cntB n ++ (cs.take k).flatMap codeB))) ∧ Hid (WrStep (w1.alloc (.cells #[.slice none 0 0] 63)) w1.heap.size (.slice none 0 0) wr u)) (fun v33 _ => n - (intOf v33).toNat)
    case atStart => exact ⟨0, v3, rfl, by omega, by simpa using H5, Hs3⟩
    case round =>
      obtain ⟨k, u, rfl, hk, Hu, Hs⟩ := hrel
      obtain ⟨wo, rfl⟩ : ∃ wo : World, wo = wr := ⟨_, rfl⟩
      by_cases hlt : k < n
      · have hkx : k < cs.length := by rw [← Hn.out]; exact hlt
        obtain ⟨b, o, rfl, hb1, hb2⟩ := Hr.out.addr (by rw [fm_len (s := 6) (fun _ => rfl)]; omega)
        clear hb1 hb2
        have hx := List.getElem?_eq_getElem hkx
        have Hxl := hid (Hi.out _ (List.getElem_mem hkx))
        generalize cs[k] = X at hx Hxl
        have Hrw := hid (((Hr.out.ext (ext_trans Hb.out (ext_alloc _ _))).kp (Kp.of_below (Hs.out.below (WrAt.born w1))) (fun a ha _ => by have := Lt.out a ha (by omega); have := Hsz.out; omega)))
        obtain ⟨g0, g1, g2, g3, g4, g5⟩ := Hrw.out.cd hx
        have Hx := hid hx
        clear hx hkx
        have Hlen : Hid ((cntB fn ++ (cntB n ++ (cs.take k).flatMap codeB)).length + 200 ≤ 10000) := by
          refine hid ?_
          have h3 := flat_len codeB 60 (cs.take k) (fun x hx => codeB_len (Hi.out x (List.mem_of_mem_take hx)))
          have h4 : (cs.take k).length ≤ k := List.length_take_le _ _
          have := Hl0.out
          have := Hl1.out
          simp only [List.length_append]
          omega
        have hsz := shape_size X.op
        generalize hs : shapeS X.op = s at *
        have Hss := hid hs
        clear hs
        go_wp2_with fail
        refine (Wbyte_any w1.heap.size _ w1.heap.size u _ _ (X.op % 256).toNat (Hu.out.ext (ext_alloc _ _)) u8_low2 (by have := Hlen.out; omega)).mono ?_
        rintro e w4 ⟨rfl, hp⟩
        obtain ⟨v4, h7, h8⟩ := hp
        have h6 : Six (wo.alloc (Obj.cells #[.int .i64 X.op, .int .i64 X.a, .int .i64 X.b, .int .i64 X.c, .int .i64 X.t, .int .i64 X.n] 93)) wo.heap.size X.l := ⟨blk_new _ _, rfl⟩
        have S4 := hid (h6.wr h8 (Hu.out.ext (ext_alloc _ _)))
        have hc0 := S4.out.cell 0 (by omega)
        rw [show gI X.l 0 = X.op from rfl] at hc0
        have H7 := hid h7
        have Hs4 := hid (Hs.out.trans ((WrStep.of_ext (ext_alloc _ _)).trans h8))
        clear h7 h8 h6 g0 g1 g2 g3 g4 g5
        go_wp2_with (go_at_call 49; refine (Shape_any _ _).mono ?_; rw [Hss.out]; rintro e w' ⟨rfl, rfl⟩)
        go_loopw [50] (fun v50 wi => ∃ (j : Nat) (u2 : Value), v50 = .int .i64 j ∧ j ≤ s.size ∧ Hid (WrAt w1.heap.size wi w1.heap.size u2 (cntB fn ++ (cntB n ++ (cs.take k).flatMap codeB) ++ ((X.op % 256).toNat :: ((lets s).take j).flatMap (fun l => letB l (gI X.l (fldI l)))))) ∧ Hid (WrStep (w1.alloc (.cells #[.slice none 0 0] 63)) w1.heap.size (.slice none 0 0) wi u2) ∧ Hid (Six wi wo.heap.size X.l)) (fun v50 _ => s.size - (intOf v50).toNat)
        case atStart => exact ⟨0, v4, rfl, by omega, by simpa using H7, Hs4, S4⟩
        case round =>
          clear H7 Hs4 S4 hc0
          obtain ⟨j, u2, rfl, hj, Hu2, Hs2, S2⟩ := hrel
          by_cases hjlt : j < s.size
          · have hL := lets_get s j hjlt
            have hsn := flat_snoc (fun l => letB l (gI X.l (fldI l))) (lets s) j _ hL
            generalize hlv : (s[j].toNat : Int) = lv at hsn
            have Hsn := hid hsn
            have Hf := hid (fldI_lt lv)
            have Hin := hid (Hxl.out (fldI lv) Hf.out.1)
            have hcell := S2.out.cell (fldI lv) Hf.out.1
            have Hlen2 : Hid ((cntB fn ++ (cntB n ++ (cs.take k).flatMap codeB) ++ ((X.op % 256).toNat :: ((lets s).take j).flatMap (fun l => letB l (gI X.l (fldI l))))).length + 20 ≤ 100000) := by
              refine hid ?_
              have h3 := flat_len (fun l => letB l (gI X.l (fldI l))) 10 ((lets s).take j) (fun l _ => letB_len (Hxl.out _ (fldI_lt l).1))
              have h4 : ((lets s).take j).length ≤ j := List.length_take_le _ _
              have h5 := Hlen.out
              simp only [List.length_append, List.length_cons] at h5 ⊢
              omega
            clear hL hsn
            cases hlb : lv == 110 with
            | true =>
              have E2 := hid (show letB lv (gI X.l (fldI lv)) = numB (gI X.l (fldI lv)) by unfold letB; rw [hlb]; rfl)
              go_wp2_with (go_at_call 50; refine (pfield_any _ _ _).mono ?_; rintro e w' ⟨rfl, rfl⟩)
              refine (Wnum_any w1.heap.size _ w1.heap.size u2 _ _ Hu2.out Hin.out.1 Hin.out.2 (by have := Hlen2.out; omega)).mono ?_
              rintro e w5 ⟨rfl, hp⟩
              obtain ⟨v5, h9, h10⟩ := hp
              have H9 := hid h9
              have H10 := hid h10
              clear h9 h10 hcell
              go_wp2
              refine ⟨⟨j + 1, v5, by go_num, by omega, hid ?_, hid (Hs2.out.trans H10.out), hid (S2.out.wr H10.out Hu2.out)⟩, by simp [intOf]; omega⟩
              have := H9.out
              rw [Hsn.out, E2.out]
              simpa [List.append_assoc] using this
            | false =>
              have E2 := hid (show letB lv (gI X.l (fldI lv)) = cntB (gI X.l (fldI lv) % 18446744073709551616).toNat by unfold letB; rw [hlb]; rfl)
              go_wp2_with (go_at_call 50; refine (pfield_any _ _ _).mono ?_; rintro e w' ⟨rfl, rfl⟩)
              rw [u64_low]
              refine (Wcount_any w1.heap.size _ w1.heap.size u2 _ _ Hu2.out (by omega) (by have := Hlen2.out; omega)).mono ?_
              rintro e w5 ⟨rfl, hp⟩
              obtain ⟨v5, h9, h10⟩ := hp
              have H9 := hid h9
              have H10 := hid h10
              clear h9 h10 hcell
              go_wp2
              refine ⟨⟨j + 1, v5, by go_num, by omega, hid ?_, hid (Hs2.out.trans H10.out), hid (S2.out.wr H10.out Hu2.out)⟩, by simp [intOf]; omega⟩
              have := H9.out
              rw [Hsn.out, E2.out]
              simpa [List.append_assoc] using this
          · obtain rfl : j = s.size := by omega
            go_wp2
            refine ⟨⟨k + 1, u2, by go_num, by omega, hid ?_, Hs2⟩, by simp [intOf]; omega⟩
            have := Hu2.out
            rw [List.take_of_length_le (l := lets s) (by rw [lets_len]; exact Nat.le_refl _)] at this
            rw [flat_snoc codeB cs k X Hx.out, show codeB X = (X.op % 256).toNat :: (lets (shapeS X.op)).flatMap (fun l => letB l (gI X.l (fldI l))) from rfl, Hss.out]
            simpa [List.append_assoc] using this
      · obtain rfl : k = n := by omega
        have E2 := hid (show cntB fn ++ (cntB k ++ (cs.take k).flatMap codeB) = progB fn cs by rw [List.take_of_length_le (by rw [← Hn.out]; exact Nat.le_refl _)]; unfold progB; rw [Et.out, Hn.out])
        go_wp2_with fail
        refine (Out_any w1.heap.size _ w1.heap.size u (progB fn cs) (by rw [← E2.out]; exact Hu.out) ?_).mono ?_
        · have h3 := flat_len codeB 60 cs (fun x hx => codeB_len (Hi.out x hx))
          have := Hl0.out
          have := Hl1.out
          have := Hn.out
          rw [← E2.out, List.take_of_length_le (by rw [← Hn.out]; exact Nat.le_refl _)]
          simp only [List.length_append]
          omega
        rintro e w8 ⟨A', c', rfl, h1, h2, h3, h4, h5⟩
        have J1 := hid h1
        have J5 := hid h5
        clear h1 h4 h5
        go_wp2
        go_ret2
        have Hall := Hs.out.below (WrAt.born w1)
        have Hall2 : Below w.heap.size w w8 := (Hb.out.trans ((ext_alloc w1 (.cells #[.slice none 0 0] 63)).mono (Nat.le_of_lt Hsz.out))).trans ((Hall.mono (Nat.le_of_lt Hsz.out)).trans (J5.out.mono (by have := Hall.size; have := Hsz.out; simp at *; omega)))
        refine ⟨Hall2, A', c', rfl, own_base J1.out (fun i hi => ?_)⟩
        have := (own_blk J1.out hi).1
        have := Hall.size
        have := Hsz.out
        simp at *
        omega
end Go.Proofs.Ytgnfccdhlpeknaa
