/- The walk of the document's Take, to the test at its end. -/
import Derived.Test.YtgnikijaihmeeaaSrG
import Derived.Test.YtgnikijaihmeeaaSwVd
import Derived.Test.YtgnikijaihmeeaaSwVe
import Derived.Test.YtgnikijaihmeeaaSfF
import Derived.Test.YtgnikijaihmeeaaSfD
import Derived.Test.YtgnikijaihmeeaaSfI
open Go Go.RowKit
namespace Go.Proofs.Ytgnikijaihmeeaa
set_option linter.unusedVariables false
set_option linter.unusedSimpArgs false
set_option maxRecDepth 100000
def Take3Post (w : World) (bs : List Nat) (e : Ending) (w' : World) : Prop := Below w.heap.size w w' ∧
  ((∃ f A0 n0 c0 A1 n1 c1 A2 n2 c2, takenR bs = some f ∧ e = .returned (.tuple #[.agg #[.slice A0 n0 c0, .slice A1 n1 c1, .slice A2 n2 c2], .bool true]) ∧ FtRd w' f A0 n0 c0 A1 n1 c1 A2 n2 c2) ∨
   (takenR bs = none ∧ e = .returned (.tuple #[.agg #[.slice none 0 0, .slice none 0 0, .slice none 0 0], .bool false])))
theorem own_tyB {w : World} {B n m c : Nat} {A : Option Addr} {xs : List Value} (h : w.ownsRow B 5 1 (.slice A n c) m xs) : TyB w A := fun a ha => by
  obtain ⟨_, cur, h2⟩ := own_blk h (k := a.block) (by rw [ha]; rfl)
  exact ⟨cur, (0, 0), h2⟩
theorem tkR_len : ∀ (m : Nat) (s : St), (tkR m s).1.length ≤ m
  | 0, s => by simp [tkR]
  | m + 1, s => by
    have := tkR_len m (rNum (rSmR s).2).2
    simp only [tkR]
    split
    · simp
    · simp; omega
theorem tsR_len : ∀ (m : Nat) (s : St), (tsR m s).1.length ≤ m
  | 0, s => by simp [tsR]
  | m + 1, s => by
    have := tsR_len m (rNum (rNum (rSmR s).2).2).2
    simp only [tsR]
    split
    · simp
    · simp; omega
theorem takeKR_len (s : St) : (takeKR s).1.length ≤ 100000 := Nat.le_trans (tkR_len _ _) (rSmR_le s)
theorem tsR_bad (m : Nat) : tsR m none = ([], none) := by cases m <;> rfl
theorem R3At.bad {w : World} {br : Nat} {s : St} (h : R3At w br s) : w.cell? ⟨br, 1, none⟩ = some (.bool s.isNone) := by
  cases s with
  | none => exact (blk_cell (show w.heap[br]? = some (.cells #[.slice none 0 0, .bool true] 70 (0, 0)) from h) 1)
  | some l => obtain ⟨A, c, hb, _⟩ := h; exact blk_cell hb 1
/-- what each operation of the last test yields -/
def tV (br : Nat) (vb vf : Value) (d g : Bool) (fb bs : List Nat) : Nat → Value → World → Prop
  | 0, v, _ => v = .pointer (some ⟨br, 0, none⟩)
  | 1, v, _ => v = .bool d
  | 2, v, _ => v = .bool (!d)
  | 3, v, _ => v = .bool (!d)
  | 4, v, _ => d = true → v = vf
  | 5, v, _ => d = true → v = .bool g
  | 6, v, _ => d = true → v = .bool (!g)
  | 7, v, _ => v = .bool (!d || !g)
  | 8, v, _ => v = .bool (!d || !g)
  | 9, v, _ => (!d || !g) = false → v = vf
  | 10, v, W => (!d || !g) = false → ∃ A' c', v = .slice A' fb.length c' ∧ Rd W A' (fb.map bv)
  | 11, v, _ => (!d || !g) = false → v = .string (ofB fb)
  | 12, v, _ => (!d || !g) = false → v = vb
  | 13, v, _ => (!d || !g) = false → v = .string (ofB bs)
  | 14, v, _ => (!d || !g) = false → v = .bool (!decide (fb = bs))
  | _, _, _ => True
theorem tV_keep (br : Nat) (vb vf : Value) (d g : Bool) (fb bs : List Nat) : ∀ (j : Nat) (v : Value) (W W' : World), tV br vb vf d g fb bs j v W → Below W.heap.size W W' → tV br vb vf d g fb bs j v W'
  | 0, _, _, _, h, _ => h
  | 1, _, _, _, h, _ => h
  | 2, _, _, _, h, _ => h
  | 3, _, _, _, h, _ => h
  | 4, _, _, _, h, _ => h
  | 5, _, _, _, h, _ => h
  | 6, _, _, _, h, _ => h
  | 7, _, _, _, h, _ => h
  | 8, _, _, _, h, _ => h
  | 9, _, _, _, h, _ => h
  | 10, _, _, _, h, hb => fun hd => by obtain ⟨A', c', e, hr⟩ := h hd; exact ⟨A', c', e, hr.ext hb⟩
  | 11, _, _, _, h, _ => h
  | 12, _, _, _, h, _ => h
  | 13, _, _, _, h, _ => h
  | 14, _, _, _, h, _ => h
  | _ + 15, _, _, _, h, _ => h
theorem eqg_str (x y : Operand) (s t : ByteArray) (w : World) : (eqGuard .neq 9 x y (.string s) (.string t)).run Try.prog w = .ok () w := by
  simp [go_sem]
theorem neq_str {a b : List Nat} (ha : ∀ x ∈ a, x < 256) (hb : ∀ x ∈ b, x < 256) (w : World) : (binOp .neq 9 (.string (ofB a)) (.string (ofB b))).run Try.prog w = .ok (.bool (!decide (a = b))) w := by
  have Hi := fun h : ofB a = ofB b => ofB_inj ha hb h
  have He : a = b → ofB a = ofB b := fun h => by rw [h]
  generalize ofB a = s at *
  generalize ofB b = t at *
  simp [go_sem]
  by_cases h : a = b
  · rw [decide_eq_true h, He h]
    simp
  · rw [decide_eq_false h]
    have : ¬ s = t := fun e => h (Hi e)
    have h2 : ¬ s.toList = t.toList := fun e => this (by
      rw [ByteArray.toList_eq, ByteArray.toList_eq] at e
      exact ByteArray.ext (Array.toList_inj.1 e))
    simpa using h2
set_option maxHeartbeats 4000000 in
theorem Take3_any (w : World) (A : Option Addr) (c : Nat) (bs : List Nat) (hr : Rd w A (bs.map bv)) (hz : bs.length ≤ 100000) (hby : ∀ b ∈ bs, b < 256) :
    Calls Try.prog 15 #[.slice A bs.length c] w (Take3Post w bs) := by
  have Hr := hid hr
  have Hby := hid hby
  have hus := Try.underlying23
  have hub := Try.underlying29
  have Fk := hid (takeFR_ok (Byt.some hby))
  clear hr hby
  go_enter Try.func15, Try.ntmps15
  have Z0 := hid (blk_new w (.cells #[.slice none 0 0, .slice none 0 0, .slice none 0 0] 25))
  have OE := hid (row_empty (w.alloc (.cells #[.slice none 0 0, .slice none 0 0, .slice none 0 0] 25)) 5 1 w.heap.size (by simp))
  simp only [World.size_alloc] at OE
  have E0 : Hid (Below w.heap.size w ((w.alloc (.cells #[.slice none 0 0, .slice none 0 0, .slice none 0 0] 25)).alloc (.cells #[] 5))) := hid (((Below.refl _ w).alloc (Nat.le_refl _) _).alloc (by simp) _)
  go_wp2_with (at_builtin; refine wl_ap0 rfl rfl w.heap.size (w.heap.size + 1) 5 hub info_u8 rfl (by decide) rfl OE.out A bs.length c (bs.map bv) rfl (by simp) (Hr.out.ext (ext_trans (ext_alloc _ _) (ext_alloc _ _))) (bv_one _) (by unfold maxLen; omega) (by omega) (by simp; omega) ?_; intro A' c' w1 hnc hcm hown hb; have O1 := hid hown; have E1 := hid (E0.out.trans (hb.mono E0.out.size)); have Z1 := hid (ext_blk hb (blk_alloc Z0.out _)); have s1 := hb.size; clear hown hb)
  have O1f : A' = none → c' = 0 := by
    obtain ⟨A3, c3, e3, _, _, _, h3⟩ := own_form O1.out
    simp only [Value.slice.injEq] at e3
    obtain ⟨rfl, _, rfl⟩ := e3
    exact fun h => (h3 h).2
  have RB := hid (blk_new w1 (.cells #[.slice A' bs.length c', .bool false] 70))
  have R1 : Hid (R3At (w1.alloc (.cells #[.slice A' bs.length c', .bool false] 70)) w1.heap.size (some bs)) := hid ⟨A', c', RB.out, hnc, hcm, (own_rd O1.out).ext (ext_alloc _ _), (own_tyB O1.out).kp (S := fun _ => True) (Kp.of_ext (ext_alloc _ _) _) (fun _ _ _ _ => trivial), O1f⟩
  have Hbr : Hid (w.heap.size < w1.heap.size) := hid (by simp at s1; omega)
  have E2 : Hid (Below w.heap.size w (w1.alloc (.cells #[.slice A' bs.length c', .bool false] 70))) := hid (E1.out.trans ((ext_alloc _ _).mono E1.out.size))
  have Z2 := hid (blk_alloc Z1.out (.cells #[.slice A' bs.length c', .bool false] 70))
  have Sb : Hid (w1.heap.size < (w1.alloc (.cells #[.slice A' bs.length c', .bool false] 70)).heap.size) := hid (by simp)
  clear O1 O1f RB E1 Z1 hnc hcm s1 OE E0 Z0
  generalize w1.heap.size = br at *
  refine (take3_any _ br (some bs) (Byt.some Hby.out) R1.out).mono ?_
  rintro e w2 ⟨A0, c0, rfl, h3, h4, h5⟩
  generalize w1.alloc (.cells #[.slice A' bs.length c', .bool false] 70) = w1' at *
  have By2 : Hid (Byt (takeKR (some bs)).2) := hid (tkR_facts _ _ (rSmR_byt (Byt.some Hby.out))).2
  have L0 := hid (takeKR_len (some bs))
  have B2 : Hid (Below w.heap.size w w2) := hid (E2.out.trans (h5.out.below E2.out.size (fun k hk => by have := Hbr.out; omega)))
  have Z3 := hid (h5.out.blk Z2.out (by have := Hbr.out; omega))
  have Sb2 : Hid (br < w2.heap.size) := hid h4.out.lt
  have O2 : Hid (w2.ownsRow w.heap.size 80 2 (.slice A0 (takeKR (some bs)).1.length c0) (takeKR (some bs)).1.length ((takeKR (some bs)).1.flatMap kyC)) := hid (own_base h3.out (fun k hk => by have := (own_blk h3.out hk).1; have := E2.out.size; omega))
  have Rd2 := hid h4.out
  clear h3 h4 h5 R1 E2 Z2 Sb
  generalize hK : takeKR (some bs) = K at *
  obtain ⟨ks, s2⟩ := K
  simp only at *
  have HK := hid hK
  clear hK
  go_wp2_with fail
  refine (R3small_any _ br s2 By2.out (Rd2.out.ext (ext_alloc _ _))).mono ?_
  rintro e w3 ⟨rfl, h6, h7⟩
  have hS := rSmR_le s2
  have By3 := hid (rSmR_byt By2.out)
  have Bx3 := hid (h7.out.blk (blk_new w2 (Obj.cells #[.slice A0 ks.length c0, .slice none 0 0, .slice none 0 0] 25)) (fun e => by have := Sb2.out; omega))
  have Rs3 := hid (h7.out.blk (blk_alloc Z3.out (Obj.cells #[.slice A0 ks.length c0, .slice none 0 0, .slice none 0 0] 25)) (by have := Hbr.out; omega))
  have O3 : Hid (w3.ownsRow w.heap.size 80 2 (.slice A0 ks.length c0) ks.length (ks.flatMap kyC)) := hid (own_kp (own_ext O2.out (ext_alloc _ _)) h7.out (fun k hk => own_r3 Rd2.out O2.out (by decide) k hk))
  have Bel3 : Hid (Below w.heap.size w w3) := hid ((B2.out.trans ((ext_alloc _ _).mono B2.out.size)).trans (h7.out.below (by have := B2.out.size; simp; omega) (fun k hk => by have := Hbr.out; omega)))
  have HF : Hid (w.heap.size < w2.heap.size) := hid (by have := Hbr.out; have := Sb2.out; omega)
  have HFb : Hid (w2.heap.size ≠ br) := hid (by have := Sb2.out; omega)
  generalize hq : rSmR s2 = q at *
  obtain ⟨n, s3⟩ := q
  simp only at *
  have Hq := hid hq
  clear hq h7 O2 Rd2 Z3 B2 By2
  generalize w2.heap.size = F at *
  go_wp2
  go_loopw [7] (fun v7 wr => ∃ (xs : List Sp) (s' : St) (A1 : Option Addr) (c1 : Nat), v7 = .int .i64 (xs.length : Int) ∧ xs.length ≤ n.toNat ∧ Hid (T3Inv w br F A0 c0 ks s3 n.toNat xs s' A1 c1 wr)) (fun v7 _ => n.toNat - (intOf v7).toNat)
  case atStart => exact ⟨[], s3, none, 0, by simp, by simp, hid ⟨World.ownsRow_nil _ _ _ _, O3.out, Bx3.out, Rs3.out, h6.out, By3.out, by simp, rfl, Bel3.out⟩⟩
  case round =>
    clear Bx3 Rs3 O3 h6 By3 Bel3
    obtain ⟨xs, s', A1, c1, rfl, hle, I⟩ := hrel
    have hb1 := I.out.rd.bad
    by_cases hlt : (xs.length : Int) < n
    · cases hs' : s' with
      | none =>
        subst hs'
        simp only [Option.isNone_none] at hb1
        have E5 : Hid (tsR n.toNat s3 = (xs, none)) := hid (by rw [I.out.eq, tsR_bad]; simp)
        go_wp2_with fail
        refine (take3_any wr br none I.out.by_ I.out.rd).mono ?_
        rintro e w9 ⟨A2, c2, rfl, q1, q2, q3⟩
        have bx9 := q3.out.blk I.out.box HFb.out
        have hc9 := blk_cell bx9 2
        have hf9 := blk_free bx9 2
        have hl9 := heap_lt bx9
        simp at hc9
        have EF : Hid (takeFR (some bs) = (⟨ks, xs, (takeKR none).1⟩, (takeKR none).2)) := hid (by unfold takeFR; simp only [HK.out, Hq.out, E5.out])
        have L3 := takeKR_len none
        have Lx : xs.length ≤ 100000 := by omega
        have Lk : ks.length ≤ 100000 := L0.out
        have M := hid (I.out.done Hbr.out HF.out (by omega) (by omega) (by omega) q1.out q2.out q3.out)
        clear bx9 q1 q2 q3
        go_wp2_with fail
        generalize w9.setCell ⟨F, 2, none⟩ (.slice A2 (takeKR none).1.length c2) = W at *
        generalize takeKR none = K3 at *
        obtain ⟨k3, s4⟩ := K3
        simp only at M EF L3 ⊢
        clear hc9 hf9 hl9
        have ET : Hid (takenR bs = if s4 = some [] ∧ goodRef ⟨ks, xs, k3⟩ = true ∧ footBy ⟨ks, xs, k3⟩ = bs then some ⟨ks, xs, k3⟩ else none) := hid (by unfold takenR; rw [EF.out])
        have FK : Hid (FtOk ⟨ks, xs, k3⟩) := hid (by have := Fk.out; rw [EF.out] at this; exact this)
        have RbW : Hid (Rd W A (bs.map bv)) := hid (Hr.out.ext M.out.bel)
        refine wp_region_rel (n := 15) (tV br (.slice A bs.length c) (.agg #[.slice A0 ks.length c0, .slice A1 xs.length c1, .slice A2 k3.length c2]) (decide (s4 = some [])) (goodRef ⟨ks, xs, k3⟩) (footBy ⟨ks, xs, k3⟩) bs) (fun a b => Below a.heap.size a b) (by kernel_rfl) (by kernel_rfl) rfl rfl (fun _ => Below.refl _ _) (fun _ _ _ h k => ext_trans h k) (tV_keep _ _ _ _ _ _ _) ?hstep ?hlast
        case hstep =>
          generalize hd : decide (s4 = some []) = d
          generalize hg : goodRef ⟨ks, xs, k3⟩ = g
          intro j o ho hj a w' J
          have t4 := (J.other 4 (noDst_spec (by kernel_rfl))).trans rfl
          have t5 := (J.other 5 (noDst_spec (by kernel_rfl))).trans rfl
          have t0 := (J.other 0 (noDst_spec (by kernel_rfl))).trans rfl
          have EW : Below W.heap.size W w' := ext_trans (ext_drew W) J.rel
          have bxw := ext_blk EW M.out.box
          have q0 := blk_cell bxw 0
          have q1 := blk_cell bxw 1
          have q2 := blk_cell bxw 2
          simp at q0 q1 q2
          match j, hj with
          | 0, _ =>
            injection ho with ho
            subst ho
            exact op_val rfl rfl (v := .pointer (some ⟨br, 0, none⟩)) (w' := w') (by simp [execOp, go_sem, t4]) ⟨_, rfl, rfl, Below.refl _ _⟩
          | 1, _ =>
            injection ho with ho
            subst ho
            obtain ⟨v, rfl, hv⟩ := J.dep _ rfl ⟨0, .data⟩ (by simp) rfl
            have hv := hv _ rfl
            refine op_call rfl rfl (f := 40) (args := #[.pointer (some ⟨br, 0, none⟩)]) (w1 := w') (by simp [execOp, go_sem, hv]) ?_
            refine (Done3_any w' br s4 (M.out.rd.ext EW)).mono ?_
            rintro e w2 ⟨rfl, rfl⟩
            exact ⟨_, rfl, _, rfl, (by rw [hd]; rfl), Below.refl _ _⟩
          | 2, _ =>
            injection ho with ho
            subst ho
            obtain ⟨v, rfl, hv⟩ := J.dep _ rfl ⟨1, .data⟩ (by simp) rfl
            have hv := hv _ rfl
            exact op_val rfl rfl (v := .bool (!d)) (w' := w') (by simp [execOp, go_sem, hv]) ⟨_, rfl, rfl, Below.refl _ _⟩
          | 3, _ =>
            injection ho with ho
            subst ho
            obtain ⟨v, rfl, hv⟩ := J.dep _ rfl ⟨2, .data⟩ (by simp) rfl
            have hv := hv _ rfl
            exact op_val rfl rfl (v := .bool (!d)) (w' := w') (by simp [execOp, go_sem, hv]) ⟨_, rfl, rfl, Below.refl _ _⟩
          | 4, _ =>
            injection ho with ho
            subst ho
            obtain ⟨v3, rfl, hv3⟩ := J.dep _ rfl ⟨3, .guard⟩ (by simp) rfl
            have hv3 := hv3 _ rfl
            cases d with
            | true => exact op_val_g rfl (wanted_on rfl rfl rfl hv3) (v := .agg #[.slice A0 ks.length c0, .slice A1 xs.length c1, .slice A2 k3.length c2]) (w' := w') (by simp [execOp, go_sem, t5, q0, q1, q2]) ⟨_, rfl, fun _ => rfl, Below.refl _ _⟩
            | false => exact op_off rfl (wanted_off rfl rfl rfl hv3) ⟨_, rfl, (fun h => by cases h), Below.refl _ _⟩
          | 5, _ =>
            injection ho with ho
            subst ho
            obtain ⟨v3, rfl, hv3⟩ := J.dep _ rfl ⟨3, .guard⟩ (by simp) rfl
            have hv3 := hv3 _ rfl
            cases d with
            | true =>
              obtain ⟨v, hv, hv2⟩ := J.dep _ rfl ⟨4, .data⟩ (by simp) rfl
              obtain rfl := hv rfl
              have hv2 := hv2 _ rfl
              refine op_call_g rfl (wanted_on rfl rfl rfl hv3) (f := 10) (args := #[.agg #[.slice A0 ks.length c0, .slice A1 xs.length c1, .slice A2 k3.length c2]]) (w1 := w') (by simp [execOp, go_sem, hv2]) ?_
              refine (RGood10_any w' ⟨ks, xs, k3⟩ _ _ _ _ _ _ _ _ _ (M.out.ft.ext EW) FK.out).mono ?_
              rintro e w2 ⟨rfl, hb⟩
              exact ⟨_, rfl, _, rfl, (fun _ => by rw [hg]), hb⟩
            | false => exact op_off rfl (wanted_off rfl rfl rfl hv3) ⟨_, rfl, (fun h => by cases h), Below.refl _ _⟩
          | 6, _ =>
            injection ho with ho
            subst ho
            obtain ⟨v3, rfl, hv3⟩ := J.dep _ rfl ⟨3, .guard⟩ (by simp) rfl
            have hv3 := hv3 _ rfl
            cases d with
            | true =>
              obtain ⟨v, hv, hv2⟩ := J.dep _ rfl ⟨5, .data⟩ (by simp) rfl
              obtain rfl := hv rfl
              have hv2 := hv2 _ rfl
              exact op_val_g rfl (wanted_on rfl rfl rfl hv3) (v := .bool (!g)) (w' := w') (by simp [execOp, go_sem, hv2]) ⟨_, rfl, fun _ => rfl, Below.refl _ _⟩
            | false => exact op_off rfl (wanted_off rfl rfl rfl hv3) ⟨_, rfl, (fun h => by cases h), Below.refl _ _⟩
          | 7, _ =>
            injection ho with ho
            subst ho
            obtain ⟨v3, rfl, hv3⟩ := J.dep _ rfl ⟨3, .data⟩ (by simp) rfl
            have hv3 := hv3 _ rfl
            obtain ⟨v, hv, hv2⟩ := J.dep _ rfl ⟨6, .data⟩ (by simp) rfl
            have hv2 := hv2 _ rfl
            cases d with
            | true =>
              obtain rfl := hv rfl
              exact op_val rfl rfl (v := .bool (!true || !g)) (w' := w') (by simp [execOp, go_sem, hv2, hv3]) ⟨_, rfl, rfl, Below.refl _ _⟩
            | false => exact op_val rfl rfl (v := .bool (!false || !g)) (w' := w') (by simp [execOp, go_sem, hv2, hv3]) ⟨_, rfl, rfl, Below.refl _ _⟩
          | 8, _ =>
            injection ho with ho
            subst ho
            obtain ⟨v, rfl, hv⟩ := J.dep _ rfl ⟨7, .data⟩ (by simp) rfl
            have hv := hv _ rfl
            exact op_val rfl rfl (v := .bool (!d || !g)) (w' := w') (by simp [execOp, go_sem, hv]) ⟨_, rfl, rfl, Below.refl _ _⟩
          | 9, _ =>
            injection ho with ho
            subst ho
            obtain ⟨v8, rfl, hv8⟩ := J.dep _ rfl ⟨8, .guard⟩ (by simp) rfl
            have hv8 := hv8 _ rfl
            cases hb : (!d || !g) with
            | false => rw [hb] at hv8; exact op_val_g rfl (wanted_on rfl rfl rfl hv8) (v := .agg #[.slice A0 ks.length c0, .slice A1 xs.length c1, .slice A2 k3.length c2]) (w' := w') (by simp [execOp, go_sem, t5, q0, q1, q2]) ⟨_, rfl, fun _ => rfl, Below.refl _ _⟩
            | true => rw [hb] at hv8; exact op_off rfl (wanted_off rfl rfl rfl hv8) ⟨_, rfl, (fun h => absurd (hb.symm.trans h) (by simp)), Below.refl _ _⟩
          | 10, _ =>
            injection ho with ho
            subst ho
            obtain ⟨v8, rfl, hv8⟩ := J.dep _ rfl ⟨8, .guard⟩ (by simp) rfl
            have hv8 := hv8 _ rfl
            cases hb : (!d || !g) with
            | false =>
              rw [hb] at hv8
              obtain ⟨v, hv, hv2⟩ := J.dep _ rfl ⟨9, .data⟩ (by simp) rfl
              obtain rfl := hv hb
              have hv2 := hv2 _ rfl
              have hgg : goodB ⟨ks, xs, k3⟩ = true := by rw [goodRef_eq FK.out, hg]; cases d <;> cases g <;> simp at hb ⊢
              obtain ⟨ok0, ok1, ok2⟩ := good_ok hgg FK.out
              refine op_call_g rfl (wanted_on rfl rfl rfl hv8) (f := 13) (args := #[.agg #[.slice A0 ks.length c0, .slice A1 xs.length c1, .slice A2 k3.length c2]]) (w1 := w') (by simp [execOp, go_sem, hv2]) ?_
              refine (Rput10_any w' ⟨ks, xs, k3⟩ _ _ _ _ _ _ _ _ _ (M.out.ft.ext EW) ok0 ok1 ok2 (show ks.length ≤ 1000000 by omega) (show xs.length ≤ 1000000 by omega) (show k3.length ≤ 1000000 by omega)).mono ?_
              rintro e w2 ⟨A9, c9, rfl, hown, _, _, _, hb9⟩
              exact ⟨_, rfl, _, rfl, (fun _ => ⟨A9, c9, rfl, own_rd hown⟩), hb9⟩
            | true => rw [hb] at hv8; exact op_off rfl (wanted_off rfl rfl rfl hv8) ⟨_, rfl, (fun h => absurd (hb.symm.trans h) (by simp)), Below.refl _ _⟩
          | 11, _ =>
            injection ho with ho
            subst ho
            obtain ⟨v8, rfl, hv8⟩ := J.dep _ rfl ⟨8, .guard⟩ (by simp) rfl
            have hv8 := hv8 _ rfl
            cases hb : (!d || !g) with
            | false =>
              rw [hb] at hv8
              obtain ⟨v, hv, hv2⟩ := J.dep _ rfl ⟨10, .data⟩ (by simp) rfl
              obtain ⟨A9, c9, rfl, hrd⟩ := hv hb
              have hv2 := hv2 _ rfl
              have cs := conv_str (P := Try.prog) w' 29 9 5 Try.underlying29 Try.underlying5 Try.underlying9 A9 _ c9 (footBy ⟨ks, xs, k3⟩) rfl (footBy_lt' _) hrd
              exact op_val_g rfl (wanted_on rfl rfl rfl hv8) (v := .string (ofB (footBy ⟨ks, xs, k3⟩))) (w' := w') (by simp [execOp, go_sem, hv2, cs]) ⟨_, rfl, fun _ => rfl, Below.refl _ _⟩
            | true => rw [hb] at hv8; exact op_off rfl (wanted_off rfl rfl rfl hv8) ⟨_, rfl, (fun h => absurd (hb.symm.trans h) (by simp)), Below.refl _ _⟩
          | 12, _ =>
            injection ho with ho
            subst ho
            obtain ⟨v8, rfl, hv8⟩ := J.dep _ rfl ⟨8, .guard⟩ (by simp) rfl
            have hv8 := hv8 _ rfl
            cases hb : (!d || !g) with
            | false => rw [hb] at hv8; exact op_val_g rfl (wanted_on rfl rfl rfl hv8) (v := .slice A bs.length c) (w' := w') (by simp [execOp, go_sem, t0]) ⟨_, rfl, fun _ => rfl, Below.refl _ _⟩
            | true => rw [hb] at hv8; exact op_off rfl (wanted_off rfl rfl rfl hv8) ⟨_, rfl, (fun h => absurd (hb.symm.trans h) (by simp)), Below.refl _ _⟩
          | 13, _ =>
            injection ho with ho
            subst ho
            obtain ⟨v8, rfl, hv8⟩ := J.dep _ rfl ⟨8, .guard⟩ (by simp) rfl
            have hv8 := hv8 _ rfl
            cases hb : (!d || !g) with
            | false =>
              rw [hb] at hv8
              obtain ⟨v, hv, hv2⟩ := J.dep _ rfl ⟨12, .data⟩ (by simp) rfl
              obtain rfl := hv hb
              have hv2 := hv2 _ rfl
              have cs := conv_str (P := Try.prog) w' 29 9 5 Try.underlying29 Try.underlying5 Try.underlying9 A _ c bs rfl Hby.out (RbW.out.ext EW)
              exact op_val_g rfl (wanted_on rfl rfl rfl hv8) (v := .string (ofB bs)) (w' := w') (by simp [execOp, go_sem, hv2, cs]) ⟨_, rfl, fun _ => rfl, Below.refl _ _⟩
            | true => rw [hb] at hv8; exact op_off rfl (wanted_off rfl rfl rfl hv8) ⟨_, rfl, (fun h => absurd (hb.symm.trans h) (by simp)), Below.refl _ _⟩
          | 14, _ =>
            injection ho with ho
            subst ho
            obtain ⟨v8, rfl, hv8⟩ := J.dep _ rfl ⟨8, .guard⟩ (by simp) rfl
            have hv8 := hv8 _ rfl
            cases hb : (!d || !g) with
            | false =>
              rw [hb] at hv8
              obtain ⟨v, hv, hv2⟩ := J.dep _ rfl ⟨11, .data⟩ (by simp) rfl
              obtain rfl := hv hb
              have hv2 := hv2 _ rfl
              obtain ⟨v, hv, hv4⟩ := J.dep _ rfl ⟨13, .data⟩ (by simp) rfl
              obtain rfl := hv hb
              have hv4 := hv4 _ rfl
              have cs := neq_str (footBy_lt' ⟨ks, xs, k3⟩) Hby.out w'
              exact op_val_g rfl (wanted_on rfl rfl rfl hv8) (v := .bool (!decide (footBy ⟨ks, xs, k3⟩ = bs))) (w' := w') (by simp [execOp, hv2, hv4, cs, eval_tmp, eqg_str]) ⟨_, rfl, fun _ => rfl, Below.refl _ _⟩
            | true => rw [hb] at hv8; exact op_off rfl (wanted_off rfl rfl rfl hv8) ⟨_, rfl, (fun h => absurd (hb.symm.trans h) (by simp)), Below.refl _ _⟩
          | k + 15, hk => omega
        case hlast =>
          intro vals w' hlen hR hv
          have HBB := hid (ext_trans (ext_drew W) hR)
          match vals, hlen with
          | [v0, v1, v2, v3, v4, v5, v6, v7, v8, v9, v10, v11, v12, v13, v14], _ =>
          have e8 : v8 = .bool (!decide (s4 = some []) || !goodRef ⟨ks, xs, k3⟩) := hv 8 v8 rfl
          have E14 : Hid ((!decide (s4 = some []) || !goodRef ⟨ks, xs, k3⟩) = false → v14 = .bool (!decide (footBy ⟨ks, xs, k3⟩ = bs))) := hid (hv 14 v14 rfl)
          subst e8
          clear hv hR
          have rs6 := ext_blk HBB.out M.out.res
          have bx6 := ext_blk HBB.out M.out.box
          have r0 := blk_cell rs6 0
          have r1 := blk_cell rs6 1
          have r2 := blk_cell rs6 2
          have f0 := blk_free rs6 0
          have f1 := blk_free rs6 1
          have f2 := blk_free rs6 2
          have l0 := heap_lt rs6
          have z0 := blk_cell bx6 0
          have z1 := blk_cell bx6 1
          have z2 := blk_cell bx6 2
          simp at r0 r1 r2 z0 z1 z2
          have Rs6 := hid rs6
          clear rs6 bx6
          refine op_list rfl ?_
          simp only [putAll, List.take_succ_cons, List.take_zero, Act.put]
          by_cases hok : s4 = some [] ∧ goodRef ⟨ks, xs, k3⟩ = true ∧ footBy ⟨ks, xs, k3⟩ = bs
          · have hb : (!decide (s4 = some []) || !goodRef ⟨ks, xs, k3⟩) = false := by simp [hok.1, hok.2.1]
            have e := E14.out hb
            rw [decide_eq_true hok.2.2] at e
            subst e
            rw [hb]
            have Hok := hid hok
            clear hok hb E14
            go_wp2
            refine bodyPost_ret (v := .tuple #[.agg #[.slice A0 ks.length c0, .slice A1 xs.length c1, .slice A2 k3.length c2], .bool true]) (by simp [results, Try.results15, go_sem, r0, r1, r2, f0, f1, f2]) rfl ⟨?_, .inl ⟨⟨ks, xs, k3⟩, A0, _, c0, A1, _, c1, A2, _, c2, ?_, rfl, ?_⟩⟩
            · exact (((M.out.bel.trans (HBB.out.mono M.out.bel.size)).trans ((kp_set _ _ 0 _).below (by have := M.out.bel.size; have := HBB.out.size; omega) (fun k hk => by omega))).trans ((kp_set _ _ 1 _).below (by have := M.out.bel.size; have := HBB.out.size; simp; omega) (fun k hk => by omega))).trans ((kp_set _ _ 2 _).below (by have := M.out.bel.size; have := HBB.out.size; simp; omega) (fun k hk => by omega))
            · rw [ET.out, if_pos Hok.out]
            · have g1 := (M.out.ft.ext HBB.out).off (i := 0) Rs6.out (by simp) (.slice A0 ks.length c0)
              have g2 := g1.off (i := 1) (blk_set Rs6.out 0 _) (by simp) (.slice A1 xs.length c1)
              exact g2.off (i := 2) (blk_set (blk_set Rs6.out 0 _) 1 _) (by simp) (.slice A2 k3.length c2)
          · cases hb : (!decide (s4 = some []) || !goodRef ⟨ks, xs, k3⟩) with
            | true =>
              clear E14
              go_wp2
              refine bodyPost_ret (v := .tuple #[.agg #[.slice none 0 0, .slice none 0 0, .slice none 0 0], .bool false]) (by simp [results, Try.results15, go_sem, r0, r1, r2, f0, f1, f2]) rfl ⟨?_, .inr ⟨?_, rfl⟩⟩
              · exact (((M.out.bel.trans (HBB.out.mono M.out.bel.size)).trans ((kp_set _ _ 0 _).below (by have := M.out.bel.size; have := HBB.out.size; omega) (fun k hk => by omega))).trans ((kp_set _ _ 1 _).below (by have := M.out.bel.size; have := HBB.out.size; simp; omega) (fun k hk => by omega))).trans ((kp_set _ _ 2 _).below (by have := M.out.bel.size; have := HBB.out.size; simp; omega) (fun k hk => by omega))
              · rw [ET.out, if_neg hok]
            | false =>
              have hne : ¬ footBy ⟨ks, xs, k3⟩ = bs := fun e => hok (by
                simp only [Bool.or_eq_false_iff, Bool.not_eq_false'] at hb
                exact ⟨of_decide_eq_true hb.1, hb.2, e⟩)
              have e := E14.out hb
              rw [decide_eq_false hne] at e
              subst e
              clear E14 hne
              go_wp2
              refine bodyPost_ret (v := .tuple #[.agg #[.slice none 0 0, .slice none 0 0, .slice none 0 0], .bool false]) (by simp [results, Try.results15, go_sem, r0, r1, r2, f0, f1, f2]) rfl ⟨?_, .inr ⟨?_, rfl⟩⟩
              · exact (((M.out.bel.trans (HBB.out.mono M.out.bel.size)).trans ((kp_set _ _ 0 _).below (by have := M.out.bel.size; have := HBB.out.size; omega) (fun k hk => by omega))).trans ((kp_set _ _ 1 _).below (by have := M.out.bel.size; have := HBB.out.size; simp; omega) (fun k hk => by omega))).trans ((kp_set _ _ 2 _).below (by have := M.out.bel.size; have := HBB.out.size; simp; omega) (fun k hk => by omega))
              · rw [ET.out, if_neg hok]
      | some l =>
        rw [hs'] at hb1
        simp only [Option.isNone_some] at hb1
        have h0 : badS s' = false := by rw [hs']; rfl
        have H0 := hid h0
        clear hs' h0
        go_wp2_with fail
        refine (R3small_any wr br _ I.out.by_ I.out.rd).mono ?_
        rintro e w4 ⟨rfl, h3, h4⟩
        have By4 := hid (rSmR_byt I.out.by_)
        have N : Hid (∀ (w6 w7 : World) (A' : Option Addr) (c' : Nat) (o : Obj), Kp (· ≠ br) wr w6 → R3At w6 br (rNum (rNum (rSmR s').2).2).2 → w7.ownsRow w.heap.size 46 3 (.slice A' (xs.length + 1) c') (xs.length + 1) (xs.flatMap spC ++ spC ⟨(rSmR s').1, (rNum (rSmR s').2).1, (rNum (rNum (rSmR s').2).2).1⟩) → Kp (fun k => (Value.slice A1 xs.length c1).ownBlock ≠ some k) (w6.alloc o) w7 → w7.heap[F]? = some (.cells #[.slice A0 ks.length c0, .slice A1 xs.length c1, .slice none 0 0] 25 (0, 0)) → T3Inv w br F A0 c0 ks s3 n.toNat (xs ++ [⟨(rSmR s').1, (rNum (rSmR s').2).1, (rNum (rNum (rSmR s').2).2).1⟩]) (rNum (rNum (rSmR s').2).2).2 A' c' (w7.setCell ⟨F, 1, none⟩ (.slice A' (xs.length + 1) c'))) :=
          hid (fun w6 w7 A' c' o a1 a2 a3 a4 a5 => I.out.next Hbr.out HF.out H0.out (by omega) a1 a2 a3 a4 a5)
        generalize rSmR s' = q4 at *
        obtain ⟨t, s4⟩ := q4
        simp only at *
        have Sp4 : Hid (br < w4.heap.size) := hid h3.out.lt
        have RX := hid (h3.out.ext (ext_alloc w4 (.cells #[.int .i64 t, .int .i64 0, .int .i64 0] 46)))
        have BX := hid (blk_new w4 (.cells #[.int .i64 t, .int .i64 0, .int .i64 0] 46))
        have K4 : Hid (Kp (· ≠ br) wr (w4.alloc (.cells #[.int .i64 t, .int .i64 0, .int .i64 0] 46))) := hid (h4.out.trans (Kp.of_ext (ext_alloc _ _) _))
        have W4 : Hid (wr.heap.size ≤ w4.heap.size) := hid h4.out.size
        clear h3 h4
        go_wp2_with fail
        refine (R3num_any _ br _ By4.out RX.out).mono ?_
        rintro e w5 ⟨rfl, h5, h6⟩
        have By5 := hid (rNum_byt By4.out)
        generalize rNum s4 = q5 at *
        obtain ⟨lo, s5⟩ := q5
        simp only at *
        have BX5 := hid (h6.out.blk BX.out (by have := Sp4.out; omega))
        have K5 : Hid (Kp (· ≠ br) wr (w5.setCell ⟨w4.heap.size, 1, none⟩ (.int .i64 lo))) := hid ((K4.out.trans h6.out).trans2 (kp_set _ _ _ _) (fun i hi _ => by have := W4.out; omega))
        have RX5 := hid (h5.out.kp (kp_set w5 w4.heap.size 1 (.int .i64 lo)) (by have := Sp4.out; omega) (fun k cs fz h => blk_ty_ne h BX5.out (by decide)))
        have BY5 := hid (blk_set BX5.out 1 (.int .i64 lo))
        have u1 := blk_cell BX5.out 1
        have f1 := blk_free BX5.out 1
        have l1 := heap_lt BX5.out
        simp at u1
        clear h5 h6 RX BX K4 BX5
        go_wp2_with fail
        refine (R3num_any _ br _ By5.out RX5.out).mono ?_
        rintro e w6 ⟨rfl, h7, h8⟩
        have By6 := hid (rNum_byt By5.out)
        generalize rNum s5 = q6 at *
        obtain ⟨hi, s6⟩ := q6
        simp only at *
        have BX6 := hid (h8.out.blk BY5.out (by have := Sp4.out; omega))
        have K6 : Hid (Kp (· ≠ br) wr (w6.setCell ⟨w4.heap.size, 2, none⟩ (.int .i64 hi))) := hid ((K5.out.trans h8.out).trans2 (kp_set _ _ _ _) (fun i hi _ => by have := W4.out; omega))
        have RX6 := hid (h7.out.kp (kp_set w6 w4.heap.size 2 (.int .i64 hi)) (by have := Sp4.out; omega) (fun k cs fz h => blk_ty_ne h BX6.out (by decide)))
        have BZ6 := hid (blk_set BX6.out 2 (.int .i64 hi))
        have v2 := blk_cell BX6.out 2
        have f2 := blk_free BX6.out 2
        have l2 := heap_lt BX6.out
        have a0 := blk_cell BX6.out 0
        have a1 := blk_cell BX6.out 1
        simp at v2 a0 a1
        have HB6 := hid (K6.out.blk I.out.box HFb.out)
        have fb := blk_cell HB6.out 1
        simp at fb
        have OW := hid (own_kp I.out.own K6.out (own_r3 I.out.rd I.out.own (by decide)))
        have S6 : Hid (w.heap.size ≤ w6.heap.size) := hid (by have := Nat.le_trans I.out.bel.size K6.out.size; simpa using this)
        have Rn : Hid (Rd ((w6.setCell ⟨w4.heap.size, 2, none⟩ (.int .i64 hi)).alloc (.cells #[.int .i64 t, .int .i64 lo, .int .i64 hi] 46)) (some ⟨w6.heap.size, 0, none⟩) (spC ⟨t, lo, hi⟩)) := hid (by have := rd_new (w6.setCell ⟨w4.heap.size, 2, none⟩ (.int .i64 hi)) (spC ⟨t, lo, hi⟩) 46; simpa [spC] using this)
        have hFp : ¬ F = w4.heap.size := fun e => by have h1 := heap_lt I.out.box; have := W4.out; omega
        have hpF : ¬ w4.heap.size = F := fun e => hFp e.symm
        clear h7 h8 BX6 BY5 K5 RX5
        have HB6a := hid (blk_alloc HB6.out (.cells #[.int .i64 t, .int .i64 lo, .int .i64 hi] 46))
        have OWa := hid (own_ext OW.out (ext_alloc _ (.cells #[.int .i64 t, .int .i64 lo, .int .i64 hi] 46)))
        go_wp2_with (at_builtin; refine wl_ap rfl rfl w.heap.size 46 hus info_span rfl (by decide) (.slice A1 xs.length c1) xs.length (xs.flatMap spC) rfl OWa.out (some ⟨w6.heap.size, 0, none⟩) 1 1 (spC ⟨t, lo, hi⟩) rfl rfl Rn.out (fun u hu => by simp [spC] at hu; rcases hu with rfl | rfl | rfl <;> rfl) (by unfold maxLen; omega) (by omega) (by have := S6.out; simp; omega) ?_; intro A9 c9 w7 _ _ hown hkp hhop; have O7 := hid hown; have K7 := hid hkp; have B7 := hid (hkp.blk HB6a.out (own_noblk OWa.out HB6a.out (by decide))); have c7 := blk_cell B7.out 1; have f7 := blk_free B7.out 1; have l7 := heap_lt B7.out; simp at c7; clear hown hkp hhop)
        refine ⟨⟨xs ++ [⟨t, lo, hi⟩], s6, A9, c9, by simp, by simp; omega, hid (N.out _ w7 A9 c9 _ K6.out RX6.out O7.out K7.out B7.out)⟩, by simp [intOf]; omega⟩
    · have E5 : Hid (tsR n.toNat s3 = (xs, s')) := hid (by rw [I.out.eq, show n.toNat - xs.length = 0 by omega]; simp [tsR])
      go_wp2_with fail
      refine (take3_any wr br s' I.out.by_ I.out.rd).mono ?_
      rintro e w9 ⟨A2, c2, rfl, q1, q2, q3⟩
      have bx9 := q3.out.blk I.out.box HFb.out
      have hc9 := blk_cell bx9 2
      have hf9 := blk_free bx9 2
      have hl9 := heap_lt bx9
      simp at hc9
      have EF : Hid (takeFR (some bs) = (⟨ks, xs, (takeKR s').1⟩, (takeKR s').2)) := hid (by unfold takeFR; simp only [HK.out, Hq.out, E5.out])
      have L3 := takeKR_len s'
      have Lx : xs.length ≤ 100000 := by omega
      have Lk : ks.length ≤ 100000 := L0.out
      have M := hid (I.out.done Hbr.out HF.out (by omega) (by omega) (by omega) q1.out q2.out q3.out)
      clear bx9 q1 q2 q3
      go_wp2_with fail
      generalize w9.setCell ⟨F, 2, none⟩ (.slice A2 (takeKR s').1.length c2) = W at *
      generalize takeKR s' = K3 at *
      obtain ⟨k3, s4⟩ := K3
      simp only at M EF L3 ⊢
      clear hc9 hf9 hl9
      have ET : Hid (takenR bs = if s4 = some [] ∧ goodRef ⟨ks, xs, k3⟩ = true ∧ footBy ⟨ks, xs, k3⟩ = bs then some ⟨ks, xs, k3⟩ else none) := hid (by unfold takenR; rw [EF.out])
      have FK : Hid (FtOk ⟨ks, xs, k3⟩) := hid (by have := Fk.out; rw [EF.out] at this; exact this)
      have RbW : Hid (Rd W A (bs.map bv)) := hid (Hr.out.ext M.out.bel)
      refine wp_region_rel (n := 15) (tV br (.slice A bs.length c) (.agg #[.slice A0 ks.length c0, .slice A1 xs.length c1, .slice A2 k3.length c2]) (decide (s4 = some [])) (goodRef ⟨ks, xs, k3⟩) (footBy ⟨ks, xs, k3⟩) bs) (fun a b => Below a.heap.size a b) (by kernel_rfl) (by kernel_rfl) rfl rfl (fun _ => Below.refl _ _) (fun _ _ _ h k => ext_trans h k) (tV_keep _ _ _ _ _ _ _) ?hstep ?hlast
      case hstep =>
        generalize hd : decide (s4 = some []) = d
        generalize hg : goodRef ⟨ks, xs, k3⟩ = g
        intro j o ho hj a w' J
        have t4 := (J.other 4 (noDst_spec (by kernel_rfl))).trans rfl
        have t5 := (J.other 5 (noDst_spec (by kernel_rfl))).trans rfl
        have t0 := (J.other 0 (noDst_spec (by kernel_rfl))).trans rfl
        have EW : Below W.heap.size W w' := ext_trans (ext_drew W) J.rel
        have bxw := ext_blk EW M.out.box
        have q0 := blk_cell bxw 0
        have q1 := blk_cell bxw 1
        have q2 := blk_cell bxw 2
        simp at q0 q1 q2
        match j, hj with
        | 0, _ =>
          injection ho with ho
          subst ho
          exact op_val rfl rfl (v := .pointer (some ⟨br, 0, none⟩)) (w' := w') (by simp [execOp, go_sem, t4]) ⟨_, rfl, rfl, Below.refl _ _⟩
        | 1, _ =>
          injection ho with ho
          subst ho
          obtain ⟨v, rfl, hv⟩ := J.dep _ rfl ⟨0, .data⟩ (by simp) rfl
          have hv := hv _ rfl
          refine op_call rfl rfl (f := 40) (args := #[.pointer (some ⟨br, 0, none⟩)]) (w1 := w') (by simp [execOp, go_sem, hv]) ?_
          refine (Done3_any w' br s4 (M.out.rd.ext EW)).mono ?_
          rintro e w2 ⟨rfl, rfl⟩
          exact ⟨_, rfl, _, rfl, (by rw [hd]; rfl), Below.refl _ _⟩
        | 2, _ =>
          injection ho with ho
          subst ho
          obtain ⟨v, rfl, hv⟩ := J.dep _ rfl ⟨1, .data⟩ (by simp) rfl
          have hv := hv _ rfl
          exact op_val rfl rfl (v := .bool (!d)) (w' := w') (by simp [execOp, go_sem, hv]) ⟨_, rfl, rfl, Below.refl _ _⟩
        | 3, _ =>
          injection ho with ho
          subst ho
          obtain ⟨v, rfl, hv⟩ := J.dep _ rfl ⟨2, .data⟩ (by simp) rfl
          have hv := hv _ rfl
          exact op_val rfl rfl (v := .bool (!d)) (w' := w') (by simp [execOp, go_sem, hv]) ⟨_, rfl, rfl, Below.refl _ _⟩
        | 4, _ =>
          injection ho with ho
          subst ho
          obtain ⟨v3, rfl, hv3⟩ := J.dep _ rfl ⟨3, .guard⟩ (by simp) rfl
          have hv3 := hv3 _ rfl
          cases d with
          | true => exact op_val_g rfl (wanted_on rfl rfl rfl hv3) (v := .agg #[.slice A0 ks.length c0, .slice A1 xs.length c1, .slice A2 k3.length c2]) (w' := w') (by simp [execOp, go_sem, t5, q0, q1, q2]) ⟨_, rfl, fun _ => rfl, Below.refl _ _⟩
          | false => exact op_off rfl (wanted_off rfl rfl rfl hv3) ⟨_, rfl, (fun h => by cases h), Below.refl _ _⟩
        | 5, _ =>
          injection ho with ho
          subst ho
          obtain ⟨v3, rfl, hv3⟩ := J.dep _ rfl ⟨3, .guard⟩ (by simp) rfl
          have hv3 := hv3 _ rfl
          cases d with
          | true =>
            obtain ⟨v, hv, hv2⟩ := J.dep _ rfl ⟨4, .data⟩ (by simp) rfl
            obtain rfl := hv rfl
            have hv2 := hv2 _ rfl
            refine op_call_g rfl (wanted_on rfl rfl rfl hv3) (f := 10) (args := #[.agg #[.slice A0 ks.length c0, .slice A1 xs.length c1, .slice A2 k3.length c2]]) (w1 := w') (by simp [execOp, go_sem, hv2]) ?_
            refine (RGood10_any w' ⟨ks, xs, k3⟩ _ _ _ _ _ _ _ _ _ (M.out.ft.ext EW) FK.out).mono ?_
            rintro e w2 ⟨rfl, hb⟩
            exact ⟨_, rfl, _, rfl, (fun _ => by rw [hg]), hb⟩
          | false => exact op_off rfl (wanted_off rfl rfl rfl hv3) ⟨_, rfl, (fun h => by cases h), Below.refl _ _⟩
        | 6, _ =>
          injection ho with ho
          subst ho
          obtain ⟨v3, rfl, hv3⟩ := J.dep _ rfl ⟨3, .guard⟩ (by simp) rfl
          have hv3 := hv3 _ rfl
          cases d with
          | true =>
            obtain ⟨v, hv, hv2⟩ := J.dep _ rfl ⟨5, .data⟩ (by simp) rfl
            obtain rfl := hv rfl
            have hv2 := hv2 _ rfl
            exact op_val_g rfl (wanted_on rfl rfl rfl hv3) (v := .bool (!g)) (w' := w') (by simp [execOp, go_sem, hv2]) ⟨_, rfl, fun _ => rfl, Below.refl _ _⟩
          | false => exact op_off rfl (wanted_off rfl rfl rfl hv3) ⟨_, rfl, (fun h => by cases h), Below.refl _ _⟩
        | 7, _ =>
          injection ho with ho
          subst ho
          obtain ⟨v3, rfl, hv3⟩ := J.dep _ rfl ⟨3, .data⟩ (by simp) rfl
          have hv3 := hv3 _ rfl
          obtain ⟨v, hv, hv2⟩ := J.dep _ rfl ⟨6, .data⟩ (by simp) rfl
          have hv2 := hv2 _ rfl
          cases d with
          | true =>
            obtain rfl := hv rfl
            exact op_val rfl rfl (v := .bool (!true || !g)) (w' := w') (by simp [execOp, go_sem, hv2, hv3]) ⟨_, rfl, rfl, Below.refl _ _⟩
          | false => exact op_val rfl rfl (v := .bool (!false || !g)) (w' := w') (by simp [execOp, go_sem, hv2, hv3]) ⟨_, rfl, rfl, Below.refl _ _⟩
        | 8, _ =>
          injection ho with ho
          subst ho
          obtain ⟨v, rfl, hv⟩ := J.dep _ rfl ⟨7, .data⟩ (by simp) rfl
          have hv := hv _ rfl
          exact op_val rfl rfl (v := .bool (!d || !g)) (w' := w') (by simp [execOp, go_sem, hv]) ⟨_, rfl, rfl, Below.refl _ _⟩
        | 9, _ =>
          injection ho with ho
          subst ho
          obtain ⟨v8, rfl, hv8⟩ := J.dep _ rfl ⟨8, .guard⟩ (by simp) rfl
          have hv8 := hv8 _ rfl
          cases hb : (!d || !g) with
          | false => rw [hb] at hv8; exact op_val_g rfl (wanted_on rfl rfl rfl hv8) (v := .agg #[.slice A0 ks.length c0, .slice A1 xs.length c1, .slice A2 k3.length c2]) (w' := w') (by simp [execOp, go_sem, t5, q0, q1, q2]) ⟨_, rfl, fun _ => rfl, Below.refl _ _⟩
          | true => rw [hb] at hv8; exact op_off rfl (wanted_off rfl rfl rfl hv8) ⟨_, rfl, (fun h => absurd (hb.symm.trans h) (by simp)), Below.refl _ _⟩
        | 10, _ =>
          injection ho with ho
          subst ho
          obtain ⟨v8, rfl, hv8⟩ := J.dep _ rfl ⟨8, .guard⟩ (by simp) rfl
          have hv8 := hv8 _ rfl
          cases hb : (!d || !g) with
          | false =>
            rw [hb] at hv8
            obtain ⟨v, hv, hv2⟩ := J.dep _ rfl ⟨9, .data⟩ (by simp) rfl
            obtain rfl := hv hb
            have hv2 := hv2 _ rfl
            have hgg : goodB ⟨ks, xs, k3⟩ = true := by rw [goodRef_eq FK.out, hg]; cases d <;> cases g <;> simp at hb ⊢
            obtain ⟨ok0, ok1, ok2⟩ := good_ok hgg FK.out
            refine op_call_g rfl (wanted_on rfl rfl rfl hv8) (f := 13) (args := #[.agg #[.slice A0 ks.length c0, .slice A1 xs.length c1, .slice A2 k3.length c2]]) (w1 := w') (by simp [execOp, go_sem, hv2]) ?_
            refine (Rput10_any w' ⟨ks, xs, k3⟩ _ _ _ _ _ _ _ _ _ (M.out.ft.ext EW) ok0 ok1 ok2 (show ks.length ≤ 1000000 by omega) (show xs.length ≤ 1000000 by omega) (show k3.length ≤ 1000000 by omega)).mono ?_
            rintro e w2 ⟨A9, c9, rfl, hown, _, _, _, hb9⟩
            exact ⟨_, rfl, _, rfl, (fun _ => ⟨A9, c9, rfl, own_rd hown⟩), hb9⟩
          | true => rw [hb] at hv8; exact op_off rfl (wanted_off rfl rfl rfl hv8) ⟨_, rfl, (fun h => absurd (hb.symm.trans h) (by simp)), Below.refl _ _⟩
        | 11, _ =>
          injection ho with ho
          subst ho
          obtain ⟨v8, rfl, hv8⟩ := J.dep _ rfl ⟨8, .guard⟩ (by simp) rfl
          have hv8 := hv8 _ rfl
          cases hb : (!d || !g) with
          | false =>
            rw [hb] at hv8
            obtain ⟨v, hv, hv2⟩ := J.dep _ rfl ⟨10, .data⟩ (by simp) rfl
            obtain ⟨A9, c9, rfl, hrd⟩ := hv hb
            have hv2 := hv2 _ rfl
            have cs := conv_str (P := Try.prog) w' 29 9 5 Try.underlying29 Try.underlying5 Try.underlying9 A9 _ c9 (footBy ⟨ks, xs, k3⟩) rfl (footBy_lt' _) hrd
            exact op_val_g rfl (wanted_on rfl rfl rfl hv8) (v := .string (ofB (footBy ⟨ks, xs, k3⟩))) (w' := w') (by simp [execOp, go_sem, hv2, cs]) ⟨_, rfl, fun _ => rfl, Below.refl _ _⟩
          | true => rw [hb] at hv8; exact op_off rfl (wanted_off rfl rfl rfl hv8) ⟨_, rfl, (fun h => absurd (hb.symm.trans h) (by simp)), Below.refl _ _⟩
        | 12, _ =>
          injection ho with ho
          subst ho
          obtain ⟨v8, rfl, hv8⟩ := J.dep _ rfl ⟨8, .guard⟩ (by simp) rfl
          have hv8 := hv8 _ rfl
          cases hb : (!d || !g) with
          | false => rw [hb] at hv8; exact op_val_g rfl (wanted_on rfl rfl rfl hv8) (v := .slice A bs.length c) (w' := w') (by simp [execOp, go_sem, t0]) ⟨_, rfl, fun _ => rfl, Below.refl _ _⟩
          | true => rw [hb] at hv8; exact op_off rfl (wanted_off rfl rfl rfl hv8) ⟨_, rfl, (fun h => absurd (hb.symm.trans h) (by simp)), Below.refl _ _⟩
        | 13, _ =>
          injection ho with ho
          subst ho
          obtain ⟨v8, rfl, hv8⟩ := J.dep _ rfl ⟨8, .guard⟩ (by simp) rfl
          have hv8 := hv8 _ rfl
          cases hb : (!d || !g) with
          | false =>
            rw [hb] at hv8
            obtain ⟨v, hv, hv2⟩ := J.dep _ rfl ⟨12, .data⟩ (by simp) rfl
            obtain rfl := hv hb
            have hv2 := hv2 _ rfl
            have cs := conv_str (P := Try.prog) w' 29 9 5 Try.underlying29 Try.underlying5 Try.underlying9 A _ c bs rfl Hby.out (RbW.out.ext EW)
            exact op_val_g rfl (wanted_on rfl rfl rfl hv8) (v := .string (ofB bs)) (w' := w') (by simp [execOp, go_sem, hv2, cs]) ⟨_, rfl, fun _ => rfl, Below.refl _ _⟩
          | true => rw [hb] at hv8; exact op_off rfl (wanted_off rfl rfl rfl hv8) ⟨_, rfl, (fun h => absurd (hb.symm.trans h) (by simp)), Below.refl _ _⟩
        | 14, _ =>
          injection ho with ho
          subst ho
          obtain ⟨v8, rfl, hv8⟩ := J.dep _ rfl ⟨8, .guard⟩ (by simp) rfl
          have hv8 := hv8 _ rfl
          cases hb : (!d || !g) with
          | false =>
            rw [hb] at hv8
            obtain ⟨v, hv, hv2⟩ := J.dep _ rfl ⟨11, .data⟩ (by simp) rfl
            obtain rfl := hv hb
            have hv2 := hv2 _ rfl
            obtain ⟨v, hv, hv4⟩ := J.dep _ rfl ⟨13, .data⟩ (by simp) rfl
            obtain rfl := hv hb
            have hv4 := hv4 _ rfl
            have cs := neq_str (footBy_lt' ⟨ks, xs, k3⟩) Hby.out w'
            exact op_val_g rfl (wanted_on rfl rfl rfl hv8) (v := .bool (!decide (footBy ⟨ks, xs, k3⟩ = bs))) (w' := w') (by simp [execOp, hv2, hv4, cs, eval_tmp, eqg_str]) ⟨_, rfl, fun _ => rfl, Below.refl _ _⟩
          | true => rw [hb] at hv8; exact op_off rfl (wanted_off rfl rfl rfl hv8) ⟨_, rfl, (fun h => absurd (hb.symm.trans h) (by simp)), Below.refl _ _⟩
        | k + 15, hk => omega
      case hlast =>
        intro vals w' hlen hR hv
        have HBB := hid (ext_trans (ext_drew W) hR)
        match vals, hlen with
        | [v0, v1, v2, v3, v4, v5, v6, v7, v8, v9, v10, v11, v12, v13, v14], _ =>
        have e8 : v8 = .bool (!decide (s4 = some []) || !goodRef ⟨ks, xs, k3⟩) := hv 8 v8 rfl
        have E14 : Hid ((!decide (s4 = some []) || !goodRef ⟨ks, xs, k3⟩) = false → v14 = .bool (!decide (footBy ⟨ks, xs, k3⟩ = bs))) := hid (hv 14 v14 rfl)
        subst e8
        clear hv hR
        have rs6 := ext_blk HBB.out M.out.res
        have bx6 := ext_blk HBB.out M.out.box
        have r0 := blk_cell rs6 0
        have r1 := blk_cell rs6 1
        have r2 := blk_cell rs6 2
        have f0 := blk_free rs6 0
        have f1 := blk_free rs6 1
        have f2 := blk_free rs6 2
        have l0 := heap_lt rs6
        have z0 := blk_cell bx6 0
        have z1 := blk_cell bx6 1
        have z2 := blk_cell bx6 2
        simp at r0 r1 r2 z0 z1 z2
        have Rs6 := hid rs6
        clear rs6 bx6
        refine op_list rfl ?_
        simp only [putAll, List.take_succ_cons, List.take_zero, Act.put]
        by_cases hok : s4 = some [] ∧ goodRef ⟨ks, xs, k3⟩ = true ∧ footBy ⟨ks, xs, k3⟩ = bs
        · have hb : (!decide (s4 = some []) || !goodRef ⟨ks, xs, k3⟩) = false := by simp [hok.1, hok.2.1]
          have e := E14.out hb
          rw [decide_eq_true hok.2.2] at e
          subst e
          rw [hb]
          have Hok := hid hok
          clear hok hb E14
          go_wp2
          refine bodyPost_ret (v := .tuple #[.agg #[.slice A0 ks.length c0, .slice A1 xs.length c1, .slice A2 k3.length c2], .bool true]) (by simp [results, Try.results15, go_sem, r0, r1, r2, f0, f1, f2]) rfl ⟨?_, .inl ⟨⟨ks, xs, k3⟩, A0, _, c0, A1, _, c1, A2, _, c2, ?_, rfl, ?_⟩⟩
          · exact (((M.out.bel.trans (HBB.out.mono M.out.bel.size)).trans ((kp_set _ _ 0 _).below (by have := M.out.bel.size; have := HBB.out.size; omega) (fun k hk => by omega))).trans ((kp_set _ _ 1 _).below (by have := M.out.bel.size; have := HBB.out.size; simp; omega) (fun k hk => by omega))).trans ((kp_set _ _ 2 _).below (by have := M.out.bel.size; have := HBB.out.size; simp; omega) (fun k hk => by omega))
          · rw [ET.out, if_pos Hok.out]
          · have g1 := (M.out.ft.ext HBB.out).off (i := 0) Rs6.out (by simp) (.slice A0 ks.length c0)
            have g2 := g1.off (i := 1) (blk_set Rs6.out 0 _) (by simp) (.slice A1 xs.length c1)
            exact g2.off (i := 2) (blk_set (blk_set Rs6.out 0 _) 1 _) (by simp) (.slice A2 k3.length c2)
        · cases hb : (!decide (s4 = some []) || !goodRef ⟨ks, xs, k3⟩) with
          | true =>
            clear E14
            go_wp2
            refine bodyPost_ret (v := .tuple #[.agg #[.slice none 0 0, .slice none 0 0, .slice none 0 0], .bool false]) (by simp [results, Try.results15, go_sem, r0, r1, r2, f0, f1, f2]) rfl ⟨?_, .inr ⟨?_, rfl⟩⟩
            · exact (((M.out.bel.trans (HBB.out.mono M.out.bel.size)).trans ((kp_set _ _ 0 _).below (by have := M.out.bel.size; have := HBB.out.size; omega) (fun k hk => by omega))).trans ((kp_set _ _ 1 _).below (by have := M.out.bel.size; have := HBB.out.size; simp; omega) (fun k hk => by omega))).trans ((kp_set _ _ 2 _).below (by have := M.out.bel.size; have := HBB.out.size; simp; omega) (fun k hk => by omega))
            · rw [ET.out, if_neg hok]
          | false =>
            have hne : ¬ footBy ⟨ks, xs, k3⟩ = bs := fun e => hok (by
              simp only [Bool.or_eq_false_iff, Bool.not_eq_false'] at hb
              exact ⟨of_decide_eq_true hb.1, hb.2, e⟩)
            have e := E14.out hb
            rw [decide_eq_false hne] at e
            subst e
            clear E14 hne
            go_wp2
            refine bodyPost_ret (v := .tuple #[.agg #[.slice none 0 0, .slice none 0 0, .slice none 0 0], .bool false]) (by simp [results, Try.results15, go_sem, r0, r1, r2, f0, f1, f2]) rfl ⟨?_, .inr ⟨?_, rfl⟩⟩
            · exact (((M.out.bel.trans (HBB.out.mono M.out.bel.size)).trans ((kp_set _ _ 0 _).below (by have := M.out.bel.size; have := HBB.out.size; omega) (fun k hk => by omega))).trans ((kp_set _ _ 1 _).below (by have := M.out.bel.size; have := HBB.out.size; simp; omega) (fun k hk => by omega))).trans ((kp_set _ _ 2 _).below (by have := M.out.bel.size; have := HBB.out.size; simp; omega) (fun k hk => by omega))
            · rw [ET.out, if_neg hok]
end Go.Proofs.Ytgnikijaihmeeaa
