/- The document's bytes of a foot. -/
import Derived.Test.YtgnikijaihmeeaaSfE
import Derived.Test.YtgnikijaihmeeaaSwFd
open Go Go.RowKit
namespace Go.Proofs.Ytgnikijaihmeeaa
set_option linter.unusedVariables false
set_option linter.unusedSimpArgs false
set_option maxRecDepth 100000
theorem own_noblk {w : World} {base n c m k b : Nat} {A : Option Addr} {e t : TypeId} {xs : List Value} {cs : Array Value} {fz : Nat × Nat} (h : w.ownsRow base e k (.slice A n c) m xs) (hb : w.heap[b]? = some (.cells cs t fz)) (hne : e ≠ t) : (Value.slice A n c).ownBlock ≠ some b := fun e' => by
  obtain ⟨_, cur, h2⟩ := own_blk h e'
  exact blk_ty_ne h2 hb hne rfl
set_option maxHeartbeats 4000000 in
theorem Rput10_any (w : World) (f : Ft) (A0 : Option Addr) (n0 c0 : Nat) (A1 : Option Addr) (n1 c1 : Nat) (A2 : Option Addr) (n2 c2 : Nat) (hf : FtRd w f A0 n0 c0 A1 n1 c1 A2 n2 c2) (h0 : kyOk f.r) (h1 : spOk f.s) (h2 : kyOk f.w) (z0 : n0 ≤ 1000000) (z1 : n1 ≤ 1000000) (z2 : n2 ≤ 1000000) :
    Calls Try.prog 13 #[.agg #[.slice A0 n0 c0, .slice A1 n1 c1, .slice A2 n2 c2]] w (ClonePost w ((footBy f).map bv) (footBy f).length) := by
  have hu := Try.underlying29
  have Hf := hid hf
  have H0 := hid h0
  have H1 := hid h1
  have H2 := hid h2
  have Hn := hid hf.e1
  have Hr := hid hf.r1
  have HkL := hid (keysB_len h0 (by have := hf.e0; omega))
  clear hf h0 h1 h2
  go_enter Try.func13, Try.ntmps13
  go_wp2_with fail
  refine (Rkeys10_any (w.alloc (.cells #[.slice A0 n0 c0, .slice A1 n1 c1, .slice A2 n2 c2] 25)) A0 n0 c0 f.r Hf.out.e0 (Hf.out.r0.ext (ext_alloc _ _)) H0.out z0).mono ?_
  rintro e w1 ⟨B1, d1, rfl, ho1, _, _, _, hb1⟩
  have O1 := hid (own_base ho1 (base' := w.heap.size) (fun k hk => by have := (own_blk ho1 hk).1; simp at this; omega))
  have E1 : Hid (Below w.heap.size w w1) := hid ((ext_alloc _ _).trans (hb1.mono (by simp)))
  have HB1 := hid (ext_blk hb1 (blk_new w (.cells #[.slice A0 n0 c0, .slice A1 n1 c1, .slice A2 n2 c2] 25)))
  have q1 := blk_cell HB1.out 1
  simp at q1
  clear ho1 hb1
  have Hk0 : Hid ((keysB f.r).length ≤ 10 + 20 * n0) := hid (by have := HkL.out; have := Hf.out.e0; omega)
  generalize hk0 : keysB f.r = K0 at *
  have HK0 := hid hk0
  clear hk0
  go_wp2_with fail
  refine (RCount_any w1 n1 (by omega)).mono ?_
  rintro e w2 ⟨B2, d2, rfl, ho2, _, _, _, hb2⟩
  have R2 := hid (own_rd ho2)
  have O2 := hid (own_ext O1.out hb2)
  have E2 : Hid (Below w.heap.size w w2) := hid (E1.out.trans (hb2.mono E1.out.size))
  have HB2 := hid (ext_blk hb2 HB1.out)
  clear ho2 hb2 q1
  have HcL := hid (cntB_len64 (n := n1) (by omega))
  generalize hcn : cntB n1 = CN at *
  have Hcn := hid hcn
  clear hcn
  go_wp2_with (at_builtin; refine wl_ap rfl rfl w.heap.size 5 hu info_u8 rfl (by decide) (.slice B1 K0.length d1) K0.length (K0.map bv) rfl O2.out B2 CN.length d2 (CN.map bv) rfl (by simp) R2.out (bv_one _) (by have := Hk0.out; have := HcL.out; unfold maxLen; omega) (by have := Hk0.out; have := HcL.out; omega) E2.out.size ?_; intro B3 d3 w3 _ _ hown hkp hhop; have O3 := hid hown; have E3 := hid (own_below E2.out hkp O2.out (Nat.le_refl _)); have HB3 := hid (hkp.blk HB2.out (own_noblk O2.out HB2.out (by decide))); clear hown hkp hhop)
  go_loopw [3, 4] (fun v3 v4 wr => ∃ (k : Nat) (A' : Option Addr) (c' : Nat) (ds : List Nat), v4 = .int .i64 k ∧ k ≤ n1 ∧ v3 = .slice A' ds.length c' ∧ Hid (ds = K0 ++ (CN ++ (f.s.take k).flatMap spB)) ∧ Hid (wr.ownsRow w.heap.size 5 1 (.slice A' ds.length c') ds.length (ds.map bv)) ∧ Hid (Below w.heap.size w wr) ∧ Hid (wr.heap[w.heap.size]? = some (.cells #[.slice A0 n0 c0, .slice A1 n1 c1, .slice A2 n2 c2] 25 (0, 0)))) (fun _ v4 _ => n1 - (intOf v4).toNat)
  case atStart => exact ⟨0, B3, d3, K0 ++ CN, rfl, Nat.zero_le _, by simp, hid (by simp), hid (by simpa using O3.out), E3, HB3⟩
  case round =>
    clear O1 O2 O3 E1 E2 E3 HB1 HB2 HB3 R2
    obtain ⟨k, A', c', ds, rfl, hk, rfl, Hd, Ho, Hb, HB⟩ := hrel
    have q1 := blk_cell HB.out 1
    have q2 := blk_cell HB.out 2
    simp at q1 q2
    have hwl : w.heap.size < wr.heap.size := heap_lt HB.out
    have Hsz : Hid (ds.length ≤ 100000000) := hid (by
      have h2 := flat_len spB 30 (f.s.take k) (fun x hx => by have := H1.out x (List.mem_of_mem_take hx); exact spB_len this.1 this.2)
      have h3 : (f.s.take k).length ≤ k := List.length_take_le _ _
      have := Hk0.out
      have := HcL.out
      rw [Hd.out, List.length_append, List.length_append]
      omega)
    by_cases hlt : k < n1
    · have hkx : k < f.s.length := by rw [← Hn.out]; exact hlt
      obtain ⟨b, o, rfl, hz1, hz2⟩ := Hr.out.addr (by rw [fm_len (s := 3) (fun _ => rfl)]; omega)
      have hbl : b < wr.heap.size := Nat.lt_of_lt_of_le hz1 Hb.out.size
      clear hz1 hz2
      have hx := List.getElem?_eq_getElem hkx
      have hok := H1.out f.s[k] (List.getElem_mem hkx)
      have Hfs := hid (flat_snoc spB f.s k f.s[k] hx)
      generalize f.s[k] = X at hx hok Hfs
      obtain ⟨t, lo, hi⟩ := X
      obtain ⟨⟨ht0, ht4⟩, hlo, hhi⟩ := hok
      simp only at ht0 ht4 hlo hhi
      obtain ⟨tn, rfl⟩ := Int.eq_ofNat_of_zero_le ht0
      have htn : tn < 4 := by omega
      have Hlo := hid hlo
      have Hhi := hid hhi
      obtain ⟨g0, g1, g2⟩ := (Hr.out.ext Hb.out).sp hx
      simp only at g0 g1 g2
      have HK : Hid (spB ⟨(tn : Int), lo, hi⟩ = cntB tn ++ (numB lo ++ numB hi)) := hid (by simp [spB])
      have HL1 : Hid ((cntB tn).length ≤ 10) := hid (cntB_len64 (n := tn) (by omega))
      have HL2 : Hid ((numB lo).length ≤ 10) := hid (cntB_len64 (n := zig lo) (zig_lt hlo.1 hlo.2))
      have HL3 : Hid ((numB hi).length ≤ 10) := hid (cntB_len64 (n := zig hi) (zig_lt hhi.1 hhi.2))
      have BX := hid (blk_new wr (.cells #[.int .i64 (tn : Int), .int .i64 lo, .int .i64 hi] 46))
      have HBx := hid (blk_alloc HB.out (.cells #[.int .i64 (tn : Int), .int .i64 lo, .int .i64 hi] 46))
      have EX : Hid (Below w.heap.size w (wr.alloc (.cells #[.int .i64 (tn : Int), .int .i64 lo, .int .i64 hi] 46))) := hid (Hb.out.trans ((ext_alloc _ _).mono Hb.out.size))
      have OX := hid (own_ext Ho.out (ext_alloc wr (.cells #[.int .i64 (tn : Int), .int .i64 lo, .int .i64 hi] 46)))
      clear hx hkx ht0 ht4 hlo hhi
      go_wp2_with fail
      refine (RCount_any _ tn (by omega)).mono ?_
      rintro e w11 ⟨F1, f1, rfl, ho1, _, _, _, hb1⟩
      have R1 := hid (own_rd ho1)
      have OA1 := hid (own_ext OX.out hb1)
      have EA1 : Hid (Below w.heap.size w w11) := hid (EX.out.trans (hb1.mono EX.out.size))
      have BA1 := hid (ext_blk hb1 BX.out)
      have HA1 := hid (ext_blk hb1 HBx.out)
      clear ho1 hb1
      generalize hc1 : cntB tn = t1 at *
      have Hc1 := hid hc1
      clear hc1
      go_wp2_with (at_builtin; refine wl_ap rfl rfl w.heap.size 5 hu info_u8 rfl (by decide) (.slice A' (ds.length) c') (ds.length) (ds.map bv) rfl OA1.out F1 t1.length f1 (t1.map bv) rfl (by simp) R1.out (bv_one _) (by have := Hsz.out; have := HL1.out; unfold maxLen; omega) (by have := Hsz.out; have := HL1.out; omega) EA1.out.size ?_; intro A1' c1' w12 _ _ hown hkp hhop; have OB1 := hid hown; have EB1 := hid (own_below EA1.out hkp OA1.out (Nat.le_refl _)); have BB1 := hid (hkp.blk BA1.out (own_noblk OA1.out BA1.out (by decide))); have HH1 := hid (hkp.blk HA1.out (own_noblk OA1.out HA1.out (by decide))); have z1 := blk_cell BB1.out 1; simp at z1; clear hown hkp hhop)
      refine (RNum_any _ lo Hlo.out).mono ?_
      rintro e w21 ⟨F2, f2, rfl, ho2, _, _, _, hb2⟩
      have R2 := hid (own_rd ho2)
      have OA2 := hid (own_ext OB1.out hb2)
      have EA2 : Hid (Below w.heap.size w w21) := hid (EB1.out.trans (hb2.mono EB1.out.size))
      have BA2 := hid (ext_blk hb2 BB1.out)
      have HA2 := hid (ext_blk hb2 HH1.out)
      clear ho2 hb2
      generalize hc2 : numB lo = t2 at *
      have Hc2 := hid hc2
      clear hc2
      go_wp2_with (at_builtin; refine wl_ap rfl rfl w.heap.size 5 hu info_u8 rfl (by decide) (.slice A1' (ds.length + t1.length) c1') (ds.length + t1.length) (ds.map bv ++ t1.map bv) rfl OA2.out F2 t2.length f2 (t2.map bv) rfl (by simp) R2.out (bv_one _) (by have := Hsz.out; have := HL1.out; have := HL2.out; unfold maxLen; omega) (by have := Hsz.out; have := HL1.out; have := HL2.out; omega) EA2.out.size ?_; intro A2' c2' w22 _ _ hown hkp hhop; have OB2 := hid hown; have EB2 := hid (own_below EA2.out hkp OA2.out (Nat.le_refl _)); have BB2 := hid (hkp.blk BA2.out (own_noblk OA2.out BA2.out (by decide))); have HH2 := hid (hkp.blk HA2.out (own_noblk OA2.out HA2.out (by decide))); have z2 := blk_cell BB2.out 2; simp at z2; clear hown hkp hhop)
      refine (RNum_any _ hi Hhi.out).mono ?_
      rintro e w31 ⟨F3, f3, rfl, ho3, _, _, _, hb3⟩
      have R3 := hid (own_rd ho3)
      have OA3 := hid (own_ext OB2.out hb3)
      have EA3 : Hid (Below w.heap.size w w31) := hid (EB2.out.trans (hb3.mono EB2.out.size))
      have BA3 := hid (ext_blk hb3 BB2.out)
      have HA3 := hid (ext_blk hb3 HH2.out)
      clear ho3 hb3
      generalize hc3 : numB hi = t3 at *
      have Hc3 := hid hc3
      clear hc3
      go_wp2_with (at_builtin; refine wl_ap rfl rfl w.heap.size 5 hu info_u8 rfl (by decide) (.slice A2' (ds.length + t1.length + t2.length) c2') (ds.length + t1.length + t2.length) (ds.map bv ++ t1.map bv ++ t2.map bv) rfl OA3.out F3 t3.length f3 (t3.map bv) rfl (by simp) R3.out (bv_one _) (by have := Hsz.out; have := HL1.out; have := HL2.out; have := HL3.out; unfold maxLen; omega) (by have := Hsz.out; have := HL1.out; have := HL2.out; have := HL3.out; omega) EA3.out.size ?_; intro A3' c3' w32 _ _ hown hkp hhop; have OB3 := hid hown; have EB3 := hid (own_below EA3.out hkp OA3.out (Nat.le_refl _)); have BB3 := hid (hkp.blk BA3.out (own_noblk OA3.out BA3.out (by decide))); have HH3 := hid (hkp.blk HA3.out (own_noblk OA3.out HA3.out (by decide))); have z3 := blk_cell BB3.out 2; simp at z3; clear hown hkp hhop)
      go_roundw
      case measure => simp [intOf]; omega
      case rel =>
        refine ⟨k + 1, A3', c3', ds ++ (t1 ++ (t2 ++ t3)), by go_num, by omega, by simp; omega, hid ?_, hid ?_, EB3, HH3⟩
        · rw [Hd.out, Hfs.out, HK.out]
          simp
        · have := OB3.out
          simpa [Nat.add_assoc] using this
    · have hk' : k = n1 := by omega
      subst hk'
      go_wp2_with fail
      refine (Rkeys10_any wr A2 n2 c2 f.w Hf.out.e2 (Hf.out.r2.ext Hb.out) H2.out z2).mono ?_
      rintro e w4 ⟨B4, d4, rfl, ho4, _, _, _, hb4⟩
      have R4 := hid (own_rd ho4)
      have O4 := hid (own_ext Ho.out hb4)
      have E4 : Hid (Below w.heap.size w w4) := hid (Hb.out.trans (hb4.mono Hb.out.size))
      have HL4 := hid (keysB_len H2.out (by have := Hf.out.e2; omega))
      have He2 := hid Hf.out.e2
      have EQ : Hid (footBy f = ds ++ keysB f.w) := hid (by rw [Hd.out, List.take_of_length_le (by rw [← Hn.out]; exact Nat.le_refl _)]; unfold footBy; rw [HK0.out, ← Hn.out, Hcn.out]; simp)
      clear ho4 hb4
      generalize keysB f.w = K4 at *
      go_wp2_with (at_builtin; refine wl_ap rfl rfl w.heap.size 5 hu info_u8 rfl (by decide) (.slice A' ds.length c') ds.length (ds.map bv) rfl O4.out B4 K4.length d4 (K4.map bv) rfl (by simp) R4.out (bv_one _) (by have := Hsz.out; have := HL4.out; have := He2.out; unfold maxLen; omega) (by have := Hsz.out; have := HL4.out; have := He2.out; omega) E4.out.size ?_; intro B5 d5 w5 hnc hcm hown hkp hhop; have O5 := hid hown; have E5 := hid (own_below E4.out hkp O4.out (Nat.le_refl _)); clear hown hkp hhop)
      go_ret
      obtain ⟨A9, c9, e9, _, _, _, h9⟩ := own_form O5.out
      simp only [Value.slice.injEq] at e9
      obtain ⟨rfl, _, rfl⟩ := e9
      have EL : (footBy f).length = ds.length + K4.length := by rw [EQ.out, List.length_append]
      have EM : (footBy f).map bv = ds.map bv ++ K4.map bv := by rw [EQ.out, List.map_append]
      exact ⟨B5, d5, by rw [EL]; rfl, by rw [EL, EM]; exact O5.out, by rw [EL]; exact hnc, hcm, by rw [EL]; exact h9, E5.out⟩
end Go.Proofs.Ytgnikijaihmeeaa
