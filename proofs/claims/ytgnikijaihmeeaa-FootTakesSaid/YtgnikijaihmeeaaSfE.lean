/- The document's bytes of keys. -/
import Derived.Test.YtgnikijaihmeeaaSfB
import Derived.Test.YtgnikijaihmeeaaSfA
open Go Go.RowKit
namespace Go.Proofs.Ytgnikijaihmeeaa
set_option linter.unusedVariables false
set_option linter.unusedSimpArgs false
set_option maxRecDepth 100000
/-- appending what a call of its own has made -/
theorem own_below {w w1 w2 : World} {base n c m k : Nat} {A : Option Addr} {e : TypeId} {xs : List Value} (hb : Below base w w1) (hk : Kp (fun k => (Value.slice A n c).ownBlock ≠ some k) w1 w2) (h : w1.ownsRow base e k (.slice A n c) m xs) (hs : base ≤ w.heap.size) : Below base w w2 :=
  hb.trans (hk.below (Nat.le_trans hs hb.size) (fun k hk e => by have := (own_blk h e).1; omega))
set_option maxHeartbeats 2000000 in
theorem Rkeys10_any (w : World) (A : Option Addr) (n c : Nat) (l : List Ky) (hn : n = l.length) (hr : Rd w A (l.flatMap kyC)) (hl : kyOk l) (hz : n ≤ 1000000) :
    Calls Try.prog 34 #[.slice A n c] w (ClonePost w ((keysB l).map bv) (keysB l).length) := by
  have hu := Try.underlying29
  have Hn := hid hn
  have Hr := hid hr
  have Hl := hid hl
  clear hn hr hl
  go_enter Try.func34, Try.ntmps34
  go_wp2_with fail
  refine (RCount_any w n (by omega)).mono ?_
  rintro e w1 ⟨A1, c1, rfl, ho1, h2, h3, h4, hb1⟩
  have Ho1 := hid ho1
  have Hb1 := hid hb1
  clear ho1 hb1 h2 h3 h4
  go_wp2
  go_loopw [3, 4] (fun v3 v4 wr => ∃ (k : Nat) (A' : Option Addr) (c' : Nat) (ds : List Nat), v4 = .int .i64 k ∧ k ≤ n ∧ v3 = .slice A' ds.length c' ∧ Hid (ds = cntB n ++ (l.take k).flatMap kyB) ∧ Hid (wr.ownsRow w.heap.size 5 1 (.slice A' ds.length c') ds.length (ds.map bv)) ∧ Hid (Below w.heap.size w wr)) (fun _ v4 _ => n - (intOf v4).toNat)
  case atStart => exact ⟨0, A1, c1, cntB n, rfl, Nat.zero_le _, rfl, hid (by simp), Ho1, Hb1⟩
  case round =>
    obtain ⟨k, A', c', ds, rfl, hk, rfl, Hd, Ho, Hb⟩ := hrel
    have Hsz : Hid (ds.length + 40 ≤ 140737488355328) := hid (by
      have h1 := cntB_len64 (n := n) (by omega)
      have h2 := flat_len kyB 20 (l.take k) (fun x hx => kyB_len ((Hl.out.take k) x hx).1 ((Hl.out.take k) x hx).2)
      have h3 : (l.take k).length ≤ k := List.length_take_le _ _
      rw [Hd.out, List.length_append]
      omega)
    have Hs0 : Hid (w.heap.size ≤ wr.heap.size) := hid Hb.out.size
    by_cases hlt : k < n
    · have hkx : k < l.length := by rw [← Hn.out]; exact hlt
      obtain ⟨b, o, rfl, hz1, hz2⟩ := Hr.out.addr (by rw [fm_len (s := 2) (fun _ => rfl)]; omega)
      clear hz1 hz2
      have hx := List.getElem?_eq_getElem hkx
      have hok := Hl.out l[k] (List.getElem_mem hkx)
      have Hfs := hid (flat_snoc kyB l k l[k] hx)
      generalize l[k] = X at hx hok Hfs
      obtain ⟨t, kk⟩ := X
      obtain ⟨⟨ht0, ht4⟩, hki⟩ := hok
      simp only at ht0 ht4 hki
      obtain ⟨tn, rfl⟩ := Int.eq_ofNat_of_zero_le ht0
      have htn : tn < 4 := by omega
      have Hki := hid hki
      obtain ⟨g0, g1⟩ := (Hr.out.ext Hb.out).ky hx
      simp only at g0 g1
      have HK : Hid (kyB ⟨(tn : Int), kk⟩ = cntB tn ++ numB kk) := hid (by simp [kyB])
      have hL1 := Nat.le_of_lt_succ (Nat.lt_succ_of_le (cntB_len64 (n := tn) (by omega)))
      have hL2 := cntB_len64 (n := zig kk) (zig_lt hki.1 hki.2)
      have HL1 : Hid ((cntB tn).length ≤ 10) := hid hL1
      have HL2 : Hid ((numB kk).length ≤ 10) := hid hL2
      have Hx := hid hx
      clear hx hkx ht0 ht4 hki hL1 hL2 g1
      go_wp2_with fail
      refine (RCount_any wr tn (by omega)).mono ?_
      rintro e w2 ⟨A2, c2, rfl, ho2, _, _, _, hb2⟩
      have R2 := hid (own_rd ho2)
      have O2 := hid (own_ext Ho.out hb2)
      have E2 : Hid (Below w.heap.size w w2) := hid (Hb.out.trans (hb2.mono Hb.out.size))
      clear ho2 hb2 g0
      generalize hc1 : cntB tn = t1 at *
      have Hc1 := hid hc1
      clear hc1
      go_wp2_with (at_builtin; refine wl_ap rfl rfl w.heap.size 5 hu info_u8 rfl (by decide) (.slice A' ds.length c') ds.length (ds.map bv) rfl O2.out A2 t1.length c2 (t1.map bv) rfl (by simp) R2.out (bv_one _) (by have := Hsz.out; have := HL1.out; unfold maxLen; omega) (by have := Hsz.out; have := HL1.out; omega) E2.out.size ?_; intro A3 c3 w3 _ _ hown hkp hhop; have O3 := hid hown; have E3 := hid (own_below E2.out hkp O2.out (Nat.le_refl _)); have g1 := ((Hr.out.ext E3.out).ky Hx.out).2; simp only at g1; clear hown hkp hhop)
      refine (RNum_any w3 kk Hki.out).mono ?_
      rintro e w4 ⟨A4, c4, rfl, ho4, _, _, _, hb4⟩
      have R4 := hid (own_rd ho4)
      have O4 := hid (own_ext O3.out hb4)
      have E4 : Hid (Below w.heap.size w w4) := hid (E3.out.trans (hb4.mono E3.out.size))
      clear ho4 hb4 g1
      generalize hc2 : numB kk = t2 at *
      have Hc2 := hid hc2
      clear hc2
      go_wp2_with (at_builtin; refine wl_ap rfl rfl w.heap.size 5 hu info_u8 rfl (by decide) (.slice A3 (ds.length + t1.length) c3) (ds.length + t1.length) (ds.map bv ++ t1.map bv) rfl O4.out A4 t2.length c4 (t2.map bv) rfl (by simp) R4.out (bv_one _) (by have := Hsz.out; have := HL1.out; have := HL2.out; unfold maxLen; omega) (by have := Hsz.out; have := HL1.out; have := HL2.out; omega) E4.out.size ?_; intro A5 c5 w5 _ _ hown hkp hhop; have O5 := hid hown; have E5 := hid (own_below E4.out hkp O4.out (Nat.le_refl _)); clear hown hkp hhop)
      go_roundw
      case measure => simp [intOf]; omega
      case rel =>
        refine ⟨k + 1, A5, c5, ds ++ (t1 ++ t2), by go_num, by omega, by simp; omega, hid ?_, hid ?_, E5⟩
        · rw [Hd.out, Hfs.out, HK.out, List.append_assoc]
        · have := O5.out
          simpa [Nat.add_assoc] using this
    · have hk' : k = n := by omega
      subst hk'
      go_wp2
      go_ret
      obtain ⟨A3, c3, e3, h1, h2, _, h3⟩ := own_form Ho.out
      simp only [Value.slice.injEq] at e3
      obtain ⟨rfl, _, rfl⟩ := e3
      have e : ds = keysB l := by rw [Hd.out, List.take_of_length_le (by rw [← Hn.out]; exact Nat.le_refl _), Hn.out]; rfl
      rw [← e]
      exact ⟨A', c', rfl, Ho.out, h1, h2, h3, Hb.out⟩
end Go.Proofs.Ytgnikijaihmeeaa
