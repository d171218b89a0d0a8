/- The law RecordTurns, walked. -/
import Derived.Test.YtgnfccdhlpeknaaSwY
open Go Go.RowKit
namespace Go.Proofs.Ytgnfccdhlpeknaa
set_option maxRecDepth 100000
theorem own_get {w : World} {B : Nat} {e : TypeId} {A : Option Addr} {n c K : Nat} {xs : List Value} (h : w.ownsRow B e 1 (.slice A n c) n xs) (hK : K < n) :
    ∃ g cur, A = some ⟨g, 0, none⟩ ∧ B ≤ g ∧ w.heap[g]? = some (.cells cur e (0, 0)) ∧ cur[K]? = xs[K]? ∧ cur.toList.take n = xs ∧ n ≤ c ∧ cur.size = c := by
  rcases h.2 with ⟨hv, hn⟩ | ⟨g, cap, cur, hv, hb, hg, hnc, _, hcs, ht⟩
  · omega
  · simp only [Value.slice.injEq] at hv
    obtain ⟨rfl, _, rfl⟩ := hv
    simp only [Nat.mul_one] at ht hcs
    refine ⟨g, cur, rfl, hb, hg, ?_, ht, hnc, hcs⟩
    rw [← ht, List.getElem?_take, if_pos hK]
    simp
theorem xor8 {b : Nat} {y : Int} (hb : b < 256) (hy : 0 ≤ y ∧ y < 256) : bits .xor .u8 (b : Int) y = ((b ^^^ y.toNat : Nat) : Int) := by
  obtain ⟨y, rfl⟩ : ∃ n : Nat, y = n := ⟨y.toNat, by omega⟩
  have hx : b ^^^ y < 2 ^ 8 := Nat.xor_lt_two_pow (by omega) (by omega)
  have h1 : (BitVec.ofInt 8 (b : Int)).toNat = b := by
    rw [BitVec.ofInt_natCast, BitVec.toNat_ofNat]; exact Nat.mod_eq_of_lt (by omega)
  have h2 : (BitVec.ofInt 8 (y : Int)).toNat = y := by
    rw [BitVec.ofInt_natCast, BitVec.toNat_ofNat]; exact Nat.mod_eq_of_lt (by omega)
  show IntKind.u8.wrap ((BitVec.ofInt 8 (b : Int) ^^^ BitVec.ofInt 8 (y : Int)).toNat : Int) = _
  rw [BitVec.toNat_xor, h1, h2, Int.toNat_natCast]
  exact wraps_u8 _ (by omega) (by omega)
theorem rd_set {w : World} {g K v : Nat} {cur : Array Value} {e : TypeId} {bs : List Nat} (hg : w.heap[g]? = some (.cells cur e (0, 0))) (ht : cur.toList.take bs.length = bs.map bv) (hK : K < bs.length) :
    Rd (w.setCell ⟨g, K, none⟩ (.int .u8 (v : Int))) (some ⟨g, 0, none⟩) ((bs.set K v).map bv) := Rd.of_cells fun j u hu => by
  rw [Nat.zero_add, blk_cell (blk_set hg K _)]
  have hl : bs.length ≤ cur.size := by
    have := congrArg List.length ht
    simp at this
    omega
  rw [List.getElem?_map, List.getElem?_set] at hu
  by_cases hj : K = j
  · subst hj
    simp [hK] at hu
    subst hu
    simp [show K < cur.size by omega, bv]
  · rw [if_neg hj] at hu
    have hjl : j < bs.length := by
      rcases Nat.lt_or_ge j bs.length with h | h
      · exact h
      · simp [List.getElem?_eq_none h] at hu
    rw [Array.getElem?_setIfInBounds_ne hj]
    rw [← List.getElem?_map, ← ht, List.getElem?_take, if_pos hjl] at hu
    simpa using hu
set_option maxHeartbeats 4000000 in
theorem Turns_large (w : World) (q : Int) (v : Bool) (fu at_ by_ : Int) (Ac : Option Addr) (nc cc : Nat) (A0 : Option Addr) (n0 c0 : Nat) (A1 : Option Addr) (n1 c1 : Nat) (A2 : Option Addr) (n2 c2 : Nat) (Aw : Option Addr) (nw cw : Nat)
    (b1 : nc ≤ 9223372036854775807) (b2 : n0 ≤ 9223372036854775807) (b3 : n1 ≤ 9223372036854775807) (b4 : n2 ≤ 9223372036854775807) (b5 : nw ≤ 9223372036854775807) (hL : 60 < nc ∨ 40 < n0 ∨ 40 < n1 ∨ 40 < n2 ∨ 60 < nw) :
    Calls Try.prog 3 #[.agg #[.int .i64 q, .bool v, .int .i64 fu, .slice Ac nc cc, .slice A0 n0 c0, .slice A1 n1 c1, .slice A2 n2 c2, .slice Aw nw cw], .int .i64 at_, .int .u8 by_] w fun e w' => e = .returned (.bool true) ∧ Below w.heap.size w w' := by
  have HL := hid hL
  clear hL
  go_enter Try.func3, Try.ntmps3
  go_wp2_with fail
  refine (alive_any _).mono ?_
  rintro e w1 ⟨rfl, hb1⟩
  have rb := ext_blk hb1 (blk_new w _)
  have r0 := blk_cell rb 0
  have r1 := blk_cell rb 1
  have r2 := blk_cell rb 2
  have r3 := blk_cell rb 3
  have r4 := blk_cell rb 4
  have r5 := blk_cell rb 5
  have r6 := blk_cell rb 6
  have r7 := blk_cell rb 7
  simp at r0 r1 r2 r3 r4 r5 r6 r7
  have HB1 := hid hb1
  clear hb1 rb
  go_wp2_with fail
  refine (large_any w1 _ _ _ _ _ _ _ _ _ _ _ _ _ _ _ _ _ _ (by omega) (by omega) (by omega) (by omega) (by omega)).mono ?_
  rintro e w2 ⟨rfl, hb2⟩
  rw [decide_eq_true HL.out]
  have HB2 := hid hb2
  clear hb2
  go_wp2
  go_ret
  exact ⟨rfl, (ext_alloc w _).trans ((HB1.out.mono (by simp)).trans (HB2.out.mono (by have := HB1.out.size; simp at this; omega)))⟩
set_option maxHeartbeats 4000000 in
theorem Turns_any (w : World) (x : Rec) (at_ by_ : Int) (Ac : Option Addr) (nc cc : Nat) (A0 : Option Addr) (n0 c0 : Nat) (A1 : Option Addr) (n1 c1 : Nat) (A2 : Option Addr) (n2 c2 : Nat) (Aw : Option Addr) (nw cw : Nat)
    (h : RecRd w x Ac nc cc A0 n0 c0 A1 n1 c1 A2 n2 c2 Aw nw cw) (hft : FtOk x.ft) (hcd : ∀ y ∈ x.pg.code, CdOk y) (hws : ∀ y ∈ x.ws, inI y.k ∧ inI y.v)
    (ha : -9223372036854775808 ≤ at_ ∧ at_ ≤ 9223372036854775807) (hby : 0 ≤ by_ ∧ by_ < 256) :
    Calls Try.prog 3 #[.agg #[.int .i64 x.seq, .bool x.val, .int .i64 x.pg.fuel, .slice Ac nc cc, .slice A0 n0 c0, .slice A1 n1 c1, .slice A2 n2 c2, .slice Aw nw cw], .int .i64 at_, .int .u8 by_] w fun e w' => e = .returned (.bool true) ∧ Below w.heap.size w w' := by
  have H := hid h
  have b1 := h.p.b
  have b2 := h.f.b0
  have b3 := h.f.b1
  have b4 := h.f.b2
  have b5 := h.bn
  have Hft := hid hft
  have Hcd := hid hcd
  have Hws := hid hws
  have uB := Try.underlying34
  clear h hft hcd hws
  by_cases hL : 60 < nc ∨ 40 < n0 ∨ 40 < n1 ∨ 40 < n2 ∨ 60 < nw
  · exact Turns_large w _ _ _ _ _ _ _ _ _ _ _ _ _ _ _ _ _ _ _ _ (by omega) (by omega) (by omega) (by omega) (by omega) hL
  have HL := hid hL
  have hok : RecOk x := ⟨Hft.out, Hcd.out, Hws.out, by have e0 := H.out.f.e0; have e1 := H.out.f.e1; have e2 := H.out.f.e2; omega, by have := H.out.en; omega⟩
  have Hok := hid hok
  clear hok
  by_cases h0 : by_ = 0
  · have hb0 : (by_ == 0) = true := by simp [h0]
    have hL2 := hid hL
    clear hL h0
    go_enter Try.func3, Try.ntmps3
    go_wp2_with fail
    refine (alive_any _).mono ?_
    rintro e w1 ⟨rfl, hb1⟩
    have rb := ext_blk hb1 (blk_new w _)
    have r0 := blk_cell rb 0
    have r1 := blk_cell rb 1
    have r2 := blk_cell rb 2
    have r3 := blk_cell rb 3
    have r4 := blk_cell rb 4
    have r5 := blk_cell rb 5
    have r6 := blk_cell rb 6
    have r7 := blk_cell rb 7
    simp at r0 r1 r2 r3 r4 r5 r6 r7
    have HB1 := hid hb1
    clear hb1 rb
    go_wp2_with fail
    refine (large_any w1 _ _ _ _ _ _ _ _ _ _ _ _ _ _ _ _ _ _ (by omega) (by omega) (by omega) (by omega) (by omega)).mono ?_
    rintro e w2 ⟨rfl, hb2⟩
    rw [decide_eq_false HL.out]
    have HB2 := hid hb2
    clear hb2
    go_wp2
    go_ret
    exact ⟨rfl, (ext_alloc w _).trans ((HB1.out.mono (by simp)).trans (HB2.out.mono (by have := HB1.out.size; simp at this; omega)))⟩
  have hb0 : (by_ == 0) = false := by simp [h0]
  have H0 := hid h0
  have s1 : nc ≤ 1000000 := by omega
  have s2 : n0 ≤ 1000000 := by omega
  have s3 : n1 ≤ 1000000 := by omega
  have s4 : n2 ≤ 1000000 := by omega
  have s5 : nw ≤ 1000000 := by omega
  clear hL h0
  go_enter Try.func3, Try.ntmps3
  go_wp2_with fail
  refine (alive_any _).mono ?_
  rintro e w1 ⟨rfl, hb1⟩
  have RB1 := hid (ext_blk hb1 (blk_new w _))
  have r0 := blk_cell RB1.out 0
  have r1 := blk_cell RB1.out 1
  have r2 := blk_cell RB1.out 2
  have r3 := blk_cell RB1.out 3
  have r4 := blk_cell RB1.out 4
  have r5 := blk_cell RB1.out 5
  have r6 := blk_cell RB1.out 6
  have r7 := blk_cell RB1.out 7
  simp at r0 r1 r2 r3 r4 r5 r6 r7
  have E1 : Hid (Below w.heap.size w w1) := hid ((ext_alloc w _).trans (hb1.mono (by simp)))
  clear hb1
  go_wp2_with fail
  refine (large_any w1 _ _ _ _ _ _ _ _ _ _ _ _ _ _ _ _ _ _ (by omega) (by omega) (by omega) (by omega) (by omega)).mono ?_
  rintro e w2 ⟨rfl, hb2⟩
  rw [decide_eq_false HL.out]
  have RB2 := hid (ext_blk hb2 RB1.out)
  have E2 : Hid (Below w.heap.size w w2) := hid (E1.out.trans (hb2.mono E1.out.size))
  clear r0 r1 r2 r3 r4 r5 r6 r7 hb2 RB1 E1
  have r0 := blk_cell RB2.out 0
  have r1 := blk_cell RB2.out 1
  have r2 := blk_cell RB2.out 2
  have r3 := blk_cell RB2.out 3
  have r4 := blk_cell RB2.out 4
  have r5 := blk_cell RB2.out 5
  have r6 := blk_cell RB2.out 6
  have r7 := blk_cell RB2.out 7
  simp at r0 r1 r2 r3 r4 r5 r6 r7
  go_wp2_with fail
  refine (program_any w2 x Ac nc cc A0 n0 c0 A1 n1 c1 A2 n2 c2 Aw nw cw (H.out.ext E2.out) s1 s2 s3 s4 s5).mono ?_
  rintro e w3 ⟨Bc, mc, dc, B0, m0, d0, B1, m1, d1, B2, m2, d2, Bw, mw, dw, rfl, hr3, hb3, hf3⟩
  have Hr3 := hid hr3
  have E3 : Hid (Below w.heap.size w w3) := hid (E2.out.trans (hb3.mono E2.out.size))
  clear hr3 hb3 hf3 r0 r1 r2 r3 r4 r5 r6 r7 RB2 E2
  go_wp2_with fail
  refine (REncode_any w3 x Bc mc dc B0 m0 d0 B1 m1 d1 B2 m2 d2 Bw mw dw Hr3.out Hok.out).mono ?_
  rintro e w4 ⟨hb4, hE⟩
  have E4 : Hid (Below w.heap.size w w4) := hid (E3.out.trans (hb4.mono E3.out.size))
  rcases hE with ⟨hg, A', c', rfl, ho⟩ | ⟨hg, rfl⟩
  · have Hg := hid hg
    have Ho := hid (own_base ho (base' := w.heap.size) (fun k hk => Nat.le_trans E3.out.size (own_blk ho hk).1))
    have Hrd := hid (own_rd ho)
    have Hln : Hid ((encB x).length ≤ 1000000) := hid (encB_len Hg.out Hok.out (by have := H.out.f.e0; have := HL.out; omega) (by have := H.out.f.e1; have := HL.out; omega) (by have := H.out.f.e2; have := HL.out; omega) (by have := H.out.en; have := HL.out; omega))
    have Hps := hid (encB_pos x)
    clear hb4 ho hg
    have Hlt := hid (encB_lt x)
    have Htn := hid (turn_none x)
    generalize encB x = bs at *
    generalize hm : bs.length = m at *
    have Hm := hid hm
    have hm1 : 4 ≤ m := Hps.out
    have hm2 : m ≤ 1000000 := Hln.out
    have hm0 : ((m : Int) == 0) = false := by simp; omega
    clear hm
    have HO := hid (row_empty w4 5 1 w.heap.size E4.out.size)
    obtain ⟨K, hK, hKm⟩ : ∃ K : Nat, wrap64 ((IntKind.u64.wrap at_).tmod (m : Int)) = (K : Int) ∧ K < m := by
      have h1 : 0 ≤ IntKind.u64.wrap at_ := by rw [IntKind.wrap_u64]; omega
      have h2 : (IntKind.u64.wrap at_).tmod (m : Int) = IntKind.u64.wrap at_ % (m : Int) := Int.tmod_eq_emod_of_nonneg h1
      have h3 := Int.emod_nonneg (IntKind.u64.wrap at_) (show (m : Int) ≠ 0 by omega)
      have h4 := Int.emod_lt_of_pos (IntKind.u64.wrap at_) (show (0 : Int) < m by omega)
      refine ⟨(IntKind.u64.wrap at_ % (m : Int)).toNat, ?_, by omega⟩
      rw [h2]
      unfold wrap64
      omega
    obtain ⟨b, hbk⟩ : ∃ b, bs[K]? = some b := ⟨bs[K]'(by first | exact hKm | (rw [Hm.out]; exact hKm)), by simp [show K < bs.length by rw [Hm.out]; exact hKm]⟩
    have hb256 : b < 256 := Hlt.out b (List.mem_of_getElem? hbk)
    have hxb := xor8 (b := b) (y := by_) hb256 hby
    have hy256 : b ^^^ by_.toNat < 256 := Nat.xor_lt_two_pow (n := 8) (by omega) (by omega)
    have Hbk := hid hbk
    have Hd : Hid (decR (bs.set K (b ^^^ by_.toNat)) = none) := hid (by
      have h1 := Htn.out K by_.toNat (by first | exact hKm | (rw [Hm.out]; exact hKm)) (by omega) (by have := H0.out; omega)
      rw [show bs.getD K 0 = b by rw [List.getD_eq_getElem?_getD, Hbk.out]; rfl] at h1
      exact h1)
    have hKi : (K : Int) < (m : Int) := by omega
    clear hbk Htn
    go_wp2_with (at_builtin; refine wl_ap0 rfl rfl w.heap.size w4.heap.size 5 uB info_u8 rfl (by decide) rfl HO.out A' m c' (bs.map bv) rfl ?hl (Hrd.out.ext (ext_alloc _ _)) (bv_one _) ?h6 ?hb ?hB ?_; rotate_left 4; intro A5 c5 w5 hnc5 hcm5 hown hbl; obtain ⟨g, cur, hA5, hgB, hgb, hgk, hgt, hgc, hgs⟩ := own_get hown hKm; subst hA5; have hck := blk_cell hgb K; have hfk := blk_free hgb K; rw [hgk, List.getElem?_map, Hbk.out] at hck; simp [bv] at hck; have HGB := hid hgb; have HGT := hid hgt; have HGS := hid hgs; have HGE := hid hgB; have HOW := hid hown; have E5 := hid (E4.out.trans (((ext_alloc w4 _).trans (hbl.mono (by simp))).mono E4.out.size)); clear hgb hgt hgs hgk hgB hown hbl; rotate_right 4)
    case hl => simp [Hm.out]
    case h6 => unfold maxLen; omega
    case hb => omega
    case hB => simp; have := E4.out.size; omega
    refine (RDecode_any _ (some ⟨g, 0, none⟩) m c5 (bs.set K (b ^^^ by_.toNat)) (by rw [List.length_set, Hm.out]) (rd_set HGB.out (by first | exact HGT.out | (rw [Hm.out]; exact HGT.out)) (by first | exact hKm | (rw [Hm.out]; exact hKm))) (fun h => by cases h) (by omega) hnc5 hcm5 (fun y hy => ?hy)).mono ?_
    case hy =>
      rcases List.mem_or_eq_of_mem_set hy with h | rfl
      · exact Hlt.out y h
      · exact hy256
    rintro e w6 ⟨hb6, h6⟩
    rcases h6 with ⟨z, _, _, _, _, _, _, _, _, _, _, _, _, _, _, _, hz, _⟩ | ⟨_, rfl⟩
    · rw [Hd.out] at hz
      cases hz
    have HB6 := hid hb6
    clear hb6 hck hfk hxb hK
    have he9 := Is_errno w6 9 (by decide) (by omega) (by omega)
    unfold errno at he9 ⊢
    have HE9 := hid he9
    clear he9
    go_wp2_with fail
    refine HE9.out.mono ?_
    rintro e w' ⟨rfl, rfl⟩
    go_wp2
    go_ret
    refine ⟨rfl, E5.out.trans (((kp_set _ _ _ _).below E5.out.size (fun k hk => ?_)).trans (HB6.out.mono ?_))⟩
    · have := HGE.out
      omega
    · have := E5.out.size
      simpa [World.setCell] using this
  · unfold errno
    clear hb4
    go_wp2
    go_ret
    exact ⟨rfl, E4.out⟩
end Go.Proofs.Ytgnfccdhlpeknaa
