/- The document's wire layer, written: Count, Num. -/
import Derived.Test.YtgnikijaihmeeaaSwWb
open Go Go.RowKit
namespace Go.Proofs.Ytgnikijaihmeeaa
set_option linter.unusedVariables false
set_option linter.unusedSimpArgs false
set_option maxRecDepth 100000
theorem cnt_byte {m : Nat} : IntKind.u8.wrap ((m : Int) % 128 + 128) = ((m % 128 + 128 : Nat) : Int) := by
  rw [IntKind.wrap_u8]
  omega
set_option maxHeartbeats 1000000 in
theorem RCount_any (w : World) (n : Nat) (hn : n < 18446744073709551616) :
    Calls Try.prog 35 #[.int .u64 n] w (ClonePost w ((cntB n).map bv) (cntB n).length) := by
  have hu := Try.underlying29
  have Hn := hid hn
  clear hn
  go_enter Try.func35, Try.ntmps35
  go_wp2
  go_loopw [0, 3] (fun v0 v3 wr => ∃ (m : Nat) (A : Option Addr) (c : Nat) (ds : List Nat), v0 = .int .u64 m ∧ v3 = .slice A ds.length c ∧ Hid (m < 18446744073709551616) ∧ Hid (wr.ownsRow w.heap.size 5 1 (.slice A ds.length c) ds.length (ds.map bv)) ∧ Hid (ds ++ cntB m = cntB n) ∧ Hid (Below w.heap.size w wr)) (fun v0 _ _ => (intOf v0).toNat)
  case atStart => exact ⟨n, none, 0, [], rfl, rfl, Hn, hid (World.ownsRow_nil _ _ _ _), hid rfl, hid (Below.refl _ _)⟩
  case round =>
    obtain ⟨m, A, c, ds, rfl, rfl, Hm, Ho, Hd, Hb⟩ := hrel
    have Hlen : Hid (ds.length + 10 ≤ 140737488355328) := hid (by
      have h1 := congrArg List.length Hd.out
      have h2 := cntB_len64 Hn.out
      simp at h1
      omega)
    have Hsz := hid Hb.out.size
    by_cases h : 128 ≤ m
    · go_wp2_with (at_builtin; refine wl_ap rfl rfl w.heap.size 5 hu info_u8 rfl (by decide) (.slice A ds.length c) ds.length (ds.map bv) rfl (own_ext Ho.out (ext_alloc _ _)) (some ⟨wr.heap.size, 0, none⟩) 1 1 [.int .u8 ((m : Int) % 128 + 128)] rfl rfl (rd_new wr [.int .u8 ((m : Int) % 128 + 128)] 5) (fun u hu => by simp at hu; subst hu; rfl) (by have := Hlen.out; unfold maxLen; omega) (by have := Hlen.out; omega) (by have := Hsz.out; simp; omega) ?_; intro A2 c2 w2 _ _ hown hkp hhop; have Hown2 := hid hown; have Hkp2 := hid hkp; clear hown hkp hhop)
      go_roundw
      case measure => simp only [intOf, IntKind.wrap_u64]; have := Hm.out; omega
      case rel =>
        refine ⟨m / 128, A2, c2, ds ++ [m % 128 + 128], (by have e : IntKind.u64.wrap ((m : Int) / 128) = ((m / 128 : Nat) : Int) := (by rw [IntKind.wrap_u64]; have := Hm.out; omega); rw [e]), by simp, hid (by have := Hm.out; omega), hid ?_, hid ?_, hid (Hb.out.trans ((ext_alloc wr _).mono Hb.out.size |>.trans (Hkp2.out.below (by have := Hsz.out; simp; omega) (fun k hk e => by have := (own_blk Ho.out e).1; omega))))⟩
        · have e : (ds ++ [m % 128 + 128]).map bv = ds.map bv ++ [.int .u8 ((m : Int) % 128 + 128)] := by simp [bv]
          rw [e]
          simpa using Hown2.out
        · rw [← Hd.out, cntB_big h]
          simp
    · have hb8 : (m : Int) % 256 = m := by omega
      go_wp2_with (at_builtin; refine wl_ap rfl rfl w.heap.size 5 hu info_u8 rfl (by decide) (.slice A ds.length c) ds.length (ds.map bv) rfl (own_ext Ho.out (ext_alloc _ _)) (some ⟨wr.heap.size, 0, none⟩) 1 1 [.int .u8 (m : Int)] rfl rfl (rd_new wr [.int .u8 (m : Int)] 5) (fun u hu => by simp at hu; subst hu; rfl) (by have := Hlen.out; unfold maxLen; omega) (by have := Hlen.out; omega) (by have := Hsz.out; simp; omega) ?_; intro A2 c2 w2 hnc hcm hown hkp hhop; have Hown2 := hid hown; have Hkp2 := hid hkp; clear hown hkp hhop)
      go_ret
      have hl : ds.length + 1 = (cntB n).length := by rw [← Hd.out, cntB_small (by omega)]; simp
      have e : (cntB n).map bv = ds.map bv ++ [.int .u8 (m : Int)] := by rw [← Hd.out, cntB_small (by omega)]; simp [bv]
      refine ⟨A2, c2, by rw [hl]; rfl, by rw [e, ← hl]; exact Hown2.out, by omega, hcm, fun hA => ?_, Hb.out.trans ((ext_alloc wr _).mono Hb.out.size |>.trans (Hkp2.out.below (by have := Hsz.out; simp; omega) (fun k hk e => by have := (own_blk Ho.out e).1; omega)))⟩
      obtain ⟨A3, c3, e3, _, _, _, h3⟩ := own_form Hown2.out
      simp only [Value.slice.injEq] at e3
      obtain ⟨rfl, _, rfl⟩ := e3
      have := (h3 hA).1
      omega
def foldedN (n : Int) : Nat := zig n
theorem Folded_any (w : World) (n : Int) (h0 : -9223372036854775808 ≤ n) (h1 : n ≤ 9223372036854775807) : Calls Try.prog 52 #[.int .i64 n] w fun e w' => e = .returned (.int .u64 (zig n : Nat)) ∧ w = w' := by
  by_cases h : n < 0
  · go_enter Try.func52, Try.ntmps52
    go_wp2
    go_ret
    exact ⟨ret_int (by unfold zig; rw [if_pos (by omega)]; first | omega | (simp only [IntKind.wrap_u64, wrap64]; omega)), rfl⟩
  · go_enter Try.func52, Try.ntmps52
    go_wp2
    go_ret
    exact ⟨ret_int (by unfold zig; rw [if_neg (by omega)]; first | omega | (simp only [IntKind.wrap_u64, wrap64]; omega)), rfl⟩
theorem RNum_any (w : World) (n : Int) (hi : -9223372036854775808 ≤ n ∧ n ≤ 9223372036854775807) : Calls Try.prog 36 #[.int .i64 n] w (ClonePost w ((numB n).map bv) (numB n).length) := by
  have H1 := hid (Folded_any w n hi.1 hi.2)
  have H2 := hid (RCount_any w (zig n) (zig_lt hi.1 hi.2))
  have E : Hid (numB n = cntB (zig n)) := rfl
  rw [E.out]
  clear hi
  generalize zig n = z at *
  go_enter Try.func36, Try.ntmps36
  go_wp2_with fail
  refine H1.out.mono ?_
  rintro e w' ⟨rfl, rfl⟩
  go_wp2_with fail
  refine H2.out.mono ?_
  rintro e w1 ⟨A, c, rfl, hr⟩
  have Hr := hid hr
  clear hr
  go_wp2
  go_ret
  exact ⟨A, c, rfl, Hr.out⟩
end Go.Proofs.Ytgnikijaihmeeaa
