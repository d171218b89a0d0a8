/- record.summed. -/
import Derived.Test.YtgnfccdhlpeknaaSwNb
import Derived.Test.YtgnfccdhlpeknaaSwWb
open Go Go.RowKit
namespace Go.Proofs.Ytgnfccdhlpeknaa
set_option maxRecDepth 100000
def sumB (s : Nat) (k : Nat) : Nat := s / 2 ^ (8 * k) % 256
def sum4 (s : Nat) : List Nat := [sumB s 0, sumB s 1, sumB s 2, sumB s 3]
theorem sum4_take (s k : Nat) (hk : k < 4) : (sum4 s).take (k + 1) = (sum4 s).take k ++ [sumB s k] := by
  rcases (show k = 0 ∨ k = 1 ∨ k = 2 ∨ k = 3 by omega) with rfl | rfl | rfl | rfl <;> rfl
theorem sumC_lt {bs : List Nat} : sumC bs < 4294967296 := by unfold sumC; omega
set_option maxHeartbeats 1000000 in
theorem summed_any (B : Nat) (w : World) (A : Option Addr) (n c : Nat) (bs : List Nat) (hn : n = bs.length) (hb : ∀ b ∈ bs, b < 256) (hB : B ≤ w.heap.size)
    (hown : w.ownsRow B 5 1 (.slice A n c) n (bs.map bv)) (hl : bs.length + 4 ≤ 140737488355328) :
    Calls Try.prog 11 #[.slice A n c] w fun e w' => ∃ A' c', e = .returned (.slice A' (n + 4) c') ∧ w'.ownsRow B 5 1 (.slice A' (n + 4) c') (n + 4) ((bs ++ sum4 (sumC bs)).map bv) ∧ Below B w w' := by
  have Hown := hid hown
  have Hb := hid hb
  have Hl := hid hl
  have HBs := hid hB
  have HN := hid hn
  obtain ⟨S, hS⟩ : ∃ S, S = sumC bs := ⟨_, rfl⟩
  have hS4 : S < 4294967296 := by rw [hS]; exact sumC_lt
  have HS := hid hS
  have HS4 := hid hS4
  have hu := Try.underlying34
  clear hown hb hl hB hn hS hS4
  go_enter Try.func11, Try.ntmps11
  go_wp2_with (go_at_call 22; refine (Sum_one _ (some ⟨w.heap.size, 0, none⟩) A 1 c bs Hb.out (by rw [← HN.out]; exact rd_new w [.slice A n c] _) ((own_rd Hown.out).ext (ext_alloc _ _)) (by have := Hl.out; omega)).mono ?_; rintro e w1 ⟨rfl, hB1⟩; have HB1 := hid hB1; clear hB1)
  rw [← HS.out]
  have Bel0 := hid (show Below w.heap.size w w1 from ((Below.refl w.heap.size w).alloc (Nat.le_refl _) (Obj.cells #[.slice A n c] 34)).trans (HB1.out.mono (by simp)))
  have Own0 := hid (own_ext Hown.out Bel0.out)
  go_loopw [0, 8] (fun v0 v8 wr => ∃ (k : Nat) (A' : Option Addr) (c' : Nat), v8 = .int .i64 k ∧ k ≤ 4 ∧ v0 = .slice A' (n + k) c' ∧ Hid (wr.ownsRow B 5 1 (.slice A' (n + k) c') (n + k) ((bs ++ (sum4 S).take k).map bv)) ∧ Hid (Below B w wr)) (fun _ v8 _ => 4 - (intOf v8).toNat)
  case atStart => exact ⟨0, A, c, rfl, by omega, rfl, hid (by simpa using Own0.out), hid (Bel0.out.mono HBs.out)⟩
  case round =>
    obtain ⟨k, A', c', rfl, hk, rfl, Ho, Hw⟩ := hrel
    by_cases hlt : k < 4
    · have hsz := HBs.out
      have hsz2 := Hw.out.size
      have HSZ := hid (show B ≤ wr.heap.size by omega)
      have HLL := hid (show n + k + 1 ≤ 140737488355328 by have := Hl.out; have := HN.out; omega)
      clear hsz hsz2
      go_wp2_with (at_builtin; refine wl_ap rfl rfl B 5 hu info_u8 rfl (by decide) (.slice A' (n + k) c') (n + k) ((bs ++ (sum4 S).take k).map bv) rfl (own_ext Ho.out (ext_alloc _ _)) (some ⟨wr.heap.size, 0, none⟩) 1 1 [.int .u8 ((S : Int) / 2 ^ (8 * k) % 256)] rfl rfl (rd_new wr [.int .u8 ((S : Int) / 2 ^ (8 * k) % 256)] 5) (fun u hu => by simp at hu; subst hu; rfl) (by have := HLL.out; unfold maxLen; omega) (by have := HLL.out; omega) (by have := HSZ.out; simp; omega) ?_; intro A2 c2 w2 _ _ hown hkp hhop; have Hown2 := hid hown; have Hkp2 := hid hkp; clear hown hkp hhop)
      refine ⟨⟨k + 1, A2, c2, by go_num, by omega, rfl, hid ?_, hid ?_⟩, by simp [intOf]; omega⟩
      · rw [sum4_take S k hlt, ← List.append_assoc, List.map_append]
        have hv : [Value.int .u8 ((S : Int) / 2 ^ (8 * k) % 256)] = [sumB S k].map bv := by simp [bv, sumB]
        rw [← hv]
        exact Hown2.out
      · have h1 := Hw.out.alloc HSZ.out (Obj.cells #[.int .u8 ((S : Int) / 2 ^ (8 * k) % 256)] 5)
        exact h1.trans (Hkp2.out.below (by have := HSZ.out; simp; omega) (fun i hi e => by have := (own_blk Ho.out e).1; omega))
    · obtain rfl : k = 4 := by omega
      go_wp2
      go_ret
      exact ⟨A', c', rfl, by rw [← HS.out]; simpa [sum4] using Ho.out, Hw.out⟩
end Go.Proofs.Ytgnfccdhlpeknaa
