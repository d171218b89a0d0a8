/- The walks of crc. -/
import Derived.Test.YtgnfccdhlpeknaaSwP
import Derived.Test.YtgnfccdhlpeknaaProg
import Derived.Deep.MidRow
open Go Go.RowKit
namespace Go.Proofs.Ytgnfccdhlpeknaa
set_option maxRecDepth 100000
def stepC (x : Nat) : Nat := (x / 2) ^^^ (3988292384 * (x % 2))
def lowC (x : Nat) : Nat := stepC (stepC (stepC (stepC x)))
theorem stepC_lt {x : Nat} (h : x < 4294967296) : stepC x < 4294967296 := Nat.xor_lt_two_pow (n := 32) (by omega) (by omega)
theorem xor32 (a b : Nat) (ha : a < 4294967296) (hb : b < 4294967296) : bits .xor .u32 (a : Int) (b : Int) = ((a ^^^ b : Nat) : Int) := by
  have hx : a ^^^ b < 2 ^ 32 := Nat.xor_lt_two_pow (by omega) (by omega)
  have h1 : (BitVec.ofInt 32 (a : Int)).toNat = a := by
    rw [BitVec.ofInt_natCast, BitVec.toNat_ofNat]; exact Nat.mod_eq_of_lt (by omega)
  have h2 : (BitVec.ofInt 32 (b : Int)).toNat = b := by
    rw [BitVec.ofInt_natCast, BitVec.toNat_ofNat]; exact Nat.mod_eq_of_lt (by omega)
  show IntKind.u32.wrap ((BitVec.ofInt 32 (a : Int) ^^^ BitVec.ofInt 32 (b : Int)).toNat : Int) = _
  rw [BitVec.toNat_xor, h1, h2, IntKind.wrap_u32]
  omega
theorem wraps32 (n : Int) (h₀ : 0 ≤ n) (h₁ : n < 2 ^ 32) : IntKind.u32.wrap n = n := by rw [IntKind.wrap_u32]; omega
theorem step_bits {y : Nat} (h : y < 4294967296) : bits .xor .u32 ((y : Int) / 2) (3988292384 * bits .and .u32 (y : Int) 1 % 4294967296) = ((stepC y : Nat) : Int) := by
  have e1 : bits .and .u32 (y : Int) 1 = (y : Int) % 2 := by
    have := bits_mask .u32 32 (by decide) wraps32 1 (by decide) (y : Int) (by omega) (by omega)
    simpa using this
  rw [e1]
  have e2 : 3988292384 * ((y : Int) % 2) % 4294967296 = ((3988292384 * (y % 2) : Nat) : Int) := by omega
  have e3 : (y : Int) / 2 = ((y / 2 : Nat) : Int) := by omega
  rw [e2, e3, xor32 _ _ (by omega) (by omega)]
  rfl
theorem low_any (w : World) (x : Nat) (hx : x < 4294967296) : Calls Try.prog 68 #[.int .u32 x] w fun e w' => e = .returned (.int .u32 (lowC x)) ∧ w = w' := by
  go_enter Try.func68, Try.ntmps68
  go_wp2
  go_loop [0, 3] (fun v0 v3 => ∃ (k y : Nat), v3 = .int .i64 k ∧ k ≤ 4 ∧ v0 = .int .u32 y ∧ y < 4294967296 ∧ Hid (lowC x = (match k with | 0 => stepC (stepC (stepC (stepC y))) | 1 => stepC (stepC (stepC y)) | 2 => stepC (stepC y) | 3 => stepC y | _ => y))) (fun _ v3 => 4 - (intOf v3).toNat)
  case atStart => exact ⟨0, x, rfl, by omega, rfl, hx, hid rfl⟩
  case round =>
    obtain ⟨k, y, rfl, hk, rfl, hy, H⟩ := hrel
    by_cases hlt : k < 4
    · have Hy := hid hy
      go_wp2
      refine ⟨⟨k + 1, stepC y, by go_num, by omega, by rw [step_bits Hy.out], stepC_lt Hy.out, hid ?_⟩, by simp [intOf]; omega⟩
      have h := H.out
      rcases (show k = 0 ∨ k = 1 ∨ k = 2 ∨ k = 3 by omega) with rfl | rfl | rfl | rfl <;> exact h
    · obtain rfl : k = 4 := by omega
      go_wp2
      go_ret
      exact ⟨ret_int (by rw [H.out]), rfl⟩
theorem lowC_lt {x : Nat} (h : x < 4294967296) : lowC x < 4294967296 := stepC_lt (stepC_lt (stepC_lt (stepC_lt h)))
/-- the table, of which so much is filled -/
def tabC (k : Nat) : List Value := (List.range 16).map fun i => .int .u32 (if i < k then (lowC i : Int) else 0)
theorem tabC_len (k : Nat) : (tabC k).length = 16 := by simp [tabC]
theorem tabC_get (k i : Nat) (hi : i < 16) : (tabC k)[i]? = some (.int .u32 (if i < k then (lowC i : Int) else 0)) := by
  unfold tabC
  rw [List.getElem?_map, List.getElem?_range hi]
  rfl
theorem tabC_set (k : Nat) (hk : k < 16) : (tabC k).set k (.int .u32 (lowC k : Int)) = tabC (k + 1) := by
  apply List.ext_getElem?
  intro i
  rcases Nat.lt_or_ge i 16 with hi | hi
  · rw [List.getElem?_set, tabC_get _ _ hi, tabC_get _ _ hi]
    split
    · rename_i h
      subst h
      simp [tabC_len, hi]
    · rename_i h
      by_cases h2 : i < k
      · rw [if_pos h2, if_pos (by omega)]
      · rw [if_neg h2, if_neg (by omega)]
  · rw [List.getElem?_eq_none (by simp [tabC_len]; omega), List.getElem?_eq_none (by simp [tabC_len]; omega)]
theorem tabC_one (k : Nat) : ∀ v ∈ tabC k, v.oneCell' = true := fun v hv => by
  obtain ⟨i, _, rfl⟩ := List.mem_map.1 hv
  rfl
theorem blk_setCells {t : TypeId} {fz : Nat × Nat} (g : Nat) : ∀ (vs : List Value) (o : Nat) (w : World) (cs : Array Value), w.heap[g]? = some (.cells cs t fz) → cs.size = o + vs.length →
    (w.setCells g o vs).heap[g]? = some (.cells (cs.toList.take o ++ vs).toArray t fz)
  | [], o, w, cs, h, hs => by
    have e : (cs.toList.take o ++ ([] : List Value)).toArray = cs := by
      rw [List.append_nil, List.take_of_length_le (by simp at hs ⊢; omega)]
    rw [e]; exact h
  | v :: r, o, w, cs, h, hs => by
    have h2 := blk_setCells g r (o + 1) (w.setCell ⟨g, o, none⟩ v) _ (blk_set h o v) (by simp at hs ⊢; omega)
    refine h2.trans ?_
    congr 2
    have ho : o < cs.toList.length := by simp at hs ⊢; omega
    congr 1
    simp only [Array.toList_setIfInBounds]
    rw [List.take_add_one, List.take_set, List.set_eq_of_length_le (by simp; omega), List.getElem?_set_self ho]
    simp
theorem kp_setCells (g : Nat) : ∀ (vs : List Value) (o : Nat) (w : World), Kp (fun x => x ≠ g) w (w.setCells g o vs)
  | [], _, _ => Kp.refl _ _
  | v :: r, o, w => (kp_set w g o v).trans (kp_setCells g r (o + 1) _)
theorem blk_row {t : TypeId} {fz : Nat × Nat} {w : World} {g : Nat} {cs : Array Value} (h : w.heap[g]? = some (.cells cs t fz)) (vs : List Value) (hs : cs.size = vs.length) :
    (w.setCells g 0 vs).heap[g]? = some (.cells vs.toArray t fz) := by
  have := blk_setCells g vs 0 w cs h (by omega)
  simpa using this
theorem row_range {t : TypeId} {fz : Nat × Nat} {w : World} {g : Nat} {l : List Value} (h : w.heap[g]? = some (.cells l.toArray t fz)) : w.rangeAt g 0 l := fun j v hv => by
  rw [Nat.zero_add, blk_cell h, List.getElem?_toArray]; exact hv
theorem row_there {t : TypeId} {w : World} {g n : Nat} {cs : Array Value} (h : w.heap[g]? = some (.cells cs t (0, 0))) (hn : n ≤ cs.size) : w.there g 0 n := fun j hj => by
  rw [Nat.zero_add, blk_cell h, blk_free h]
  exact ⟨by rw [Array.getElem?_eq_getElem (by omega)]; rfl, rfl⟩
theorem info_tab : (Try.prog.info? 123).map (·.size) = some 16 := by kernel_rfl
set_option maxHeartbeats 1000000 in
theorem halves_any (w : World) : Calls Try.prog 67 #[] w fun e w' => e = .returned (.agg (tabC 16).toArray) ∧ Below w.heap.size w w' := by
  have hu := Try.underlying123
  go_enter Try.func67, Try.ntmps67
  go_wp2
  have hz : (tabC 0).toArray = #[.int .u32 0, .int .u32 0, .int .u32 0, .int .u32 0, .int .u32 0, .int .u32 0, .int .u32 0, .int .u32 0, .int .u32 0, .int .u32 0, .int .u32 0, .int .u32 0, .int .u32 0, .int .u32 0, .int .u32 0, .int .u32 0] := by simp [tabC, List.range_succ]
  have HB := hid (show (w.alloc (Obj.cells #[.int .u32 0, .int .u32 0, .int .u32 0, .int .u32 0, .int .u32 0, .int .u32 0, .int .u32 0, .int .u32 0, .int .u32 0, .int .u32 0, .int .u32 0, .int .u32 0, .int .u32 0, .int .u32 0, .int .u32 0, .int .u32 0] 123)).heap[w.heap.size]? = some (.cells (tabC 0).toArray 123 (0, 0)) by rw [hz]; exact blk_new _ _)
  clear hz
  go_loopw [2] (fun v2 wr => ∃ k : Nat, v2 = .int .i64 k ∧ k ≤ 16 ∧ Hid (wr.heap[w.heap.size]? = some (.cells (tabC k).toArray 123 (0, 0))) ∧ Hid (Below w.heap.size w wr)) (fun v2 _ => 16 - (intOf v2).toNat)
  case atStart => exact ⟨0, rfl, by omega, HB, hid (ext_alloc _ _)⟩
  case round =>
    obtain ⟨k, rfl, hk, Hx, Hb⟩ := hrel
    by_cases hlt : k < 16
    · have hc : wr.cell? ⟨w.heap.size, k, none⟩ = some (.int .u32 0) := by rw [blk_cell Hx.out, List.getElem?_toArray, tabC_get k k hlt, if_neg (by omega)]
      have hf := blk_free Hx.out k
      go_wp2_with (go_at_call 68; refine (low_any _ k (by omega)).mono ?_; rintro e w' ⟨rfl, rfl⟩)
      refine ⟨⟨k + 1, by go_num, by omega, hid ?_, hid (Hb.out.trans ((kp_set _ _ _ _).below (by have := Hb.out.size; omega) (fun i hi => by omega)))⟩, by simp [intOf]; omega⟩
      rw [blk_set Hx.out]
      congr 2
      apply Array.ext'
      rw [← tabC_set k hlt]
      simp
    · obtain rfl : k = 16 := by omega
      have hr := row_range Hx.out
      have hi1 : (Try.prog.info? 123).map (·.size) = some (tabC 16).length := by rw [info_tab, tabC_len]
      have ht := row_there Hx.out (Nat.le_refl _)
      have hi2 : (Try.prog.info? 123).map (·.size) = some (tabC 16).toArray.size := by rw [info_tab]; simp [tabC_len]
      have h1 := all_oneCell_toArray (tabC_one 16)
      have hl := hid hr
      have hi1 := hid hi1
      have ht := hid ht
      have hi2 := hid hi2
      have h1 := hid h1
      have hu := hid hu
      go_wp2_with first | refine wpList_load_mid rfl 123 _ rfl w.heap.size 0 rfl (tabC 16) _ hl.out hu.out rfl hi1.out ?_ | refine wpList_store_mid rfl 123 _ _ rfl w.heap.size 0 (tabC 16).toArray rfl rfl ht.out hi2.out h1.out ?_
      refine bodyPost_ret (results_cell_row rfl _ _ w.heap.size 123 (tabC 16).toArray (0, 0) _ rfl (blk_row Hx.out (tabC 16) (by simp)) hu.out rfl hi2.out) rfl ?_
      exact ⟨rfl, Hb.out.trans ((kp_setCells _ _ _ _).below (by have := Hb.out.size; omega) (fun i hi => by omega))⟩
end Go.Proofs.Ytgnfccdhlpeknaa
