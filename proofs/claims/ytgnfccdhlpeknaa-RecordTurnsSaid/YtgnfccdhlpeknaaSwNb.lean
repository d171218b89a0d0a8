/- crc: feed, Add, Sum. -/
import Derived.Test.YtgnfccdhlpeknaaSwN
import Derived.Test.YtgnfccdhlpeknaaSwRc
open Go Go.RowKit
namespace Go.Proofs.Ytgnfccdhlpeknaa
set_option maxRecDepth 100000
def nibC (x : Nat) : Nat := (x / 16) ^^^ lowC (x % 16)
theorem nibC_lt {x : Nat} (h : x < 4294967296) : nibC x < 4294967296 := Nat.xor_lt_two_pow (n := 32) (by omega) (lowC_lt (by omega))
def byteC (x b : Nat) : Nat := nibC (nibC (x ^^^ b))
theorem xor_lt32 {x b : Nat} (h : x < 4294967296) (hb : b < 256) : x ^^^ b < 4294967296 := Nat.xor_lt_two_pow (n := 32) (by omega) (by omega)
theorem byteC_lt {x b : Nat} (h : x < 4294967296) (hb : b < 256) : byteC x b < 4294967296 := nibC_lt (nibC_lt (xor_lt32 h hb))
def feedC (x : Nat) (bs : List Nat) : Nat := bs.foldl byteC x
theorem feedC_lt {x : Nat} (h : x < 4294967296) {bs : List Nat} (hb : ∀ b ∈ bs, b < 256) : feedC x bs < 4294967296 := by
  induction bs generalizing x with
  | nil => exact h
  | cons b r ih => exact ih (byteC_lt h (hb b (by simp))) (fun c hc => hb c (by simp [hc]))
theorem nib_bits (y : Nat) (h : y < 4294967296) : bits .xor .u32 ((y : Int) / 16) ((lowC (y % 16) : Nat) : Int) = ((nibC y : Nat) : Int) := by
  have e3 : (y : Int) / 16 = ((y / 16 : Nat) : Int) := by omega
  rw [e3, xor32 _ _ (by omega) (lowC_lt (by omega))]
  rfl
theorem and15 (y : Nat) (h : y < 4294967296) : bits .and .u32 (y : Int) 15 = ((y % 16 : Nat) : Int) := by
  have := bits_mask .u32 32 (by decide) wraps32 4 (by decide) (y : Int) (by omega) (by omega)
  simpa using this
set_option maxHeartbeats 1000000 in
theorem feed_any (w : World) (x : Nat) (A : Option Addr) (c : Nat) (bs : List Nat) (hx : x < 4294967296) (hb : ∀ b ∈ bs, b < 256) (hr : Rd w A (bs.map bv)) (hn : bs.length < 9223372036854775808) :
    Calls Try.prog 65 #[.int .u32 x, .slice A bs.length c] w fun e w' => e = .returned (.int .u32 (feedC x bs)) ∧ Below w.heap.size w w' := by
  obtain ⟨T16, hT⟩ : ∃ a, a = (tabC 16).toArray := ⟨_, rfl⟩
  have hi2 := hid (show (Try.prog.info? 123).map (·.size) = some T16.size by rw [hT, info_tab]; simp [tabC_len])
  have h1 := hid (show T16.all (·.oneCell') = true by rw [hT]; exact all_oneCell_toArray (tabC_one 16))
  have hh := halves_any w
  rw [← hT] at hh
  have hh := hid hh
  have hs := hid (show T16.size = 16 by rw [hT]; simp [tabC_len])
  have hg := hid (show ∀ i, i < 16 → T16[i]? = some (.int .u32 (lowC i : Int)) by
    intro i hi
    rw [hT, List.getElem?_toArray, tabC_get 16 i hi, if_pos hi])
  clear hT
  have Hr := hid hr
  have Hx := hid hx
  have Hb := hid hb
  clear hr hx hb
  go_enter Try.func65, Try.ntmps65
  go_wp2_with fail
  refine hh.out.mono ?_
  rintro e w1 ⟨rfl, hB⟩
  have HB1 := hid hB
  clear hB hh
  have HT := hid (row_there (n := T16.size) (blk_new w1 (Obj.cells #[.int .u32 0, .int .u32 0, .int .u32 0, .int .u32 0, .int .u32 0, .int .u32 0, .int .u32 0, .int .u32 0, .int .u32 0, .int .u32 0, .int .u32 0, .int .u32 0, .int .u32 0, .int .u32 0, .int .u32 0, .int .u32 0] 123)) (by rw [hs.out]; simp))
  have HL := hid (blk_row (blk_new w1 (Obj.cells #[.int .u32 0, .int .u32 0, .int .u32 0, .int .u32 0, .int .u32 0, .int .u32 0, .int .u32 0, .int .u32 0, .int .u32 0, .int .u32 0, .int .u32 0, .int .u32 0, .int .u32 0, .int .u32 0, .int .u32 0, .int .u32 0] 123)) T16.toList (by simp [hs.out]))
  go_wp2_with (refine wpList_store_mid rfl 123 _ _ rfl w1.heap.size 0 T16 rfl rfl HT.out hi2.out h1.out ?_)
  have HbW := hid ((HB1.out.alloc HB1.out.size (Obj.cells #[.int .u32 0, .int .u32 0, .int .u32 0, .int .u32 0, .int .u32 0, .int .u32 0, .int .u32 0, .int .u32 0, .int .u32 0, .int .u32 0, .int .u32 0, .int .u32 0, .int .u32 0, .int .u32 0, .int .u32 0, .int .u32 0] 123)).trans ((kp_setCells w1.heap.size T16.toList 0 _).below (B := w.heap.size) (by have := HB1.out.size; simp; omega) (fun i hi => by have := HB1.out.size; omega)))
  generalize World.setCells _ _ _ _ = W at HL HbW ⊢
  clear HT
  have HrW := hid (Hr.out.ext HbW.out)
  go_loop [0, 11] (fun v0 v11 => ∃ (k y : Nat), v11 = .int .i64 k ∧ k ≤ bs.length ∧ v0 = .int .u32 y ∧ y < 4294967296 ∧ Hid (feedC x bs = feedC y (bs.drop k))) (fun _ v11 => bs.length - (intOf v11).toNat)
  case atStart => exact ⟨0, x, rfl, by omega, rfl, Hx.out, hid (by simp)⟩
  case round =>
    obtain ⟨k, y, rfl, hk, rfl, hy, H⟩ := hrel
    by_cases hlt : k < bs.length
    · have Hy := hid hy
      obtain ⟨b, hbk⟩ : ∃ b, bs[k]? = some b := ⟨_, List.getElem?_eq_getElem hlt⟩
      have hb2 := Hb.out b (List.mem_of_getElem? hbk)
      obtain ⟨g, o, rfl, _, hcell⟩ := HrW.out.addr (by simp; omega)
      have hc : W.cell? ⟨g, o + k, none⟩ = some (.int .u8 (b : Int)) := hcell k (bv b) (by rw [List.getElem?_map, hbk]; rfl)
      have hcl : ∀ m, m < 16 → W.cell? ⟨w1.heap.size, m, none⟩ = some (.int .u32 ((lowC m : Nat) : Int)) := fun m hm => by
        rw [blk_cell HL.out]
        exact hg.out m hm
      obtain ⟨z, hz⟩ : ∃ z, z = y ^^^ b := ⟨_, rfl⟩
      have hz4 : z < 4294967296 := by rw [hz]; exact xor_lt32 Hy.out hb2
      obtain ⟨n, hn1⟩ : ∃ n, n = nibC z := ⟨_, rfl⟩
      have hn4 : n < 4294967296 := by rw [hn1]; exact nibC_lt hz4
      obtain ⟨m1, hm1⟩ : ∃ m, m = z % 16 := ⟨_, rfl⟩
      obtain ⟨m2, hm2⟩ : ∃ m, m = n % 16 := ⟨_, rfl⟩
      have x1 : bits .xor .u32 (y : Int) (b : Int) = ((z : Nat) : Int) := by rw [hz]; exact xor32 _ _ Hy.out (by omega)
      have x2 : bits .and .u32 (z : Int) 15 = ((m1 : Nat) : Int) := by rw [hm1]; exact and15 z hz4
      have x3 : bits .and .u32 (n : Int) 15 = ((m2 : Nat) : Int) := by rw [hm2]; exact and15 n hn4
      have x4 : bits .xor .u32 ((z : Int) / 16) ((lowC m1 : Nat) : Int) = ((n : Nat) : Int) := by rw [hm1, hn1]; exact nib_bits z hz4
      have x5 : bits .xor .u32 ((n : Int) / 16) ((lowC m2 : Nat) : Int) = ((nibC n : Nat) : Int) := by rw [hm2]; exact nib_bits n hn4
      have c1 := hcl m1 (by omega)
      have c2 := hcl m2 (by omega)
      have l1 : m1 < 16 := by omega
      have l2 : m2 < 16 := by omega
      have Hn := hid hn1
      have Hz := hid hz
      clear hcl hm1 hm2 hz hn1
      clear hcell
      have Hbk := hid hbk
      clear hbk
      go_wp2
      refine ⟨⟨k + 1, nibC n, by go_num, by omega, rfl, nibC_lt hn4, hid ?_⟩, by simp [intOf]; omega⟩
      rw [H.out, List.drop_eq_getElem_cons hlt, (List.getElem?_eq_some_iff.1 Hbk.out).2]
      show feedC (byteC y b) _ = _
      rw [Hn.out, Hz.out]
      rfl
    · obtain rfl : k = bs.length := by omega
      go_wp2
      go_ret
      exact ⟨ret_int (by rw [H.out]; simp [feedC]), HbW.out⟩
theorem not_bits (x : Nat) (h : x < 4294967296) : bits .xor .u32 IntKind.u32.max (x : Int) = ((4294967295 - x : Nat) : Int) := by
  show bits .xor .u32 ((4294967295 : Nat) : Int) (x : Int) = _
  rw [xor32 _ _ (by omega) h]
  have h1 : (BitVec.allOnes 32 ^^^ BitVec.ofNat 32 x).toNat = (~~~ (BitVec.ofNat 32 x)).toNat := by rw [BitVec.allOnes_xor]
  rw [BitVec.toNat_xor, BitVec.toNat_not, BitVec.toNat_allOnes, BitVec.toNat_ofNat, Nat.mod_eq_of_lt (by omega)] at h1
  have h2 : 4294967295 ^^^ x = 4294967295 - x := h1
  rw [h2]
theorem Add_any (w : World) (x : Nat) (A : Option Addr) (c : Nat) (bs : List Nat) (hx : x < 4294967296) (hb : ∀ b ∈ bs, b < 256) (hr : Rd w A (bs.map bv)) (hn : bs.length < 9223372036854775808) :
    Calls Try.prog 46 #[.int .u32 x, .slice A bs.length c] w fun e w' => e = .returned (.int .u32 ((4294967295 - feedC (4294967295 - x) bs : Nat) : Int)) ∧ Below w.heap.size w w' := by
  go_enter Try.func46, Try.ntmps46
  go_wp2_with fail
  rw [not_bits x hx]
  refine (feed_any w (4294967295 - x) A c bs (by omega) hb hr hn).mono ?_
  rintro e w1 ⟨rfl, hB⟩
  have HB := hid hB
  have n1 := not_bits (feedC (4294967295 - x) bs) (feedC_lt (by omega) hb)
  clear hB hr hb
  go_wp2
  go_ret
  exact ⟨ret_int rfl, HB.out⟩
def sumC (bs : List Nat) : Nat := 4294967295 - feedC 4294967295 bs
theorem Sum_one (w : World) (A B : Option Addr) (c0 c : Nat) (bs : List Nat) (hb : ∀ b ∈ bs, b < 256) (hr : Rd w A [.slice B bs.length c]) (hB : Rd w B (bs.map bv)) (hn : bs.length < 9223372036854775808) :
    Calls Try.prog 22 #[.slice A 1 c0] w fun e w' => e = .returned (.int .u32 (sumC bs : Int)) ∧ Below w.heap.size w w' := by
  obtain ⟨g, o, rfl, _, hcell⟩ := hr.addr (by simp)
  have hc : w.cell? ⟨g, o, none⟩ = some (.slice B bs.length c) := hcell 0 _ rfl
  have Hc := hid hc
  have HB := hid hB
  have Hb := hid hb
  clear hc hcell hr hB hb
  go_enter Try.func22, Try.ntmps22
  go_wp2
  go_loopw [3, 8] (fun v3 v8 wr => ∃ (k y : Nat), v8 = .int .i64 k ∧ v3 = .int .u32 y ∧ (k = 0 ∧ y = 0 ∨ k = 1 ∧ y = sumC bs) ∧ Hid (Below w.heap.size w wr)) (fun _ v8 _ => 1 - (intOf v8).toNat)
  case atStart => exact ⟨0, 0, rfl, rfl, .inl ⟨rfl, rfl⟩, hid (Below.refl _ _)⟩
  case round =>
    obtain ⟨k, y, rfl, rfl, hk, Hw⟩ := hrel
    rcases hk with ⟨rfl, rfl⟩ | ⟨rfl, rfl⟩
    · have hcw := ext_cell Hw.out Hc.out
      have hBw := hid (HB.out.ext Hw.out)
      go_wp2_with (go_at_call 46; refine (Add_any _ 0 B c bs (by omega) Hb.out hBw.out hn).mono ?_; rintro e w' ⟨rfl, hx⟩; have Hx := hid hx; clear hx)
      refine ⟨⟨1, sumC bs, by go_num, by go_num, .inr ⟨rfl, rfl⟩, hid (ext_trans Hw.out Hx.out)⟩, by simp [intOf]⟩
    · go_wp2
      go_ret
      exact ⟨ret_int rfl, Hw.out⟩
end Go.Proofs.Ytgnfccdhlpeknaa
