/- The walks of wire's writer, of slices.Clone and slices.Equal at bytes, of NewReader and Reader.Bytes. -/
import Derived.Test.YtgnikijaihmeeaaSwRc
open Go Go.RowKit
namespace Go.Proofs.Ytgnikijaihmeeaa
set_option linter.unusedVariables false
set_option linter.unusedSimpArgs false

theorem info_u8 : (Try.prog.info? 5).map (fun i => (i.zero, i.size, i.bytes)) = some (some (.int .u8 0), 1, 1) := by kernel_rfl

/-- A writer at block bw, its slice v, its bytes bs; all of it from block B on. -/
def WrAt (B : Nat) (w : World) (bw : Nat) (v : Value) (bs : List Nat) : Prop :=
  B ≤ bw ∧ w.heap[bw]? = some (.cells #[v] 50 (0, 0)) ∧ w.ownsRow B 5 1 v bs.length (bs.map bv)
/-- What a writer's step leaves alone. -/
def WrStep (w : World) (bw : Nat) (v : Value) (w' : World) (v' : Value) : Prop := Kp (fun k => k ≠ bw ∧ v.ownBlock ≠ some k) w w' ∧ Hop w v v'
theorem WrStep.refl (w : World) (bw : Nat) (v : Value) : WrStep w bw v w v := ⟨Kp.refl _ _, Hop.refl _ _⟩
theorem WrStep.trans {w w1 w2 : World} {bw : Nat} {v v1 v2 : Value} (h : WrStep w bw v w1 v1) (k : WrStep w1 bw v1 w2 v2) : WrStep w bw v w2 v2 :=
  ⟨h.1.trans2 k.1 (fun i hi hs => ⟨hs.1, fun e => by rcases h.2 i e with h' | h'; exact hs.2 h'; omega⟩), h.2.trans k.2 h.1.size⟩
theorem WrAt.lt {B : Nat} {w : World} {bw : Nat} {v : Value} {bs : List Nat} (h : WrAt B w bw v bs) : bw < w.heap.size := heap_lt h.2.1
theorem WrAt.ge {B : Nat} {w : World} {bw : Nat} {v : Value} {bs : List Nat} (h : WrAt B w bw v bs) {k : Nat} (hk : k < B) : k ≠ bw ∧ v.ownBlock ≠ some k :=
  ⟨by have := h.1; omega, fun e => by have := (own_blk h.2.2 e).1; omega⟩
theorem WrStep.below {B : Nat} {w w' : World} {bw : Nat} {v v' : Value} {bs : List Nat} (h : WrStep w bw v w' v') (hw : WrAt B w bw v bs) : Below B w w' :=
  h.1.below (Nat.le_of_lt (Nat.lt_of_le_of_lt hw.1 hw.lt)) (fun k hk => hw.ge hk)
/-- A writer stays where nothing of its own is written. -/
theorem WrAt.kp {S : Nat → Prop} {B : Nat} {w w' : World} {bw : Nat} {v : Value} {bs : List Nat} (h : WrAt B w bw v bs) (hk : Kp S w w') (hs : ∀ k, B ≤ k → k < w.heap.size → (k = bw ∨ v.ownBlock = some k) → S k) : WrAt B w' bw v bs :=
  ⟨h.1, hk.blk h.2.1 (hs _ h.1 h.lt (.inl rfl)), own_kp h.2.2 hk (fun k e => by obtain ⟨h1, cur, h2⟩ := own_blk h.2.2 e; exact hs k h1 (heap_lt h2) (.inr e))⟩
theorem WrAt.ext {B : Nat} {w w' : World} {bw : Nat} {v : Value} {bs : List Nat} (h : WrAt B w bw v bs) (hk : Below w.heap.size w w') : WrAt B w' bw v bs := h.kp (S := fun _ => True) (Kp.of_ext hk _) (fun _ _ _ _ => trivial)
theorem WrStep.of_ext {w w' : World} {bw : Nat} {v : Value} (hk : Below w.heap.size w w') : WrStep w bw v w' v := ⟨Kp.of_ext hk _, Hop.refl _ _⟩
/-- What a call that writes ys leaves. -/
def WrPost (B : Nat) (w : World) (bw : Nat) (v : Value) (bs ys : List Nat) (w' : World) : Prop := ∃ v', WrAt B w' bw v' (bs ++ ys) ∧ WrStep w bw v w' v'
theorem WrPost.ext {B : Nat} {w0 w : World} {bw : Nat} {v : Value} {bs ys : List Nat} {w' : World} (hk : Below w0.heap.size w0 w) (h : WrPost B w bw v bs ys w') : WrPost B w0 bw v bs ys w' := by
  obtain ⟨v', h1, h2⟩ := h
  exact ⟨v', h1, (WrStep.of_ext hk).trans h2⟩

set_option maxRecDepth 100000 in
theorem add_any (B : Nat) (w : World) (bw : Nat) (v : Value) (bs : List Nat) (A : Option Addr) (m c : Nat) (ys : List Nat) (hw : WrAt B w bw v bs) (hm : m = ys.length) (hr : Rd w A (ys.map bv)) (hb : bs.length + ys.length ≤ 140737488355328) :
    Calls Try.prog 48 #[.pointer (some ⟨bw, 0, none⟩), .slice A m c] w fun e w' => e = .returned (.tuple #[]) ∧ WrPost B w bw v bs ys w' := by
  have hc0 := blk_cell hw.2.1 0
  have hf0 := blk_free hw.2.1 0
  simp at hc0
  have Hw := hid hw
  have Hr := hid hr
  have Hm := hid hm
  have Hb := hid hb
  have hu := Try.underlying29
  clear hw hr hm hb
  go_enter Try.func48, Try.ntmps48
  go_wp2_with (first | (at_builtin; refine wl_ap rfl rfl B 5 hu info_u8 rfl (by decide) v bs.length (bs.map bv) rfl Hw.out.2.2 A m c (ys.map bv) rfl (by rw [Hm.out]; simp) Hr.out (bv_one ys) (by rw [Hm.out]; have := Hb.out; unfold maxLen; omega) (by rw [Hm.out]; have := Hb.out; omega) (Nat.le_of_lt (Nat.lt_of_le_of_lt Hw.out.1 Hw.out.lt)) ?_; intro A' c' w1 _ _ hown hkp hhop; have hne : v.ownBlock ≠ some bw := (fun e => by obtain ⟨_, cur, h2⟩ := own_blk Hw.out.2.2 e; exact blk_ty_ne Hw.out.2.1 h2 (by decide) rfl); have hblk := hkp.blk Hw.out.2.1 hne; have hc1 := blk_cell hblk 0; have hf1 := blk_free hblk 0; simp at hc1; have Hown := hid hown; have Hkp := hid hkp; have Hhop := hid hhop; have Hblk := hid hblk; have Hne := hid hne; clear hown hkp hhop hblk hne))
  go_end0
  refine ⟨rfl, _, ⟨Hw.out.1, blk_set Hblk.out 0 _, ?_⟩, ?_, Hhop.out⟩
  · have h1 : w1.ownsRow B 5 1 (.slice A' (bs.length + m) c') (bs ++ ys).length ((bs ++ ys).map bv) := by
      rw [show (bs ++ ys).length = bs.length + m by rw [Hm.out]; simp, List.map_append]
      exact Hown.out
    refine own_kp h1 (kp_set _ _ _ _) (fun k e => ?_)
    obtain ⟨_, cur, h2⟩ := own_blk h1 e
    exact fun h => blk_ty_ne Hblk.out h2 (by decide) h.symm
  · exact (Hkp.out.mono (fun k _ hk => hk.2)).trans ((kp_set _ _ _ _).mono (fun k _ hk => hk.1))
theorem add_one (B : Nat) (w : World) (bw : Nat) (v : Value) (bs : List Nat) (g c : Nat) (x : Int) (b : Nat) (hw : WrAt B w bw v bs) (hc : w.cell? ⟨g, 0, none⟩ = some (.int .u8 x)) (hx : x = b) (hb : bs.length + 1 ≤ 140737488355328) :
    Calls Try.prog 48 #[.pointer (some ⟨bw, 0, none⟩), .slice (some ⟨g, 0, none⟩) 1 c] w fun e w' => e = .returned (.tuple #[]) ∧ WrPost B w bw v bs [b] w' :=
  add_any B w bw v bs _ 1 c [b] hw rfl (Rd.of_cells fun j u hu => by
    subst hx
    cases j with
    | zero => simp at hu; subst hu; simpa [bv] using hc
    | succ j => simp at hu) (by simpa using hb)

theorem u8_low {n : Nat} : IntKind.u8.wrap (n : Int) = ((n % 256 : Nat) : Int) := by rw [IntKind.wrap_u8]; omega
theorem or128 {n : Nat} : bits .or .u8 (IntKind.u8.wrap (n : Int)) 128 = ((n % 128 + 128 : Nat) : Int) := by
  rw [u8_low]
  have h := (bits_nat .u8 8 (by decide) wraps_u8 (n % 256) 128 (by omega) (by omega)).2
  rw [show ((128 : Int)) = ((128 : Nat) : Int) by rfl, h]
  congr 1
  have key : ∀ x : Fin 256, x.val ||| 128 = x.val % 128 + 128 := by decide +kernel
  rw [key ⟨n % 256, by omega⟩]
  simp only
  omega
set_option maxRecDepth 100000 in
set_option maxHeartbeats 400000 in
theorem Wcount_any (B : Nat) (w : World) (bw : Nat) (v : Value) (bs : List Nat) (n : Nat) (hw : WrAt B w bw v bs) (hn : n < 18446744073709551616) (hb : bs.length + 10 ≤ 140737488355328) :
    Calls Try.prog 21 #[.pointer (some ⟨bw, 0, none⟩), .int .u64 n] w fun e w' => e = .returned (.tuple #[]) ∧ WrPost B w bw v bs (cntB n) w' := by
  have Hw := hid hw
  have Hn := hid hn
  have Hb := hid hb
  clear hw hn hb
  go_enter Try.func21, Try.ntmps21
  go_wp2
  go_loopw [1] (fun v1 wr => ∃ (m : Nat) (u : Value) (ds : List Nat), v1 = .int .u64 m ∧ Hid (m < 18446744073709551616) ∧ Hid (WrAt B wr bw u (bs ++ ds)) ∧ Hid (ds ++ cntB m = cntB n) ∧ Hid (WrStep w bw v wr u)) (fun v1 _ => (intOf v1).toNat)
  case atStart => exact ⟨n, v, [], rfl, Hn, by rw [List.append_nil]; exact Hw, hid rfl, hid (WrStep.refl _ _ _)⟩
  case round =>
    obtain ⟨m, u, ds, rfl, Hm, Hu, Hd, Hs⟩ := hrel
    have Hlen : Hid (ds.length + 1 ≤ 10) := by
      have h1 := cntB_len64 Hn.out
      have h2 := cntB_pos m
      rw [← Hd.out, List.length_append] at h1
      exact hid (by omega)
    by_cases hm : m < 128
    · go_wp2_with fail
      refine (add_one B _ bw u (bs ++ ds) _ _ _ m (Hu.out.ext (ext_alloc _ _)) ?_ rfl ?_).mono ?_
      · simp
      · have := Hb.out; have := Hlen.out; simp; omega
      rintro e w' ⟨rfl, hp⟩
      go_wp2
      go_end0
      obtain ⟨v', h1, h2⟩ := hp
      refine ⟨rfl, v', ?_, Hs.out.trans ((WrStep.of_ext (ext_alloc _ _)).trans h2)⟩
      rw [← Hd.out, cntB_small hm, ← List.append_assoc]
      exact h1
    · go_wp2_with fail
      refine (add_one B _ bw u (bs ++ ds) _ _ _ (m % 128 + 128) (Hu.out.ext (ext_alloc _ _)) (blk_cell (blk_new _ _) 0) or128 ?_).mono ?_
      · have := Hb.out; have := Hlen.out; simp; omega
      rintro e w' ⟨rfl, hp⟩
      obtain ⟨v', h1, h2⟩ := hp
      have H1 := hid h1
      have H2 := hid h2
      clear h1 h2
      go_wp2
      refine ⟨⟨m / 128, v', ds ++ [m % 128 + 128], by simp, hid (by have := Hm.out; omega), ?_, ?_, hid (Hs.out.trans ((WrStep.of_ext (ext_alloc _ _)).trans H2.out))⟩, ?_⟩
      · rw [← List.append_assoc]; exact H1
      · rw [List.append_assoc, List.singleton_append, ← cntB_big (by omega)]; exact Hd
      · simp [intOf]; omega
end Go.Proofs.Ytgnikijaihmeeaa
