/- The walk of foot.Take. -/
import Derived.Test.YtgnikijaihmeeaaSwH
import Derived.Deep.RegionLaw
import Derived.Deep.LoopGhost
open Go Go.RowKit
namespace Go.Proofs.Ytgnikijaihmeeaa
set_option linter.unusedVariables false
set_option linter.unusedSimpArgs false
set_option maxRecDepth 100000
def tsGo : Nat → St → List Sp × St
  | 0, s => ([], s)
  | m + 1, s => if rLeft s = 0 then ([], s) else
    (⟨((rSmall s).1 : Int), (rNum (rSmall s).2).1, (rNum (rNum (rSmall s).2).2).1⟩ :: (tsGo m (rNum (rNum (rSmall s).2).2).2).1, (tsGo m (rNum (rNum (rSmall s).2).2).2).2)
def takeF (s : St) : Ft × St :=
  let a := takeK s
  let n := rSmall a.2
  let b := tsGo n.1 n.2
  let c := takeK b.2
  (⟨a.1, b.1, c.1⟩, c.2)
theorem info_span : (Try.prog.info? 46).map (fun i => (i.zero, i.size, i.bytes)) = some (some (.agg #[.int .i64 0, .int .i64 0, .int .i64 0]), 3, 24) := by kernel_rfl
/-- The foot of bytes. -/
def takenF (bs : List Nat) : Option Ft := if goodB (takeF (some bs)).1 = true ∧ (takeF (some bs)).2 = some [] ∧ footBy (takeF (some bs)).1 = bs then some (takeF (some bs)).1 else none
def TakePost2 (w : World) (bs : List Nat) (e : Ending) (w' : World) : Prop := Below w.heap.size w w' ∧
  ((∃ f A0 n0 c0 A1 n1 c1 A2 n2 c2, takenF bs = some f ∧ e = .returned (.tuple #[.agg #[.slice A0 n0 c0, .slice A1 n1 c1, .slice A2 n2 c2], .nilIface]) ∧ FtRd w' f A0 n0 c0 A1 n1 c1 A2 n2 c2 ∧ FtOk f ∧ n0 + n1 + n2 ≤ 3000000000 * 1000 ∧ (∀ a, A0 = some a → w.heap.size ≤ a.block) ∧ (∀ a, A1 = some a → w.heap.size ≤ a.block) ∧ (∀ a, A2 = some a → w.heap.size ≤ a.block)) ∨
   (takenF bs = none ∧ e = .returned (.tuple #[.agg #[.slice none 0 0, .slice none 0 0, .slice none 0 0], errno 2])))
theorem tsGo_end (m : Nat) {s : St} (h : rLeft s = 0) : tsGo m s = ([], s) := by
  cases m with
  | zero => rfl
  | succ m => simp only [tsGo]; rw [if_pos h]
theorem rSpan_left {s : St} (h : 0 < rLeft s) : rLeft (rNum (rNum (rSmall s).2).2).2 < rLeft s := by
  have h1 := rCount_left s h
  have h2 := rCount_le (rCount s).2
  have h3 := rCount_le (rCount (rCount s).2).2
  show rLeft (rCount (rCount (rCount s).2).2).2 < _
  omega
/-- What is at hand at the head of a round. -/
structure TsInv (w : World) (br F : Nat) (A0 : Option Addr) (c0 : Nat) (ks : List Ky) (s1 : St) (n : Nat) (xs : List Sp) (s' : St) (A : Option Addr) (c : Nat) (wr : World) : Prop where
  own : wr.ownsRow w.heap.size 46 3 (.slice A xs.length c) xs.length (xs.flatMap spC)
  own0 : wr.ownsRow w.heap.size 80 2 (.slice A0 ks.length c0) ks.length (ks.flatMap kyC)
  box : wr.heap[F]? = some (.cells #[.slice A0 ks.length c0, .slice A xs.length c, .slice none 0 0] 25 (0, 0))
  res : wr.heap[w.heap.size]? = some (.cells #[.slice none 0 0, .slice none 0 0, .slice none 0 0] 25 (0, 0))
  rd : ReaderAt wr br s'
  by_ : Byt s'
  le : xs.length ≤ n
  eq : tsGo n s1 = (xs ++ (tsGo (n - xs.length) s').1, (tsGo (n - xs.length) s').2)
  sz : xs.length + rLeft s' ≤ rLeft s1
  bel : Below w.heap.size w wr
theorem tkGo_facts : ∀ (m : Nat) (s : St), Byt s → (tkGo m s).1.length ≤ m ∧ (∀ x ∈ (tkGo m s).1, inI x.k) ∧ Byt (tkGo m s).2 ∧ rLeft (tkGo m s).2 ≤ rLeft s
  | 0, s, h => by simp [tkGo, h]
  | m + 1, s, h => by
    simp only [tkGo]
    split
    · simp [h]
    · rename_i h0
      have hb := rNum_byt (rSmall_byt h)
      obtain ⟨h1, h2, h3, h4⟩ := tkGo_facts m _ hb
      have h5 := rKey_left (s := s) (by omega)
      refine ⟨by simp; omega, fun x hx => ?_, h3, by simp only; omega⟩
      rcases List.mem_cons.1 hx with rfl | hx
      · exact rNum_in (rSmall_byt h)
      · exact h2 x hx
theorem takeK_facts {s : St} (h : Byt s) : (takeK s).1.length ≤ 4294967296 ∧ (∀ x ∈ (takeK s).1, inI x.k) ∧ Byt (takeK s).2 ∧ rLeft (takeK s).2 ≤ rLeft s := by
  obtain ⟨h1, h2, h3, h4⟩ := tkGo_facts (rSmall s).1 (rSmall s).2 (rSmall_byt h)
  exact ⟨by have := rSmall_lt s; unfold takeK; omega, h2, h3, Nat.le_trans h4 (rCount_le s)⟩
theorem tsGo_facts : ∀ (m : Nat) (s : St), Byt s → (tsGo m s).1.length ≤ m ∧ (∀ x ∈ (tsGo m s).1, inI x.lo ∧ inI x.hi) ∧ Byt (tsGo m s).2 ∧ rLeft (tsGo m s).2 ≤ rLeft s
  | 0, s, h => by simp [tsGo, h]
  | m + 1, s, h => by
    simp only [tsGo]
    split
    · simp [h]
    · rename_i h0
      have hb := rNum_byt (rNum_byt (rSmall_byt h))
      obtain ⟨h1, h2, h3, h4⟩ := tsGo_facts m _ hb
      have h5 := rSpan_left (s := s) (by omega)
      refine ⟨by simp; omega, fun x hx => ?_, h3, by simp only; omega⟩
      rcases List.mem_cons.1 hx with rfl | hx
      · exact ⟨rNum_in (rSmall_byt h), rNum_in (rNum_byt (rSmall_byt h))⟩
      · exact h2 x hx
theorem takeF_ok {s : St} (h : Byt s) : FtOk (takeF s).1 ∧ (takeF s).1.r.length ≤ 4294967296 ∧ (takeF s).1.s.length ≤ 4294967296 ∧ (takeF s).1.w.length ≤ 4294967296 := by
  obtain ⟨h1, h2, h3, _⟩ := takeK_facts h
  obtain ⟨k1, k2, k3, _⟩ := tsGo_facts (rSmall (takeK s).2).1 (rSmall (takeK s).2).2 (rSmall_byt h3)
  obtain ⟨j1, j2, _⟩ := takeK_facts k3
  exact ⟨⟨h2, k2, j2⟩, h1, by have := rSmall_lt (takeK s).2; unfold takeF; simp only; omega, j1⟩
/-- What is at hand when all is read. -/
structure TkEnd (w : World) (br F : Nat) (f : Ft) (A0 : Option Addr) (c0 : Nat) (A1 : Option Addr) (c1 : Nat) (A2 : Option Addr) (c2 : Nat) (s4 : St) (W : World) : Prop where
  ft : FtRd W f A0 f.r.length c0 A1 f.s.length c1 A2 f.w.length c2
  res : W.heap[w.heap.size]? = some (.cells #[.slice none 0 0, .slice none 0 0, .slice none 0 0] 25 (0, 0))
  box : W.heap[F]? = some (.cells #[.slice A0 f.r.length c0, .slice A1 f.s.length c1, .slice A2 f.w.length c2] 25 (0, 0))
  rd : ReaderAt W br s4
  bel : Below w.heap.size w W
  fr : (∀ a, A0 = some a → w.heap.size ≤ a.block) ∧ (∀ a, A1 = some a → w.heap.size ≤ a.block) ∧ (∀ a, A2 = some a → w.heap.size ≤ a.block)
theorem TsInv.done {w : World} {br F : Nat} {A0 : Option Addr} {c0 : Nat} {ks : List Ky} {s1 : St} {n : Nat} {xs : List Sp} {s' : St} {A1 : Option Addr} {c1 : Nat} {wr w4 : World} {A2 : Option Addr} {c2 : Nat}
    (I : TsInv w br F A0 c0 ks s1 n xs s' A1 c1 wr) (hbr : w.heap.size < br) (hF : w.heap.size < F) (h1 : ks.length ≤ 4294967296) (h2 : xs.length ≤ 4294967296) (h3 : (takeK s').1.length ≤ 4294967296)
    (ho : w4.ownsRow wr.heap.size 80 2 (.slice A2 (takeK s').1.length c2) (takeK s').1.length ((takeK s').1.flatMap kyC)) (hr : ReaderAt w4 br (takeK s').2) (hk : Kp (· ≠ br) wr w4) :
    TkEnd w br F ⟨ks, xs, (takeK s').1⟩ A0 c0 A1 c1 A2 c2 (takeK s').2 (w4.setCell ⟨F, 2, none⟩ (.slice A2 (takeK s').1.length c2)) := by
  have hFbr : F ≠ br := fun e => by obtain ⟨cs, hb⟩ := I.rd.blk; rw [← e, I.box] at hb; simp at hb
  have b4 := hk.blk I.box hFbr
  have ne : ∀ {base e size m : Nat} {v : Value} {ys : List Value}, w4.ownsRow base e size v m ys → e ≠ 25 → ∀ k, v.ownBlock = some k → k ≠ F := fun h he k hk => by
    obtain ⟨_, cur, h2⟩ := own_blk h hk
    exact blk_ty_ne h2 b4 he
  have o0 := own_kp I.own0 hk (own_rdr I.rd I.own0 (by decide))
  have o1 := own_kp I.own hk (own_rdr I.rd I.own (by decide))
  refine ⟨⟨rfl, rfl, rfl, by simp only; omega, by simp only; omega, by simp only; omega, ?_, ?_, ?_⟩, ?_, ?_, ?_, ?_, fun a ha => (own_blk I.own0 (k := a.block) (by rw [ha]; rfl)).1, fun a ha => (own_blk I.own (k := a.block) (by rw [ha]; rfl)).1, fun a ha => by have h1 := (own_blk ho (k := a.block) (by rw [ha]; rfl)).1; have h2 := I.bel.size; omega⟩
  · exact own_rd (own_kp o0 (kp_set _ _ _ _) (ne o0 (by decide)))
  · exact own_rd (own_kp o1 (kp_set _ _ _ _) (ne o1 (by decide)))
  · exact own_rd (own_kp ho (kp_set _ _ _ _) (ne ho (by decide)))
  · exact blk_set_ne (hk.blk I.res (by omega)) (by simp; omega) _
  · exact blk_set b4 2 _
  · exact hr.kp (kp_set _ _ _ _) (Ne.symm hFbr) (fun k cs fz h => blk_ty_ne h b4 (by decide))
  · have h5 := I.bel.size
    exact (I.bel.trans (hk.below (B := w.heap.size) h5 (fun k hk => by omega))).trans ((kp_set w4 F 2 _).below (by have := hk.size; omega) (fun k hk => by omega))
theorem footBy_len {f : Ft} (hg : goodB f = true) (hi : FtOk f) (hz : f.r.length + f.s.length + f.w.length ≤ 1000000000000) : (footBy f).length ≤ 140737488355328 := by
  simp only [goodB, Bool.and_eq_true] at hg
  have h0 := keysB_len (l := f.r) (fun x hx => ⟨risF_tab _ _ hg.2.1 x hx, hi.r x hx⟩) (by omega)
  have h2 := keysB_len (l := f.w) (fun x hx => ⟨risF_tab _ _ hg.2.2 x hx, hi.w x hx⟩) (by omega)
  have h1 := flat_len spB 30 f.s (fun x hx => spB_len (spnF_tab _ _ hg.1 x hx) (hi.s x hx))
  have h3 := cntB_len64 (n := f.s.length) (by omega)
  unfold footBy
  simp only [List.length_append]
  omega
/-- numbers aren't in a block of slices -/
theorem Rd.off {w : World} {R i : Nat} {cs0 : Array Value} {t : TypeId} {fz : Nat × Nat} {A : Option Addr} {cs : List Value} (h : Rd w A cs) (hR : w.heap[R]? = some (.cells cs0 t fz)) (hs : ∀ v ∈ cs0, ∀ k n, v ≠ .int k n) (hi : ∀ u ∈ cs, ∃ k n, u = .int k n) (v : Value) :
    Rd (w.setCell ⟨R, i, none⟩ v) A cs := fun j u hu => by
  obtain ⟨b, o, hA, hc⟩ := h j u hu
  refine ⟨b, o, hA, (kp_set w R i v).cell hc ?_⟩
  rintro rfl
  rw [blk_cell hR] at hc
  obtain ⟨k, n, rfl⟩ := hi u (List.mem_of_getElem? hu)
  exact hs _ (Array.mem_of_getElem? hc) k n rfl
theorem ky_int (l : List Ky) : ∀ u ∈ l.flatMap kyC, ∃ k n, u = Value.int k n := fun u hu => by
  obtain ⟨x, _, h⟩ := List.mem_flatMap.1 hu
  simp [kyC] at h
  rcases h with rfl | rfl <;> exact ⟨_, _, rfl⟩
theorem sp_int (l : List Sp) : ∀ u ∈ l.flatMap spC, ∃ k n, u = Value.int k n := fun u hu => by
  obtain ⟨x, _, h⟩ := List.mem_flatMap.1 hu
  simp [spC] at h
  rcases h with rfl | rfl | rfl <;> exact ⟨_, _, rfl⟩
theorem FtRd.off {w : World} {R i : Nat} {cs0 : Array Value} {t : TypeId} {fz : Nat × Nat} {f : Ft} {A0 A1 A2 : Option Addr} {n0 c0 n1 c1 n2 c2 : Nat} (h : FtRd w f A0 n0 c0 A1 n1 c1 A2 n2 c2) (hR : w.heap[R]? = some (.cells cs0 t fz)) (hs : ∀ v ∈ cs0, ∀ k n, v ≠ .int k n) (v : Value) : FtRd (w.setCell ⟨R, i, none⟩ v) f A0 n0 c0 A1 n1 c1 A2 n2 c2 :=
  ⟨h.e0, h.e1, h.e2, h.b0, h.b1, h.b2, h.r0.off hR hs (ky_int _) v, h.r1.off hR hs (sp_int _) v, h.r2.off hR hs (ky_int _) v⟩
theorem TsInv.next {w : World} {br F : Nat} {A0 : Option Addr} {c0 : Nat} {ks : List Ky} {s1 : St} {n : Nat} {xs : List Sp} {s' : St} {A1 : Option Addr} {c1 : Nat} {wr w6 w7 : World} {A' : Option Addr} {c' : Nat} {o : Obj}
    (I : TsInv w br F A0 c0 ks s1 n xs s' A1 c1 wr) (hbr : w.heap.size < br) (hF : w.heap.size < F) (h0 : 0 < rLeft s') (hlt : xs.length < n)
    (hk : Kp (· ≠ br) wr w6) (hr : ReaderAt w6 br (rNum (rNum (rSmall s').2).2).2)
    (ho : w7.ownsRow w.heap.size 46 3 (.slice A' (xs.length + 1) c') (xs.length + 1) (xs.flatMap spC ++ spC ⟨((rSmall s').1 : Int), (rNum (rSmall s').2).1, (rNum (rNum (rSmall s').2).2).1⟩))
    (hk7 : Kp (fun k => (Value.slice A1 xs.length c1).ownBlock ≠ some k) (w6.alloc o) w7)
    (hb7 : w7.heap[F]? = some (.cells #[.slice A0 ks.length c0, .slice A1 xs.length c1, .slice none 0 0] 25 (0, 0))) :
    TsInv w br F A0 c0 ks s1 n (xs ++ [⟨((rSmall s').1 : Int), (rNum (rSmall s').2).1, (rNum (rNum (rSmall s').2).2).1⟩]) (rNum (rNum (rSmall s').2).2).2 A' c' (w7.setCell ⟨F, 1, none⟩ (.slice A' (xs.length + 1) c')) := by
  have hFbr : F ≠ br := fun e => by obtain ⟨cs, hb⟩ := I.rd.blk; rw [← e, I.box] at hb; simp at hb
  have ty : ∀ {k : Nat} {cs : Array Value} {t : TypeId} {fz : Nat × Nat}, (w6.alloc o).heap[k]? = some (.cells cs t fz) → t ≠ 46 → k < w6.heap.size → (Value.slice A1 xs.length c1).ownBlock ≠ some k := fun {k cs t fz} h ht _ e => by
    obtain ⟨_, cur, h2⟩ := own_blk (own_ext (own_kp I.own hk (own_rdr I.rd I.own (by decide))) (ext_alloc w6 o)) e
    rw [h] at h2
    simp at h2
    exact ht h2.2.1
  have hlen : (xs ++ [(⟨((rSmall s').1 : Int), (rNum (rSmall s').2).1, (rNum (rNum (rSmall s').2).2).1⟩ : Sp)]).length = xs.length + 1 := by simp
  have hdec := rSpan_left h0
  have r6 := hr.ext (ext_alloc w6 o)
  have r7 : ReaderAt w7 br (rNum (rNum (rSmall s').2).2).2 := r6.kp hk7 (by obtain ⟨cs, hb⟩ := hr.blk; exact ty (blk_alloc hb o) (by decide) (heap_lt hb)) (fun k cs fz h => by
    intro e
    obtain ⟨_, cur, h2⟩ := own_blk (own_ext (own_kp I.own hk (own_rdr I.rd I.own (by decide))) (ext_alloc w6 o)) e
    rw [h] at h2
    simp at h2)
  have o6 := own_kp I.own0 hk (own_rdr I.rd I.own0 (by decide))
  have o7 := own_kp (own_ext o6 (ext_alloc w6 o)) hk7 (fun k hk => by obtain ⟨_, cur, h2⟩ := own_blk o6 hk; exact ty (blk_alloc h2 o) (by decide) (heap_lt h2))
  have e6 := hk.blk I.res (by omega)
  have e7 := hk7.blk (blk_alloc e6 o) (ty (blk_alloc e6 o) (by decide) (heap_lt e6))
  refine ⟨?_, ?_, ?_, ?_, ?_, rNum_byt (rNum_byt (rSmall_byt I.by_)), ?_, ?_, ?_, ?_⟩
  · rw [hlen, List.flatMap_append]
    refine own_kp (by simpa using ho) (kp_set _ _ _ _) (fun k hk => ?_)
    obtain ⟨_, cur, h2⟩ := own_blk ho hk
    exact blk_ty_ne h2 hb7 (by decide)
  · exact own_kp o7 (kp_set _ _ _ _) (fun k hk => by obtain ⟨_, cur, h2⟩ := own_blk o7 hk; exact blk_ty_ne h2 hb7 (by decide))
  · rw [hlen]; exact blk_set hb7 1 _
  · exact blk_set_ne e7 (by simp; omega) _
  · exact r7.kp (kp_set _ _ _ _) (Ne.symm hFbr) (fun k cs fz h => blk_ty_ne h hb7 (by decide))
  · rw [hlen]; omega
  · obtain ⟨m, hm⟩ : ∃ m, n - xs.length = m + 1 := ⟨n - xs.length - 1, by omega⟩
    rw [hlen, show n - (xs.length + 1) = m by omega, I.eq, hm]
    simp only [tsGo]
    rw [if_neg (by omega)]
    simp
  · rw [hlen]; have := I.sz; omega
  · have hs := hk.size
    have hs2 := I.bel.size
    refine ((I.bel.trans (hk.below (B := w.heap.size) hs2 (fun k hk => by omega))).trans ((ext_alloc w6 o).mono (by omega))).trans ((hk7.below (B := w.heap.size) (by simp; omega) (fun k hk e => ?_)).trans ((kp_set w7 F 1 _).below (by have := hk7.size; simp at this; omega) (fun k hk => by omega)))
    have := (own_blk I.own e).1
    omega
set_option maxHeartbeats 4000000 in
theorem Take_any (w : World) (A : Option Addr) (n c : Nat) (bs : List Nat) (hn : n = bs.length) (hr : Rd w A (bs.map bv)) (hA : A = none → n = 0 ∧ c = 0) (hz : n ≤ 1000000000000) (hby : ∀ b ∈ bs, b < 256) :
    Calls Try.prog 11 #[.slice A n c] w (TakePost2 w bs) := by
  have Hr := hid hr
  have Hn := hid hn
  have HA := hid hA
  have Hby := hid hby
  have hu := Try.underlying23
  clear hr hn hA hby
  go_enter Try.func11, Try.ntmps11
  go_wp2_with fail
  refine (NewReader_any _ A n c bs Hn.out (Hr.out.ext (ext_alloc _ _)) HA.out (by omega)).mono ?_
  rintro e w1 ⟨br, hbr, rfl, h1, h2⟩
  go_wp2_with fail
  refine (takeKeys_any _ br (some bs) (Byt.some Hby.out) h1.out (by simp only [rLeft]; rw [← Hn.out]; exact hz)).mono ?_
  rintro e w2 ⟨A0, c0, rfl, h3, h4, h5⟩
  go_wp2_with fail
  have By2 : Hid (Byt (takeK (some bs)).2) := hid (takeK_facts (Byt.some Hby.out)).2.2.1
  have Sz2 : Hid (rLeft (takeK (some bs)).2 ≤ 1000000000000) := hid (Nat.le_trans (takeK_facts (Byt.some Hby.out)).2.2.2 (by simp only [rLeft]; rw [← Hn.out]; exact hz))
  have Fk := hid (takeF_ok (Byt.some Hby.out))
  have Ew : Hid (w1.heap.size ≤ w2.heap.size) := hid h5.out.size
  have Ew0 : Hid (w.heap.size < w1.heap.size) := hid (Nat.lt_of_lt_of_le (by simp) h2.out.size)
  have Bel2 : Hid (Below w.heap.size w w2) := hid (((ext_alloc _ _).trans (h2.out.mono (by simp))).trans (h5.out.below (Nat.le_of_lt Ew0.out) (fun k hk => by simp at hbr; omega)))
  have Rs2 := hid (h5.out.blk (ext_blk h2.out (blk_new w (Obj.cells #[.slice none 0 0, .slice none 0 0, .slice none 0 0] 25))) (by simp at hbr; omega))
  generalize hK : takeK (some bs) = K at *
  obtain ⟨ks, s2⟩ := K
  simp only at *
  refine (fsmall_any _ br s2 By2.out (h4.out.ext (ext_alloc _ _))).mono ?_
  rintro e w3 ⟨rfl, h6, h7⟩
  have hS := rSmall_lt s2
  have By3 := hid (rSmall_byt By2.out)
  have Sz3 : Hid (rLeft (rSmall s2).2 ≤ 1000000000000) := hid (Nat.le_trans (rCount_le s2) Sz2.out)
  have Bx3 := hid (h7.out.blk (blk_new w2 (Obj.cells #[.slice A0 ks.length c0, .slice none 0 0, .slice none 0 0] 25)) (fun e => by have := h4.out.lt; omega))
  have Rs3 := hid (h7.out.blk (blk_alloc Rs2.out (Obj.cells #[.slice A0 ks.length c0, .slice none 0 0, .slice none 0 0] 25)) (by simp at hbr; omega))
  have O3 : Hid (w3.ownsRow w.heap.size 80 2 (.slice A0 ks.length c0) ks.length (ks.flatMap kyC)) := hid (own_kp (own_ext (own_base h3.out (fun k hk => by have := (own_blk h3.out hk).1; have := Ew0.out; omega)) (ext_alloc _ _)) h7.out (fun k hk => own_rdr h4.out h3.out (by decide) k hk))
  have Bel3 : Hid (Below w.heap.size w w3) := hid ((Bel2.out.trans ((ext_alloc _ _).mono Bel2.out.size)).trans (h7.out.below (by have := Bel2.out.size; simp; omega) (fun k hk => by simp at hbr; omega)))
  generalize hq : rSmall s2 = q at *
  obtain ⟨m, s3⟩ := q
  simp only at *
  have Hbr := hid hbr
  have HK := hid hK
  have Hq := hid hq
  clear hbr hK hq h1 h2 h3 h4 h5 h7
  go_wp2
  go_loopg [] m (fun g wr => ∃ (xs : List Sp) (s' : St) (A1 : Option Addr) (c1 : Nat), g = m - xs.length ∧ xs.length ≤ m ∧ Hid (TsInv w br w2.heap.size A0 c0 ks s3 m xs s' A1 c1 wr))
  case atStart => exact ⟨[], s3, none, 0, by simp, by simp, ⟨World.ownsRow_nil _ _ _ _, O3.out, Bx3.out, Rs3.out, h6.out, By3.out, by simp, rfl, by simp, Bel3.out⟩⟩
  case round =>
    clear Bx3 Rs3 O3 h6 By3 Bel3
    obtain ⟨xs, s', A1, c1, hg, hle, I⟩ := hrel
    have Hg := hid hg
    clear hg
    have hb1 := blk_cell I.out.box 1
    simp at hb1
    by_cases hlt : xs.length < m
    · rcases Nat.eq_zero_or_pos (rLeft s') with h0 | h0
      · have Hl := hid (Left_any wr br s' I.out.rd)
        rw [h0] at Hl
        have E5 : Hid (tsGo m s3 = (xs, s')) := hid (by rw [I.out.eq, tsGo_end _ h0]; simp)
        go_wp2_with (go_at_call 30; refine Hl.out.mono ?_; rintro e w' ⟨rfl, rfl⟩)
        refine (takeKeys_any _ br s' I.out.by_ I.out.rd (by have := I.out.sz; have := Sz3.out; omega)).mono ?_
        rintro e w4 ⟨A2, c2, rfl, q1, q2, q3⟩
        have hFbr : w2.heap.size ≠ br := fun e => by obtain ⟨cs, hb⟩ := I.out.rd.blk; rw [← e, I.out.box] at hb; simp at hb
        have bx4 := q3.out.blk I.out.box hFbr
        have hc4 := blk_cell bx4 2
        have hf4 := blk_free bx4 2
        have hd4 := blk_cell bx4 0
        have he4 := blk_cell bx4 1
        simp at hc4 hd4 he4
        have Bx5 := hid (blk_set bx4 2 (.slice A2 (takeK s').1.length c2))
        clear bx4
        go_wp2_with fail
        have EF : Hid (takeF (some bs) = (⟨ks, xs, (takeK s').1⟩, (takeK s').2)) := hid (by unfold takeF; simp only [HK.out, Hq.out, E5.out])
        have Fk2 := Fk
        rw [EF.out] at Fk2
        have M := hid (I.out.done (by have := Hbr.out; simp at this; omega) (by have := Bel2.out.size; have := Ew.out; have := Ew0.out; omega) Fk2.out.2.1 Fk2.out.2.2.1 Fk2.out.2.2.2 q1.out q2.out q3.out)
        generalize w4.setCell ⟨w2.heap.size, 2, none⟩ (.slice A2 (takeK s').1.length c2) = W at *
        have ET : takenF bs = if goodB ⟨ks, xs, (takeK s').1⟩ = true ∧ (takeK s').2 = some [] ∧ footBy ⟨ks, xs, (takeK s').1⟩ = bs then some ⟨ks, xs, (takeK s').1⟩ else none := by unfold takenF; rw [EF.out]
        have HT := hid ET
        generalize takeK s' = K3 at *
        obtain ⟨k3, s4⟩ := K3
        simp only at M HT Fk2 ⊢
        clear ET q1 q2 q3 hc4 hf4 hd4 he4 Bx5 EF
        cases hg : goodB ⟨ks, xs, k3⟩ with
        | false =>
          refine (Good_any W ⟨ks, xs, k3⟩ _ _ _ _ _ _ _ _ _ M.out.ft (fun x hx => (Fk2.out.1.s x hx).2)).mono ?_
          rintro e w6 ⟨rfl, hb6⟩
          have HBB := hid hb6
          clear hb6
          have rs6 := ext_blk HBB.out M.out.res
          have r0 := blk_cell rs6 0
          have r1 := blk_cell rs6 1
          have r2 := blk_cell rs6 2
          have f0 := blk_free rs6 0
          have f1 := blk_free rs6 1
          have f2 := blk_free rs6 2
          simp at r0 r1 r2
          have Rs6 := hid rs6
          clear rs6
          rw [hg]
          go_wp2
          refine bodyPost_ret (v := .tuple #[.agg #[.slice none 0 0, .slice none 0 0, .slice none 0 0], errno 2]) (by simp [results, Try.results11, go_sem, r0, r1, r2, f0, f1, f2, errno]) rfl ⟨?_, .inr ⟨?_, rfl⟩⟩
          · exact (((M.out.bel.trans (HBB.out.mono M.out.bel.size)).trans ((kp_set _ _ 0 _).below (by have := M.out.bel.size; have := HBB.out.size; omega) (fun k hk => by omega))).trans ((kp_set _ _ 1 _).below (by have := M.out.bel.size; have := HBB.out.size; simp; omega) (fun k hk => by omega))).trans ((kp_set _ _ 2 _).below (by have := M.out.bel.size; have := HBB.out.size; simp; omega) (fun k hk => by omega))
          · rw [HT.out, if_neg (by simp [hg])]
        | true =>
          refine (Good_any W ⟨ks, xs, k3⟩ _ _ _ _ _ _ _ _ _ M.out.ft (fun x hx => (Fk2.out.1.s x hx).2)).mono ?_
          rintro e w6 ⟨rfl, hb6⟩
          have Hb6 := hid hb6
          clear hb6
          rw [hg]
          by_cases hs4 : s4 = some []
          · subst hs4
            go_wp2_with fail
            refine (End_ok w6 br (M.out.rd.ext Hb6.out)).mono ?_
            rintro e w' ⟨rfl, rfl⟩
            have bx6 := ext_blk Hb6.out M.out.box
            have z0 := blk_cell bx6 0
            have z1 := blk_cell bx6 1
            have z2 := blk_cell bx6 2
            simp at z0 z1 z2
            have Bx6 := hid bx6
            clear bx6
            go_wp2_with fail
            refine (Put_good w6 ⟨ks, xs, k3⟩ _ _ _ _ _ _ _ _ _ (M.out.ft.ext Hb6.out) Fk2.out.1 hg (show ks.length + xs.length + k3.length ≤ 1000000000000 by have := Fk2.out.2; omega)).mono ?_
            rintro e w7 ⟨A3, c3, rfl, p1, p2, p3, p4, p5⟩
            have P1 := hid (own_rd p1)
            have P5 := hid p5
            have hlf : (footBy ⟨ks, xs, k3⟩).length ≤ 140737488355328 := footBy_len hg Fk2.out.1 (show ks.length + xs.length + k3.length ≤ 1000000000000 by have := Fk2.out.2; omega)
            clear p1 p4 p5 z0 z1 z2
            go_wp2_with fail
            refine (Equal_any w7 A3 _ c3 (footBy ⟨ks, xs, k3⟩) A n c bs rfl Hn.out P1.out (Hr.out.kp2 (M.out.bel.trans ((ext_trans Hb6.out P5.out).mono M.out.bel.size)) (fun a ha h0 => by obtain ⟨b, o, e, hb, _⟩ := Hr.out.addr h0; rw [ha] at e; simp at e; rw [e]; exact hb)) hlf (by omega)).mono ?_
            rintro e w8 ⟨rfl, hb8⟩
            have HBB : Hid (Below W.heap.size W w8) := hid (ext_trans Hb6.out (ext_trans P5.out hb8))
            clear hb8
            have rs6 := ext_blk HBB.out M.out.res
            have r0 := blk_cell rs6 0
            have r1 := blk_cell rs6 1
            have r2 := blk_cell rs6 2
            have f0 := blk_free rs6 0
            have f1 := blk_free rs6 1
            have f2 := blk_free rs6 2
            simp at r0 r1 r2
            have Rs6 := hid rs6
            clear rs6
            by_cases he : footBy ⟨ks, xs, k3⟩ = bs
            · rw [decide_eq_true he]
              have bx8 := ext_blk HBB.out M.out.box
              have z0 := blk_cell bx8 0
              have z1 := blk_cell bx8 1
              have z2 := blk_cell bx8 2
              simp at z0 z1 z2
              have Bx8 := hid bx8
              have He := hid he
              clear bx8 he
              go_wp2
              refine bodyPost_ret (v := .tuple #[.agg #[.slice A0 ks.length c0, .slice A1 xs.length c1, .slice A2 k3.length c2], .nilIface]) (by simp [results, Try.results11, go_sem, r0, r1, r2, f0, f1, f2]) rfl ⟨?_, .inl ⟨⟨ks, xs, k3⟩, A0, _, c0, A1, _, c1, A2, _, c2, ?_, rfl, ?_, Fk2.out.1, by have := Fk2.out.2; omega, M.out.fr⟩⟩
              · exact (((M.out.bel.trans (HBB.out.mono M.out.bel.size)).trans ((kp_set _ _ 0 _).below (by have := M.out.bel.size; have := HBB.out.size; omega) (fun k hk => by omega))).trans ((kp_set _ _ 1 _).below (by have := M.out.bel.size; have := HBB.out.size; simp; omega) (fun k hk => by omega))).trans ((kp_set _ _ 2 _).below (by have := M.out.bel.size; have := HBB.out.size; simp; omega) (fun k hk => by omega))
              · rw [HT.out, if_pos (by simp [hg, He.out])]
              · have g1 := (M.out.ft.ext HBB.out).off (i := 0) Rs6.out (by simp) (.slice A0 ks.length c0)
                have g2 := g1.off (i := 1) (blk_set Rs6.out 0 _) (by simp) (.slice A1 xs.length c1)
                exact g2.off (i := 2) (blk_set (blk_set Rs6.out 0 _) 1 _) (by simp) (.slice A2 k3.length c2)
            · rw [decide_eq_false he]
              have He := hid he
              clear he
              go_wp2
              refine bodyPost_ret (v := .tuple #[.agg #[.slice none 0 0, .slice none 0 0, .slice none 0 0], errno 2]) (by simp [results, Try.results11, go_sem, r0, r1, r2, f0, f1, f2, errno]) rfl ⟨?_, .inr ⟨?_, rfl⟩⟩
              · exact (((M.out.bel.trans (HBB.out.mono M.out.bel.size)).trans ((kp_set _ _ 0 _).below (by have := M.out.bel.size; have := HBB.out.size; omega) (fun k hk => by omega))).trans ((kp_set _ _ 1 _).below (by have := M.out.bel.size; have := HBB.out.size; simp; omega) (fun k hk => by omega))).trans ((kp_set _ _ 2 _).below (by have := M.out.bel.size; have := HBB.out.size; simp; omega) (fun k hk => by omega))
              · rw [HT.out, if_neg (by simp [He.out])]
          · go_wp2_with fail
            refine (End_bad w6 br s4 hs4 (M.out.rd.ext Hb6.out)).mono ?_
            rintro e w' ⟨rfl, rfl⟩
            have HBB := Hb6
            have rs6 := ext_blk HBB.out M.out.res
            have r0 := blk_cell rs6 0
            have r1 := blk_cell rs6 1
            have r2 := blk_cell rs6 2
            have f0 := blk_free rs6 0
            have f1 := blk_free rs6 1
            have f2 := blk_free rs6 2
            simp at r0 r1 r2
            have Rs6 := hid rs6
            clear rs6
            have Hs4 := hid hs4
            clear hs4
            unfold errno
            go_wp2
            refine bodyPost_ret (v := .tuple #[.agg #[.slice none 0 0, .slice none 0 0, .slice none 0 0], errno 2]) (by simp [results, Try.results11, go_sem, r0, r1, r2, f0, f1, f2, errno]) rfl ⟨?_, .inr ⟨?_, rfl⟩⟩
            · exact (((M.out.bel.trans (HBB.out.mono M.out.bel.size)).trans ((kp_set _ _ 0 _).below (by have := M.out.bel.size; have := HBB.out.size; omega) (fun k hk => by omega))).trans ((kp_set _ _ 1 _).below (by have := M.out.bel.size; have := HBB.out.size; simp; omega) (fun k hk => by omega))).trans ((kp_set _ _ 2 _).below (by have := M.out.bel.size; have := HBB.out.size; simp; omega) (fun k hk => by omega))
            · rw [HT.out, if_neg (by simp [Hs4.out])]
      · have Hl := hid (Left_any wr br s' I.out.rd)
        have hl0 : 0 < (rLeft s' : Int) := by omega
        have H0 := hid h0
        clear h0
        go_wp2_with (go_at_call 30; refine Hl.out.mono ?_; rintro e w' ⟨rfl, rfl⟩)
        have By4 := hid (rSmall_byt I.out.by_)
        have By5 := hid (rNum_byt By4.out)
        have hFbr : w2.heap.size ≠ br := fun e => by obtain ⟨cs, hb⟩ := I.out.rd.blk; rw [← e, I.out.box] at hb; simp at hb
        have Hrow : Hid (∀ k, (Value.slice A1 xs.length c1).ownBlock = some k → k ≠ br) := hid (own_rdr I.out.rd I.out.own (by decide))
        have Hsz : Hid (xs.length + 1 ≤ 1000000000000) := by
          have := I.out.sz
          have := Sz3.out
          have := H0.out
          exact hid (by omega)
        have HnF : Hid ((Value.slice A1 xs.length c1).ownBlock ≠ some w2.heap.size) := hid fun e => by obtain ⟨_, cur, h2⟩ := own_blk I.out.own e; rw [I.out.box] at h2; simp at h2
        go_region_law (first
          | (go_simp; go_at_call 29; refine (fsmall_any _ br s' I.out.by_ (I.out.rd.ext (ext_drew _))).mono ?_; rintro e w4 ⟨rfl, q1, q2⟩; have hF1 := q2.out.cell (p := ⟨w2.heap.size, 1, none⟩) hb1 hFbr)
          | (go_simp; go_at_call 31; refine (Num_any _ br _ By5.out (Count_any _ br _ By5.out q3.out)).mono ?_; rintro e w6 ⟨rfl, q5, q6⟩; have hF3 := q6.out.cell (p := ⟨w2.heap.size, 1, none⟩) hF2 hFbr; have hF4 := ext_cell (ext_alloc w6 (Obj.cells #[.int .i64 ((rSmall s').1 : Int), .int .i64 (rNum (rSmall s').2).1, .int .i64 (rNum (rNum (rSmall s').2).2).1] 46)) hF3; have Bx6 := hid ((q2.out.trans (q4.out.trans q6.out)).blk I.out.box hFbr); have Own6 := hid (own_kp (own_ext I.out.own (ext_drew _)) (q2.out.trans (q4.out.trans q6.out)) Hrow.out); have Hw6 : Hid (w.heap.size ≤ w6.heap.size) := hid (Nat.le_trans I.out.bel.size (q2.out.trans (q4.out.trans q6.out)).size))
          | (go_simp; go_at_call 31; refine (Num_any _ br _ By4.out (Count_any _ br _ By4.out q1.out)).mono ?_; rintro e w5 ⟨rfl, q3, q4⟩; have hF2 := q4.out.cell (p := ⟨w2.heap.size, 1, none⟩) hF1 hFbr)
          | (refine st_ap rfl rfl w.heap.size 46 hu info_span rfl (by decide) (.slice A1 xs.length c1) xs.length (xs.flatMap spC) rfl (own_ext Own6.out (ext_alloc _ _)) (some ⟨w6.heap.size, 0, none⟩) 1 1 (spC ⟨((rSmall s').1 : Int), (rNum (rSmall s').2).1, (rNum (rNum (rSmall s').2).2).1⟩) rfl rfl (rd_new w6 _ 46) (fun u hu => by simp [spC] at hu; rcases hu with rfl | rfl | rfl <;> rfl) (by have := Hsz.out; unfold maxLen; omega) (by have := Hsz.out; omega) (by have := Hw6.out; simp; omega) ?_; intro A' c' w7 hnc hcm hown hkp hhop; have bx7 := hkp.blk (blk_alloc Bx6.out (Obj.cells #[.int .i64 ((rSmall s').1 : Int), .int .i64 (rNum (rSmall s').2).1, .int .i64 (rNum (rNum (rSmall s').2).2).1] 46)) HnF.out; have hc7 := blk_cell bx7 1; have hf7 := blk_free bx7 1; simp at hc7; have Bx7 := hid bx7; have Hown := hid hown; have Hkp := hid hkp; clear hown hkp hhop bx7))
        all_goals
          go_wp2
          go_roundg (m - (xs.length + 1))
          case measure => rw [Hg.out]; omega
          case rel => exact ⟨_, _, A', c', by simp, by simp; omega, hid (I.out.next (by have := Hbr.out; simp at this; omega) (by have := Bel2.out.size; have := Ew.out; have := Ew0.out; omega) H0.out hlt ((Kp.drew _ wr).trans (q2.out.trans (q4.out.trans q6.out))) q5.out Hown.out Hkp.out Bx7.out)⟩
    · have E5 : Hid (tsGo m s3 = (xs, s')) := hid (by rw [I.out.eq, show m - xs.length = 0 by omega]; simp [tsGo])
      go_wp2_with fail
      refine (takeKeys_any _ br s' I.out.by_ I.out.rd (by have := I.out.sz; have := Sz3.out; omega)).mono ?_
      rintro e w4 ⟨A2, c2, rfl, q1, q2, q3⟩
      have hFbr : w2.heap.size ≠ br := fun e => by obtain ⟨cs, hb⟩ := I.out.rd.blk; rw [← e, I.out.box] at hb; simp at hb
      have bx4 := q3.out.blk I.out.box hFbr
      have hc4 := blk_cell bx4 2
      have hf4 := blk_free bx4 2
      have hd4 := blk_cell bx4 0
      have he4 := blk_cell bx4 1
      simp at hc4 hd4 he4
      have Bx5 := hid (blk_set bx4 2 (.slice A2 (takeK s').1.length c2))
      clear bx4
      go_wp2_with fail
      have EF : Hid (takeF (some bs) = (⟨ks, xs, (takeK s').1⟩, (takeK s').2)) := hid (by unfold takeF; simp only [HK.out, Hq.out, E5.out])
      have Fk2 := Fk
      rw [EF.out] at Fk2
      have M := hid (I.out.done (by have := Hbr.out; simp at this; omega) (by have := Bel2.out.size; have := Ew.out; have := Ew0.out; omega) Fk2.out.2.1 Fk2.out.2.2.1 Fk2.out.2.2.2 q1.out q2.out q3.out)
      generalize w4.setCell ⟨w2.heap.size, 2, none⟩ (.slice A2 (takeK s').1.length c2) = W at *
      have ET : takenF bs = if goodB ⟨ks, xs, (takeK s').1⟩ = true ∧ (takeK s').2 = some [] ∧ footBy ⟨ks, xs, (takeK s').1⟩ = bs then some ⟨ks, xs, (takeK s').1⟩ else none := by unfold takenF; rw [EF.out]
      have HT := hid ET
      generalize takeK s' = K3 at *
      obtain ⟨k3, s4⟩ := K3
      simp only at M HT Fk2 ⊢
      clear ET q1 q2 q3 hc4 hf4 hd4 he4 Bx5 EF
      cases hg : goodB ⟨ks, xs, k3⟩ with
      | false =>
        refine (Good_any W ⟨ks, xs, k3⟩ _ _ _ _ _ _ _ _ _ M.out.ft (fun x hx => (Fk2.out.1.s x hx).2)).mono ?_
        rintro e w6 ⟨rfl, hb6⟩
        have HBB := hid hb6
        clear hb6
        have rs6 := ext_blk HBB.out M.out.res
        have r0 := blk_cell rs6 0
        have r1 := blk_cell rs6 1
        have r2 := blk_cell rs6 2
        have f0 := blk_free rs6 0
        have f1 := blk_free rs6 1
        have f2 := blk_free rs6 2
        simp at r0 r1 r2
        have Rs6 := hid rs6
        clear rs6
        rw [hg]
        go_wp2
        refine bodyPost_ret (v := .tuple #[.agg #[.slice none 0 0, .slice none 0 0, .slice none 0 0], errno 2]) (by simp [results, Try.results11, go_sem, r0, r1, r2, f0, f1, f2, errno]) rfl ⟨?_, .inr ⟨?_, rfl⟩⟩
        · exact (((M.out.bel.trans (HBB.out.mono M.out.bel.size)).trans ((kp_set _ _ 0 _).below (by have := M.out.bel.size; have := HBB.out.size; omega) (fun k hk => by omega))).trans ((kp_set _ _ 1 _).below (by have := M.out.bel.size; have := HBB.out.size; simp; omega) (fun k hk => by omega))).trans ((kp_set _ _ 2 _).below (by have := M.out.bel.size; have := HBB.out.size; simp; omega) (fun k hk => by omega))
        · rw [HT.out, if_neg (by simp [hg])]
      | true =>
        refine (Good_any W ⟨ks, xs, k3⟩ _ _ _ _ _ _ _ _ _ M.out.ft (fun x hx => (Fk2.out.1.s x hx).2)).mono ?_
        rintro e w6 ⟨rfl, hb6⟩
        have Hb6 := hid hb6
        clear hb6
        rw [hg]
        by_cases hs4 : s4 = some []
        · subst hs4
          go_wp2_with fail
          refine (End_ok w6 br (M.out.rd.ext Hb6.out)).mono ?_
          rintro e w' ⟨rfl, rfl⟩
          have bx6 := ext_blk Hb6.out M.out.box
          have z0 := blk_cell bx6 0
          have z1 := blk_cell bx6 1
          have z2 := blk_cell bx6 2
          simp at z0 z1 z2
          have Bx6 := hid bx6
          clear bx6
          go_wp2_with fail
          refine (Put_good w6 ⟨ks, xs, k3⟩ _ _ _ _ _ _ _ _ _ (M.out.ft.ext Hb6.out) Fk2.out.1 hg (show ks.length + xs.length + k3.length ≤ 1000000000000 by have := Fk2.out.2; omega)).mono ?_
          rintro e w7 ⟨A3, c3, rfl, p1, p2, p3, p4, p5⟩
          have P1 := hid (own_rd p1)
          have P5 := hid p5
          have hlf : (footBy ⟨ks, xs, k3⟩).length ≤ 140737488355328 := footBy_len hg Fk2.out.1 (show ks.length + xs.length + k3.length ≤ 1000000000000 by have := Fk2.out.2; omega)
          clear p1 p4 p5 z0 z1 z2
          go_wp2_with fail
          refine (Equal_any w7 A3 _ c3 (footBy ⟨ks, xs, k3⟩) A n c bs rfl Hn.out P1.out (Hr.out.kp2 (M.out.bel.trans ((ext_trans Hb6.out P5.out).mono M.out.bel.size)) (fun a ha h0 => by obtain ⟨b, o, e, hb, _⟩ := Hr.out.addr h0; rw [ha] at e; simp at e; rw [e]; exact hb)) hlf (by omega)).mono ?_
          rintro e w8 ⟨rfl, hb8⟩
          have HBB : Hid (Below W.heap.size W w8) := hid (ext_trans Hb6.out (ext_trans P5.out hb8))
          clear hb8
          have rs6 := ext_blk HBB.out M.out.res
          have r0 := blk_cell rs6 0
          have r1 := blk_cell rs6 1
          have r2 := blk_cell rs6 2
          have f0 := blk_free rs6 0
          have f1 := blk_free rs6 1
          have f2 := blk_free rs6 2
          simp at r0 r1 r2
          have Rs6 := hid rs6
          clear rs6
          by_cases he : footBy ⟨ks, xs, k3⟩ = bs
          · rw [decide_eq_true he]
            have bx8 := ext_blk HBB.out M.out.box
            have z0 := blk_cell bx8 0
            have z1 := blk_cell bx8 1
            have z2 := blk_cell bx8 2
            simp at z0 z1 z2
            have Bx8 := hid bx8
            have He := hid he
            clear bx8 he
            go_wp2
            refine bodyPost_ret (v := .tuple #[.agg #[.slice A0 ks.length c0, .slice A1 xs.length c1, .slice A2 k3.length c2], .nilIface]) (by simp [results, Try.results11, go_sem, r0, r1, r2, f0, f1, f2]) rfl ⟨?_, .inl ⟨⟨ks, xs, k3⟩, A0, _, c0, A1, _, c1, A2, _, c2, ?_, rfl, ?_, Fk2.out.1, by have := Fk2.out.2; omega, M.out.fr⟩⟩
            · exact (((M.out.bel.trans (HBB.out.mono M.out.bel.size)).trans ((kp_set _ _ 0 _).below (by have := M.out.bel.size; have := HBB.out.size; omega) (fun k hk => by omega))).trans ((kp_set _ _ 1 _).below (by have := M.out.bel.size; have := HBB.out.size; simp; omega) (fun k hk => by omega))).trans ((kp_set _ _ 2 _).below (by have := M.out.bel.size; have := HBB.out.size; simp; omega) (fun k hk => by omega))
            · rw [HT.out, if_pos (by simp [hg, He.out])]
            · have g1 := (M.out.ft.ext HBB.out).off (i := 0) Rs6.out (by simp) (.slice A0 ks.length c0)
              have g2 := g1.off (i := 1) (blk_set Rs6.out 0 _) (by simp) (.slice A1 xs.length c1)
              exact g2.off (i := 2) (blk_set (blk_set Rs6.out 0 _) 1 _) (by simp) (.slice A2 k3.length c2)
          · rw [decide_eq_false he]
            have He := hid he
            clear he
            go_wp2
            refine bodyPost_ret (v := .tuple #[.agg #[.slice none 0 0, .slice none 0 0, .slice none 0 0], errno 2]) (by simp [results, Try.results11, go_sem, r0, r1, r2, f0, f1, f2, errno]) rfl ⟨?_, .inr ⟨?_, rfl⟩⟩
            · exact (((M.out.bel.trans (HBB.out.mono M.out.bel.size)).trans ((kp_set _ _ 0 _).below (by have := M.out.bel.size; have := HBB.out.size; omega) (fun k hk => by omega))).trans ((kp_set _ _ 1 _).below (by have := M.out.bel.size; have := HBB.out.size; simp; omega) (fun k hk => by omega))).trans ((kp_set _ _ 2 _).below (by have := M.out.bel.size; have := HBB.out.size; simp; omega) (fun k hk => by omega))
            · rw [HT.out, if_neg (by simp [He.out])]
        · go_wp2_with fail
          refine (End_bad w6 br s4 hs4 (M.out.rd.ext Hb6.out)).mono ?_
          rintro e w' ⟨rfl, rfl⟩
          have HBB := Hb6
          have rs6 := ext_blk HBB.out M.out.res
          have r0 := blk_cell rs6 0
          have r1 := blk_cell rs6 1
          have r2 := blk_cell rs6 2
          have f0 := blk_free rs6 0
          have f1 := blk_free rs6 1
          have f2 := blk_free rs6 2
          simp at r0 r1 r2
          have Rs6 := hid rs6
          clear rs6
          have Hs4 := hid hs4
          clear hs4
          unfold errno
          go_wp2
          refine bodyPost_ret (v := .tuple #[.agg #[.slice none 0 0, .slice none 0 0, .slice none 0 0], errno 2]) (by simp [results, Try.results11, go_sem, r0, r1, r2, f0, f1, f2, errno]) rfl ⟨?_, .inr ⟨?_, rfl⟩⟩
          · exact (((M.out.bel.trans (HBB.out.mono M.out.bel.size)).trans ((kp_set _ _ 0 _).below (by have := M.out.bel.size; have := HBB.out.size; omega) (fun k hk => by omega))).trans ((kp_set _ _ 1 _).below (by have := M.out.bel.size; have := HBB.out.size; simp; omega) (fun k hk => by omega))).trans ((kp_set _ _ 2 _).below (by have := M.out.bel.size; have := HBB.out.size; simp; omega) (fun k hk => by omega))
          · rw [HT.out, if_neg (by simp [Hs4.out])]
end Go.Proofs.Ytgnikijaihmeeaa
