/- The walk of prog.Decode. -/
import Derived.Test.YtgnfccdhlpeknaaSwL
import Derived.Deep.RegionLaw
import Derived.Deep.LoopGhost
open Go Go.RowKit
namespace Go.Proofs.Ytgnfccdhlpeknaa
set_option maxRecDepth 100000
def dcGo : Nat → St → List Cd × St
  | 0, s => ([], s)
  | m + 1, s => if rLeft s = 0 then ([], s) else (ofL (rCode s).1 :: (dcGo m (rCode s).2).1, (dcGo m (rCode s).2).2)
structure Pg where
  fuel : Int
  code : List Cd
def takeP (s : St) : Pg × St := (⟨((rSm s).1 : Int), (dcGo (rSm (rSm s).2).1 (rSm (rSm s).2).2).1⟩, (dcGo (rSm (rSm s).2).1 (rSm (rSm s).2).2).2)
/-- The program of bytes. -/
def decP (bs : List Nat) : Option Pg :=
  if checkP (takeP (some bs)).1.fuel (takeP (some bs)).1.code = none ∧ (takeP (some bs)).2 = some [] ∧ progB (takeP (some bs)).1.fuel (takeP (some bs)).1.code = bs then some (takeP (some bs)).1 else none
theorem dcGo_end (m : Nat) {s : St} (h : rLeft s = 0) : dcGo m s = ([], s) := by
  cases m with
  | zero => rfl
  | succ m => simp only [dcGo]; rw [if_pos h]
theorem codeGo_facts : ∀ (ls x : List Int) (s : St), Byt s → x.length = 6 → (∀ i, i < 6 → inI (gI x i)) → (codeGo ls x s).1.length = 6 ∧ (∀ i, i < 6 → inI (gI (codeGo ls x s).1 i)) ∧ Byt (codeGo ls x s).2 ∧ rLeft (codeGo ls x s).2 ≤ rLeft s
  | [], x, s, hb, hl, hx => ⟨hl, hx, hb, Nat.le_refl _⟩
  | l :: ls, x, s, hb, hl, hx => by
    simp only [codeGo]
    split
    · obtain ⟨h1, h2, h3, h4⟩ := codeGo_facts ls (x.set 5 (rNum s).1) (rNum s).2 (rNum_byt hb) (by simp [hl]) (fun i hi => by
        rw [gI_set hl 5 i (by omega)]
        split
        · exact rNum_in hb
        · exact hx i hi)
      exact ⟨h1, h2, h3, Nat.le_trans h4 (rCount_le s)⟩
    · obtain ⟨h1, h2, h3, h4⟩ := codeGo_facts ls (x.set (fldI l) ((rSm s).1 : Int)) (rSm s).2 (rSm_byt hb) (by simp [hl]) (fun i hi => by
        rw [gI_set hl (fldI l) i (fldI_lt l).1]
        split
        · unfold inI rSm; simp only; omega
        · exact hx i hi)
      exact ⟨h1, h2, h3, Nat.le_trans h4 (rCount_le s)⟩
theorem ofL_ok {l : List Int} (h : ∀ i, i < 6 → inI (gI l i)) : CdOk (ofL l) := fun i hi => by
  match i, hi with
  | 0, _ => exact h 0 (by omega)
  | 1, _ => exact h 1 (by omega)
  | 2, _ => exact h 2 (by omega)
  | 3, _ => exact h 3 (by omega)
  | 4, _ => exact h 4 (by omega)
  | 5, _ => exact h 5 (by omega)
theorem rByte_left {s : St} (h : 0 < rLeft s) : rLeft (rByte s).2 < rLeft s := by
  cases s with
  | none => simp [rLeft] at h
  | some l => cases l with
    | nil => simp [rLeft] at h
    | cons b r => simp [rLeft, rByte]
theorem rCode_facts {s : St} (h : Byt s) : CdOk (ofL (rCode s).1) ∧ Byt (rCode s).2 ∧ (0 < rLeft s → rLeft (rCode s).2 < rLeft s) := by
  obtain ⟨h1, h2, h3, h4⟩ := codeGo_facts (lets (shapeS ((rByte s).1 : Int))) [((rByte s).1 : Int), 0, 0, 0, 0, 0] (rByte s).2 (rByte_byt h) rfl (fun i hi => by
    have := rByte_lt h
    match i, hi with
    | 0, _ => unfold inI gI; simp; omega
    | 1, _ => unfold inI gI; simp
    | 2, _ => unfold inI gI; simp
    | 3, _ => unfold inI gI; simp
    | 4, _ => unfold inI gI; simp
    | 5, _ => unfold inI gI; simp)
  exact ⟨ofL_ok h2, h3, fun h0 => Nat.lt_of_le_of_lt h4 (rByte_left h0)⟩
theorem dcGo_facts : ∀ (m : Nat) (s : St), Byt s → (∀ x ∈ (dcGo m s).1, CdOk x) ∧ Byt (dcGo m s).2 ∧ (dcGo m s).1.length + rLeft (dcGo m s).2 ≤ rLeft s
  | 0, s, h => by simp [dcGo, h]
  | m + 1, s, h => by
    simp only [dcGo]
    split
    · simp [h]
    · rename_i h0
      obtain ⟨c1, c2, c3⟩ := rCode_facts h
      obtain ⟨h1, h2, h3⟩ := dcGo_facts m _ c2
      have h5 := c3 (by omega)
      refine ⟨fun x hx => ?_, h2, by simp; omega⟩
      rcases List.mem_cons.1 hx with rfl | hx
      · exact c1
      · exact h1 x hx
theorem cd_one (xs : List Cd) : ∀ u ∈ xs.flatMap cdC, u.oneCell' = true := fun u hu => by
  obtain ⟨x, _, h⟩ := List.mem_flatMap.1 hu
  obtain ⟨i, _, rfl⟩ := List.mem_map.1 h
  rfl
theorem cd_int (l : List Cd) : ∀ u ∈ l.flatMap cdC, ∃ k n, u = Value.int k n := fun u hu => by
  obtain ⟨x, _, h⟩ := List.mem_flatMap.1 hu
  obtain ⟨i, _, rfl⟩ := List.mem_map.1 h
  exact ⟨_, _, rfl⟩
theorem info_code : (Try.prog.info? 93).map (fun i => (i.zero, i.size, i.bytes)) = some (some (.agg #[.int .i64 0, .int .i64 0, .int .i64 0, .int .i64 0, .int .i64 0, .int .i64 0]), 6, 48) := by kernel_rfl
/-- What is at hand at the head of a round. -/
structure DcInv (w : World) (br F : Nat) (fuel : Int) (s1 : St) (n : Nat) (xs : List Cd) (s' : St) (A : Option Addr) (c : Nat) (wr : World) : Prop where
  own : wr.ownsRow w.heap.size 93 6 (.slice A xs.length c) xs.length (xs.flatMap cdC)
  box : wr.heap[F]? = some (.cells #[.int .i64 fuel, .slice A xs.length c] 24 (0, 0))
  res : wr.heap[w.heap.size]? = some (.cells #[.int .i64 0, .slice none 0 0] 24 (0, 0))
  rd : ReaderAt wr br s'
  by_ : Byt s'
  le : xs.length ≤ n
  eq : dcGo n s1 = (xs ++ (dcGo (n - xs.length) s').1, (dcGo (n - xs.length) s').2)
  sz : xs.length + rLeft s' ≤ rLeft s1
  bel : Below w.heap.size w wr
theorem DcInv.next {w : World} {br F : Nat} {fuel : Int} {s1 : St} {n : Nat} {xs : List Cd} {s' : St} {A1 : Option Addr} {c1 : Nat} {wr w6 w7 : World} {A' : Option Addr} {c' : Nat} {o : Obj}
    (I : DcInv w br F fuel s1 n xs s' A1 c1 wr) (hbr : w.heap.size < br) (hF : w.heap.size < F) (h0 : 0 < rLeft s') (hlt : xs.length < n)
    (hk : Kp (· ≠ br) wr w6) (hr : ReaderAt w6 br (rCode s').2)
    (ho : w7.ownsRow w.heap.size 93 6 (.slice A' (xs.length + 1) c') (xs.length + 1) (xs.flatMap cdC ++ cdC (ofL (rCode s').1)))
    (hk7 : Kp (fun k => (Value.slice A1 xs.length c1).ownBlock ≠ some k) (w6.alloc o) w7)
    (hb7 : w7.heap[F]? = some (.cells #[.int .i64 fuel, .slice A1 xs.length c1] 24 (0, 0))) :
    DcInv w br F fuel s1 n (xs ++ [ofL (rCode s').1]) (rCode s').2 A' c' (w7.setCell ⟨F, 1, none⟩ (.slice A' (xs.length + 1) c')) := by
  have hFbr : F ≠ br := fun e => by obtain ⟨cs, hb⟩ := I.rd.blk; rw [← e, I.box] at hb; simp at hb
  have ty : ∀ {k : Nat} {cs : Array Value} {t : TypeId} {fz : Nat × Nat}, (w6.alloc o).heap[k]? = some (.cells cs t fz) → t ≠ 93 → k < w6.heap.size → (Value.slice A1 xs.length c1).ownBlock ≠ some k := fun {k cs t fz} h ht _ e => by
    obtain ⟨_, cur, h2⟩ := own_blk (own_ext (own_kp I.own hk (own_rdr I.rd I.own (by decide))) (ext_alloc w6 o)) e
    rw [h] at h2
    simp at h2
    exact ht h2.2.1
  have hlen : (xs ++ [ofL (rCode s').1]).length = xs.length + 1 := by simp
  have hdec := (rCode_facts I.by_).2.2 h0
  have r6 := hr.ext (ext_alloc w6 o)
  have r7 : ReaderAt w7 br (rCode s').2 := r6.kp hk7 (by obtain ⟨cs, hb⟩ := hr.blk; exact ty (blk_alloc hb o) (by decide) (heap_lt hb)) (fun k cs fz h => by
    intro e
    obtain ⟨_, cur, h2⟩ := own_blk (own_ext (own_kp I.own hk (own_rdr I.rd I.own (by decide))) (ext_alloc w6 o)) e
    rw [h] at h2
    simp at h2)
  have e6 := hk.blk I.res (by omega)
  have e7 := hk7.blk (blk_alloc e6 o) (ty (blk_alloc e6 o) (by decide) (heap_lt e6))
  refine ⟨?_, ?_, ?_, ?_, (rCode_facts I.by_).2.1, ?_, ?_, ?_, ?_⟩
  · rw [hlen, List.flatMap_append]
    refine own_kp (by simpa using ho) (kp_set _ _ _ _) (fun k hk => ?_)
    obtain ⟨_, cur, h2⟩ := own_blk ho hk
    exact blk_ty_ne h2 hb7 (by decide)
  · rw [hlen]; exact blk_set hb7 1 _
  · exact blk_set_ne e7 (by simp; omega) _
  · exact r7.kp (kp_set _ _ _ _) (Ne.symm hFbr) (fun k cs fz h => blk_ty_ne h hb7 (by decide))
  · rw [hlen]; omega
  · obtain ⟨m, hm⟩ : ∃ m, n - xs.length = m + 1 := ⟨n - xs.length - 1, by omega⟩
    rw [hlen, show n - (xs.length + 1) = m by omega, I.eq, hm]
    simp only [dcGo]
    rw [if_neg (by omega)]
    simp
  · rw [hlen]; have := I.sz; omega
  · have hs := hk.size
    have hs2 := I.bel.size
    refine ((I.bel.trans (hk.below (B := w.heap.size) hs2 (fun k hk => by omega))).trans ((ext_alloc w6 o).mono (by omega))).trans ((hk7.below (B := w.heap.size) (by simp; omega) (fun k hk e => ?_)).trans ((kp_set w7 F 1 _).below (by have := hk7.size; simp at this; omega) (fun k hk => by omega)))
    have := (own_blk I.own e).1
    omega
/-- a program's value, read -/
structure PgRd (w : World) (p : Pg) (A : Option Addr) (n c : Nat) : Prop where
  e : n = p.code.length
  b : n ≤ 140737488355328
  r : Rd w A (p.code.flatMap cdC)
def DecPost (w : World) (bs : List Nat) (e : Ending) (w' : World) : Prop := Below w.heap.size w w' ∧
  ((∃ p A n c, decP bs = some p ∧ e = .returned (.tuple #[.agg #[.int .i64 p.fuel, .slice A n c], .nilIface]) ∧ PgRd w' p A n c ∧ (∀ x ∈ p.code, CdOk x) ∧ inI p.fuel ∧ (∀ a, A = some a → w.heap.size ≤ a.block)) ∨
   (decP bs = none ∧ e = .returned (.tuple #[.agg #[.int .i64 0, .slice none 0 0], errno 2])))
theorem progB_len {fuel : Int} {cs : List Cd} (h : checkP fuel cs = none) (hi : ∀ x ∈ cs, CdOk x) : (progB fuel cs).length ≤ 140737488355328 := by
  have hfuel : withinB fuel 1 1000 = true ∧ withinB cs.length 1 32 = true := by
    unfold checkP at h
    split at h
    · rename_i hc; simpa using hc
    · cases h
  obtain ⟨h1, h2⟩ := hfuel
  unfold withinB at h1 h2
  simp at h1 h2
  have h3 := flat_len codeB 60 cs (fun x hx => codeB_len (hi x hx))
  have h4 := cntB_len64 (n := fuel.toNat) (by omega)
  have h5 := cntB_len64 (n := cs.length) (by omega)
  unfold progB
  simp only [List.length_append]
  omega
set_option maxHeartbeats 4000000 in
theorem Decode_any (w : World) (A : Option Addr) (n c : Nat) (bs : List Nat) (hn : n = bs.length) (hr : Rd w A (bs.map bv)) (hA : A = none → n = 0 ∧ c = 0) (hz : n ≤ 1000000000000) (hby : ∀ b ∈ bs, b < 256) :
    Calls Try.prog 33 #[.slice A n c] w (DecPost w bs) := by
  have Hr := hid hr
  have Hn := hid hn
  have HA := hid hA
  have Hby := hid hby
  have hu := Try.underlying22
  clear hr hn hA hby
  go_enter Try.func33, Try.ntmps33
  go_wp2_with fail
  refine (NewReader_any _ A n c bs Hn.out (Hr.out.ext (ext_alloc _ _)) HA.out (by omega)).mono ?_
  rintro e w1 ⟨br, hbr, rfl, h1, h2⟩
  have By0 := hid (Byt.some Hby.out)
  go_wp2_with fail
  refine (psmall_any _ br (some bs) By0.out h1.out).mono ?_
  rintro e w3 ⟨rfl, h3, h4⟩
  have By1 := hid (rSm_byt By0.out)
  have Sz1 : Hid (rLeft (rSm (some bs)).2 ≤ 1000000000000) := hid (Nat.le_trans (rCount_le (some bs)) (by simp only [rLeft]; rw [← Hn.out]; exact hz))
  have Ew : Hid (w1.heap.size ≤ w3.heap.size) := hid h4.out.size
  have Ew0 : Hid (w.heap.size < w1.heap.size) := hid (Nat.lt_of_lt_of_le (by simp) h2.out.size)
  have Bel3 : Hid (Below w.heap.size w w3) := hid (((ext_alloc _ _).trans (h2.out.mono (by simp))).trans (h4.out.below (Nat.le_of_lt Ew0.out) (fun k hk => by simp at hbr; omega)))
  have Rs3 := hid (h4.out.blk (ext_blk h2.out (blk_new w (Obj.cells #[.int .i64 0, .slice none 0 0] 24))) (by simp at hbr; omega))
  have Hf0 : Hid ((rSm (some bs)).1 < 4611686018427387904) := hid (by unfold rSm; simp only; omega)
  generalize hK : rSm (some bs) = K at *
  obtain ⟨f0v, s2⟩ := K
  simp only at *
  go_wp2_with fail
  refine (psmall_any _ br s2 By1.out (h3.out.ext (ext_alloc _ _))).mono ?_
  rintro e w4 ⟨rfl, h5, h6⟩
  have By3 := hid (rSm_byt By1.out)
  have Sz3 : Hid (rLeft (rSm s2).2 ≤ 1000000000000) := hid (Nat.le_trans (rCount_le s2) Sz1.out)
  have hS : (rSm s2).1 < 4611686018427387904 := by unfold rSm; simp only; omega
  have Bx4 := hid (h6.out.blk (blk_new w3 (Obj.cells #[.int .i64 (f0v : Int), .slice none 0 0] 24)) (fun e => by have := h3.out.lt; omega))
  have Rs4 := hid (h6.out.blk (blk_alloc Rs3.out (Obj.cells #[.int .i64 (f0v : Int), .slice none 0 0] 24)) (by simp at hbr; omega))
  have Bel4 : Hid (Below w.heap.size w w4) := hid ((Bel3.out.trans ((ext_alloc _ _).mono Bel3.out.size)).trans (h6.out.below (by have := Bel3.out.size; simp; omega) (fun k hk => by simp at hbr; omega)))
  generalize hq : rSm s2 = q at *
  obtain ⟨m, s3⟩ := q
  simp only at *
  have Hbr := hid hbr
  have HK := hid hK
  have Hq := hid hq
  clear hbr hK hq h1 h2 h3 h4 h6
  go_wp2
  go_loopg [] m (fun g wr => ∃ (xs : List Cd) (s' : St) (A1 : Option Addr) (c1 : Nat), g = m - xs.length ∧ xs.length ≤ m ∧ Hid (DcInv w br w3.heap.size (f0v : Int) s3 m xs s' A1 c1 wr))
  case atStart => exact ⟨[], s3, none, 0, by simp, by simp, ⟨World.ownsRow_nil _ _ _ _, Bx4.out, Rs4.out, h5.out, By3.out, by simp, rfl, by simp, Bel4.out⟩⟩
  case round =>
    clear Bx4 Rs4 h5 Bel4
    obtain ⟨xs, s', A1, c1, hg, hle, I⟩ := hrel
    have Hg := hid hg
    clear hg
    have hb1 := blk_cell I.out.box 1
    simp at hb1
    by_cases hlt : xs.length < m
    · rcases Nat.eq_zero_or_pos (rLeft s') with h0 | h0
      · have Hl := hid (Left_any wr br s' I.out.rd)
        rw [h0] at Hl
        have E5 : Hid (dcGo m s3 = (xs, s')) := hid (by rw [I.out.eq, dcGo_end _ h0]; simp)
        have hxs : xs.length ≤ 1000000000000 := by have := I.out.sz; have := Sz3.out; omega
        have hz0' := blk_cell I.out.box 0
        simp at hz0'
        go_wp2_with (go_at_call 36; refine Hl.out.mono ?_; rintro e w' ⟨rfl, rfl⟩)
        clear hz0'
        have EF : Hid (takeP (some bs) = (⟨(f0v : Int), xs⟩, s')) := hid (by unfold takeP; simp only [HK.out, Hq.out, E5.out])
        have ET : decP bs = if checkP (f0v : Int) xs = none ∧ s' = some [] ∧ progB (f0v : Int) xs = bs then some ⟨(f0v : Int), xs⟩ else none := by unfold decP; rw [EF.out]
        have HT := hid ET
        have hxs : xs.length ≤ 1000000000000 := by have := I.out.sz; have := Sz3.out; omega
        have Hok : Hid (∀ x ∈ xs, CdOk x) := hid (by have h := (dcGo_facts m s3 By3.out).1; rw [E5.out] at h; exact h)
        have hz0 := blk_cell I.out.box 0
        simp at hz0
        clear ET
        refine (Encode_any wr (f0v : Int) A1 xs.length c1 xs rfl (own_rd I.out.own) (by omega) Hok.out).mono ?_
        cases hck : checkP (f0v : Int) xs with
        | some i =>
          rintro e w6 ⟨hb6, v, rfl, bf, rfl, hv⟩
          have HBB := hid hb6
          clear hb6 hv
          have rs6 := ext_blk HBB.out I.out.res
          have r0 := blk_cell rs6 0
          have r1 := blk_cell rs6 1
          have f0 := blk_free rs6 0
          have f1 := blk_free rs6 1
          simp at r0 r1
          have Rs6 := hid rs6
          clear rs6
          go_wp2
          refine bodyPost_ret (v := .tuple #[.agg #[.int .i64 0, .slice none 0 0], errno 2]) (by simp [results, Try.results33, go_sem, r0, r1, f0, f1, errno]) rfl ⟨?_, .inr ⟨?_, rfl⟩⟩
          · exact ((I.out.bel.trans (HBB.out.mono I.out.bel.size)).trans ((kp_set _ _ 0 _).below (by have := I.out.bel.size; have := HBB.out.size; omega) (fun k hk => by omega))).trans ((kp_set _ _ 1 _).below (by have := I.out.bel.size; have := HBB.out.size; simp; omega) (fun k hk => by omega))
          · rw [HT.out, if_neg (by simp [hck])]
        | none =>
          rintro e w6 ⟨hb6, A3, c3, rfl, ho6⟩
          have Hb6 := hid hb6
          have Ho6 := hid ho6
          clear hb6 ho6
          by_cases hs4 : s' = some []
          · subst hs4
            go_wp2_with fail
            refine (End_ok w6 br (I.out.rd.ext Hb6.out)).mono ?_
            rintro e w' ⟨rfl, rfl⟩
            have hlf : (progB (f0v : Int) xs).length ≤ 140737488355328 := progB_len hck Hok.out
            go_wp2_with fail
            refine (Equal_any w6 A3 _ c3 (progB (f0v : Int) xs) A n c bs rfl Hn.out (own_rd Ho6.out) (Hr.out.kp2 (I.out.bel.trans (Hb6.out.mono I.out.bel.size)) (fun a ha h0 => by obtain ⟨b, o, e, hb, _⟩ := Hr.out.addr h0; rw [ha] at e; simp at e; rw [e]; exact hb)) hlf (by omega)).mono ?_
            rintro e w8 ⟨rfl, hb8⟩
            have HBB : Hid (Below wr.heap.size wr w8) := hid (ext_trans Hb6.out hb8)
            clear hb8
            have rs6 := ext_blk HBB.out I.out.res
            have r0 := blk_cell rs6 0
            have r1 := blk_cell rs6 1
            have f0 := blk_free rs6 0
            have f1 := blk_free rs6 1
            simp at r0 r1
            have Rs6 := hid rs6
            clear rs6
            by_cases he : progB (f0v : Int) xs = bs
            · rw [decide_eq_true he]
              have bx8 := ext_blk HBB.out I.out.box
              have z0 := blk_cell bx8 0
              have z1 := blk_cell bx8 1
              simp at z0 z1
              have Bx8 := hid bx8
              have He := hid he
              clear bx8 he
              go_wp2
              refine bodyPost_ret (v := .tuple #[.agg #[.int .i64 (f0v : Int), .slice A1 xs.length c1], .nilIface]) (by simp [results, Try.results33, go_sem, r0, r1, f0, f1]) rfl ⟨?_, .inl ⟨⟨(f0v : Int), xs⟩, A1, _, c1, ?_, rfl, ⟨rfl, by omega, ?_⟩, Hok.out, by unfold inI; have := Hf0.out; simp only; omega, fun a ha => (own_blk I.out.own (k := a.block) (by rw [ha]; rfl)).1⟩⟩
              · exact ((I.out.bel.trans (HBB.out.mono I.out.bel.size)).trans ((kp_set _ _ 0 _).below (by have := I.out.bel.size; have := HBB.out.size; omega) (fun k hk => by omega))).trans ((kp_set _ _ 1 _).below (by have := I.out.bel.size; have := HBB.out.size; simp; omega) (fun k hk => by omega))
              · rw [HT.out, if_pos (by simp [hck, He.out])]
              · have g0 := own_ext I.out.own HBB.out
                have ne : ∀ k, (Value.slice A1 xs.length c1).ownBlock = some k → k ≠ w.heap.size := fun k hk => by obtain ⟨_, cur, h2⟩ := own_blk g0 hk; exact blk_ty_ne h2 Rs6.out (by decide)
                exact own_rd (own_kp (own_kp g0 (kp_set _ _ _ _) ne) (kp_set _ _ _ _) ne)
            · rw [decide_eq_false he]
              have He := hid he
              clear he
              go_wp2
              refine bodyPost_ret (v := .tuple #[.agg #[.int .i64 0, .slice none 0 0], errno 2]) (by simp [results, Try.results33, go_sem, r0, r1, f0, f1, errno]) rfl ⟨?_, .inr ⟨?_, rfl⟩⟩
              · exact ((I.out.bel.trans (HBB.out.mono I.out.bel.size)).trans ((kp_set _ _ 0 _).below (by have := I.out.bel.size; have := HBB.out.size; omega) (fun k hk => by omega))).trans ((kp_set _ _ 1 _).below (by have := I.out.bel.size; have := HBB.out.size; simp; omega) (fun k hk => by omega))
              · rw [HT.out, if_neg (by simp [He.out])]
          · go_wp2_with fail
            refine (End_bad w6 br s' hs4 (I.out.rd.ext Hb6.out)).mono ?_
            rintro e w' ⟨rfl, rfl⟩
            have HBB := Hb6
            have rs6 := ext_blk HBB.out I.out.res
            have r0 := blk_cell rs6 0
            have r1 := blk_cell rs6 1
            have f0 := blk_free rs6 0
            have f1 := blk_free rs6 1
            simp at r0 r1
            have Rs6 := hid rs6
            clear rs6
            have Hs4 := hid hs4
            clear hs4
            unfold errno
            go_wp2
            refine bodyPost_ret (v := .tuple #[.agg #[.int .i64 0, .slice none 0 0], errno 2]) (by simp [results, Try.results33, go_sem, r0, r1, f0, f1, errno]) rfl ⟨?_, .inr ⟨?_, rfl⟩⟩
            · exact ((I.out.bel.trans (HBB.out.mono I.out.bel.size)).trans ((kp_set _ _ 0 _).below (by have := I.out.bel.size; have := HBB.out.size; omega) (fun k hk => by omega))).trans ((kp_set _ _ 1 _).below (by have := I.out.bel.size; have := HBB.out.size; simp; omega) (fun k hk => by omega))
            · rw [HT.out, if_neg (by simp [Hs4.out])]
      · have Hl := hid (Left_any wr br s' I.out.rd)
        have hl0 : 0 < (rLeft s' : Int) := by omega
        have H0 := hid h0
        clear h0
        have hxs : xs.length ≤ 1000000000000 := by have := I.out.sz; have := Sz3.out; omega
        go_wp2_with (go_at_call 36; refine Hl.out.mono ?_; rintro e w' ⟨rfl, rfl⟩)
        have hFbr : w3.heap.size ≠ br := fun e => by obtain ⟨cs, hb⟩ := I.out.rd.blk; rw [← e, I.out.box] at hb; simp at hb
        have Hrow : Hid (∀ k, (Value.slice A1 xs.length c1).ownBlock = some k → k ≠ br) := hid (own_rdr I.out.rd I.out.own (by decide))
        have Hsz : Hid (xs.length + 1 ≤ 1000000000000) := by
          have := I.out.sz
          have := Sz3.out
          have := H0.out
          exact hid (by omega)
        have HnF : Hid ((Value.slice A1 xs.length c1).ownBlock ≠ some w3.heap.size) := hid fun e => by obtain ⟨_, cur, h2⟩ := own_blk I.out.own e; rw [I.out.box] at h2; simp at h2
        generalize hX : ofL (rCode s').1 = X
        have HX := hid hX
        go_region_law (first
          | (go_simp; go_at_call 57; refine (code_any _ br s' I.out.by_ (I.out.rd.ext (ext_drew _))).mono ?_; rw [HX.out]; rintro e w6 ⟨rfl, q5, q6⟩; have hF3 := q6.out.cell (p := ⟨w3.heap.size, 1, none⟩) hb1 hFbr; have hF4 := ext_cell (ext_alloc w6 (Obj.cells #[.int .i64 X.op, .int .i64 X.a, .int .i64 X.b, .int .i64 X.c, .int .i64 X.t, .int .i64 X.n] 93)) hF3; have Bx6 := hid (q6.out.blk I.out.box hFbr); have Own6 := hid (own_kp (own_ext I.out.own (ext_drew _)) q6.out Hrow.out); have Hw6 : Hid (w.heap.size ≤ w6.heap.size) := hid (Nat.le_trans I.out.bel.size q6.out.size))
          | (refine st_ap rfl rfl w.heap.size 93 hu info_code rfl (by decide) (.slice A1 xs.length c1) xs.length (xs.flatMap cdC) rfl (own_ext Own6.out (ext_alloc _ _)) (some ⟨w6.heap.size, 0, none⟩) 1 1 (cdC X) rfl rfl (rd_new w6 [.int .i64 X.op, .int .i64 X.a, .int .i64 X.b, .int .i64 X.c, .int .i64 X.t, .int .i64 X.n] 93) (fun u hu => by obtain ⟨i, _, rfl⟩ := List.mem_map.1 hu; rfl) (by have := Hsz.out; unfold maxLen; omega) (by have := Hsz.out; omega) (by have := Hw6.out; simp; omega) ?_; intro A' c' w7 hnc hcm hown hkp hhop; have bx7 := hkp.blk (blk_alloc Bx6.out (Obj.cells #[.int .i64 X.op, .int .i64 X.a, .int .i64 X.b, .int .i64 X.c, .int .i64 X.t, .int .i64 X.n] 93)) HnF.out; have hc7 := blk_cell bx7 1; have hf7 := blk_free bx7 1; simp at hc7; have Bx7 := hid bx7; have Hown := hid hown; have Hkp := hid hkp; clear hown hkp hhop bx7))
        all_goals
          go_wp2
          go_roundg (m - (xs.length + 1))
          case measure => rw [Hg.out]; omega
          case rel => exact ⟨xs ++ [X], (rCode s').2, A', c', by simp, by simp; omega, hid (by rw [← HX.out] at *; exact I.out.next (by have := Hbr.out; simp at this; omega) (by have := Bel3.out.size; have := Ew.out; have := Ew0.out; omega) H0.out hlt ((Kp.drew _ wr).trans q6.out) q5.out (by rw [HX.out]; exact Hown.out) Hkp.out Bx7.out)⟩
    · have E5 : Hid (dcGo m s3 = (xs, s')) := hid (by rw [I.out.eq, show m - xs.length = 0 by omega]; simp [dcGo])
      have EF : Hid (takeP (some bs) = (⟨(f0v : Int), xs⟩, s')) := hid (by unfold takeP; simp only [HK.out, Hq.out, E5.out])
      have ET : decP bs = if checkP (f0v : Int) xs = none ∧ s' = some [] ∧ progB (f0v : Int) xs = bs then some ⟨(f0v : Int), xs⟩ else none := by unfold decP; rw [EF.out]
      have HT := hid ET
      have hxs : xs.length ≤ 1000000000000 := by have := I.out.sz; have := Sz3.out; omega
      have Hok : Hid (∀ x ∈ xs, CdOk x) := hid (by have h := (dcGo_facts m s3 By3.out).1; rw [E5.out] at h; exact h)
      have hz0 := blk_cell I.out.box 0
      simp at hz0
      clear ET
      go_wp2_with fail
      refine (Encode_any wr (f0v : Int) A1 xs.length c1 xs rfl (own_rd I.out.own) (by omega) Hok.out).mono ?_
      cases hck : checkP (f0v : Int) xs with
      | some i =>
        rintro e w6 ⟨hb6, v, rfl, bf, rfl, hv⟩
        have HBB := hid hb6
        clear hb6 hv
        have rs6 := ext_blk HBB.out I.out.res
        have r0 := blk_cell rs6 0
        have r1 := blk_cell rs6 1
        have f0 := blk_free rs6 0
        have f1 := blk_free rs6 1
        simp at r0 r1
        have Rs6 := hid rs6
        clear rs6
        go_wp2
        refine bodyPost_ret (v := .tuple #[.agg #[.int .i64 0, .slice none 0 0], errno 2]) (by simp [results, Try.results33, go_sem, r0, r1, f0, f1, errno]) rfl ⟨?_, .inr ⟨?_, rfl⟩⟩
        · exact ((I.out.bel.trans (HBB.out.mono I.out.bel.size)).trans ((kp_set _ _ 0 _).below (by have := I.out.bel.size; have := HBB.out.size; omega) (fun k hk => by omega))).trans ((kp_set _ _ 1 _).below (by have := I.out.bel.size; have := HBB.out.size; simp; omega) (fun k hk => by omega))
        · rw [HT.out, if_neg (by simp [hck])]
      | none =>
        rintro e w6 ⟨hb6, A3, c3, rfl, ho6⟩
        have Hb6 := hid hb6
        have Ho6 := hid ho6
        clear hb6 ho6
        by_cases hs4 : s' = some []
        · subst hs4
          go_wp2_with fail
          refine (End_ok w6 br (I.out.rd.ext Hb6.out)).mono ?_
          rintro e w' ⟨rfl, rfl⟩
          have hlf : (progB (f0v : Int) xs).length ≤ 140737488355328 := progB_len hck Hok.out
          go_wp2_with fail
          refine (Equal_any w6 A3 _ c3 (progB (f0v : Int) xs) A n c bs rfl Hn.out (own_rd Ho6.out) (Hr.out.kp2 (I.out.bel.trans (Hb6.out.mono I.out.bel.size)) (fun a ha h0 => by obtain ⟨b, o, e, hb, _⟩ := Hr.out.addr h0; rw [ha] at e; simp at e; rw [e]; exact hb)) hlf (by omega)).mono ?_
          rintro e w8 ⟨rfl, hb8⟩
          have HBB : Hid (Below wr.heap.size wr w8) := hid (ext_trans Hb6.out hb8)
          clear hb8
          have rs6 := ext_blk HBB.out I.out.res
          have r0 := blk_cell rs6 0
          have r1 := blk_cell rs6 1
          have f0 := blk_free rs6 0
          have f1 := blk_free rs6 1
          simp at r0 r1
          have Rs6 := hid rs6
          clear rs6
          by_cases he : progB (f0v : Int) xs = bs
          · rw [decide_eq_true he]
            have bx8 := ext_blk HBB.out I.out.box
            have z0 := blk_cell bx8 0
            have z1 := blk_cell bx8 1
            simp at z0 z1
            have Bx8 := hid bx8
            have He := hid he
            clear bx8 he
            go_wp2
            refine bodyPost_ret (v := .tuple #[.agg #[.int .i64 (f0v : Int), .slice A1 xs.length c1], .nilIface]) (by simp [results, Try.results33, go_sem, r0, r1, f0, f1]) rfl ⟨?_, .inl ⟨⟨(f0v : Int), xs⟩, A1, _, c1, ?_, rfl, ⟨rfl, by omega, ?_⟩, Hok.out, by unfold inI; have := Hf0.out; simp only; omega, fun a ha => (own_blk I.out.own (k := a.block) (by rw [ha]; rfl)).1⟩⟩
            · exact ((I.out.bel.trans (HBB.out.mono I.out.bel.size)).trans ((kp_set _ _ 0 _).below (by have := I.out.bel.size; have := HBB.out.size; omega) (fun k hk => by omega))).trans ((kp_set _ _ 1 _).below (by have := I.out.bel.size; have := HBB.out.size; simp; omega) (fun k hk => by omega))
            · rw [HT.out, if_pos (by simp [hck, He.out])]
            · have g0 := own_ext I.out.own HBB.out
              have ne : ∀ k, (Value.slice A1 xs.length c1).ownBlock = some k → k ≠ w.heap.size := fun k hk => by obtain ⟨_, cur, h2⟩ := own_blk g0 hk; exact blk_ty_ne h2 Rs6.out (by decide)
              exact own_rd (own_kp (own_kp g0 (kp_set _ _ _ _) ne) (kp_set _ _ _ _) ne)
          · rw [decide_eq_false he]
            have He := hid he
            clear he
            go_wp2
            refine bodyPost_ret (v := .tuple #[.agg #[.int .i64 0, .slice none 0 0], errno 2]) (by simp [results, Try.results33, go_sem, r0, r1, f0, f1, errno]) rfl ⟨?_, .inr ⟨?_, rfl⟩⟩
            · exact ((I.out.bel.trans (HBB.out.mono I.out.bel.size)).trans ((kp_set _ _ 0 _).below (by have := I.out.bel.size; have := HBB.out.size; omega) (fun k hk => by omega))).trans ((kp_set _ _ 1 _).below (by have := I.out.bel.size; have := HBB.out.size; simp; omega) (fun k hk => by omega))
            · rw [HT.out, if_neg (by simp [He.out])]
        · go_wp2_with fail
          refine (End_bad w6 br s' hs4 (I.out.rd.ext Hb6.out)).mono ?_
          rintro e w' ⟨rfl, rfl⟩
          have HBB := Hb6
          have rs6 := ext_blk HBB.out I.out.res
          have r0 := blk_cell rs6 0
          have r1 := blk_cell rs6 1
          have f0 := blk_free rs6 0
          have f1 := blk_free rs6 1
          simp at r0 r1
          have Rs6 := hid rs6
          clear rs6
          have Hs4 := hid hs4
          clear hs4
          unfold errno
          go_wp2
          refine bodyPost_ret (v := .tuple #[.agg #[.int .i64 0, .slice none 0 0], errno 2]) (by simp [results, Try.results33, go_sem, r0, r1, f0, f1, errno]) rfl ⟨?_, .inr ⟨?_, rfl⟩⟩
          · exact ((I.out.bel.trans (HBB.out.mono I.out.bel.size)).trans ((kp_set _ _ 0 _).below (by have := I.out.bel.size; have := HBB.out.size; omega) (fun k hk => by omega))).trans ((kp_set _ _ 1 _).below (by have := I.out.bel.size; have := HBB.out.size; simp; omega) (fun k hk => by omega))
          · rw [HT.out, if_neg (by simp [Hs4.out])]
end Go.Proofs.Ytgnfccdhlpeknaa
