/- What the loop of record.take knows at the head of a round: a record of writes. -/
import Derived.Test.YtgnfccdhlpeknaaSwTd
open Go Go.RowKit
namespace Go.Proofs.Ytgnfccdhlpeknaa
set_option maxRecDepth 100000
theorem info_write : (Try.prog.info? 74).map (fun i => (i.zero, i.size, i.bytes)) = some (some (.agg #[.int .i64 0, .int .i64 0, .int .i64 0, .bool false]), 4, 32) := by kernel_rfl
theorem wi_one (xs : List Wi) : ∀ u ∈ xs.flatMap wiC, u.oneCell' = true := fun u hu => by
  obtain ⟨x, _, h⟩ := List.mem_flatMap.1 hu
  simp [wiC] at h
  rcases h with rfl | rfl | rfl | rfl <;> rfl
theorem rFlag_le (s : St) : rLeft (rFlag s).2 ≤ rLeft s := by
  cases s with
  | none => simp [rFlag, rLeft]
  | some l => cases l with
    | nil => simp [rFlag, rLeft]
    | cons b r => simp only [rFlag]; split <;> simp [rLeft]
theorem rWi_left {s : St} (h : 0 < rLeft s) : rLeft (rWi s).2 < rLeft s := by
  have h1 : rLeft (rSm s).2 < rLeft s := rCount_left s h
  have h2 : rLeft (rNum (rSm s).2).2 ≤ rLeft (rSm s).2 := rCount_le _
  have h3 := rFlag_le (rNum (rSm s).2).2
  have h4 : rLeft (rNum (rFlag (rNum (rSm s).2).2).2).2 ≤ rLeft (rFlag (rNum (rSm s).2).2).2 := rCount_le _
  unfold rWi
  by_cases hc : (rFlag (rNum (rSm s).2).2).1 = true
  · simp only [hc, if_true]; omega
  · simp only [Bool.not_eq_true] at hc
    simp only [hc, Bool.false_eq_true, if_false]; omega
theorem rWi_in {s : St} (h : Byt s) : inI (rWi s).1.k ∧ inI (rWi s).1.v := by
  have h1 := rNum_in (rSm_byt h)
  have h2 := rNum_in (rFlag_byt (rNum_byt (rSm_byt h)))
  unfold rWi
  by_cases hc : (rFlag (rNum (rSm s).2).2).1 = true
  · simp only [hc, if_true]; exact ⟨h1, by unfold inI; simp⟩
  · simp only [Bool.not_eq_true] at hc
    simp only [hc, Bool.false_eq_true, if_false]; exact ⟨h1, h2⟩
theorem wsGo_end (m : Nat) {s : St} (h : rLeft s = 0) : wsGo m s = ([], s) := by cases m <;> simp [wsGo, h]
theorem wsGo_facts : ∀ (m : Nat) (s : St), Byt s → (∀ x ∈ (wsGo m s).1, inI x.k ∧ inI x.v) ∧ Byt (wsGo m s).2 ∧ (wsGo m s).1.length + rLeft (wsGo m s).2 ≤ rLeft s
  | 0, s, h => by simp [wsGo, h]
  | m + 1, s, h => by
    simp only [wsGo]
    split
    · simp [h]
    · rename_i h0
      obtain ⟨h1, h2, h3⟩ := wsGo_facts m _ (rWi_byt h)
      have h5 := rWi_left (s := s) (by omega)
      refine ⟨fun x hx => ?_, h2, by simp; omega⟩
      rcases List.mem_cons.1 hx with rfl | hx
      · exact rWi_in h
      · exact h1 x hx
/-- a record's box of a record of writes -/
def wsBox (q : Int) (v : Value) : Array Value := #[.int .i64 q, .bool true, .int .i64 0, .slice none 0 0, .slice none 0 0, .slice none 0 0, .slice none 0 0, v]
def recZero : Array Value := #[.int .i64 0, .bool false, .int .i64 0, .slice none 0 0, .slice none 0 0, .slice none 0 0, .slice none 0 0, .slice none 0 0]
structure WsInv (w : World) (br F : Nat) (q : Int) (s1 : St) (n : Nat) (xs : List Wi) (s' : St) (A : Option Addr) (c : Nat) (wr : World) : Prop where
  own : wr.ownsRow w.heap.size 74 4 (.slice A xs.length c) xs.length (xs.flatMap wiC)
  box : wr.heap[F]? = some (.cells (wsBox q (.slice A xs.length c)) 39 (0, 0))
  res : wr.heap[w.heap.size]? = some (.cells recZero 39 (0, 0))
  rd : ReaderAt wr br s'
  by_ : Byt s'
  le : xs.length ≤ n
  eq : wsGo n s1 = (xs ++ (wsGo (n - xs.length) s').1, (wsGo (n - xs.length) s').2)
  sz : xs.length + rLeft s' ≤ rLeft s1
  kp : Kp (· ≠ br) w wr
theorem WsInv.next {w : World} {br F : Nat} {q : Int} {s1 : St} {n : Nat} {xs : List Wi} {s' : St} {A1 : Option Addr} {c1 : Nat} {wr w6 w7 : World} {A' : Option Addr} {c' : Nat} {o : Obj}
    (I : WsInv w br F q s1 n xs s' A1 c1 wr) (hbr : br < w.heap.size) (hF : w.heap.size < F) (h0 : 0 < rLeft s') (hlt : xs.length < n)
    (hk : Kp (· ≠ br) wr w6) (hr : ReaderAt w6 br (rWi s').2)
    (ho : w7.ownsRow w.heap.size 74 4 (.slice A' (xs.length + 1) c') (xs.length + 1) (xs.flatMap wiC ++ wiC (rWi s').1))
    (hk7 : Kp (fun k => (Value.slice A1 xs.length c1).ownBlock ≠ some k) (w6.alloc o) w7)
    (hb7 : w7.heap[F]? = some (.cells (wsBox q (.slice A1 xs.length c1)) 39 (0, 0))) :
    WsInv w br F q s1 n (xs ++ [(rWi s').1]) (rWi s').2 A' c' (w7.setCell ⟨F, 7, none⟩ (.slice A' (xs.length + 1) c')) := by
  have hFbr : F ≠ br := fun e => by obtain ⟨cs, hb⟩ := I.rd.blk; rw [← e, I.box] at hb; simp at hb
  have ty : ∀ {k : Nat} {cs : Array Value} {t : TypeId} {fz : Nat × Nat}, (w6.alloc o).heap[k]? = some (.cells cs t fz) → t ≠ 74 → k < w6.heap.size → (Value.slice A1 xs.length c1).ownBlock ≠ some k := fun {k cs t fz} h ht _ e => by
    obtain ⟨_, cur, h2⟩ := own_blk (own_ext (own_kp I.own hk (own_rdr I.rd I.own (by decide))) (ext_alloc w6 o)) e
    rw [h] at h2
    simp at h2
    exact ht h2.2.1
  have hlen : (xs ++ [(rWi s').1]).length = xs.length + 1 := by simp
  have hdec := rWi_left h0
  have r6 := hr.ext (ext_alloc w6 o)
  have r7 : ReaderAt w7 br (rWi s').2 := r6.kp hk7 (by obtain ⟨cs, hb⟩ := hr.blk; exact ty (blk_alloc hb o) (by decide) (heap_lt hb)) (fun k cs fz h => by
    intro e
    obtain ⟨_, cur, h2⟩ := own_blk (own_ext (own_kp I.own hk (own_rdr I.rd I.own (by decide))) (ext_alloc w6 o)) e
    rw [h] at h2
    simp at h2)
  have e6 := hk.blk I.res (by omega)
  have e7 := hk7.blk (blk_alloc e6 o) (ty (blk_alloc e6 o) (by decide) (heap_lt e6))
  refine ⟨?_, ?_, ?_, ?_, rWi_byt I.by_, ?_, ?_, ?_, ?_⟩
  · rw [hlen, List.flatMap_append]
    refine own_kp (by simpa using ho) (kp_set _ _ _ _) (fun k hk => ?_)
    obtain ⟨_, cur, h2⟩ := own_blk ho hk
    exact blk_ty_ne h2 hb7 (by decide)
  · rw [hlen]; exact blk_set hb7 7 _
  · exact blk_set_ne e7 (by simp; omega) _
  · exact r7.kp (kp_set _ _ _ _) (Ne.symm hFbr) (fun k cs fz h => blk_ty_ne h hb7 (by decide))
  · rw [hlen]; omega
  · obtain ⟨m, hm⟩ : ∃ m, n - xs.length = m + 1 := ⟨n - xs.length - 1, by omega⟩
    rw [hlen, show n - (xs.length + 1) = m by omega, I.eq, hm]
    simp only [wsGo]
    rw [if_neg (by omega)]
    simp
  · rw [hlen]; have := I.sz; omega
  · have hs := hk.size
    have hs2 := I.kp.size
    refine ((I.kp.trans hk).trans (Kp.alloc _ w6 o)).trans2 (T := fun k => (Value.slice A1 xs.length c1).ownBlock ≠ some k ∧ k ≠ F) ((hk7.mono (fun k _ h => h.1)).trans ((kp_set w7 F 7 _).mono (fun k _ h => h.2))) (fun k hkl hkb => ⟨fun e => ?_, by omega⟩)
    have := (own_blk I.own e).1
    omega
end Go.Proofs.Ytgnfccdhlpeknaa
