/- What stays while the document's spans are read. -/
import Derived.Test.YtgnikijaihmeeaaSrF
import Derived.Test.YtgnikijaihmeeaaSwI
open Go Go.RowKit
namespace Go.Proofs.Ytgnikijaihmeeaa
set_option linter.unusedVariables false
set_option linter.unusedSimpArgs false
set_option maxRecDepth 100000
structure T3Inv (w : World) (br F : Nat) (A0 : Option Addr) (c0 : Nat) (ks : List Ky) (s1 : St) (n : Nat) (xs : List Sp) (s' : St) (A : Option Addr) (c : Nat) (wr : World) : Prop where
  own : wr.ownsRow w.heap.size 46 3 (.slice A xs.length c) xs.length (xs.flatMap spC)
  own0 : wr.ownsRow w.heap.size 80 2 (.slice A0 ks.length c0) ks.length (ks.flatMap kyC)
  box : wr.heap[F]? = some (.cells #[.slice A0 ks.length c0, .slice A xs.length c, .slice none 0 0] 25 (0, 0))
  res : wr.heap[w.heap.size]? = some (.cells #[.slice none 0 0, .slice none 0 0, .slice none 0 0] 25 (0, 0))
  rd : R3At wr br s'
  by_ : Byt s'
  le : xs.length ≤ n
  eq : tsR n s1 = (xs ++ (tsR (n - xs.length) s').1, (tsR (n - xs.length) s').2)
  bel : Below w.heap.size w wr
structure T3End (w : World) (br F : Nat) (f : Ft) (A0 : Option Addr) (c0 : Nat) (A1 : Option Addr) (c1 : Nat) (A2 : Option Addr) (c2 : Nat) (s4 : St) (W : World) : Prop where
  ft : FtRd W f A0 f.r.length c0 A1 f.s.length c1 A2 f.w.length c2
  res : W.heap[w.heap.size]? = some (.cells #[.slice none 0 0, .slice none 0 0, .slice none 0 0] 25 (0, 0))
  box : W.heap[F]? = some (.cells #[.slice A0 f.r.length c0, .slice A1 f.s.length c1, .slice A2 f.w.length c2] 25 (0, 0))
  rd : R3At W br s4
  bel : Below w.heap.size w W
  fr : (∀ a, A0 = some a → w.heap.size ≤ a.block) ∧ (∀ a, A1 = some a → w.heap.size ≤ a.block) ∧ (∀ a, A2 = some a → w.heap.size ≤ a.block)
theorem T3Inv.done {w : World} {br F : Nat} {A0 : Option Addr} {c0 : Nat} {ks : List Ky} {s1 : St} {n : Nat} {xs : List Sp} {s' : St} {A1 : Option Addr} {c1 : Nat} {wr w4 : World} {A2 : Option Addr} {c2 : Nat}
    (I : T3Inv w br F A0 c0 ks s1 n xs s' A1 c1 wr) (hbr : w.heap.size < br) (hF : w.heap.size < F) (h1 : ks.length ≤ 4294967296) (h2 : xs.length ≤ 4294967296) (h3 : (takeKR s').1.length ≤ 4294967296)
    (ho : w4.ownsRow wr.heap.size 80 2 (.slice A2 (takeKR s').1.length c2) (takeKR s').1.length ((takeKR s').1.flatMap kyC)) (hr : R3At w4 br (takeKR s').2) (hk : Kp (· ≠ br) wr w4) :
    T3End w br F ⟨ks, xs, (takeKR s').1⟩ A0 c0 A1 c1 A2 c2 (takeKR s').2 (w4.setCell ⟨F, 2, none⟩ (.slice A2 (takeKR s').1.length c2)) := by
  have hFbr : F ≠ br := fun e => by obtain ⟨cs, hb⟩ := I.rd.blk; rw [← e, I.box] at hb; simp at hb
  have b4 := hk.blk I.box hFbr
  have ne : ∀ {base e size m : Nat} {v : Value} {ys : List Value}, w4.ownsRow base e size v m ys → e ≠ 25 → ∀ k, v.ownBlock = some k → k ≠ F := fun h he k hk => by
    obtain ⟨_, cur, h2⟩ := own_blk h hk
    exact blk_ty_ne h2 b4 he
  have o0 := own_kp I.own0 hk (own_r3 I.rd I.own0 (by decide))
  have o1 := own_kp I.own hk (own_r3 I.rd I.own (by decide))
  refine ⟨⟨rfl, rfl, rfl, by simp only; omega, by simp only; omega, by simp only; omega, ?_, ?_, ?_⟩, ?_, ?_, ?_, ?_, fun a ha => (own_blk I.own0 (k := a.block) (by rw [ha]; rfl)).1, fun a ha => (own_blk I.own (k := a.block) (by rw [ha]; rfl)).1, fun a ha => by have h1 := (own_blk ho (k := a.block) (by rw [ha]; rfl)).1; have h2 := I.bel.size; omega⟩
  · exact own_rd (own_kp o0 (kp_set _ _ _ _) (ne o0 (by decide)))
  · exact own_rd (own_kp o1 (kp_set _ _ _ _) (ne o1 (by decide)))
  · exact own_rd (own_kp ho (kp_set _ _ _ _) (ne ho (by decide)))
  · exact blk_set_ne (hk.blk I.res (by omega)) (by simp; omega) _
  · exact blk_set b4 2 _
  · exact hr.kp (kp_set _ _ _ _) (Ne.symm hFbr) (fun k cs fz h => blk_ty_ne h b4 (by decide))
  · have h5 := I.bel.size
    exact (I.bel.trans (hk.below (B := w.heap.size) h5 (fun k hk => by omega))).trans ((kp_set w4 F 2 _).below (by have := hk.size; omega) (fun k hk => by omega))
theorem T3Inv.next {w : World} {br F : Nat} {A0 : Option Addr} {c0 : Nat} {ks : List Ky} {s1 : St} {n : Nat} {xs : List Sp} {s' : St} {A1 : Option Addr} {c1 : Nat} {wr w6 w7 : World} {A' : Option Addr} {c' : Nat} {o : Obj}
    (I : T3Inv w br F A0 c0 ks s1 n xs s' A1 c1 wr) (hbr : w.heap.size < br) (hF : w.heap.size < F) (h0 : badS s' = false) (hlt : xs.length < n)
    (hk : Kp (· ≠ br) wr w6) (hr : R3At w6 br (rNum (rNum (rSmR s').2).2).2)
    (ho : w7.ownsRow w.heap.size 46 3 (.slice A' (xs.length + 1) c') (xs.length + 1) (xs.flatMap spC ++ spC ⟨(rSmR s').1, (rNum (rSmR s').2).1, (rNum (rNum (rSmR s').2).2).1⟩))
    (hk7 : Kp (fun k => (Value.slice A1 xs.length c1).ownBlock ≠ some k) (w6.alloc o) w7)
    (hb7 : w7.heap[F]? = some (.cells #[.slice A0 ks.length c0, .slice A1 xs.length c1, .slice none 0 0] 25 (0, 0))) :
    T3Inv w br F A0 c0 ks s1 n (xs ++ [⟨(rSmR s').1, (rNum (rSmR s').2).1, (rNum (rNum (rSmR s').2).2).1⟩]) (rNum (rNum (rSmR s').2).2).2 A' c' (w7.setCell ⟨F, 1, none⟩ (.slice A' (xs.length + 1) c')) := by
  have hFbr : F ≠ br := fun e => by obtain ⟨cs, hb⟩ := I.rd.blk; rw [← e, I.box] at hb; simp at hb
  have ty : ∀ {k : Nat} {cs : Array Value} {t : TypeId} {fz : Nat × Nat}, (w6.alloc o).heap[k]? = some (.cells cs t fz) → t ≠ 46 → k < w6.heap.size → (Value.slice A1 xs.length c1).ownBlock ≠ some k := fun {k cs t fz} h ht _ e => by
    obtain ⟨_, cur, h2⟩ := own_blk (own_ext (own_kp I.own hk (own_r3 I.rd I.own (by decide))) (ext_alloc w6 o)) e
    rw [h] at h2
    simp at h2
    exact ht h2.2.1
  have hlen : (xs ++ [(⟨(rSmR s').1, (rNum (rSmR s').2).1, (rNum (rNum (rSmR s').2).2).1⟩ : Sp)]).length = xs.length + 1 := by simp
  have r6 := hr.ext (ext_alloc w6 o)
  have r7 : R3At w7 br (rNum (rNum (rSmR s').2).2).2 := r6.kp hk7 (by obtain ⟨cs, hb⟩ := hr.blk; exact ty (blk_alloc hb o) (by decide) (heap_lt hb)) (fun k cs fz h => by
    intro e
    obtain ⟨_, cur, h2⟩ := own_blk (own_ext (own_kp I.own hk (own_r3 I.rd I.own (by decide))) (ext_alloc w6 o)) e
    rw [h] at h2
    simp at h2)
  have o6 := own_kp I.own0 hk (own_r3 I.rd I.own0 (by decide))
  have o7 := own_kp (own_ext o6 (ext_alloc w6 o)) hk7 (fun k hk => by obtain ⟨_, cur, h2⟩ := own_blk o6 hk; exact ty (blk_alloc h2 o) (by decide) (heap_lt h2))
  have e6 := hk.blk I.res (by omega)
  have e7 := hk7.blk (blk_alloc e6 o) (ty (blk_alloc e6 o) (by decide) (heap_lt e6))
  refine ⟨?_, ?_, ?_, ?_, ?_, rNum_byt (rNum_byt (rSmR_byt I.by_)), ?_, ?_, ?_⟩
  · rw [hlen, List.flatMap_append]
    refine own_kp (by simpa using ho) (kp_set _ _ _ _) (fun k hk => ?_)
    obtain ⟨_, cur, h2⟩ := own_blk ho hk
    exact blk_ty_ne h2 hb7 (by decide)
  · exact own_kp o7 (kp_set _ _ _ _) (fun k hk => by obtain ⟨_, cur, h2⟩ := own_blk o7 hk; exact blk_ty_ne h2 hb7 (by decide))
  · rw [hlen]; exact blk_set hb7 1 _
  · exact blk_set_ne e7 (by simp; omega) _
  · exact r7.kp (kp_set _ _ _ _) (Ne.symm hFbr) (fun k cs fz h => blk_ty_ne h hb7 (by decide))
  · rw [hlen]; omega
  · obtain ⟨m, hm⟩ : ∃ m, n - xs.length = m + 1 := ⟨n - xs.length - 1, by omega⟩
    rw [hlen, show n - (xs.length + 1) = m by omega, I.eq, hm]
    simp only [tsR]
    rw [if_neg (by rw [h0]; simp)]
    simp
  · have hs := hk.size
    have hs2 := I.bel.size
    refine ((I.bel.trans (hk.below (B := w.heap.size) hs2 (fun k hk => by omega))).trans ((ext_alloc w6 o).mono (by omega))).trans ((hk7.below (B := w.heap.size) (by simp; omega) (fun k hk e => ?_)).trans ((kp_set w7 F 1 _).below (by have := hk7.size; simp at this; omega) (fun k hk => by omega)))
    have := (own_blk I.own e).1
    omega
end Go.Proofs.Ytgnikijaihmeeaa
