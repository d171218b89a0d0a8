/- The walks of foot's reading. -/
import Derived.Test.YtgnikijaihmeeaaSwGb
open Go Go.RowKit
namespace Go.Proofs.Ytgnikijaihmeeaa
set_option linter.unusedVariables false
set_option linter.unusedSimpArgs false
set_option maxRecDepth 100000
def rSmall (s : St) : Nat × St := (min (rCount s).1 4294967295, (rCount s).2)
theorem fsmall_any (w : World) (br : Nat) (s : St) (hby : Byt s) (h : ReaderAt w br s) :
    Calls Try.prog 29 #[.pointer (some ⟨br, 0, none⟩)] w fun e w' => e = .returned (.int .i64 ((rSmall s).1 : Int)) ∧ Hid (ReaderAt w' br (rSmall s).2) ∧ Hid (Kp (· ≠ br) w w') := by
  have H := hid (Count_any w br s hby h)
  have e1 : Hid (rSmall s = (min (rCount s).1 4294967295, (rCount s).2)) := rfl
  have hlt := rCount_lt hby
  generalize rCount s = q at H hlt e1
  obtain ⟨n, t⟩ := q
  clear hby h
  have Hlt := hid hlt
  clear hlt
  rw [e1.out]
  go_enter Try.func29, Try.ntmps29
  go_wp2_with fail
  refine H.out.mono ?_
  rintro e w1 ⟨rfl, h1, h2⟩
  go_wp2
  all_goals (go_ret; exact ⟨ret_int (by omega), h1, h2⟩)
def tkGo : Nat → St → List Ky × St
  | 0, s => ([], s)
  | m + 1, s => if rLeft s = 0 then ([], s) else (⟨((rSmall s).1 : Int), (rNum (rSmall s).2).1⟩ :: (tkGo m (rNum (rSmall s).2).2).1, (tkGo m (rNum (rSmall s).2).2).2)
def takeK (s : St) : List Ky × St := tkGo (rSmall s).1 (rSmall s).2
theorem ReaderAt.blk {w : World} {br : Nat} {s : St} (h : ReaderAt w br s) : ∃ cs, w.heap[br]? = some (.cells cs 85 (0, 0)) := by
  cases s with
  | none => exact ⟨_, h⟩
  | some l => obtain ⟨A, c, hb, _⟩ := h; exact ⟨_, hb⟩
theorem own_rdr {w : World} {br : Nat} {s : St} (h : ReaderAt w br s) {base e size n : Nat} {v : Value} {xs : List Value} (ho : w.ownsRow base e size v n xs) (he : e ≠ 85) : ∀ k, v.ownBlock = some k → k ≠ br := fun k hk => by
  obtain ⟨cs, hb⟩ := h.blk
  obtain ⟨_, cur, h2⟩ := own_blk ho hk
  exact blk_ty_ne h2 hb he
theorem tkGo_end (m : Nat) {s : St} (h : rLeft s = 0) : tkGo m s = ([], s) := by
  cases m with
  | zero => rfl
  | succ m => simp only [tkGo]; rw [if_pos h]
theorem rSmall_byt {s : St} (h : Byt s) : Byt (rSmall s).2 := rCount_byt h
theorem rNum_byt {s : St} (h : Byt s) : Byt (rNum s).2 := rCount_byt h
theorem rSmall_lt (s : St) : (rSmall s).1 < 4294967296 := by unfold rSmall; simp only; omega
theorem rNum_in {s : St} (h : Byt s) : inI (rNum s).1 := unzig_range (rCount_lt h)
theorem rKey_left {s : St} (h : 0 < rLeft s) : rLeft (rNum (rSmall s).2).2 < rLeft s := by
  have h1 := rCount_left s h
  have h2 := rCount_le (rCount s).2
  show rLeft (rCount (rCount s).2).2 < _
  omega
theorem info_key : (Try.prog.info? 80).map (fun i => (i.zero, i.size, i.bytes)) = some (some (.agg #[.int .i64 0, .int .i64 0]), 2, 16) := by kernel_rfl
/-- What is at hand at the head of a round. -/
structure TkInv (w : World) (br : Nat) (s1 : St) (n : Nat) (ks : List Ky) (s' : St) (A : Option Addr) (c : Nat) (wr : World) : Prop where
  own : wr.ownsRow w.heap.size 80 2 (.slice A ks.length c) ks.length (ks.flatMap kyC)
  rd : ReaderAt wr br s'
  by_ : Byt s'
  le : ks.length ≤ n
  eq : tkGo n s1 = (ks ++ (tkGo (n - ks.length) s').1, (tkGo (n - ks.length) s').2)
  sz : ks.length + rLeft s' ≤ rLeft s1
  kp : Kp (· ≠ br) w wr
set_option maxHeartbeats 1000000 in
theorem takeKeys_any (w : World) (br : Nat) (s : St) (hby : Byt s) (h : ReaderAt w br s) (hz : rLeft s ≤ 1000000000000) :
    Calls Try.prog 28 #[.pointer (some ⟨br, 0, none⟩)] w fun e w' => ∃ A c, e = .returned (.slice A (takeK s).1.length c) ∧ Hid (w'.ownsRow w.heap.size 80 2 (.slice A (takeK s).1.length c) (takeK s).1.length ((takeK s).1.flatMap kyC)) ∧ Hid (ReaderAt w' br (takeK s).2) ∧ Hid (Kp (· ≠ br) w w') := by
  have H := hid h
  have Hby := hid hby
  have hle := rCount_le s
  have hu := Try.underlying22
  have Hz : Hid (rLeft (rSmall s).2 ≤ 1000000000000) := Nat.le_trans hle hz
  have hn := rSmall_lt s
  clear h hby hle hz
  go_enter Try.func28, Try.ntmps28
  go_wp2_with fail
  refine (fsmall_any w br s Hby.out H.out).mono ?_
  rintro e w1 ⟨rfl, h1, h2⟩
  have Hb1 := hid (rSmall_byt Hby.out)
  generalize hq : rSmall s = q at *
  have E : Hid (takeK s = tkGo q.1 q.2) := by unfold takeK; rw [hq]; exact hid rfl
  obtain ⟨n, s1⟩ := q
  simp only at *
  clear hq Hby H
  go_wp2
  go_loopw [3] (fun v3 wr => ∃ (ks : List Ky) (s' : St) (A : Option Addr) (c : Nat), v3 = .slice A ks.length c ∧ ks.length ≤ n ∧ Hid (TkInv w br s1 n ks s' A c wr) ) (fun v3 _ => n - (match v3 with | .slice _ k _ => k | _ => 0))
  case atStart => exact ⟨[], s1, none, 0, rfl, by simp, ⟨World.ownsRow_nil _ _ _ _, h1.out, Hb1.out, by simp, rfl, by simp, h2.out⟩⟩
  case round =>
    obtain ⟨ks, s', A, c, rfl, hle, I⟩ := hrel
    by_cases hlt : ks.length < n
    · rcases Nat.eq_zero_or_pos (rLeft s') with h0 | h0
      · have Hl := hid (Left_any wr br s' I.out.rd)
        rw [h0] at Hl
        go_wp2_with (go_at_call 30; refine Hl.out.mono ?_; rintro e w' ⟨rfl, rfl⟩)
        go_ret
        have E2 : takeK s = (ks, s') := by rw [E.out, I.out.eq, tkGo_end _ h0]; simp
        rw [E2]
        exact ⟨A, c, rfl, I.out.own, I.out.rd, I.out.kp⟩
      · have Hl := hid (Left_any wr br s' I.out.rd)
        have hl0 : 0 < (rLeft s' : Int) := by omega
        have H0 := hid h0
        clear h0
        go_wp2_with (go_at_call 30; refine Hl.out.mono ?_; rintro e w' ⟨rfl, rfl⟩)
        refine (fsmall_any _ br s' I.out.by_ I.out.rd).mono ?_
        rintro e w2 ⟨rfl, h3, h4⟩
        have By2 := hid (rSmall_byt I.out.by_)
        go_wp2_with fail
        refine (Num_any _ br _ By2.out (Count_any _ br _ By2.out h3.out)).mono ?_
        rintro e w3 ⟨rfl, h5, h6⟩
        have Own3 := hid (own_kp I.out.own (h4.out.trans h6.out) (own_rdr I.out.rd I.out.own (by decide)))
        have Hsz : Hid (ks.length + 1 ≤ 1000000000000) := by
          have := I.out.sz
          have := Hz.out
          have := H0.out
          exact hid (by omega)
        have Hw3 : Hid (w.heap.size ≤ w3.heap.size) := hid (Nat.le_trans I.out.kp.size (h4.out.trans h6.out).size)
        generalize hkt : (rSmall s').1 = kt
        generalize hkk : (rNum (rSmall s').2).1 = kk
        have Hkt := hid hkt
        have Hkk := hid hkk
        clear hkt hkk
        go_wp2_with (first | (at_builtin; refine wl_ap rfl rfl w.heap.size 80 hu info_key rfl (by decide) (.slice A ks.length c) ks.length (ks.flatMap kyC) rfl (own_ext Own3.out (ext_alloc _ _)) (some ⟨w3.heap.size, 0, none⟩) 1 1 (kyC ⟨kt, kk⟩) rfl rfl (rd_new w3 (kyC ⟨kt, kk⟩) 80) (fun u hu => by simp [kyC] at hu; rcases hu with rfl | rfl <;> rfl) (by have := Hsz.out; unfold maxLen; omega) (by have := Hsz.out; omega) (by have := Hw3.out; simp; omega) ?_))
        intro A' c' w4 hnc hcm hown hkp hhop
        have Hown := hid hown
        have Hkp := hid hkp
        clear hown hkp hhop
        go_wp2
        refine ⟨⟨ks ++ [⟨kt, kk⟩], (rNum (rSmall s').2).2, A', c', by simp, by simp; omega, hid ?_⟩, by simp; omega⟩
        have hrow : ∀ k, (Value.slice A ks.length c).ownBlock = some k → k ≠ br := own_rdr I.out.rd I.out.own (by decide)
        have hbr : (Value.slice A ks.length c).ownBlock ≠ some br := fun e => hrow br e rfl
        have R4 := h5.out.ext (ext_alloc w3 (Obj.cells #[.int .i64 kt, .int .i64 kk] 80))
        have hlen : rLeft (rNum (rSmall s').2).2 < rLeft s' := rKey_left H0.out
        refine ⟨?_, R4.kp Hkp.out hbr (fun k cs fz h e => ?_), rNum_byt By2.out, by simp; omega, ?_, by have := I.out.sz; simp; omega, ?_⟩
        · have := Hown.out
          simpa [List.flatMap_append] using this
        · obtain ⟨_, cur, h2⟩ := own_blk (own_ext Own3.out (ext_alloc w3 (Obj.cells #[.int .i64 kt, .int .i64 kk] 80))) e
          rw [h] at h2
          simp at h2
        · obtain ⟨m, hm⟩ : ∃ m, n - ks.length = m + 1 := ⟨n - ks.length - 1, by omega⟩
          have hm2 : n - (ks ++ [(⟨(kt : Int), kk⟩ : Ky)]).length = m := by simp; omega
          rw [hm2, I.out.eq, hm]
          simp only [tkGo]
          rw [if_neg (by have := H0.out; omega), Hkt.out, Hkk.out]
          simp
        · exact ((I.out.kp.trans (h4.out.trans h6.out)).trans (Kp.alloc _ _ _)).trans2 Hkp.out (fun i hi _ e => by have := (own_blk I.out.own e).1; omega)
    · go_wp2
      go_ret
      have E2 : takeK s = (ks, s') := by rw [E.out, I.out.eq, show n - ks.length = 0 by omega]; simp [tkGo]
      rw [E2]
      exact ⟨A, c, rfl, I.out.own, I.out.rd, I.out.kp⟩
end Go.Proofs.Ytgnikijaihmeeaa
