/- The document's reader: a number, a small count, keys. -/
import Derived.Test.YtgnikijaihmeeaaSrE
open Go Go.RowKit
namespace Go.Proofs.Ytgnikijaihmeeaa
set_option linter.unusedVariables false
set_option linter.unusedSimpArgs false
set_option maxRecDepth 100000
theorem R3num_any (w : World) (br : Nat) (s : St) (hby : Byt s) (h : R3At w br s) :
    Calls Try.prog 39 #[.pointer (some ⟨br, 0, none⟩)] w fun e w' => e = .returned (.int .i64 (rNum s).1) ∧ Hid (R3At w' br (rNum s).2) ∧ Hid (Kp (· ≠ br) w w') := by
  have hlt := rCount_lt hby
  have h := R3count_any w br s hby h
  have e1 : rNum s = (unzig (rCount s).1, (rCount s).2) := rfl
  rw [e1]
  generalize rCount s = q at h hlt
  obtain ⟨u, s'⟩ := q
  simp only at h hlt ⊢
  have H := hid h
  clear hby e1 h
  by_cases hu : u % 2 = 1
  · have E : Hid (unzig u = -((u / 2 : Nat) : Int) - 1) := hid (by unfold unzig; rw [if_pos hu])
    have hu2 : (u : Int) % 2 = 1 := by omega
    go_enter Try.func39, Try.ntmps39
    go_wp2_with (first | (go_at_call 53; refine H.out.mono ?_; rintro e w' ⟨rfl, hr1, hk1⟩))
    go_ret
    refine ⟨ret_int ?_, hr1, hk1⟩
    rw [E.out]
    first | omega | (simp only [IntKind.wrap_i64]; omega)
  · have E : Hid (unzig u = ((u / 2 : Nat) : Int)) := hid (by unfold unzig; rw [if_neg hu])
    have hu2 : ¬ (u : Int) % 2 = 1 := by omega
    go_enter Try.func39, Try.ntmps39
    go_wp2_with (first | (go_at_call 53; refine H.out.mono ?_; rintro e w' ⟨rfl, hr1, hk1⟩))
    go_ret
    refine ⟨ret_int ?_, hr1, hk1⟩
    rw [E.out]
    first | omega | (simp only [IntKind.wrap_i64]; omega)
theorem R3small_any (w : World) (br : Nat) (s : St) (hby : Byt s) (h : R3At w br s) :
    Calls Try.prog 38 #[.pointer (some ⟨br, 0, none⟩)] w fun e w' => e = .returned (.int .i64 (rSmR s).1) ∧ Hid (R3At w' br (rSmR s).2) ∧ Hid (Kp (· ≠ br) w w') := by
  have hlt := rCount_lt hby
  have h := R3count_any w br s hby h
  have e1 : rSmR s = (if 100000 < (rCount s).1 then -1 else ((rCount s).1 : Int), (rCount s).2) := rfl
  rw [e1]
  generalize rCount s = q at h hlt
  obtain ⟨u, s'⟩ := q
  simp only at h hlt ⊢
  have H := hid h
  clear hby e1 h
  by_cases hu : 100000 < u
  · have hu2 : (100000 : Int) < u := by omega
    rw [if_pos hu]
    go_enter Try.func38, Try.ntmps38
    go_wp2_with (first | (go_at_call 53; refine H.out.mono ?_; rintro e w' ⟨rfl, hr1, hk1⟩))
    go_ret
    exact ⟨rfl, hr1, hk1⟩
  · have hu2 : ¬ (100000 : Int) < u := by omega
    rw [if_neg hu]
    go_enter Try.func38, Try.ntmps38
    go_wp2_with (first | (go_at_call 53; refine H.out.mono ?_; rintro e w' ⟨rfl, hr1, hk1⟩))
    go_ret
    exact ⟨ret_int (by first | rfl | omega | (simp only [IntKind.wrap_i64]; omega)), hr1, hk1⟩
theorem rSmR_le (s : St) : (rSmR s).1.toNat ≤ 100000 := by
  unfold rSmR
  simp only
  split <;> omega
/-- What is at hand at the head of a round. -/
structure Tk3 (w : World) (br : Nat) (s1 : St) (n : Nat) (ks : List Ky) (s' : St) (A : Option Addr) (c : Nat) (wr : World) : Prop where
  own : wr.ownsRow w.heap.size 80 2 (.slice A ks.length c) ks.length (ks.flatMap kyC)
  rd : R3At wr br s'
  by_ : Byt s'
  le : ks.length ≤ n
  eq : tkR n s1 = (ks ++ (tkR (n - ks.length) s').1, (tkR (n - ks.length) s').2)
  kp : Kp (· ≠ br) w wr
theorem own_r3 {w : World} {br : Nat} {s : St} {base n c m k : Nat} {A : Option Addr} {e : TypeId} {xs : List Value} (h : R3At w br s) (ho : w.ownsRow base e k (.slice A n c) m xs) (he : e ≠ 70) : ∀ x, (Value.slice A n c).ownBlock = some x → x ≠ br := fun x hx e' => by
  subst e'
  obtain ⟨cs, hb⟩ := h.blk
  obtain ⟨_, cur, h2⟩ := own_blk ho hx
  exact blk_ty_ne h2 hb he rfl
set_option maxHeartbeats 2000000 in
theorem take3_any (w : World) (br : Nat) (s : St) (hby : Byt s) (h : R3At w br s) :
    Calls Try.prog 37 #[.pointer (some ⟨br, 0, none⟩)] w fun e w' => ∃ A c, e = .returned (.slice A (takeKR s).1.length c) ∧ Hid (w'.ownsRow w.heap.size 80 2 (.slice A (takeKR s).1.length c) (takeKR s).1.length ((takeKR s).1.flatMap kyC)) ∧ Hid (R3At w' br (takeKR s).2) ∧ Hid (Kp (· ≠ br) w w') := by
  have H := hid h
  have Hby := hid hby
  have hu := Try.underlying22
  have hm := rSmR_le s
  clear h hby
  go_enter Try.func37, Try.ntmps37
  go_wp2_with fail
  refine (R3small_any w br s Hby.out H.out).mono ?_
  rintro e w1 ⟨rfl, h1, h2⟩
  have Hb1 := hid (rSmR_byt Hby.out)
  have E : Hid (takeKR s = tkR (rSmR s).1.toNat (rSmR s).2) := hid rfl
  generalize hq : rSmR s = q at *
  obtain ⟨n, s1⟩ := q
  simp only at *
  clear hq Hby H
  go_wp2
  go_loopw [3, 5] (fun v3 v5 wr => ∃ (ks : List Ky) (s' : St) (A : Option Addr) (c : Nat), v3 = .slice A ks.length c ∧ v5 = .int .i64 (ks.length : Int) ∧ ks.length ≤ n.toNat ∧ Hid (Tk3 w br s1 n.toNat ks s' A c wr)) (fun _ v5 _ => n.toNat - (intOf v5).toNat)
  case atStart => exact ⟨[], s1, none, 0, rfl, rfl, by simp, hid ⟨World.ownsRow_nil _ _ _ _, h1.out, Hb1.out, by simp, rfl, h2.out⟩⟩
  case round =>
    clear h1 h2 Hb1
    obtain ⟨ks, s', A, c, rfl, rfl, hle, I⟩ := hrel
    by_cases hlt : (ks.length : Int) < n
    · cases s' with
      | none =>
        have c1 := blk_cell (show wr.heap[br]? = some (.cells #[.slice none 0 0, .bool true] 70 (0, 0)) from I.out.rd) 1
        simp at c1
        go_wp2
        go_ret
        have E2 : takeKR s = (ks, none) := by
          rw [E.out, I.out.eq]
          cases n.toNat - ks.length <;> simp [tkR, badS]
        rw [E2]
        exact ⟨A, c, rfl, I.out.own, I.out.rd, I.out.kp⟩
      | some l =>
        obtain ⟨A3, c3, hb3, _⟩ := I.out.rd
        have c1 := blk_cell hb3 1
        simp at c1
        clear hb3
        go_wp2_with fail
        refine (R3small_any wr br _ I.out.by_ I.out.rd).mono ?_
        rintro e w2 ⟨rfl, h3, h4⟩
        have By2 := hid (rSmR_byt I.out.by_)
        have Hbk := hid (h3.out.lt)
        have RX := hid (h3.out.ext (ext_alloc w2 (.cells #[.int .i64 (rSmR (some l)).1, .int .i64 0] 80)))
        have BX := hid (blk_new w2 (.cells #[.int .i64 (rSmR (some l)).1, .int .i64 0] 80))
        have EQ : Hid (tkR (n.toNat - ks.length) (some l) = (⟨(rSmR (some l)).1, (rNum (rSmR (some l)).2).1⟩ :: (tkR (n.toNat - (ks.length + 1)) (rNum (rSmR (some l)).2).2).1, (tkR (n.toNat - (ks.length + 1)) (rNum (rSmR (some l)).2).2).2)) := hid (by
          obtain ⟨m, hm2⟩ : ∃ m, n.toNat - ks.length = m + 1 := ⟨n.toNat - ks.length - 1, by omega⟩
          rw [hm2, show n.toNat - (ks.length + 1) = m by omega]
          rfl)
        generalize hs : rSmR (some l) = q2 at *
        obtain ⟨t, s2⟩ := q2
        simp only at *
        go_wp2_with fail
        refine (R3num_any _ br _ By2.out RX.out).mono ?_
        rintro e w3 ⟨rfl, h5, h6⟩
        have BX3 := hid (h6.out.blk BX.out (by have := Hbk.out; omega))
        have b0 := blk_cell BX3.out 0
        have b1 := blk_cell BX3.out 1
        have fz := blk_free BX3.out 1
        have hl3 := heap_lt BX3.out
        simp at b0 b1
        have Own3 := hid (own_kp I.out.own (h4.out.trans ((Kp.of_ext (ext_alloc w2 (.cells #[.int .i64 t, .int .i64 0] 80)) _).trans h6.out)) (own_r3 I.out.rd I.out.own (by decide)))
        have Hnw : Hid (∀ x, (Value.slice A ks.length c).ownBlock = some x → x ≠ w2.heap.size) := hid (fun x hx e => by
          obtain ⟨_, cur, h⟩ := own_blk I.out.own hx
          have := heap_lt h
          have := h4.out.size
          omega)
        have By3 := hid (rNum_byt By2.out)
        generalize hkk : rNum s2 = q3 at *
        obtain ⟨kk, s3⟩ := q3
        simp only at *
        have Own4 := hid (own_kp Own3.out (kp_set w3 w2.heap.size 1 (.int .i64 kk)) Hnw.out)
        have R4 := hid (h5.out.kp (kp_set w3 w2.heap.size 1 (.int .i64 kk)) (by have := Hbk.out; omega) (fun k cs fz h => blk_ty_ne h BX3.out (by decide)))
        have K4 : Hid (Kp (· ≠ br) wr (w3.setCell ⟨w2.heap.size, 1, none⟩ (.int .i64 kk))) := hid (((h4.out.trans (Kp.of_ext (ext_alloc w2 (.cells #[.int .i64 t, .int .i64 0] 80)) _)).trans h6.out).trans2 (kp_set _ _ _ _) (fun i hi _ => by have := h4.out.size; omega))
        have Hsz4 : Hid (w.heap.size ≤ (w3.setCell ⟨w2.heap.size, 1, none⟩ (.int .i64 kk)).heap.size) := hid (Nat.le_trans I.out.kp.size K4.out.size)
        have Rn : Hid (Rd ((w3.setCell ⟨w2.heap.size, 1, none⟩ (.int .i64 kk)).alloc (.cells #[.int .i64 t, .int .i64 kk] 80)) (some ⟨w3.heap.size, 0, none⟩) (kyC ⟨t, kk⟩)) := hid (by have := rd_new (w3.setCell ⟨w2.heap.size, 1, none⟩ (.int .i64 kk)) (kyC ⟨t, kk⟩) 80; simpa [kyC] using this)
        go_wp2_with (at_builtin; refine wl_ap rfl rfl w.heap.size 80 hu info_key rfl (by decide) (.slice A ks.length c) ks.length (ks.flatMap kyC) rfl (own_ext Own4.out (ext_alloc _ _)) (some ⟨w3.heap.size, 0, none⟩) 1 1 (kyC ⟨t, kk⟩) rfl rfl Rn.out (fun u hu => by simp [kyC] at hu; rcases hu with rfl | rfl <;> rfl) (by unfold maxLen; omega) (by omega) (by have := Hsz4.out; simp at this ⊢; omega) ?_; intro A' c' w5 _ _ hown hkp hhop; have O5 := hid hown; have K5 := hid hkp; clear hown hkp hhop)
        have hbr : ∀ x, (Value.slice A ks.length c).ownBlock = some x → x ≠ br := own_r3 I.out.rd I.out.own (by decide)
        have RX5 := R4.out.ext (ext_alloc (w3.setCell ⟨w2.heap.size, 1, none⟩ (.int .i64 kk)) (.cells #[.int .i64 t, .int .i64 kk] 80))
        have OX5 := own_ext Own4.out (ext_alloc (w3.setCell ⟨w2.heap.size, 1, none⟩ (.int .i64 kk)) (.cells #[.int .i64 t, .int .i64 kk] 80))
        refine ⟨⟨ks ++ [⟨t, kk⟩], s3, A', c', by simp, by simp, by simp; omega, hid ⟨?_, RX5.kp K5.out (fun e => hbr br e rfl) (fun k cs fz h e => ?_), By3.out, by simp; omega, ?_, ?_⟩⟩, by simp [intOf]; omega⟩
        · have := O5.out
          simpa [List.flatMap_append] using this
        · obtain ⟨_, cur, h2⟩ := own_blk OX5 e
          rw [h] at h2
          simp at h2
        · rw [I.out.eq, EQ.out]
          simp
        · exact (I.out.kp.trans (K4.out.trans (Kp.of_ext (ext_alloc _ _) _))).trans2 K5.out (fun i hi _ e => by have := (own_blk OX5 e).1; omega)
    · go_wp2
      go_ret
      have E2 : takeKR s = (ks, s') := by
        rw [E.out, I.out.eq, show n.toNat - ks.length = 0 by omega]
        simp [tkR]
      rw [E2]
      exact ⟨A, c, rfl, I.out.own, I.out.rd, I.out.kp⟩
end Go.Proofs.Ytgnikijaihmeeaa
