/- The walk of prog.Check. -/
import Derived.Test.YtgnfccdhlpeknaaSwJb
import Derived.Test.YtgnfccdhlpeknaaSwF
open Go Go.RowKit
namespace Go.Proofs.Ytgnfccdhlpeknaa
set_option maxRecDepth 100000
def cdC (x : Cd) : List Value := x.l.map iv
theorem Rd.cd {w : World} {b o : Nat} {l : List Cd} (h : Rd w (some ⟨b, o, none⟩) (l.flatMap cdC)) {i : Nat} {x : Cd} (hx : l[i]? = some x) :
    w.cell? ⟨b, o + i * 6, none⟩ = some (.int .i64 x.op) ∧ w.cell? ⟨b, o + i * 6 + 1, none⟩ = some (.int .i64 x.a) ∧ w.cell? ⟨b, o + i * 6 + 2, none⟩ = some (.int .i64 x.b) ∧
    w.cell? ⟨b, o + i * 6 + 3, none⟩ = some (.int .i64 x.c) ∧ w.cell? ⟨b, o + i * 6 + 4, none⟩ = some (.int .i64 x.t) ∧ w.cell? ⟨b, o + i * 6 + 5, none⟩ = some (.int .i64 x.n) := by
  have g := fun (j : Nat) (hj : j < 6) (u : Value) (hu : (cdC x)[j]? = some u) => h.at (j := i * 6 + j) ((fm_get (f := cdC) (s := 6) (fun _ => rfl) l i x hx j hj).trans hu)
  exact ⟨g 0 (by omega) _ rfl, g 1 (by omega) _ rfl, g 2 (by omega) _ rfl, g 3 (by omega) _ rfl, g 4 (by omega) _ rfl, g 5 (by omega) _ rfl⟩
/-- api's fault at a place -/
def FaultAt (w : World) (v : Value) (at_ n : Int) : Prop := ∃ b, v = .iface 85 (.pointer (some ⟨b, 0, none⟩)) ∧ w.heap[b]? = some (.cells #[.int .i64 at_, .iface 45 (.int .i64 n)] 88 (0, 0))
theorem fault_any (w : World) (i : Int) : Calls Try.prog 40 #[.int .i64 i] w fun e w' => ∃ v, e = .returned v ∧ Hid (FaultAt w' v i 5) ∧ Hid (Below w.heap.size w w') := by
  go_enter Try.func40, Try.ntmps40
  go_wp2
  go_ret
  exact ⟨_, rfl, ⟨_, rfl, blk_new _ _⟩, ext_alloc _ _⟩
def chkGo (n : Nat) : Nat → List Cd → Option Int
  | _, [] => none
  | i, x :: r => if goodC x (n - 1 - i) then chkGo n (i + 1) r else some i
def checkP (fuel : Int) (cs : List Cd) : Option Int := if withinB fuel 1 1000 && withinB cs.length 1 32 then chkGo cs.length 0 cs else some (-1)
def ChkPost (w : World) (r : Option Int) (e : Ending) (w' : World) : Prop := Below w.heap.size w w' ∧ match r with
  | none => e = .returned .nilIface
  | some i => ∃ v, e = .returned v ∧ FaultAt w' v i 5
set_option maxHeartbeats 1000000 in
theorem Check_any (w : World) (fuel : Int) (A : Option Addr) (n c : Nat) (cs : List Cd) (hn : n = cs.length) (hr : Rd w A (cs.flatMap cdC)) (hm : n ≤ 140737488355328) :
    Calls Try.prog 20 #[.agg #[.int .i64 fuel, .slice A n c]] w (ChkPost w (checkP fuel cs)) := by
  have Hr := hid hr
  have Hn := hid hn
  have HB := hid (blk_new w (Obj.cells #[.int .i64 fuel, .slice A n c] 24))
  clear hr hn
  by_cases hok : withinB fuel 1 1000 = true ∧ withinB n 1 32 = true
  · obtain ⟨h1, h2⟩ := hok
    have hn32 : n ≤ 32 ∧ 1 ≤ n := by unfold withinB at h2; simp at h2; omega
    obtain ⟨hn1, hn2⟩ := hn32
    have F := hid (show checkP fuel cs = chkGo n 0 cs by unfold checkP; rw [← Hn.out, h1, h2]; rfl)
    go_enter Try.func20, Try.ntmps20
    go_wp2_with (go_at_call 39; refine (within_any _ _ _ _).mono ?_; rintro e w' ⟨rfl, rfl⟩)
    go_loopw [20] (fun v20 wr => ∃ k : Nat, v20 = .int .i64 k ∧ k ≤ n ∧ Hid (checkP fuel cs = chkGo n k (cs.drop k)) ∧ Hid (wr.heap[w.heap.size]? = some (.cells #[.int .i64 fuel, .slice A n c] 24 (0, 0))) ∧ Hid (Below w.heap.size w wr)) (fun v20 _ => n - (intOf v20).toNat)
    case atStart => exact ⟨0, rfl, by omega, F, HB, hid (ext_alloc _ _)⟩
    case round =>
      obtain ⟨k, rfl, hk, Hg, Hx, Hb⟩ := hrel
      by_cases hlt : k < n
      · have hkx : k < cs.length := by rw [← Hn.out]; exact hlt
        obtain ⟨b, o, rfl, hb1, hb2⟩ := Hr.out.addr (by rw [fm_len (s := 6) (fun _ => rfl)]; omega)
        clear hb1 hb2
        have hx := List.getElem?_eq_getElem hkx
        have Hd := hid (List.drop_eq_getElem_cons hkx)
        generalize cs[k] = X at hx Hd
        obtain ⟨g0, g1, g2, g3, g4, g5⟩ := (Hr.out.ext Hb.out).cd hx
        clear hx hkx
        have hb1 := blk_cell (blk_alloc Hx.out (Obj.cells #[.int .i64 X.op, .int .i64 X.a, .int .i64 X.b, .int .i64 X.c, .int .i64 X.t, .int .i64 X.n] 93)) 1
        simp at hb1
        go_wp2_with fail
        refine (pgood_any _ X _).mono ?_
        rintro e w2 ⟨rfl, hb2⟩
        have Hw2 := hid (ext_trans (ext_alloc _ _) hb2)
        clear hb2
        cases hg : goodC X ((n : Int) - 1 - k) with
        | true =>
          have G2 := hid (show checkP fuel cs = chkGo n (k + 1) (cs.drop (k + 1)) by rw [Hg.out, Hd.out, chkGo, if_pos hg])
          go_wp2
          exact ⟨⟨k + 1, by go_num, by omega, G2, hid (ext_blk Hw2.out Hx.out), hid (ext_trans Hb.out Hw2.out)⟩, by simp [intOf]; omega⟩
        | false =>
          have G2 := hid (show checkP fuel cs = some (k : Int) by rw [Hg.out, Hd.out, chkGo, if_neg (by rw [hg]; simp)])
          go_wp2_with fail
          refine (fault_any _ _).mono ?_
          rintro e w3 ⟨v, rfl, hv, hb3⟩
          go_wp2
          go_ret
          refine ⟨ext_trans Hb.out (ext_trans Hw2.out hb3.out), ?_⟩
          rw [G2.out]
          exact ⟨v, rfl, hv.out⟩
      · have G2 := hid (show checkP fuel cs = none by rw [Hg.out, List.drop_of_length_le (by rw [← Hn.out]; omega)]; rfl)
        go_wp2
        go_ret
        refine ⟨Hb.out, ?_⟩
        rw [G2.out]
        exact rfl
  · have F := hid (show checkP fuel cs = some (-1) by unfold checkP; rw [← Hn.out, if_neg (by simpa using hok)])
    cases h1 : withinB fuel 1 1000 with
    | false =>
      go_enter Try.func20, Try.ntmps20
      go_wp2_with (first | (go_at_call 39; refine (within_any _ _ _ _).mono ?_; rintro e w' ⟨rfl, rfl⟩))
      refine (fault_any _ _).mono ?_
      rintro e w3 ⟨v, rfl, hv, hb3⟩
      go_wp2
      go_ret
      refine ⟨ext_trans (ext_alloc _ _) hb3.out, ?_⟩
      rw [F.out]
      exact ⟨v, rfl, hv.out⟩
    | true =>
      have h2 : withinB n 1 32 = false := by
        cases h2 : withinB n 1 32
        · rfl
        · exact absurd ⟨h1, h2⟩ hok
      clear hok
      go_enter Try.func20, Try.ntmps20
      go_wp2_with (first | (go_at_call 39; refine (within_any _ _ _ _).mono ?_; rintro e w' ⟨rfl, rfl⟩))
      refine (fault_any _ _).mono ?_
      rintro e w3 ⟨v, rfl, hv, hb3⟩
      go_wp2
      go_ret
      refine ⟨ext_trans (ext_alloc _ _) hb3.out, ?_⟩
      rw [F.out]
      exact ⟨v, rfl, hv.out⟩
end Go.Proofs.Ytgnfccdhlpeknaa
