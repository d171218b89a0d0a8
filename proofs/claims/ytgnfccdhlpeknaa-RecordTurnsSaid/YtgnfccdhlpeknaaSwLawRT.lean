/- RecordTurns: for every record, place and byte the law returns true, and its arguments read as before. No condition. -/
import Derived.Test.YtgnfccdhlpeknaaSwYb
import Derived.Test.YtgnfccdhlpeknaaSwZb
import Derived.Test.YtgnfccdhlpeknaaRows
import Derived.ProofKit
import Derived.OpenShut
import Derived.ShutString
import Derived.ChangeOld
import Derived.Below
namespace Go.Proofs.Ytgnfccdhlpeknaa
open Go Go.ChangeShapes Go.WideShapes Go.ChangeAt Go.RowKit
set_option maxRecDepth 100000
theorem own : ownKnob Try.prog.godebug = none := by kernel_rfl
theorem laidOut : laidOutB Try.prog = true := by kernel_rfl
theorem open_rec {H : Type} {enc : TypeId × Value → H} {w : World} {base : Nat} {spare : Nat → Bool} {held : Bool} {fuel : Nat} {cs : List Value} {x : DataW H × List MemPlace} (h : DataW.trod enc Try.prog w base spare held fuel 31 cs = some x) :
    ∃ (q : Int) (b : Bool) (fu : Int) (Ac : Option Addr) (nc cc : Nat) (A0 : Option Addr) (n0 c0 : Nat) (A1 : Option Addr) (n1 c1 : Nat) (A2 : Option Addr) (n2 c2 : Nat) (Aw : Option Addr) (nw cw : Nat) (lc : List Cd) (f : Ft) (lw : List Wi),
      cs = [.int .i64 q, .bool b, .int .i64 fu, .slice Ac nc cc, .slice A0 n0 c0, .slice A1 n1 c1, .slice A2 n2 c2, .slice Aw nw cw] ∧
      (nc ≤ 9223372036854775807 ∧ n0 ≤ 9223372036854775807 ∧ n1 ≤ 9223372036854775807 ∧ n2 ≤ 9223372036854775807 ∧ nw ≤ 9223372036854775807) ∧
      (nc = lc.length ∧ n0 = f.r.length ∧ n1 = f.s.length ∧ n2 = f.w.length ∧ nw = lw.length) ∧
      (Rd w Ac (lc.flatMap cdC) ∧ Rd w A0 (f.r.flatMap kyC) ∧ Rd w A1 (f.s.flatMap spC) ∧ Rd w A2 (f.w.flatMap kyC) ∧ Rd w Aw (lw.flatMap wiC)) ∧
      (inI q ∧ inI fu ∧ (∀ a ∈ lc, CdOk a) ∧ FtOk f ∧ ∀ a ∈ lw, inI a.t ∧ inI a.k ∧ inI a.v) := by
  obtain ⟨xs, n, _, _, hcl, hxl, hf⟩ := DataW.trod_struct Try.underlying31 h
  rw [show Try.prog.cellsOf 31 = 8 by kernel_rfl] at hcl
  match cs, hcl with
  | [c0, c1, c2, c3, c4, c5, c6, c7], _ =>
  have f0 := hf 0 _ rfl
  have f1 := hf 1 _ rfl
  have f2 := hf 2 _ rfl
  have f3 := hf 3 _ rfl
  have f4 := hf 4 _ rfl
  simp [show Try.prog.cellsOf 3 = 1 by kernel_rfl, show Try.prog.cellsOf 4 = 1 by kernel_rfl, show Try.prog.cellsOf 24 = 2 by kernel_rfl, show Try.prog.cellsOf 28 = 3 by kernel_rfl, show Try.prog.cellsOf 29 = 1 by kernel_rfl] at f0 f1 f2 f3 f4
  match xs, hxl with
  | [x0, x1, x2, x3, x4], _ =>
  obtain ⟨q, e0, _, w0⟩ := DataW.trod_int Try.underlying3 f0
  obtain ⟨b, e1, _⟩ := DataW.trod_bool Try.underlying4 f1
  obtain ⟨ys, n2, _, _, _, hyl, hg⟩ := DataW.trod_struct Try.underlying24 f2
  have g0 := hg 0 _ rfl
  have g1 := hg 1 _ rfl
  simp [show Try.prog.cellsOf 3 = 1 by kernel_rfl, show Try.prog.cellsOf 22 = 1 by kernel_rfl] at g0 g1
  match ys, hyl with
  | [y0, y1], _ =>
  obtain ⟨fu, e2, _, w2⟩ := DataW.trod_int Try.underlying3 g0
  obtain ⟨Ac, nc, cc, lc, rfl, a0, b0, _, d0, r0, o0⟩ := open_codes g1
  obtain ⟨A0, n0, k0, A1, n1, k1, A2, n2, k2, f, e3, ⟨a1, a2, a3⟩, ⟨b1, b2, b3⟩, ⟨d1, d2, d3⟩, ⟨r1, r2, r3⟩, o1⟩ := open_foot f3
  obtain ⟨Aw, nw, cw, lw, rfl, a4, b4, _, d4, r4, o4⟩ := open_writes f4
  simp at e0 e1 e2 e3
  obtain ⟨rfl, rfl, rfl⟩ := e3
  subst e0 e1 e2
  unfold maxLen at b0 b1 b2 b3 b4
  exact ⟨q, b, fu, Ac, nc, cc, A0, n0, k0, A1, n1, k1, A2, n2, k2, Aw, nw, cw, lc, f, lw, rfl, ⟨by omega, by omega, by omega, by omega, by omega⟩, ⟨d0, d1, d2, d3, d4⟩, ⟨r0, r1, r2, r3, r4⟩, ⟨wf_in w0, wf_in w2, o0, o1, o4⟩⟩
theorem lifted (os : Os) (started : os.Started) (H : Type) (enc : TypeId × Value → H) :
    ReturnsInHanded {} Try.checked os 3 .any (Rows.recordTurnsSpec.pre6 enc Try.prog Try.f3 Rows.recordTurnsRow.domain false) (Rows.recordTurnsSpec.post enc Try.prog Try.f3 false true false false) := by
  refine returnsInHanded_of_change (C := Try.checked) own started (by kernel_rfl) Try.func3
    (ChangeSpec.witness6 (enc := enc) (C := Try.checked) false ⟨#[], #[.agg #[.int .i64 0, .bool false, .int .i64 0, .slice none 0 0, .slice none 0 0, .slice none 0 0, .slice none 0 0, .slice none 0 0], .int .i64 0, .int .u8 0], []⟩ 8 (by kernel_rfl) (by kernel_rfl) (by kernel_rfl) (by kernel_rfl)) ?_
  intro W base args ds gs before hval0 hW hcnd _
  have hval : ∀ (j : Nat) t v, Try.f3.params[j]? = some t → args[j]? = some v → Value.okWide Try.prog W .any base t v := hval0
  have hW' := hW
  obtain ⟨p, q, hA0, hV, rfl, hfz, hnd⟩ := hW
  have hA : DataW.TrodAll enc Try.prog W 0 (fun _ => true) true Try.f3.params.toList args.toList ds p := hA0
  rw [Try.params3] at hA hval
  obtain ⟨v0, vs0, d0, ds0, p0, q0, hargs, rfl, rfl, h0, r0⟩ := trodAll_cons hA
  obtain ⟨v1, vs1, d1, ds1, p1, q1, rfl, rfl, rfl, h1, r1⟩ := trodAll_cons r0
  obtain ⟨v2, vs2, d2, ds2, p2, q2, rfl, rfl, rfl, h2, r2⟩ := trodAll_cons r1
  obtain ⟨rfl, rfl, rfl⟩ := trodAll_nil r2
  obtain rfl : args = #[v0, v1, v2] := by cases args; simp_all
  obtain ⟨rfl, rfl⟩ := trodVars_none hV
  obtain ⟨cs, rfl, hsz⟩ := okWide_struct Try.underlying31 (hval 0 31 v0 rfl rfl)
  have k0 := h0
  have lt0 : ∀ x ∈ p0, x.block < W.heap.size := by obtain ⟨m, hm⟩ := k0; exact DataW.trod_lt m _ _ _ hm
  obtain ⟨a1, rfl, rfl, rfl, w1⟩ := open_int Try.underlying3 (hval 1 3 v1 rfl rfl) h1
  obtain ⟨a2, rfl, rfl, rfl, w2⟩ := open_int Try.underlying5 (hval 2 5 v2 rfl rfl) h2
  clear hA0 hval0
  have hwalk : Calls Try.prog 3 #[.agg cs, .int .i64 a1, .int .u8 a2] W fun e w' => e = .returned (.bool true) ∧ Below W.heap.size W w' := by
    obtain ⟨fuel, hf⟩ := h0
    obtain ⟨q, b, fu, Ac, nc, cc, A0, n0, c0, A1, n1, c1, A2, n2, c2, Aw, nw, cw, lc, f, lw, hcs, ⟨m0, m1, m2, m3, m4⟩, ⟨l0, l1, l2, l3, l4⟩, ⟨r0, r1, r2, r3, r4⟩, ⟨i0, i1, i2, i3, i4⟩⟩ := open_rec hf
    have hcs' : cs = #[.int .i64 q, .bool b, .int .i64 fu, .slice Ac nc cc, .slice A0 n0 c0, .slice A1 n1 c1, .slice A2 n2 c2, .slice Aw nw cw] := by
      apply Array.toList_inj.1
      simpa [Value.cells] using hcs
    subst hcs'
    by_cases hL : 60 < nc ∨ 40 < n0 ∨ 40 < n1 ∨ 40 < n2 ∨ 60 < nw
    · exact Turns_large W _ _ _ _ _ _ _ _ _ _ _ _ _ _ _ _ _ _ _ _ m0 m1 m2 m3 m4 hL
    · exact Turns_any W ⟨q, b, ⟨fu, lc⟩, f, lw⟩ a1 a2 Ac nc cc A0 n0 c0 A1 n1 c1 A2 n2 c2 Aw nw cw ⟨⟨l0, by omega, r0⟩, ⟨l1, l2, l3, by omega, by omega, by omega, r1, r2, r3⟩, l4, by omega, r4⟩ i3 i2 (fun y hy => (i4 y hy).2) (wf_in w1) (wf_u8 w2)
  refine hwalk.mono fun e W' ⟨he, bel⟩ => ?_
  subst he
  exact ⟨_, rfl, _, _, _, [], _, [], hW', trodAll_mk1 (shut_bool Try.underlying4 _), (trodAll_cons_mk (Below.trod laidOut (by kernel_rfl) (of_decide_eq_true (by kernel_rfl)) k0 bel lt0) (trodAll_cons_mk (shut_int Try.underlying3 w1) (trodAll_cons_mk (shut_int Try.underlying5 w2) trodAll_mk0))), rfl, bel.frame _, fun h => by cases h⟩

theorem over : Rows.recordTurnsRow.holds Try.pinned (OpenSpec.ofChange Rows.recordTurnsSpec) :=
  OpenClaim.holds_of_wide 3 Try.f3 rfl rfl rfl rfl rfl rfl rfl ⟨rfl, rfl, rfl, rfl, rfl⟩ rfl rfl rfl rfl rfl (by kernel_rfl) Try.func3 (by kernel_rfl)
    (of_decide_eq_true (by kernel_rfl)) (by unfold Func.isWrapper; first | (rw [if_pos (by decide +kernel)]; kernel_rfl) | (rw [if_neg (by decide +kernel)]; exact ⟨rfl, rfl⟩))
    (fun os started H enc _ => lifted os started H enc)
/-- The statement. -/
theorem recordTurns_holds : Rows.RecordTurnsSaid := over
#print axioms recordTurns_holds
end Go.Proofs.Ytgnfccdhlpeknaa
