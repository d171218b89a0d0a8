/- A foot opened. -/
import Derived.Test.YtgnikijaihmeeaaSwZ
import Derived.Test.YtgnikijaihmeeaaSwGb
open Go Go.RowKit Go.Deep
namespace Go.Proofs.Ytgnikijaihmeeaa
set_option linter.unusedVariables false
set_option linter.unusedSimpArgs false
set_option maxRecDepth 100000
section
variable {H : Type} {enc : TypeId × Value → H} {w : World} {base : Nat} {spare : Nat → Bool} {held : Bool}
theorem open_key {fuel : Nat} {cs : List Value} {x : DataW H × List MemPlace} (h : DataW.trod enc Try.prog w base spare held fuel 80 cs = some x) : ∃ a : Ky, cs = kyC a ∧ (inI a.t ∧ inI a.k) := by
  obtain ⟨xs, n, _, _, hcl, hxl, hf⟩ := DataW.trod_struct Try.underlying80 h
  rw [show Try.prog.cellsOf 80 = 2 by kernel_rfl] at hcl
  match cs, hcl with
  | [c0, c1], _ =>
  have f0 := hf 0 _ rfl
  have f1 := hf 1 _ rfl
  simp [show Try.prog.cellsOf 3 = 1 by kernel_rfl] at f0 f1
  match xs, hxl with
  | [x0, x1], _ =>
  obtain ⟨a, e0, _, w0⟩ := DataW.trod_int Try.underlying3 f0
  obtain ⟨b, e1, _, w1⟩ := DataW.trod_int Try.underlying3 f1
  simp at e0 e1
  subst e0 e1
  exact ⟨⟨a, b⟩, rfl, wf_in w0, wf_in w1⟩
theorem open_span {fuel : Nat} {cs : List Value} {x : DataW H × List MemPlace} (h : DataW.trod enc Try.prog w base spare held fuel 46 cs = some x) : ∃ a : Sp, cs = spC a ∧ (inI a.t ∧ inI a.lo ∧ inI a.hi) := by
  obtain ⟨xs, n, _, _, hcl, hxl, hf⟩ := DataW.trod_struct Try.underlying46 h
  rw [show Try.prog.cellsOf 46 = 3 by kernel_rfl] at hcl
  match cs, hcl with
  | [c0, c1, c2], _ =>
  have f0 := hf 0 _ rfl
  have f1 := hf 1 _ rfl
  have f2 := hf 2 _ rfl
  simp [show Try.prog.cellsOf 3 = 1 by kernel_rfl] at f0 f1 f2
  match xs, hxl with
  | [x0, x1, x2], _ =>
  obtain ⟨a, e0, _, w0⟩ := DataW.trod_int Try.underlying3 f0
  obtain ⟨b, e1, _, w1⟩ := DataW.trod_int Try.underlying3 f1
  obtain ⟨c, e2, _, w2⟩ := DataW.trod_int Try.underlying3 f2
  simp at e0 e1 e2
  subst e0 e1 e2
  exact ⟨⟨a, b, c⟩, rfl, wf_in w0, wf_in w1, wf_in w2⟩
theorem open_keys {fuel : Nat} {c : Value} {x : DataW H × List MemPlace} (h : DataW.trod enc Try.prog w base spare held fuel 22 [c] = some x) :
    ∃ (A : Option Addr) (n cap : Nat) (l : List Ky), c = .slice A n cap ∧ n ≤ cap ∧ cap ≤ maxLen ∧ (A = none → n = 0 ∧ cap = 0) ∧ n = l.length ∧ Rd w A (l.flatMap kyC) ∧ ∀ a ∈ l, inI a.t ∧ inI a.k :=
  rows_of kyC 2 (fun _ => rfl) (by omega) _ Try.underlying22 (by kernel_rfl) (fun _ _ _ h => open_key h) h
theorem open_spans {fuel : Nat} {c : Value} {x : DataW H × List MemPlace} (h : DataW.trod enc Try.prog w base spare held fuel 23 [c] = some x) :
    ∃ (A : Option Addr) (n cap : Nat) (l : List Sp), c = .slice A n cap ∧ n ≤ cap ∧ cap ≤ maxLen ∧ (A = none → n = 0 ∧ cap = 0) ∧ n = l.length ∧ Rd w A (l.flatMap spC) ∧ ∀ a ∈ l, inI a.t ∧ inI a.lo ∧ inI a.hi :=
  rows_of spC 3 (fun _ => rfl) (by omega) _ Try.underlying23 (by kernel_rfl) (fun _ _ _ h => open_span h) h
theorem open_foot {fuel : Nat} {cs : List Value} {x : DataW H × List MemPlace} (h : DataW.trod enc Try.prog w base spare held fuel 25 cs = some x) :
    ∃ (A0 : Option Addr) (n0 c0 : Nat) (A1 : Option Addr) (n1 c1 : Nat) (A2 : Option Addr) (n2 c2 : Nat) (f : Ft), cs = [.slice A0 n0 c0, .slice A1 n1 c1, .slice A2 n2 c2] ∧
      (n0 ≤ c0 ∧ n1 ≤ c1 ∧ n2 ≤ c2) ∧ (c0 ≤ maxLen ∧ c1 ≤ maxLen ∧ c2 ≤ maxLen) ∧ (n0 = f.r.length ∧ n1 = f.s.length ∧ n2 = f.w.length) ∧ (Rd w A0 (f.r.flatMap kyC) ∧ Rd w A1 (f.s.flatMap spC) ∧ Rd w A2 (f.w.flatMap kyC)) ∧ FtOk f := by
  obtain ⟨xs, n, _, _, hcl, hxl, hf⟩ := DataW.trod_struct Try.underlying25 h
  rw [show Try.prog.cellsOf 25 = 3 by kernel_rfl] at hcl
  match cs, hcl with
  | [c0, c1, c2], _ =>
  have f0 := hf 0 _ rfl
  have f1 := hf 1 _ rfl
  have f2 := hf 2 _ rfl
  simp [show Try.prog.cellsOf 22 = 1 by kernel_rfl, show Try.prog.cellsOf 23 = 1 by kernel_rfl] at f0 f1 f2
  match xs, hxl with
  | [x0, x1, x2], _ =>
  obtain ⟨A0, n0, k0, l0, rfl, a0, b0, _, d0, r0, o0⟩ := open_keys f0
  obtain ⟨A1, n1, k1, l1, rfl, a1, b1, _, d1, r1, o1⟩ := open_spans f1
  obtain ⟨A2, n2, k2, l2, rfl, a2, b2, _, d2, r2, o2⟩ := open_keys f2
  exact ⟨A0, n0, k0, A1, n1, k1, A2, n2, k2, ⟨l0, l1, l2⟩, rfl, ⟨a0, a1, a2⟩, ⟨b0, b1, b2⟩, ⟨d0, d1, d2⟩, ⟨r0, r1, r2⟩, ⟨fun y hy => (o0 y hy).2, fun y hy => (o1 y hy).2, fun y hy => (o2 y hy).2⟩⟩
end
end Go.Proofs.Ytgnikijaihmeeaa
