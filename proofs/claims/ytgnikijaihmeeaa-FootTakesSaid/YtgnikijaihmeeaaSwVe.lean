/- Guarded operations of a region told by relations. No program. -/
import Derived.Test.YtgnikijaihmeeaaSwVd
import Derived.Test.YtgnikijaihmeeaaSwVb
open Go Go.RowKit
namespace Go.Proofs.Ytgnikijaihmeeaa
set_option linter.unusedVariables false
set_option linter.unusedSimpArgs false
section
variable {P : Program} {ops : Array Oper}
theorem wanted_of {o og : Oper} {a : Act} {i : Nat} {d : Tmp} {b want : Bool} (hg : o.guard = some (i, want)) (hi : ops[i]? = some og) (hd : og.dst = some d) (hv : a.tmps[d]? = some (.bool b)) : Region.wanted o (yielded ops a.tmps) = (b == want) := by
  simp [Region.wanted, hg, yielded, hi, hd, hv]
theorem wanted_on {o og : Oper} {a : Act} {i : Nat} {d : Tmp} {want : Bool} (hg : o.guard = some (i, want)) (hi : ops[i]? = some og) (hd : og.dst = some d) (hv : a.tmps[d]? = some (.bool want)) : Region.wanted o (yielded ops a.tmps) = true := by
  rw [wanted_of hg hi hd hv]; simp
theorem wanted_off {o og : Oper} {a : Act} {i : Nat} {d : Tmp} {want : Bool} (hg : o.guard = some (i, want)) (hi : ops[i]? = some og) (hd : og.dst = some d) (hv : a.tmps[d]? = some (.bool (!want))) : Region.wanted o (yielded ops a.tmps) = false := by
  rw [wanted_of hg hi hd hv]; cases want <;> rfl
theorem op_val_g {w w' : World} {j : Nat} {o : Oper} {a : Act} {K : Act → World → Prop} {Q : Exit → Act → World → Prop} (hj : ops[j]? = some o) (hw : Region.wanted o (yielded ops a.tmps) = true) {v : Value}
    (hr : (execOp a.eval o).run P w = .ok (.value v) w') (h : K (a.put o.dst v) w') : wpOp P ops Q j K a w := by
  unfold wpOp
  simp only [hj, hw, if_true]
  refine .inl ?_
  unfold Oper.wp
  rw [hr]
  exact h
theorem op_call_g {w w1 : World} {j : Nat} {o : Oper} {a : Act} {K : Act → World → Prop} {Q : Exit → Act → World → Prop} (hj : ops[j]? = some o) (hw : Region.wanted o (yielded ops a.tmps) = true) {f : FuncId} {args : Array Value}
    (hr : (execOp a.eval o).run P w = .ok (.enter f args) w1) (hc : Calls P f args w1 fun e w2 => ∃ v, e = .returned v ∧ K (a.put o.dst v) w2) : wpOp P ops Q j K a w := by
  unfold wpOp
  simp only [hj, hw, if_true]
  refine .inl ?_
  unfold Oper.wp
  rw [hr, Oper.upon_enter]
  refine hc.mono fun e w2 h => ?_
  obtain ⟨v, rfl, hk⟩ := h
  exact hk
theorem op_off {w : World} {j : Nat} {o : Oper} {a : Act} {K : Act → World → Prop} {Q : Exit → Act → World → Prop} (hj : ops[j]? = some o) (hw : Region.wanted o (yielded ops a.tmps) = false) (h : K (a.put o.dst undef) w) : wpOp P ops Q j K a w := by
  unfold wpOp
  simp only [hj, hw]
  exact h
end
end Go.Proofs.Ytgnikijaihmeeaa
