/- Appending to a slice of no room that the call has just made; operations of a region whose values are told by relations. No program. -/
import Derived.Test.YtgnikijaihmeeaaSwV
open Go Go.RowKit
namespace Go.Proofs.Ytgnikijaihmeeaa
set_option linter.unusedVariables false
set_option linter.unusedSimpArgs false

section
variable {P : Program}
theorem run_ap0 (w : World) (B g : Nat) (t ty e : TypeId) (i : TypeInfo) (z : Value) (size bytes : Nat) (ht : P.underlying t = some (.slice e)) (hi : P.info? e = some i) (hz : i.zero = some z)
    (hsize : i.size = size) (hby : i.bytes = bytes) (hzs : z.cells.size = size) (hsz : 0 < size)
    (hown : w.ownsRow B e size (.slice (some ⟨g, 0, none⟩) 0 0) 0 [])
    (A : Option Addr) (m c : Nat) (news : List Value) (hl : news.length = m * size) (hnews : Rd w A news) (h1 : ∀ u ∈ news, u.oneCell' = true)
    (h63 : m ≤ maxLen) (hbytes : m * bytes ≤ 140737488355328) (hbase : B ≤ w.heap.size) :
    ∃ A' c' w', (Builtin.append_ #[t, t] ty #[.slice (some ⟨g, 0, none⟩) 0 0, .slice A m c]).run P w = .ok (.slice A' m c') w' ∧ m ≤ c' ∧ c' ≤ maxLen ∧ w'.ownsRow B e size (.slice A' m c') m news ∧ Below w.heap.size w w' := by
  rcases Nat.eq_zero_or_pos m with hm | hm
  · subst hm
    have hn : news = [] := List.eq_nil_of_length_eq_zero (by rw [hl]; simp)
    subst hn
    refine ⟨_, 0, w, ?_, Nat.le_refl _, by simp [maxLen], hown, Below.refl _ _⟩
    cases A with
    | none => simp [Builtin.append_, run_underlying ht, sizeOf, typeInfo, hi, Builtin.lenOf, Builtin.firstCells, storeCells]
    | some a => simp [Builtin.append_, run_underlying ht, sizeOf, typeInfo, hi, Builtin.lenOf, Builtin.firstCells, loadCells, loadCellsFrom, storeCells]
  · obtain ⟨b, o, rfl, hb, hc⟩ := hnews.addr (by rw [hl]; exact Nat.mul_pos hm hsz)
    have hnews' : ∀ j u, news[j]? = some u → w.cell? ((⟨b, o, none⟩ : Addr).add j) = some u := fun j u hu => by rw [Addr.add_lit]; exact hc j u hu
    obtain ⟨v', w', hr, ho, _, hop⟩ := run_ap (P := P) w B t ty e i z size bytes ht hi hz hsize hby hzs hsz (.slice (some ⟨g, 0, none⟩) 0 0) 0 [] hown (some ⟨b, o, none⟩) m c news hl hnews h1 (by simpa using h63) (by simpa using hbytes) hbase
    have h := run_append_grow (P := P) w t ty e i z ht hi hz ⟨g, 0, none⟩ 0 0 [] (by simp) (by simp) ⟨b, o, none⟩ m c news (by rw [hl, hsize]) hnews' (by omega) (by simp only [maxLen] at h63; omega) (growslice_fits (by omega) (by rw [hby]; simpa using hbytes))
    rw [h] at hr
    simp only [Result.ok.injEq] at hr
    obtain ⟨rfl, rfl⟩ := hr
    obtain ⟨A', c', e1, h5, h6, _⟩ := own_form ho
    simp only [Nat.zero_add, List.nil_append, Value.slice.injEq] at e1 ho h h5
    obtain ⟨rfl, _, rfl⟩ := e1
    exact ⟨_, _, _, h, h5, h6, ho, (ext_drew w).alloc (Nat.le_refl _) _⟩
/-- The walk's law at an append to an empty literal. -/
theorem wl_ap0 {w : World} {ops : Array Oper} {rest : List Oper} {o : Oper} {a : Act} {Q : Exit → Act → World → Prop} (hgd : o.guard = none) {s x : Operand} {t : TypeId}
    (ho : o.op = .call { callee := .builtin .append, args := #[s, x], argTypes := #[t, t] })
    (B g : Nat) (e : TypeId) {z : Value} {size bytes : Nat} (ht : P.underlying t = some (.slice e)) (hinfo : (P.info? e).map (fun i => (i.zero, i.size, i.bytes)) = some (some z, size, bytes))
    (hzs : z.cells.size = size) (hsz : 0 < size)
    (hs : a.eval s = .slice (some ⟨g, 0, none⟩) 0 0) (hown : w.ownsRow B e size (.slice (some ⟨g, 0, none⟩) 0 0) 0 [])
    (A : Option Addr) (m c : Nat) (news : List Value) (hx : a.eval x = .slice A m c) (hl : news.length = m * size) (hnews : Rd w A news) (h1 : ∀ u ∈ news, u.oneCell' = true)
    (h63 : m ≤ maxLen) (hbytes : m * bytes ≤ 140737488355328) (hbase : B ≤ w.heap.size)
    (h : ∀ A' c' w', m ≤ c' → c' ≤ maxLen → w'.ownsRow B e size (.slice A' m c') m news → Below w.heap.size w w' → wpList P ops Q rest (a.put o.dst (.slice A' m c')) w') : wpList P ops Q (o :: rest) a w :=
  wpList_plain hgd fun K hK => by
    obtain ⟨i, hi, hz, hsize, hby⟩ := info_parts hinfo
    obtain ⟨A', c', w', hr, h5, h6, h2, h3⟩ := run_ap0 (P := P) w B g t o.type e i z size bytes ht hi hz hsize hby hzs hsz hown A m c news hl hnews h1 h63 hbytes hbase
    unfold Oper.wp execOp
    simp only [ho, resolve, invoke, builtin, Sem.run_bind, Sem.run_pure, Result.andThen_ok, List.map_toArray, List.map_cons, List.map_nil, hs, hx, hr]
    exact hK _ _ (h A' c' w' h5 h6 h2 h3)
/-- The same as an operation of a region told by relations. -/
theorem op_ap0 {w : World} {ops : Array Oper} {j : Nat} {o : Oper} {a : Act} {K : Act → World → Prop} {Q : Exit → Act → World → Prop} (hj : ops[j]? = some o) (hgd : o.guard = none) {s x : Operand} {t : TypeId}
    (ho : o.op = .call { callee := .builtin .append, args := #[s, x], argTypes := #[t, t] })
    (B g : Nat) (e : TypeId) {z : Value} {size bytes : Nat} (ht : P.underlying t = some (.slice e)) (hinfo : (P.info? e).map (fun i => (i.zero, i.size, i.bytes)) = some (some z, size, bytes))
    (hzs : z.cells.size = size) (hsz : 0 < size)
    (hs : a.eval s = .slice (some ⟨g, 0, none⟩) 0 0) (hown : w.ownsRow B e size (.slice (some ⟨g, 0, none⟩) 0 0) 0 [])
    (A : Option Addr) (m c : Nat) (news : List Value) (hx : a.eval x = .slice A m c) (hl : news.length = m * size) (hnews : Rd w A news) (h1 : ∀ u ∈ news, u.oneCell' = true)
    (h63 : m ≤ maxLen) (hbytes : m * bytes ≤ 140737488355328) (hbase : B ≤ w.heap.size)
    (h : ∀ A' c' w', m ≤ c' → c' ≤ maxLen → w'.ownsRow B e size (.slice A' m c') m news → Below w.heap.size w w' → K (a.put o.dst (.slice A' m c')) w') : wpOp P ops Q j K a w := by
  obtain ⟨i, hi, hz, hsize, hby⟩ := info_parts hinfo
  obtain ⟨A', c', w', hr, h5, h6, h2, h3⟩ := run_ap0 (P := P) w B g t o.type e i z size bytes ht hi hz hsize hby hzs hsz hown A m c news hl hnews h1 h63 hbytes hbase
  unfold wpOp
  have hw : Region.wanted o (yielded ops a.tmps) = true := by simp [Region.wanted, hgd]
  simp only [hj, hw, if_true]
  refine .inl ?_
  unfold Oper.wp execOp
  simp only [ho, resolve, invoke, builtin, Sem.run_bind, Sem.run_pure, Result.andThen_ok, List.map_toArray, List.map_cons, List.map_nil, hs, hx, hr]
  exact h A' c' w' h5 h6 h2 h3
/-- An operation that yields a value and leaves a world behind, as one of a region told by relations. -/
theorem op_val {w w' : World} {ops : Array Oper} {j : Nat} {o : Oper} {a : Act} {K : Act → World → Prop} {Q : Exit → Act → World → Prop} (hj : ops[j]? = some o) (hgd : o.guard = none) {v : Value}
    (hr : (execOp a.eval o).run P w = .ok (.value v) w') (h : K (a.put o.dst v) w') : wpOp P ops Q j K a w := by
  unfold wpOp
  have hw : Region.wanted o (yielded ops a.tmps) = true := by simp [Region.wanted, hgd]
  simp only [hj, hw, if_true]
  refine .inl ?_
  unfold Oper.wp
  rw [hr]
  exact h
theorem op_list {w : World} {ops : Array Oper} {n : Nat} {o : Oper} {a : Act} {Q : Exit → Act → World → Prop} (hj : ops[n]? = some o) (h : wpList P ops Q [o] a w) : wpOp P ops Q n (Q .normal) a w := by
  unfold wpOp
  simp only [hj]
  exact h
end
def noDst (ops : Array Oper) (t : Tmp) : Bool := (List.range ops.size).all fun j => dstOf ops j != some t
theorem noDst_spec {ops : Array Oper} {t : Tmp} (h : noDst ops t = true) : ∀ i, dstOf ops i ≠ some t := fun i e => by
  unfold noDst at h
  rw [List.all_eq_true] at h
  have := h i (List.mem_range.2 (dstOf_lt e))
  rw [e] at this
  simp at this
theorem eval_tmp {a : Act} {t : Tmp} {v : Value} (h : a.tmps[t]? = some v) : a.eval (.tmp t) = v := by simp [Act.eval, h]
theorem row_empty (w : World) (e : TypeId) (size B : Nat) (hB : B ≤ w.heap.size) : (w.alloc (.cells #[] e)).ownsRow B e size (.slice (some ⟨w.heap.size, 0, none⟩) 0 0) 0 [] :=
  ⟨by simp, .inr ⟨w.heap.size, 0, #[], rfl, hB, blk_new _ _, Nat.le_refl _, by simp [maxLen], by simp, by simp⟩⟩
end Go.Proofs.Ytgnikijaihmeeaa
