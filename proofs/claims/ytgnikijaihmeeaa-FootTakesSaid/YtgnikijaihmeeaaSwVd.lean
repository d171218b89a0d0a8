/- A region that draws its order, each operation with what it uses up. No program. -/
import Derived.Test.YtgnikijaihmeeaaSwV
open Go Go.RowKit
namespace Go.Proofs.Ytgnikijaihmeeaa
set_option linter.unusedVariables false
set_option linter.unusedSimpArgs false
section
variable {P : Program} {ops : Array Oper} {md : Region.Mode}
structure UInv (md : Region.Mode) (ops : Array Oper) (V : Nat → Value → World → Prop) (U : Nat → World → Prop) (R : World → World → Prop) (a0 : Act) (w0 : World) (listed : Array Bool) (a : Act) (w : World) : Prop where
  sz : listed.size = ops.size
  df : a.defers = a0.defers
  ts : a.tmps.size = a0.tmps.size
  rel : R w0 w
  other : ∀ t, (∀ j, listed.getD j false = true → dstOf ops j ≠ some t) → a.tmps[t]? = a0.tmps[t]?
  val : ∀ j, j < ops.size → listed.getD j false = true → ∃ v, V j v w ∧ ∀ d, dstOf ops j = some d → a.tmps[d]? = some v
  closed : ∀ j o, ops[j]? = some o → listed.getD j false = true → ∀ e ∈ o.after, Region.binds md e = true → listed.getD e.on false = true
  use : ∀ j, listed.getD j true = false → U j w
theorem UInv.at_ {V : Nat → Value → World → Prop} {U : Nat → World → Prop} {R : World → World → Prop} {a0 : Act} {w0 : World} {listed : Array Bool} {a : Act} {w : World} (I : UInv md ops V U R a0 w0 listed a w) {j : Nat} (hj : j ∈ Region.ready md ops listed) (hl : ∀ o, ops[j]? = some o → ∀ e ∈ o.after, Region.binds md e = true → e.on < j) :
    RAt md ops V R a0 w0 j a w := by
  obtain ⟨h0, o, ho, hall⟩ := mem_ready.1 hj
  refine ⟨I.rel, I.ts, fun t ht => I.other t (fun j _ => ht j), fun o' ho' e he hb => ?_⟩
  rw [ho] at ho'
  simp only [Option.some.injEq] at ho'
  subst ho'
  exact I.val e.on (Nat.lt_trans (hl o ho e he hb) (opt_lt ho)) (hall e he hb)
theorem UInv.step {V : Nat → Value → World → Prop} {U : Nat → World → Prop} {R : World → World → Prop} {a0 : Act} {w0 : World} {listed : Array Bool} {a : Act} {w w' : World} {sz : Nat} (I : UInv md ops V U R a0 w0 listed a w) (C : RChk md ops sz) (hsz : a0.tmps.size = sz)
    (htr : ∀ a b c, R a b → R b c → R a c) {j : Nat} {o : Oper} (ho : ops[j]? = some o) (hj : j ∈ Region.ready md ops listed) {v : Value} (hv : V j v w') (hr : R w w') (hk : ∀ i, i ≠ j → ((∀ o, ops[i]? = some o → ∀ e ∈ o.after, Region.binds md e = true → e.on ≠ j) → ∀ u, V i u w → V i u w') ∧ (U i w → U i w')) :
    UInv md ops V U R a0 w0 (listed.setIfInBounds j true) (a.put o.dst v) w' := by
  obtain ⟨h0, o', ho', hall⟩ := mem_ready.1 hj
  rw [ho] at ho'
  simp only [Option.some.injEq] at ho'
  subst ho'
  have hdo : dstOf ops j = o.dst := by simp [dstOf, ho]
  have hjl : j < listed.size := (getD_false h0).2
  have old : ∀ i, i ≠ j → (listed.setIfInBounds j true).getD i false = listed.getD i false := fun i hi => getD_set_ne false (Ne.symm hi)
  refine ⟨by simp [I.sz], by rw [put_defers', I.df], by rw [put_size, I.ts], htr _ _ _ I.rel hr, fun t ht => ?_, fun i hi hl => ?_, fun i o1 ho1 hl e he hb => ?_, fun i hi => ?_⟩
  · rw [put_ne a v (by rw [← hdo]; exact ht j (getD_self hjl))]
    exact I.other t (fun i hi => ht i (getD_set_true hi))
  · by_cases hij : i = j
    · subst hij
      exact ⟨v, hv, fun d hd => put_eq a v (by rw [← hdo]; exact hd) (by rw [I.ts, hsz]; exact C.lt _ _ hd)⟩
    · rw [old i hij] at hl
      obtain ⟨u, hu, hd⟩ := I.val i hi hl
      refine ⟨u, (hk i hij).1 (fun o1 ho1 e he hb heq => ?_) u hu, fun d hdi => ?_⟩
      · have := I.closed i o1 ho1 hl e he hb
        rw [heq, (getD_false h0).1] at this
        cases this
      rw [put_ne a v (fun e => hij (C.dst i j d hdi (by rw [hdo]; exact e)))]
      exact hd d hdi
  · by_cases hij : i = j
    · subst hij
      rw [ho] at ho1
      simp only [Option.some.injEq] at ho1
      subst ho1
      exact getD_set_true (hall e he hb)
    · rw [old i hij] at hl
      exact getD_set_true (I.closed i o1 ho1 hl e he hb)
  · have hij : i ≠ j := fun e => by subst e; simp [hjl] at hi
    rw [getD_set_ne true (Ne.symm hij)] at hi
    exact (hk i hij).2 (I.use i hi)
theorem wp_region_use {id : Nat} {Q : Exit → Act → World → Prop} {a0 : Act} {w0 : World} (V : Nat → Value → World → Prop) (U : Nat → World → Prop) (R : World → World → Prop) {sz n : Nat}
    (hm : P.follows .mixedOrders = true) (hB : rchkB .any ops sz = true) (hsz : a0.tmps.size = sz) (hn : ops.size = n + 1)
    (hrefl : ∀ w, R w w) (htr : ∀ a b c, R a b → R b c → R a c)
    (hU : ∀ j, U j w0.drew)
    (hstep : ∀ j o, ops[j]? = some o → j < n → ∀ a w, RAt .any ops V R a0 w0.drew j a w → U j w → wpOp P ops Q j (fun a' w' => ∃ v, a' = a.put o.dst v ∧ V j v w' ∧ R w w' ∧ ∀ i, i ≠ j → ((∀ o, ops[i]? = some o → ∀ e ∈ o.after, Region.binds .any e = true → e.on ≠ j) → ∀ u, V i u w → V i u w') ∧ (U i w → U i w')) a w)
    (hlast : ∀ vals w, vals.length = n → R w0.drew w → (∀ i v, vals[i]? = some v → V i v w) → U n w → wpOp P ops Q n (Q .normal) (putAll a0 (ops.toList.take n) vals) w) :
    (Code.region id ops true).wp P Q a0 w0 := by
  have C := RChk.of hB
  refine wp_region_any hm ?_
  have key : ∀ (fuel : Nat) (listed : Array Bool) (a : Act) (w : World), left listed ≤ fuel → listed.getD n true = false → UInv .any ops V U R a0 w0.drew listed a w → wpAny P .any ops Q fuel listed a w := by
    intro fuel
    induction fuel with
    | zero => intro listed a w hf hl _; have := left_pos hl; omega
    | succ fuel ih =>
      intro listed a w hf hl I
      refine ⟨fun h => ?_, fun j hj => ?_⟩
      · exfalso
        have key2 : ∀ k, k ≤ n → (∀ i, i < k → listed.getD i false = true) := by
          intro k
          induction k with
          | zero => intro _ i hi; omega
          | succ k ihk =>
            intro hk i hi
            rcases Nat.lt_or_ge i k with h1 | h1
            · exact ihk (by omega) i h1
            · obtain rfl : i = k := by omega
              cases hb : listed.getD i true with
              | true =>
                have hlt : i < listed.size := by rw [I.sz, hn]; omega
                simp [hlt] at hb ⊢
                exact hb
              | false =>
                have : i ∈ Region.ready .any ops listed := by
                  refine mem_ready.2 ⟨hb, ops[i]'(by rw [hn]; omega), by simp [show i < ops.size by rw [hn]; omega], fun e he hbd => ?_⟩
                  exact ihk (by omega) e.on (C.lex i _ (by simp [show i < ops.size by rw [hn]; omega]) e he hbd)
                rw [h] at this
                cases this
        have : n ∈ Region.ready .any ops listed := by
          refine mem_ready.2 ⟨hl, ops[n]'(by rw [hn]; omega), by simp [show n < ops.size by rw [hn]; omega], fun e he hbd => ?_⟩
          exact key2 n (Nat.le_refl _) e.on (C.lex n _ (by simp [show n < ops.size by rw [hn]; omega]) e he hbd)
        rw [h] at this
        cases this
      · obtain ⟨h0, o, ho, hall⟩ := mem_ready.1 hj
        have hjn : j < n + 1 := by rw [← hn]; exact opt_lt ho
        by_cases hjl : j = n
        · subst hjl
          have all : ∀ k, k ≤ j → ∀ i, j - k ≤ i → i < j → listed.getD i false = true := by
            intro k
            induction k with
            | zero => intro _ i h1 h2; omega
            | succ k ihk =>
              intro hk i h1 h2
              rcases Nat.lt_or_ge i (j - k) with h3 | h3
              · obtain ⟨i', o', hii, ho', e, he, hbd, heq⟩ := C.used i (by rw [hn]; omega)
                have hi' : i' < j + 1 := by rw [← hn]; exact opt_lt ho'
                rw [← heq]
                by_cases hij : i' = j
                · subst hij
                  rw [ho] at ho'
                  simp only [Option.some.injEq] at ho'
                  subst ho'
                  exact hall e he hbd
                · exact I.closed i' o' ho' (ihk (by omega) i' (by omega) (by omega)) e he hbd
              · exact ihk (by omega) i h3 h2
          obtain ⟨vals, hvl, hvp⟩ := list_of (p := fun i v => V i v w ∧ ∀ d, dstOf ops i = some d → a.tmps[d]? = some v) j (fun i hi => I.val i (by rw [hn]; omega) (all j (Nat.le_refl _) i (by omega) hi))
          have ea : a = putAll a0 (ops.toList.take j) vals := by
            have e1 : a.defers = (putAll a0 (ops.toList.take j) vals).defers := by rw [putAll_defers, I.df]
            have e2 : a.tmps = (putAll a0 (ops.toList.take j) vals).tmps := by
              refine Array.ext_getElem? fun t => ?_
              have hget : ∀ i o', (ops.toList.take j)[i]? = some o' → i < j ∧ ops[i]? = some o' := fun i o' h => by
                rw [List.getElem?_take] at h
                split at h
                · rename_i hlt; exact ⟨hlt, by simpa using h⟩
                · cases h
              by_cases ht : ∃ i, i < j ∧ dstOf ops i = some t
              · obtain ⟨i, hi, hdi⟩ := ht
                obtain ⟨v, hv⟩ : ∃ v, vals[i]? = some v := ⟨vals[i]'(by omega), by simp [show i < vals.length by omega]⟩
                rw [(hvp i v hv).2 t hdi]
                refine (putAll_eq _ vals a0 t i v (fun i1 i2 o1 o2 h1 h2 h3 h4 => C.dst i1 i2 t (by simp [dstOf, (hget i1 o1 h1).2, h3]) (by simp [dstOf, (hget i2 o2 h2).2, h4])) (by rw [hsz]; exact C.lt i t hdi) ?_ hv).symm
                have : (ops.toList.take j)[i]? = ops[i]? := by rw [List.getElem?_take, if_pos hi]; simp
                rw [this]
                exact hdi
              · rw [putAll_ne _ vals a0 t (fun o' ho' e => by
                  obtain ⟨i, hi⟩ := List.getElem?_of_mem ho'
                  exact ht ⟨i, (hget i o' hi).1, by simp [dstOf, (hget i o' hi).2, e]⟩)]
                refine I.other t (fun i hi e => ht ⟨i, ?_, e⟩)
                have h1 := dstOf_lt e
                rw [hn] at h1
                rcases Nat.lt_or_ge i j with h2 | h2
                · exact h2
                · obtain rfl : i = j := by omega
                  have := (getD_false h0).1
                  rw [this] at hi
                  cases hi
            cases a
            simp only at e1 e2
            rw [e1, e2]
          rw [ea]
          refine wpOp_mono (fun a' w' hq => ?_) (hlast vals w hvl I.rel (fun i v hv => (hvp i v hv).1) (I.use j h0))
          refine wpAny_done ?_ hq fuel
          refine List.eq_nil_iff_forall_not_mem.2 fun i hi => ?_
          obtain ⟨hi0, oi, hoi, _⟩ := mem_ready.1 hi
          have hin : i < j + 1 := by rw [← hn]; exact opt_lt hoi
          by_cases hij : i = j
          · subst hij
            have := getD_self (getD_false h0).2
            rw [(getD_false hi0).1] at this
            cases this
          · rw [getD_set_ne true (Ne.symm hij)] at hi0
            have := all j (Nat.le_refl _) i (by omega) (by omega)
            rw [(getD_false hi0).1] at this
            cases this
        · refine wpOp_mono (fun a' w' hq => ?_) (hstep j o ho (by omega) a w (I.at_ hj (fun o' ho' e he hb => C.lex j o' ho' e he hb)) (I.use j h0))
          obtain ⟨v, rfl, hv, hr, hkk⟩ := hq
          refine ih _ _ _ (by have := left_set h0; omega) (by rw [getD_set_ne true hjl]; exact hl) (I.step C hsz htr ho hj hv hr hkk)
  refine key ops.size _ a0 w0.drew ?_ ?_ ?_
  · unfold left
    simp
  · simp [hn]
  · have hf : ∀ j, (Array.replicate ops.size false).getD j false = true → False := fun j h => by
      simp [Array.getElem?_replicate] at h
      split at h <;> simp at h
    exact ⟨by simp, rfl, rfl, hrefl _, fun _ _ => rfl, fun j _ h => (hf j h).elim, fun j _ _ h => (hf j h).elim, fun j _ => hU j⟩
/-- A call, as an operation of a region told by relations. -/
theorem op_call {w w1 : World} {j : Nat} {o : Oper} {a : Act} {K : Act → World → Prop} {Q : Exit → Act → World → Prop} (hj : ops[j]? = some o) (hgd : o.guard = none) {f : FuncId} {args : Array Value}
    (hr : (execOp a.eval o).run P w = .ok (.enter f args) w1) (hc : Calls P f args w1 fun e w2 => ∃ v, e = .returned v ∧ K (a.put o.dst v) w2) : wpOp P ops Q j K a w := by
  unfold wpOp
  have hw : Region.wanted o (yielded ops a.tmps) = true := by simp [Region.wanted, hgd]
  simp only [hj, hw, if_true]
  refine .inl ?_
  unfold Oper.wp
  rw [hr, Oper.upon_enter]
  refine hc.mono fun e w2 h => ?_
  obtain ⟨v, rfl, hk⟩ := h
  exact hk
end
end Go.Proofs.Ytgnikijaihmeeaa
