/- A region that draws its order: of each operation's value a relation is told that later operations keep. No program. -/
import Derived.Test.YtgnikijaihmeeaaSwA
open Go Go.RowKit
namespace Go.Proofs.Ytgnikijaihmeeaa
set_option linter.unusedVariables false
set_option linter.unusedSimpArgs false

section
variable {P : Program} {ops : Array Oper} {md : Region.Mode}

def dstOf (ops : Array Oper) (j : Nat) : Option Tmp := (ops[j]?).bind (·.dst)
/-- The values of operations put one behind the other. -/
def putAll (a : Act) : List Oper → List Value → Act
  | o :: os, v :: vs => putAll (a.put o.dst v) os vs
  | _, _ => a

theorem put_size (a : Act) (x : Option Tmp) (v : Value) : (a.put x v).tmps.size = a.tmps.size := by cases x <;> simp [Act.put]
theorem put_defers' (a : Act) (x : Option Tmp) (v : Value) : (a.put x v).defers = a.defers := by cases x <;> rfl
theorem put_ne (a : Act) {x : Option Tmp} {t : Tmp} (v : Value) (h : x ≠ some t) : (a.put x v).tmps[t]? = a.tmps[t]? := by
  cases x with
  | none => rfl
  | some d => exact Array.getElem?_setIfInBounds_ne (fun e => h (by rw [e]))
theorem put_eq (a : Act) {x : Option Tmp} {t : Tmp} (v : Value) (h : x = some t) (ht : t < a.tmps.size) : (a.put x v).tmps[t]? = some v := by
  subst h
  simp [Act.put, ht]
theorem putAll_size : ∀ (os : List Oper) (vs : List Value) (a : Act), (putAll a os vs).tmps.size = a.tmps.size
  | [], _, _ => by simp [putAll]
  | _ :: _, [], _ => by simp [putAll]
  | o :: os, v :: vs, a => by rw [putAll, putAll_size os vs, put_size]
theorem putAll_defers : ∀ (os : List Oper) (vs : List Value) (a : Act), (putAll a os vs).defers = a.defers
  | [], _, _ => by simp [putAll]
  | _ :: _, [], _ => by simp [putAll]
  | o :: os, v :: vs, a => by rw [putAll, putAll_defers os vs, put_defers']
theorem putAll_ne : ∀ (os : List Oper) (vs : List Value) (a : Act) (t : Tmp), (∀ o ∈ os, o.dst ≠ some t) → (putAll a os vs).tmps[t]? = a.tmps[t]?
  | [], _, _, _, _ => by simp [putAll]
  | _ :: _, [], _, _, _ => by simp [putAll]
  | o :: os, v :: vs, a, t, h => by rw [putAll, putAll_ne os vs _ t (fun o' ho => h o' (by simp [ho])), put_ne a v (h o (by simp))]
theorem putAll_eq : ∀ (os : List Oper) (vs : List Value) (a : Act) (t : Tmp) (i : Nat) (v : Value), (∀ (i j : Nat) (o o' : Oper), os[i]? = some o → os[j]? = some o' → o.dst = some t → o'.dst = some t → i = j) →
    t < a.tmps.size → (os[i]?).bind (·.dst) = some t → vs[i]? = some v → (putAll a os vs).tmps[t]? = some v
  | [], _, _, _, _, _, _, _, h, _ => by simp at h
  | _ :: _, [], _, _, _, _, _, _, _, h => by simp at h
  | o :: os, u :: vs, a, t, i, v, hd, ht, ho, hv => by
    rw [putAll]
    cases i with
    | zero =>
      simp at ho hv
      subst hv
      rw [putAll_ne os vs _ t (fun o' ho' e => by
        obtain ⟨k, hk⟩ := List.getElem?_of_mem ho'
        have := hd 0 (k + 1) o o' (by simp) (by simpa using hk) ho e
        omega)]
      exact put_eq a u ho ht
    | succ k =>
      simp at ho hv
      refine putAll_eq os vs _ t k v (fun i j o1 o2 h1 h2 h3 h4 => ?_) (by rw [put_size]; exact ht) (by simpa using ho) hv
      have := hd (i + 1) (j + 1) o1 o2 (by simpa using h1) (by simpa using h2) h3 h4
      omega

/-- What is looked at once, for a region. -/
def rchkB (md : Region.Mode) (ops : Array Oper) (sz : Nat) : Bool :=
  (List.range ops.size).all fun i =>
    (match dstOf ops i with | some d => decide (d < sz) && (List.range ops.size).all (fun j => j == i || dstOf ops j != some d) | none => true) &&
    (match ops[i]? with | some o => o.after.all (fun e => !Region.binds md e || decide (e.on < i)) | none => true) &&
    (i + 1 == ops.size || (List.range ops.size).any (fun j => decide (i < j) && match ops[j]? with | some o => o.after.any (fun e => Region.binds md e && e.on == i) | none => false))
structure RChk (md : Region.Mode) (ops : Array Oper) (sz : Nat) : Prop where
  dst : ∀ i j d, dstOf ops i = some d → dstOf ops j = some d → i = j
  lt : ∀ i d, dstOf ops i = some d → d < sz
  lex : ∀ j o, ops[j]? = some o → ∀ e ∈ o.after, Region.binds md e = true → e.on < j
  used : ∀ i, i + 1 < ops.size → ∃ j o, i < j ∧ ops[j]? = some o ∧ ∃ e ∈ o.after, Region.binds md e = true ∧ e.on = i
theorem dstOf_lt {j : Nat} {d : Tmp} (h : dstOf ops j = some d) : j < ops.size := by
  unfold dstOf at h
  rcases Nat.lt_or_ge j ops.size with h' | h'
  · exact h'
  · simp [Array.getElem?_eq_none h'] at h
theorem opt_lt {j : Nat} {o : Oper} (h : ops[j]? = some o) : j < ops.size := (Array.getElem?_eq_some_iff.1 h).1
theorem RChk.of {sz : Nat} (h : rchkB md ops sz = true) : RChk md ops sz := by
  unfold rchkB at h
  simp only [List.all_eq_true, List.mem_range, Bool.and_eq_true] at h
  refine ⟨fun i j d hi hj => ?_, fun i d hi => ?_, fun j o ho e he hb => ?_, fun i hi => ?_⟩
  · have h1 := (h i (dstOf_lt hi)).1.1
    rw [hi] at h1
    simp only [Bool.and_eq_true, List.all_eq_true, List.mem_range, Bool.or_eq_true, beq_iff_eq] at h1
    rcases h1.2 j (dstOf_lt hj) with h2 | h2
    · exact h2.symm
    · rw [hj] at h2; simp at h2
  · have h1 := (h i (dstOf_lt hi)).1.1
    rw [hi] at h1
    simp only [Bool.and_eq_true, decide_eq_true_eq] at h1
    exact h1.1
  · have h1 := (h j (opt_lt ho)).1.2
    rw [ho] at h1
    have h2 := Array.all_eq_true_iff_forall_mem.1 h1 e he
    simp only [hb, Bool.not_true, Bool.false_or, decide_eq_true_eq] at h2
    exact h2
  · have h1 := (h i (by omega)).2
    simp only [Bool.or_eq_true, beq_iff_eq, List.any_eq_true, List.mem_range, Bool.and_eq_true, decide_eq_true_eq] at h1
    rcases h1 with h1 | ⟨j, hj, hij, h2⟩
    · omega
    · cases ho : ops[j]? with
      | none => rw [ho] at h2; simp at h2
      | some o =>
        rw [ho] at h2
        obtain ⟨e, he, hb⟩ := Array.any_eq_true'.1 h2
        simp only [Bool.and_eq_true, beq_iff_eq] at hb
        exact ⟨j, o, hij, ho, e, he, hb⟩

/-- What an operation finds. -/
structure RAt (md : Region.Mode) (ops : Array Oper) (V : Nat → Value → World → Prop) (R : World → World → Prop) (a0 : Act) (w0 : World) (j : Nat) (a : Act) (w : World) : Prop where
  rel : R w0 w
  ts : a.tmps.size = a0.tmps.size
  other : ∀ t, (∀ i, dstOf ops i ≠ some t) → a.tmps[t]? = a0.tmps[t]?
  dep : ∀ o, ops[j]? = some o → ∀ e ∈ o.after, Region.binds md e = true → ∃ v, V e.on v w ∧ ∀ d, dstOf ops e.on = some d → a.tmps[d]? = some v
structure RInv (md : Region.Mode) (ops : Array Oper) (V : Nat → Value → World → Prop) (R : World → World → Prop) (a0 : Act) (w0 : World) (listed : Array Bool) (a : Act) (w : World) : Prop where
  sz : listed.size = ops.size
  df : a.defers = a0.defers
  ts : a.tmps.size = a0.tmps.size
  rel : R w0 w
  other : ∀ t, (∀ j, listed.getD j false = true → dstOf ops j ≠ some t) → a.tmps[t]? = a0.tmps[t]?
  val : ∀ j, j < ops.size → listed.getD j false = true → ∃ v, V j v w ∧ ∀ d, dstOf ops j = some d → a.tmps[d]? = some v
  closed : ∀ j o, ops[j]? = some o → listed.getD j false = true → ∀ e ∈ o.after, Region.binds md e = true → listed.getD e.on false = true
theorem getD_self {listed : Array Bool} {i : Nat} (h : i < listed.size) : (listed.setIfInBounds i true).getD i false = true := by simp [h]
theorem getD_lt {listed : Array Bool} {i : Nat} (h : listed.getD i false = true) : i < listed.size := by
  rcases Nat.lt_or_ge i listed.size with h' | h'
  · exact h'
  · simp [Array.getElem?_eq_none h'] at h
theorem getD_false {listed : Array Bool} {i : Nat} (h : listed.getD i true = false) : listed.getD i false = false ∧ i < listed.size := by
  rcases Nat.lt_or_ge i listed.size with h' | h'
  · refine ⟨?_, h'⟩; simp [h'] at h ⊢; exact h
  · simp [Array.getElem?_eq_none h'] at h
theorem RInv.at_ {V : Nat → Value → World → Prop} {R : World → World → Prop} {a0 : Act} {w0 : World} {listed : Array Bool} {a : Act} {w : World} (I : RInv md ops V R a0 w0 listed a w) {j : Nat} (hj : j ∈ Region.ready md ops listed) (hl : ∀ o, ops[j]? = some o → ∀ e ∈ o.after, Region.binds md e = true → e.on < j) :
    RAt md ops V R a0 w0 j a w := by
  obtain ⟨h0, o, ho, hall⟩ := mem_ready.1 hj
  refine ⟨I.rel, I.ts, fun t ht => I.other t (fun j _ => ht j), fun o' ho' e he hb => ?_⟩
  rw [ho] at ho'
  simp only [Option.some.injEq] at ho'
  subst ho'
  exact I.val e.on (Nat.lt_trans (hl o ho e he hb) (opt_lt ho)) (hall e he hb)
theorem RInv.step {V : Nat → Value → World → Prop} {R : World → World → Prop} {a0 : Act} {w0 : World} {listed : Array Bool} {a : Act} {w w' : World} {sz : Nat} (I : RInv md ops V R a0 w0 listed a w) (C : RChk md ops sz) (hsz : a0.tmps.size = sz)
    (htr : ∀ a b c, R a b → R b c → R a c) (hV : ∀ j v w w', V j v w → R w w' → V j v w') {j : Nat} {o : Oper} (ho : ops[j]? = some o) (hj : j ∈ Region.ready md ops listed) {v : Value} (hv : V j v w') (hr : R w w') :
    RInv md ops V R a0 w0 (listed.setIfInBounds j true) (a.put o.dst v) w' := by
  obtain ⟨h0, o', ho', hall⟩ := mem_ready.1 hj
  rw [ho] at ho'
  simp only [Option.some.injEq] at ho'
  subst ho'
  have hdo : dstOf ops j = o.dst := by simp [dstOf, ho]
  have hjl : j < listed.size := (getD_false h0).2
  have old : ∀ i, i ≠ j → (listed.setIfInBounds j true).getD i false = listed.getD i false := fun i hi => getD_set_ne false (Ne.symm hi)
  refine ⟨by simp [I.sz], by rw [put_defers', I.df], by rw [put_size, I.ts], htr _ _ _ I.rel hr, fun t ht => ?_, fun i hi hl => ?_, fun i o1 ho1 hl e he hb => ?_⟩
  · rw [put_ne a v (by rw [← hdo]; exact ht j (getD_self hjl))]
    exact I.other t (fun i hi => ht i (getD_set_true hi))
  · by_cases hij : i = j
    · subst hij
      exact ⟨v, hv, fun d hd => put_eq a v (by rw [← hdo]; exact hd) (by rw [I.ts, hsz]; exact C.lt _ _ hd)⟩
    · rw [old i hij] at hl
      obtain ⟨u, hu, hd⟩ := I.val i hi hl
      refine ⟨u, hV _ _ _ _ hu hr, fun d hdi => ?_⟩
      rw [put_ne a v (fun e => hij (C.dst i j d hdi (by rw [hdo]; exact e)))]
      exact hd d hdi
  · by_cases hij : i = j
    · subst hij
      rw [ho] at ho1
      simp only [Option.some.injEq] at ho1
      subst ho1
      exact getD_set_true (hall e he hb)
    · rw [old i hij] at hl
      exact getD_set_true (I.closed i o1 ho1 hl e he hb)
theorem list_of {p : Nat → Value → Prop} : ∀ m, (∀ i, i < m → ∃ v, p i v) → ∃ l : List Value, l.length = m ∧ ∀ i v, l[i]? = some v → p i v
  | 0, _ => ⟨[], rfl, fun i v h => by simp at h⟩
  | m + 1, h => by
    obtain ⟨l, hl, hp⟩ := list_of m (fun i hi => h i (by omega))
    obtain ⟨v, hv⟩ := h m (by omega)
    refine ⟨l ++ [v], by simp [hl], fun i u hu => ?_⟩
    rcases Nat.lt_or_ge i m with hi | hi
    · rw [List.getElem?_append_left (by omega)] at hu
      exact hp i u hu
    · rw [List.getElem?_append_right (by omega)] at hu
      have : i - l.length = 0 := by
        rcases Nat.eq_zero_or_pos (i - l.length) with h0 | h0
        · exact h0
        · rw [List.getElem?_eq_none (by simp; omega)] at hu; cases hu
      rw [this] at hu
      simp at hu
      subst hu
      rw [show i = m by omega]
      exact hv
/-- how many are left -/
def left (listed : Array Bool) : Nat := (listed.toList.filter (fun b => !b)).length
theorem left_set {listed : Array Bool} {j : Nat} (hj : listed.getD j true = false) : left (listed.setIfInBounds j true) + 1 = left listed := by
  have hlt := (getD_false hj).2
  have hv : listed.toList[j]? = some false := by
    have := (getD_false hj).1
    simp [hlt] at this
    simp [hlt, this]
  unfold left
  rw [Array.toList_setIfInBounds]
  generalize listed.toList = l at hv
  clear hj hlt listed
  induction l generalizing j with
  | nil => simp at hv
  | cons b l ih =>
    cases j with
    | zero => simp at hv; subst hv; simp
    | succ k =>
      simp only [List.getElem?_cons_succ] at hv
      have := ih hv
      cases b <;> simp at this ⊢ <;> omega
theorem left_pos {listed : Array Bool} {j : Nat} (hj : listed.getD j true = false) : 0 < left listed := by have := left_set hj; omega
theorem wp_region_rel {id : Nat} {Q : Exit → Act → World → Prop} {a0 : Act} {w0 : World} (V : Nat → Value → World → Prop) (R : World → World → Prop) {sz n : Nat}
    (hm : P.follows .mixedOrders = true) (hB : rchkB .any ops sz = true) (hsz : a0.tmps.size = sz) (hn : ops.size = n + 1)
    (hrefl : ∀ w, R w w) (htr : ∀ a b c, R a b → R b c → R a c) (hV : ∀ j v w w', V j v w → R w w' → V j v w')
    (hstep : ∀ j o, ops[j]? = some o → j < n → ∀ a w, RAt .any ops V R a0 w0.drew j a w → wpOp P ops Q j (fun a' w' => ∃ v, a' = a.put o.dst v ∧ V j v w' ∧ R w w') a w)
    (hlast : ∀ vals w, vals.length = n → R w0.drew w → (∀ i v, vals[i]? = some v → V i v w) → wpOp P ops Q n (Q .normal) (putAll a0 (ops.toList.take n) vals) w) :
    (Code.region id ops true).wp P Q a0 w0 := by
  have C := RChk.of hB
  refine wp_region_any hm ?_
  have key : ∀ (fuel : Nat) (listed : Array Bool) (a : Act) (w : World), left listed ≤ fuel → listed.getD n true = false → RInv .any ops V R a0 w0.drew listed a w → wpAny P .any ops Q fuel listed a w := by
    intro fuel
    induction fuel with
    | zero => intro listed a w hf hl _; have := left_pos hl; omega
    | succ fuel ih =>
      intro listed a w hf hl I
      refine ⟨fun h => ?_, fun j hj => ?_⟩
      · exfalso
        have key2 : ∀ k, k ≤ n → (∀ i, i < k → listed.getD i false = true) := by
          intro k
          induction k with
          | zero => intro _ i hi; omega
          | succ k ihk =>
            intro hk i hi
            rcases Nat.lt_or_ge i k with h1 | h1
            · exact ihk (by omega) i h1
            · obtain rfl : i = k := by omega
              cases hb : listed.getD i true with
              | true =>
                have hlt : i < listed.size := by rw [I.sz, hn]; omega
                simp [hlt] at hb ⊢
                exact hb
              | false =>
                have : i ∈ Region.ready .any ops listed := by
                  refine mem_ready.2 ⟨hb, ops[i]'(by rw [hn]; omega), by simp [show i < ops.size by rw [hn]; omega], fun e he hbd => ?_⟩
                  exact ihk (by omega) e.on (C.lex i _ (by simp [show i < ops.size by rw [hn]; omega]) e he hbd)
                rw [h] at this
                cases this
        have : n ∈ Region.ready .any ops listed := by
          refine mem_ready.2 ⟨hl, ops[n]'(by rw [hn]; omega), by simp [show n < ops.size by rw [hn]; omega], fun e he hbd => ?_⟩
          exact key2 n (Nat.le_refl _) e.on (C.lex n _ (by simp [show n < ops.size by rw [hn]; omega]) e he hbd)
        rw [h] at this
        cases this
      · obtain ⟨h0, o, ho, hall⟩ := mem_ready.1 hj
        have hjn : j < n + 1 := by rw [← hn]; exact opt_lt ho
        by_cases hjl : j = n
        · subst hjl
          have all : ∀ k, k ≤ j → ∀ i, j - k ≤ i → i < j → listed.getD i false = true := by
            intro k
            induction k with
            | zero => intro _ i h1 h2; omega
            | succ k ihk =>
              intro hk i h1 h2
              rcases Nat.lt_or_ge i (j - k) with h3 | h3
              · obtain ⟨i', o', hii, ho', e, he, hbd, heq⟩ := C.used i (by rw [hn]; omega)
                have hi' : i' < j + 1 := by rw [← hn]; exact opt_lt ho'
                rw [← heq]
                by_cases hij : i' = j
                · subst hij
                  rw [ho] at ho'
                  simp only [Option.some.injEq] at ho'
                  subst ho'
                  exact hall e he hbd
                · exact I.closed i' o' ho' (ihk (by omega) i' (by omega) (by omega)) e he hbd
              · exact ihk (by omega) i h3 h2
          obtain ⟨vals, hvl, hvp⟩ := list_of (p := fun i v => V i v w ∧ ∀ d, dstOf ops i = some d → a.tmps[d]? = some v) j (fun i hi => I.val i (by rw [hn]; omega) (all j (Nat.le_refl _) i (by omega) hi))
          have ea : a = putAll a0 (ops.toList.take j) vals := by
            have e1 : a.defers = (putAll a0 (ops.toList.take j) vals).defers := by rw [putAll_defers, I.df]
            have e2 : a.tmps = (putAll a0 (ops.toList.take j) vals).tmps := by
              refine Array.ext_getElem? fun t => ?_
              have hget : ∀ i o', (ops.toList.take j)[i]? = some o' → i < j ∧ ops[i]? = some o' := fun i o' h => by
                rw [List.getElem?_take] at h
                split at h
                · rename_i hlt; exact ⟨hlt, by simpa using h⟩
                · cases h
              by_cases ht : ∃ i, i < j ∧ dstOf ops i = some t
              · obtain ⟨i, hi, hdi⟩ := ht
                obtain ⟨v, hv⟩ : ∃ v, vals[i]? = some v := ⟨vals[i]'(by omega), by simp [show i < vals.length by omega]⟩
                rw [(hvp i v hv).2 t hdi]
                refine (putAll_eq _ vals a0 t i v (fun i1 i2 o1 o2 h1 h2 h3 h4 => C.dst i1 i2 t (by simp [dstOf, (hget i1 o1 h1).2, h3]) (by simp [dstOf, (hget i2 o2 h2).2, h4])) (by rw [hsz]; exact C.lt i t hdi) ?_ hv).symm
                have : (ops.toList.take j)[i]? = ops[i]? := by rw [List.getElem?_take, if_pos hi]; simp
                rw [this]
                exact hdi
              · rw [putAll_ne _ vals a0 t (fun o' ho' e => by
                  obtain ⟨i, hi⟩ := List.getElem?_of_mem ho'
                  exact ht ⟨i, (hget i o' hi).1, by simp [dstOf, (hget i o' hi).2, e]⟩)]
                refine I.other t (fun i hi e => ht ⟨i, ?_, e⟩)
                have h1 := dstOf_lt e
                rw [hn] at h1
                rcases Nat.lt_or_ge i j with h2 | h2
                · exact h2
                · obtain rfl : i = j := by omega
                  have := (getD_false h0).1
                  rw [this] at hi
                  cases hi
            cases a
            simp only at e1 e2
            rw [e1, e2]
          rw [ea]
          refine wpOp_mono (fun a' w' hq => ?_) (hlast vals w hvl I.rel (fun i v hv => (hvp i v hv).1))
          refine wpAny_done ?_ hq fuel
          refine List.eq_nil_iff_forall_not_mem.2 fun i hi => ?_
          obtain ⟨hi0, oi, hoi, _⟩ := mem_ready.1 hi
          have hin : i < j + 1 := by rw [← hn]; exact opt_lt hoi
          by_cases hij : i = j
          · subst hij
            have := getD_self (getD_false h0).2
            rw [(getD_false hi0).1] at this
            cases this
          · rw [getD_set_ne true (Ne.symm hij)] at hi0
            have := all j (Nat.le_refl _) i (by omega) (by omega)
            rw [(getD_false hi0).1] at this
            cases this
        · refine wpOp_mono (fun a' w' hq => ?_) (hstep j o ho (by omega) a w (I.at_ hj (fun o' ho' e he hb => C.lex j o' ho' e he hb)))
          obtain ⟨v, rfl, hv, hr⟩ := hq
          refine ih _ _ _ (by have := left_set h0; omega) (by rw [getD_set_ne true hjl]; exact hl) (I.step C hsz htr hV ho hj hv hr)
  refine key ops.size _ a0 w0.drew ?_ ?_ ?_
  · unfold left
    simp
  · simp [hn]
  · have hf : ∀ j, (Array.replicate ops.size false).getD j false = true → False := fun j h => by
      simp [Array.getElem?_replicate] at h
      split at h <;> simp at h
    exact ⟨by simp, rfl, rfl, hrefl _, fun _ _ => rfl, fun j _ h => (hf j h).elim, fun j _ _ h => (hf j h).elim⟩
end
end Go.Proofs.Ytgnikijaihmeeaa
