/- record.Encode. -/
import Derived.Test.YtgnfccdhlpeknaaSwR2
open Go Go.RowKit
namespace Go.Proofs.Ytgnfccdhlpeknaa
set_option maxRecDepth 100000
structure RecOk (x : Rec) : Prop where
  ft : FtOk x.ft
  cd : ∀ y ∈ x.pg.code, CdOk y
  ws : ∀ y ∈ x.ws, inI y.k ∧ inI y.v
  sz : x.ft.r.length + x.ft.s.length + x.ft.w.length ≤ 1000000000000
  sw : x.ws.length ≤ 1000000000000
def bodyB (x : Rec) : List Nat := if x.val then bodyV x.seq.toNat x.ws else bodyP x.seq.toNat x.pg x.ft
def encB (x : Rec) : List Nat := bodyB x ++ sum4 (sumC (bodyB x))
theorem flagB_lt (f : Bool) : ∀ b ∈ flagB f, b < 256 := by cases f <;> simp [flagB]
theorem numB_lt (n : Int) : ∀ b ∈ numB n, b < 256 := cntB_lt _
theorem flat_lt {α : Type} (f : α → List Nat) (l : List α) (h : ∀ x, ∀ b ∈ f x, b < 256) : ∀ b ∈ l.flatMap f, b < 256 := fun b hb => by
  obtain ⟨x, _, hx⟩ := List.mem_flatMap.1 hb
  exact h x b hx
theorem app_lt {a b : List Nat} (ha : ∀ x ∈ a, x < 256) (hb : ∀ x ∈ b, x < 256) : ∀ x ∈ a ++ b, x < 256 := fun x hx => by
  rcases List.mem_append.1 hx with h | h
  · exact ha x h
  · exact hb x h
theorem kyB_lt (x : Ky) : ∀ b ∈ kyB x, b < 256 := app_lt (cntB_lt _) (numB_lt _)
theorem spB_lt (x : Sp) : ∀ b ∈ spB x, b < 256 := app_lt (cntB_lt _) (app_lt (numB_lt _) (numB_lt _))
theorem keysB_lt (l : List Ky) : ∀ b ∈ keysB l, b < 256 := app_lt (cntB_lt _) (flat_lt _ _ kyB_lt)
theorem footBy_lt (f : Ft) : ∀ b ∈ footBy f, b < 256 := app_lt (keysB_lt _) (app_lt (app_lt (cntB_lt _) (flat_lt _ _ spB_lt)) (keysB_lt _))
theorem letB_lt (l n : Int) : ∀ b ∈ letB l n, b < 256 := by
  unfold letB
  split
  · exact numB_lt _
  · exact cntB_lt _
theorem codeB_lt (x : Cd) : ∀ b ∈ codeB x, b < 256 := fun b hb => by
  unfold codeB at hb
  rcases List.mem_cons.1 hb with rfl | hb
  · omega
  · exact flat_lt _ _ (fun l => letB_lt l _) b hb
theorem progB_lt (fuel : Int) (cs : List Cd) : ∀ b ∈ progB fuel cs, b < 256 := app_lt (cntB_lt _) (app_lt (cntB_lt _) (flat_lt _ _ codeB_lt))
theorem wiY_lt (x : Wi) : ∀ b ∈ wiY x, b < 256 := app_lt (cntB_lt _) (app_lt (numB_lt _) (app_lt (flagB_lt _) (by
  split
  · intro b hb; cases hb
  · exact numB_lt _)))
theorem bodyB_lt (x : Rec) : ∀ b ∈ bodyB x, b < 256 := by
  unfold bodyB
  split
  · exact app_lt (cntB_lt _) (app_lt (flagB_lt _) (app_lt (cntB_lt _) (flat_lt _ _ wiY_lt)))
  · exact app_lt (cntB_lt _) (app_lt (flagB_lt _) (app_lt (app_lt (cntB_lt _) (progB_lt _ _)) (app_lt (cntB_lt _) (footBy_lt _))))
theorem wiB_tab {x : Wi} (h : wiB x = true) : 0 ≤ x.t ∧ x.t < 4 := by
  unfold wiB at h
  simp only [Bool.and_eq_true, Bool.not_eq_true', decide_eq_false_iff_not] at h
  omega
theorem wrF_tab : ∀ (l : List Wi) (p : Option Wi), wrF p l = true → ∀ x ∈ l, 0 ≤ x.t ∧ x.t < 4
  | [], _, _, x, hx => by cases hx
  | y :: l, p, h, x, hx => by
    rw [wrF_cons] at h
    simp only [Bool.and_eq_true] at h
    rcases List.mem_cons.1 hx with rfl | hx
    · exact wiB_tab h.1
    · exact wrF_tab l _ h.2.2 x hx
theorem progB_len2 {fuel : Int} {cs : List Cd} (h : checkP fuel cs = none) (hi : ∀ x ∈ cs, CdOk x) : (progB fuel cs).length ≤ 10000 := by
  have hfuel : withinB fuel 1 1000 = true ∧ withinB cs.length 1 32 = true := by
    unfold checkP at h
    split at h
    · rename_i hc; simpa using hc
    · cases h
  have h1 : fuel ≤ 1000 ∧ cs.length ≤ 32 := by
    simp only [withinB, Bool.and_eq_true, decide_eq_true_eq] at hfuel
    omega
  have h2 := cntB_len64 (n := fuel.toNat) (by omega)
  have h3 := cntB_len64 (n := cs.length) (by omega)
  have h4 := flat_len codeB 60 cs (fun x hx => codeB_len (hi x hx))
  unfold progB
  simp only [List.length_append]
  omega
theorem footBy_len2 {f : Ft} (hg : goodB f = true) (hi : FtOk f) (hz : f.r.length + f.s.length + f.w.length ≤ 1000000000000) : (footBy f).length ≤ 100000000000000 := by
  simp only [goodB, Bool.and_eq_true] at hg
  have h0 := keysB_len (l := f.r) (fun x hx => ⟨risF_tab _ _ hg.2.1 x hx, hi.r x hx⟩) (by omega)
  have h2 := keysB_len (l := f.w) (fun x hx => ⟨risF_tab _ _ hg.2.2 x hx, hi.w x hx⟩) (by omega)
  have h1 := flat_len spB 30 f.s (fun x hx => spB_len (spnF_tab _ _ hg.1 x hx) (hi.s x hx))
  have h3 := cntB_len64 (n := f.s.length) (by omega)
  unfold footBy
  simp only [List.length_append]
  omega
theorem body_any (w : World) (x : Rec) (Ac : Option Addr) (nc cc : Nat) (A0 : Option Addr) (n0 c0 : Nat) (A1 : Option Addr) (n1 c1 : Nat) (A2 : Option Addr) (n2 c2 : Nat) (Aw : Option Addr) (nw cw : Nat) (h : RecRd w x Ac nc cc A0 n0 c0 A1 n1 c1 A2 n2 c2 Aw nw cw) (hk : RecOk x) (hg : goodR x = true) :
    (bodyB x).length ≤ 130000000000000 ∧ Calls Try.prog 12 #[.agg #[.int .i64 x.seq, .bool x.val, .int .i64 x.pg.fuel, .slice Ac nc cc, .slice A0 n0 c0, .slice A1 n1 c1, .slice A2 n2 c2, .slice Aw nw cw]] w (ClonePost w ((bodyB x).map bv) (bodyB x).length) := by
  obtain ⟨seq, val, pg, ft, ws⟩ := x
  unfold goodR at hg
  simp only [Bool.and_eq_true, Bool.not_eq_true', decide_eq_false_iff_not] at hg
  obtain ⟨h1, h2, h3⟩ := hg
  obtain ⟨q, rfl⟩ : ∃ q : Nat, seq = q := ⟨seq.toNat, by omega⟩
  have hq10 := cntB_len64 (n := q) (by omega)
  cases val with
  | true =>
    simp only [if_true, Bool.and_eq_true] at h3
    have hw : WiOk ws := fun y hy => ⟨wrF_tab _ _ h3.2 y hy, hk.ws y hy⟩
    have hsw : ws.length ≤ 1000000000000 := hk.sw
    refine ⟨?_, bodyV_any w q pg.fuel _ _ _ _ Aw nw cw ws h.en (by have := h.en; simp at this; omega) h.rw hw (by omega)⟩
    have h4 := flat_len wiY 31 ws (fun y hy => wiY_len (hw y hy).1 (hw y hy).2.1 (hw y hy).2.2)
    have h5 := cntB_len64 (n := ws.length) (by omega)
    have h6 := flagB_len true
    show (bodyV q ws).length ≤ _
    unfold bodyV
    simp only [List.length_append]
    omega
  | false =>
    simp only [Bool.false_eq_true, if_false, Bool.and_eq_true, Option.isNone_iff_eq_none] at h3
    have hsz : ft.r.length + ft.s.length + ft.w.length ≤ 1000000000000 := hk.sz
    have e0 := h.f.e0
    have e1 := h.f.e1
    have e2 := h.f.e2
    simp at e0 e1 e2
    have l1 := progB_len2 h3.2.1 hk.cd
    have l2 := footBy_len2 h3.2.2 hk.ft hsz
    refine ⟨?_, bodyP_any w q pg ft Ac nc cc A0 n0 c0 A1 n1 c1 A2 n2 c2 _ h.p h.f h3.2.1 h3.2.2 hk.cd hk.ft (by omega) (by omega) l2 (by omega)⟩
    have h4 := cntB_len64 (n := (progB pg.fuel pg.code).length) (by omega)
    have h5 := cntB_len64 (n := (footBy ft).length) (by omega)
    have h6 := flagB_len false
    show (bodyP q pg ft).length ≤ _
    unfold bodyP
    simp only [List.length_append]
    omega
end Go.Proofs.Ytgnfccdhlpeknaa
