/- The walk of foot.Join. -/
import Derived.Test.YtgnikijaihmeeaaSjE
import Derived.Test.YtgnikijaihmeeaaSwVd
import Derived.Test.YtgnikijaihmeeaaSfG
open Go Go.RowKit
namespace Go.Proofs.Ytgnikijaihmeeaa
set_option linter.unusedVariables false
set_option linter.unusedSimpArgs false
set_option maxRecDepth 100000
def KeysPost (B : Nat) (w : World) (v : Value) (l : List Ky) (e : Ending) (w' : World) : Prop :=
  ∃ A' n' c', e = .returned (.slice A' n' c') ∧ n' = (keysJ l).length ∧ w'.ownsRow B 80 2 (.slice A' n' c') n' ((keysJ l).flatMap kyC) ∧ Kp (fun x => v.ownBlock ≠ some x) w w' ∧ Hop w v (.slice A' n' c')
/-- what foot.keys does at a list -/
def KeysC (l : List Ky) : Prop := ∀ (w : World) (B : Nat) (A : Option Addr) (n c : Nat), w.ownsRow B 80 2 (.slice A n c) n (l.flatMap kyC) → n ≤ 1000000 →
  Calls Try.prog 42 #[.slice A n c] w (KeysPost B w (.slice A n c) l)
/-- a foot with where it lies -/
structure FV where
  f : Ft
  A0 : Option Addr
  n0 : Nat
  c0 : Nat
  A1 : Option Addr
  n1 : Nat
  c1 : Nat
  A2 : Option Addr
  n2 : Nat
  c2 : Nat
def fvC (x : FV) : List Value := [.slice x.A0 x.n0 x.c0, .slice x.A1 x.n1 x.c1, .slice x.A2 x.n2 x.c2]
def fvRd (w : World) (x : FV) : Prop := FtRd w x.f x.A0 x.n0 x.c0 x.A1 x.n1 x.c1 x.A2 x.n2 x.c2
def catR (fs : List FV) : List Ky := fs.flatMap (·.f.r)
def catS (fs : List FV) : List Sp := fs.flatMap (·.f.s)
def catW (fs : List FV) : List Ky := fs.flatMap (·.f.w)
def catF (fs : List FV) : Ft := ⟨catR fs, catS fs, catW fs⟩
theorem cat_take {α : Type} (f : FV → List α) (fs : List FV) (k : Nat) (x : FV) (hx : fs[k]? = some x) : (fs.take (k + 1)).flatMap f = (fs.take k).flatMap f ++ f x := by
  rw [List.take_add_one, hx]
  simp
theorem cat_le {α : Type} (f : FV → List α) (fs : List FV) (k : Nat) : ((fs.take k).flatMap f).length ≤ (fs.flatMap f).length := by
  have h : fs.flatMap f = (fs.take k).flatMap f ++ (fs.drop k).flatMap f := by rw [← List.flatMap_append, List.take_append_drop]
  rw [h, List.length_append]
  omega
theorem Rd.fv {w : World} {b o : Nat} {l : List FV} (h : Rd w (some ⟨b, o, none⟩) (l.flatMap fvC)) {i : Nat} {x : FV} (hx : l[i]? = some x) :
    w.cell? ⟨b, o + i * 3, none⟩ = some (.slice x.A0 x.n0 x.c0) ∧ w.cell? ⟨b, o + i * 3 + 1, none⟩ = some (.slice x.A1 x.n1 x.c1) ∧ w.cell? ⟨b, o + i * 3 + 2, none⟩ = some (.slice x.A2 x.n2 x.c2) :=
  ⟨h.at (j := i * 3) (by have := fm_get (f := fvC) (s := 3) (fun _ => rfl) l i x hx 0 (by omega); simpa [fvC] using this),
   h.at (j := i * 3 + 1) (by have := fm_get (f := fvC) (s := 3) (fun _ => rfl) l i x hx 1 (by omega); simpa [fvC] using this),
   h.at (j := i * 3 + 2) (by have := fm_get (f := fvC) (s := 3) (fun _ => rfl) l i x hx 2 (by omega); simpa [fvC] using this)⟩
/-- What is at hand at the head of a round. -/
structure JnInv (w : World) (gs : List FV) (A0 : Option Addr) (m0 c0 : Nat) (A1 : Option Addr) (m1 c1 : Nat) (A2 : Option Addr) (m2 c2 : Nat) (wr : World) : Prop where
  res : wr.heap[w.heap.size]? = some (.cells #[.slice none 0 0, .slice none 0 0, .slice none 0 0] 25 (0, 0))
  box : wr.heap[w.heap.size + 1]? = some (.cells #[.slice A0 m0 c0, .slice A1 m1 c1, .slice A2 m2 c2] 25 (0, 0))
  l0 : m0 = (catR gs).length
  l1 : m1 = (catS gs).length
  l2 : m2 = (catW gs).length
  o0 : wr.ownsRow (w.heap.size + 2) 80 2 (.slice A0 m0 c0) m0 ((catR gs).flatMap kyC)
  o1 : wr.ownsRow (w.heap.size + 2) 46 3 (.slice A1 m1 c1) m1 ((catS gs).flatMap spC)
  o2 : wr.ownsRow (w.heap.size + 2) 80 2 (.slice A2 m2 c2) m2 ((catW gs).flatMap kyC)
  ap : ∀ x, (Value.slice A0 m0 c0).ownBlock = some x → (Value.slice A2 m2 c2).ownBlock ≠ some x
  bel : Below w.heap.size w wr
theorem own_ty {w : World} {B B' : Nat} {e e' : TypeId} {s s' n n' : Nat} {v v' : Value} {xs xs' : List Value} (h : w.ownsRow B e s v n xs) (h' : w.ownsRow B' e' s' v' n' xs') (hne : e ≠ e') {x : Nat} (hx : v.ownBlock = some x) : v'.ownBlock ≠ some x := fun hx' => by
  obtain ⟨_, c1, h1⟩ := own_blk h hx
  obtain ⟨_, c2, h2⟩ := own_blk h' hx'
  exact blk_ty_ne h1 h2 hne rfl
theorem hop_ap {w : World} {B : Nat} {e : TypeId} {s n : Nat} {v v' u : Value} {xs : List Value} (h : Hop w v v') (ho : w.ownsRow B e s u n xs) (ha : ∀ x, v.ownBlock = some x → u.ownBlock ≠ some x) : ∀ x, v'.ownBlock = some x → u.ownBlock ≠ some x := fun x hx hu => by
  rcases h x hx with h1 | h1
  · exact ha x h1 hu
  · obtain ⟨_, cur, h2⟩ := own_blk ho hu
    have := heap_lt h2
    omega
/-- What stays through a round. -/
structure J4 (w : World) (p : Nat) (bc fc : Array Value) (v0 : Value) (n0 : Nat) (x0 : List Value) (v1 : Value) (n1 : Nat) (x1 : List Value) (v2 : Value) (n2 : Nat) (x2 : List Value) (W : World) : Prop where
  res : W.heap[w.heap.size]? = some (.cells #[.slice none 0 0, .slice none 0 0, .slice none 0 0] 25 (0, 0))
  box : W.heap[w.heap.size + 1]? = some (.cells bc 25 (0, 0))
  fot : W.heap[p]? = some (.cells fc 25 (0, 0))
  far : w.heap.size + 1 < p
  o0 : W.ownsRow (w.heap.size + 2) 80 2 v0 n0 x0
  o1 : W.ownsRow (w.heap.size + 2) 46 3 v1 n1 x1
  o2 : W.ownsRow (w.heap.size + 2) 80 2 v2 n2 x2
  ap : ∀ x, v0.ownBlock = some x → v2.ownBlock ≠ some x
  bel : Below w.heap.size w W
section
variable {w : World} {p : Nat} {bc fc : Array Value} {v0 : Value} {n0 : Nat} {x0 : List Value} {v1 : Value} {n1 : Nat} {x1 : List Value} {v2 : Value} {n2 : Nat} {x2 : List Value} {W W' : World}
theorem own_foot {B e s n : Nat} {v : Value} {xs : List Value} {k : Nat} {cs : Array Value} {fz : Nat × Nat} (h : W.ownsRow B e s v n xs) (hk : W.heap[k]? = some (.cells cs 25 fz)) (he : e ≠ 25) : v.ownBlock ≠ some k := fun e' => by
  obtain ⟨_, cur, h2⟩ := own_blk h e'
  exact blk_ty_ne h2 hk he rfl
theorem J4.ap0 (J : J4 w p bc fc v0 n0 x0 v1 n1 x1 v2 n2 x2 W) {v : Value} {n : Nat} {xs : List Value} (ho : W'.ownsRow (w.heap.size + 2) 80 2 v n xs) (hk : Kp (fun k => v0.ownBlock ≠ some k) W W') (hh : Hop W v0 v) : J4 w p bc fc v n xs v1 n1 x1 v2 n2 x2 W' :=
  ⟨hk.blk J.res (own_foot J.o0 J.res (by decide)), hk.blk J.box (own_foot J.o0 J.box (by decide)), hk.blk J.fot (own_foot J.o0 J.fot (by decide)), J.far, ho,
    own_kp J.o1 hk (fun _ h => own_ty J.o1 J.o0 (by decide) h), own_kp J.o2 hk (fun k h e => J.ap k e h), hop_ap hh J.o2 J.ap,
    J.bel.trans (hk.below J.bel.size (fun k hk e => by have := (own_blk J.o0 e).1; omega))⟩
theorem J4.ap1 (J : J4 w p bc fc v0 n0 x0 v1 n1 x1 v2 n2 x2 W) {v : Value} {n : Nat} {xs : List Value} (ho : W'.ownsRow (w.heap.size + 2) 46 3 v n xs) (hk : Kp (fun k => v1.ownBlock ≠ some k) W W') : J4 w p bc fc v0 n0 x0 v n xs v2 n2 x2 W' :=
  ⟨hk.blk J.res (own_foot J.o1 J.res (by decide)), hk.blk J.box (own_foot J.o1 J.box (by decide)), hk.blk J.fot (own_foot J.o1 J.fot (by decide)), J.far,
    own_kp J.o0 hk (fun _ h => own_ty J.o0 J.o1 (by decide) h), ho, own_kp J.o2 hk (fun _ h => own_ty J.o2 J.o1 (by decide) h), J.ap,
    J.bel.trans (hk.below J.bel.size (fun k hk e => by have := (own_blk J.o1 e).1; omega))⟩
theorem J4.ap2 (J : J4 w p bc fc v0 n0 x0 v1 n1 x1 v2 n2 x2 W) {v : Value} {n : Nat} {xs : List Value} (ho : W'.ownsRow (w.heap.size + 2) 80 2 v n xs) (hk : Kp (fun k => v2.ownBlock ≠ some k) W W') (hh : Hop W v2 v) : J4 w p bc fc v0 n0 x0 v1 n1 x1 v n xs W' :=
  ⟨hk.blk J.res (own_foot J.o2 J.res (by decide)), hk.blk J.box (own_foot J.o2 J.box (by decide)), hk.blk J.fot (own_foot J.o2 J.fot (by decide)), J.far,
    own_kp J.o0 hk (fun k h e => J.ap k h e), own_kp J.o1 hk (fun _ h => own_ty J.o1 J.o2 (by decide) h), ho, fun x h1 h2 => hop_ap hh J.o0 (fun y h3 h4 => J.ap y h4 h3) x h2 h1,
    J.bel.trans (hk.below J.bel.size (fun k hk e => by have := (own_blk J.o2 e).1; omega))⟩
theorem J4.set (J : J4 w p bc fc v0 n0 x0 v1 n1 x1 v2 n2 x2 W) (i : Nat) (v : Value) : J4 w p (bc.setIfInBounds i v) fc v0 n0 x0 v1 n1 x1 v2 n2 x2 (W.setCell ⟨w.heap.size + 1, i, none⟩ v) :=
  have hk := kp_set W (w.heap.size + 1) i v
  have far := J.far
  ⟨hk.blk J.res (by omega), blk_set J.box i v, hk.blk J.fot (by omega), J.far, own_kp J.o0 hk (fun k h => by have := (own_blk J.o0 h).1; omega), own_kp J.o1 hk (fun k h => by have := (own_blk J.o1 h).1; omega), own_kp J.o2 hk (fun k h => by have := (own_blk J.o2 h).1; omega), J.ap,
    J.bel.trans (hk.below J.bel.size (fun k hk e => by omega))⟩
end
/-- what each operation of the last region yields, and what it uses up -/
def jV (w : World) (fs : List FV) (v0 v1 v2 : Value) : Nat → Value → World → Prop
  | 0, v, _ => v = .pointer (some ⟨w.heap.size + 1, 0, none⟩)
  | 1, v, _ => v = v0
  | 2, v, W => ∃ B p d, v = .slice B p d ∧ p = (keysJ (catR fs)).length ∧ W.ownsRow (w.heap.size + 2) 80 2 v p ((keysJ (catR fs)).flatMap kyC) ∧ ∀ x, v.ownBlock = some x → v2.ownBlock ≠ some x
  | 3, v, _ => v = .pointer (some ⟨w.heap.size + 1, 1, none⟩)
  | 4, v, _ => v = v1
  | 5, v, W => ∃ B p d, v = .slice B p d ∧ p = (spansJ (catS fs)).length ∧ W.ownsRow (w.heap.size + 2) 46 3 v p ((spansJ (catS fs)).flatMap spC)
  | 6, v, _ => v = .pointer (some ⟨w.heap.size + 1, 2, none⟩)
  | 7, v, _ => v = v2
  | 8, v, W => ∃ B p d, v = .slice B p d ∧ p = (keysJ (catW fs)).length ∧ W.ownsRow (w.heap.size + 2) 80 2 v p ((keysJ (catW fs)).flatMap kyC) ∧ ∀ x, v.ownBlock = some x → v0.ownBlock ≠ some x
  | 9, v, W => ∃ B0 p0 d0 B1 p1 d1 B2 p2 d2, v = .agg #[.slice B0 p0 d0, .slice B1 p1 d1, .slice B2 p2 d2] ∧ p0 = (keysJ (catR fs)).length ∧ p1 = (spansJ (catS fs)).length ∧ p2 = (keysJ (catW fs)).length ∧
      W.ownsRow (w.heap.size + 2) 80 2 (.slice B0 p0 d0) p0 ((keysJ (catR fs)).flatMap kyC) ∧ W.ownsRow (w.heap.size + 2) 46 3 (.slice B1 p1 d1) p1 ((spansJ (catS fs)).flatMap spC) ∧ W.ownsRow (w.heap.size + 2) 80 2 (.slice B2 p2 d2) p2 ((keysJ (catW fs)).flatMap kyC)
  | _, _, _ => True
def jU (w : World) (fs : List FV) (v0 : Value) (n0 : Nat) (v1 : Value) (n1 : Nat) (v2 : Value) (n2 : Nat) : Nat → World → Prop
  | 2, W => W.ownsRow (w.heap.size + 2) 80 2 v0 n0 ((catR fs).flatMap kyC)
  | 5, W => W.ownsRow (w.heap.size + 2) 46 3 v1 n1 ((catS fs).flatMap spC)
  | 8, W => W.ownsRow (w.heap.size + 2) 80 2 v2 n2 ((catW fs).flatMap kyC)
  | _, _ => True
section
variable {w : World} {fs : List FV} {v0 : Value} {n0 : Nat} {v1 : Value} {n1 : Nat} {v2 : Value} {n2 : Nat} {W W' : World}
theorem jkeep2 (h0 : jU w fs v0 n0 v1 n1 v2 n2 2 W) (ap : ∀ x, v0.ownBlock = some x → v2.ownBlock ≠ some x) (hk : Kp (fun k => v0.ownBlock ≠ some k) W W') : ∀ i, i ≠ 2 → (i ≠ 9 → ∀ u, jV w fs v0 v1 v2 i u W → jV w fs v0 v1 v2 i u W') ∧ (jU w fs v0 n0 v1 n1 v2 n2 i W → jU w fs v0 n0 v1 n1 v2 n2 i W')
  | 0, _ => ⟨fun _ _ h => h, fun h => h⟩
  | 1, _ => ⟨fun _ _ h => h, fun h => h⟩
  | 2, h => absurd rfl h
  | 3, _ => ⟨fun _ _ h => h, fun h => h⟩
  | 4, _ => ⟨fun _ _ h => h, fun h => h⟩
  | 5, _ => ⟨fun _ u ⟨B, p, d, e, hp, ho⟩ => ⟨B, p, d, e, hp, own_kp ho hk (fun _ h => own_ty ho h0 (by decide) h)⟩, fun h => own_kp h hk (fun _ hb => own_ty h h0 (by decide) hb)⟩
  | 6, _ => ⟨fun _ _ h => h, fun h => h⟩
  | 7, _ => ⟨fun _ _ h => h, fun h => h⟩
  | 8, _ => ⟨fun _ u ⟨B, p, d, e, hp, ho, ha⟩ => ⟨B, p, d, e, hp, own_kp ho hk ha, ha⟩, fun h => own_kp h hk (fun k hb e => ap k e hb)⟩
  | 9, _ => ⟨fun h => absurd rfl h, fun h => h⟩
  | _ + 10, _ => ⟨fun _ _ h => h, fun h => h⟩
theorem jkeep5 (h1 : jU w fs v0 n0 v1 n1 v2 n2 5 W) (hk : Kp (fun k => v1.ownBlock ≠ some k) W W') : ∀ i, i ≠ 5 → (i ≠ 9 → ∀ u, jV w fs v0 v1 v2 i u W → jV w fs v0 v1 v2 i u W') ∧ (jU w fs v0 n0 v1 n1 v2 n2 i W → jU w fs v0 n0 v1 n1 v2 n2 i W')
  | 0, _ => ⟨fun _ _ h => h, fun h => h⟩
  | 1, _ => ⟨fun _ _ h => h, fun h => h⟩
  | 2, _ => ⟨fun _ u ⟨B, p, d, e, hp, ho, ha⟩ => ⟨B, p, d, e, hp, own_kp ho hk (fun _ h => own_ty ho h1 (by decide) h), ha⟩, fun h => own_kp h hk (fun _ hb => own_ty h h1 (by decide) hb)⟩
  | 3, _ => ⟨fun _ _ h => h, fun h => h⟩
  | 4, _ => ⟨fun _ _ h => h, fun h => h⟩
  | 5, h => absurd rfl h
  | 6, _ => ⟨fun _ _ h => h, fun h => h⟩
  | 7, _ => ⟨fun _ _ h => h, fun h => h⟩
  | 8, _ => ⟨fun _ u ⟨B, p, d, e, hp, ho, ha⟩ => ⟨B, p, d, e, hp, own_kp ho hk (fun _ h => own_ty ho h1 (by decide) h), ha⟩, fun h => own_kp h hk (fun _ hb => own_ty h h1 (by decide) hb)⟩
  | 9, _ => ⟨fun h => absurd rfl h, fun h => h⟩
  | _ + 10, _ => ⟨fun _ _ h => h, fun h => h⟩
theorem jkeep8 (h2 : jU w fs v0 n0 v1 n1 v2 n2 8 W) (ap : ∀ x, v0.ownBlock = some x → v2.ownBlock ≠ some x) (hk : Kp (fun k => v2.ownBlock ≠ some k) W W') : ∀ i, i ≠ 8 → (i ≠ 9 → ∀ u, jV w fs v0 v1 v2 i u W → jV w fs v0 v1 v2 i u W') ∧ (jU w fs v0 n0 v1 n1 v2 n2 i W → jU w fs v0 n0 v1 n1 v2 n2 i W')
  | 0, _ => ⟨fun _ _ h => h, fun h => h⟩
  | 1, _ => ⟨fun _ _ h => h, fun h => h⟩
  | 2, _ => ⟨fun _ u ⟨B, p, d, e, hp, ho, ha⟩ => ⟨B, p, d, e, hp, own_kp ho hk ha, ha⟩, fun h => own_kp h hk (fun k hb e => ap k hb e)⟩
  | 3, _ => ⟨fun _ _ h => h, fun h => h⟩
  | 4, _ => ⟨fun _ _ h => h, fun h => h⟩
  | 5, _ => ⟨fun _ u ⟨B, p, d, e, hp, ho⟩ => ⟨B, p, d, e, hp, own_kp ho hk (fun _ h => own_ty ho h2 (by decide) h)⟩, fun h => own_kp h hk (fun _ hb => own_ty h h2 (by decide) hb)⟩
  | 6, _ => ⟨fun _ _ h => h, fun h => h⟩
  | 7, _ => ⟨fun _ _ h => h, fun h => h⟩
  | 8, h => absurd rfl h
  | 9, _ => ⟨fun h => absurd rfl h, fun h => h⟩
  | _ + 10, _ => ⟨fun _ _ h => h, fun h => h⟩
theorem jrel {B e s n : Nat} {v : Value} {xs : List Value} (h : W.ownsRow B e s v n xs) (hk : Kp (fun k => v.ownBlock ≠ some k) W W') : Kp (fun k => k < B) W W' := hk.mono fun k _ hb e => by have := (own_blk h e).1; omega
end
set_option maxHeartbeats 4000000 in
theorem Join_any (hs : SortS) (w : World) (fs : List FV) (A : Option Addr) (n c : Nat) (hn : n = fs.length) (hm : n ≤ 1000000) (hr : Rd w A (fs.flatMap fvC)) (hf : ∀ x ∈ fs, fvRd w x) (hk0 : KeysC (catR fs)) (hk2 : KeysC (catW fs))
    (z0 : (catR fs).length ≤ 1000000) (z1 : (catS fs).length ≤ 1000000) (z2 : (catW fs).length ≤ 1000000) (hi : hiIn (catS fs)) :
    Calls Try.prog 18 #[.slice A n c] w (CopPost w (joinF (catF fs))) := by
  have huk := Try.underlying22
  have hus := Try.underlying23
  have Hn := hid hn
  have Hr := hid hr
  have Hf := hid hf
  have Hk0 := hid hk0
  have Hk2 := hid hk2
  have Hs := hid hs
  have Hi := hid hi
  clear hn hr hf hk0 hk2 hs hi
  go_enter Try.func18, Try.ntmps18
  go_wp2
  have RB := hid (blk_alloc (blk_new w (.cells #[.slice none 0 0, .slice none 0 0, .slice none 0 0] 25)) (.cells #[.slice none 0 0, .slice none 0 0, .slice none 0 0] 25))
  have ZB := hid (blk_new (w.alloc (.cells #[.slice none 0 0, .slice none 0 0, .slice none 0 0] 25)) (.cells #[.slice none 0 0, .slice none 0 0, .slice none 0 0] 25))
  have E6 : Hid (Below w.heap.size w ((w.alloc (.cells #[.slice none 0 0, .slice none 0 0, .slice none 0 0] 25)).alloc (.cells #[.slice none 0 0, .slice none 0 0, .slice none 0 0] 25))) := hid (((Below.refl _ w).alloc (Nat.le_refl _) _).alloc (by simp) _)
  simp only [World.size_alloc] at ZB
  go_loopw [8] (fun v8 wr => ∃ (k : Nat) (A0 : Option Addr) (m0 c0 : Nat) (A1 : Option Addr) (m1 c1 : Nat) (A2 : Option Addr) (m2 c2 : Nat), v8 = .int .i64 k ∧ k ≤ n ∧ Hid (JnInv w (fs.take k) A0 m0 c0 A1 m1 c1 A2 m2 c2 wr)) (fun v8 _ => n - (intOf v8).toNat)
  case atStart => exact ⟨0, none, 0, 0, none, 0, 0, none, 0, 0, rfl, Nat.zero_le _, hid ⟨RB.out, ZB.out, rfl, rfl, rfl, ⟨rfl, .inl ⟨rfl, rfl⟩⟩, ⟨rfl, .inl ⟨rfl, rfl⟩⟩, ⟨rfl, .inl ⟨rfl, rfl⟩⟩, fun x hx => (by simp [Value.ownBlock] at hx), E6.out⟩⟩
  case round =>
    clear RB ZB E6
    obtain ⟨k, A0, m0, c0, A1, m1, c1, A2, m2, c2, rfl, hk, I⟩ := hrel
    by_cases hlt : k < n
    · have hkx : k < fs.length := by rw [← Hn.out]; exact hlt
      obtain ⟨b, o, rfl, hz1, hz2⟩ := Hr.out.addr (by rw [fm_len (s := 3) (fun _ => rfl)]; omega)
      have hbl : b < wr.heap.size := Nat.lt_of_lt_of_le hz1 I.out.bel.size
      clear hz1 hz2
      have hx := List.getElem?_eq_getElem hkx
      have HX := hid (Hf.out fs[k] (List.getElem_mem hkx))
      generalize fs[k] = X at hx HX
      have HR := hid (cat_take (·.f.r) fs k X hx)
      have HS := hid (cat_take (·.f.s) fs k X hx)
      have HW := hid (cat_take (·.f.w) fs k X hx)
      have LR := hid (cat_le (·.f.r) fs (k + 1))
      have LS := hid (cat_le (·.f.s) fs (k + 1))
      have LW := hid (cat_le (·.f.w) fs (k + 1))
      obtain ⟨g0, g1, g2⟩ := (Hr.out.ext I.out.bel).fv hx
      obtain ⟨f, a0, n0, d0, a1, n1, d1, a2, n2, d2⟩ := X
      simp only at g0 g1 g2
      have hkn : (k : Int) < n := by omega
      have hF : w.heap.size + 1 < wr.heap.size := heap_lt I.out.box
      clear hx hkx
      have q0 := blk_cell (blk_alloc I.out.box (.cells #[.slice a0 n0 d0, .slice a1 n1 d1, .slice a2 n2 d2] 25)) 0
      simp at q0
      have J0 : Hid (J4 w wr.heap.size #[.slice A0 m0 c0, .slice A1 m1 c1, .slice A2 m2 c2] #[.slice a0 n0 d0, .slice a1 n1 d1, .slice a2 n2 d2] (.slice A0 m0 c0) m0 ((catR (fs.take k)).flatMap kyC) (.slice A1 m1 c1) m1 ((catS (fs.take k)).flatMap spC) (.slice A2 m2 c2) m2 ((catW (fs.take k)).flatMap kyC) (wr.alloc (.cells #[.slice a0 n0 d0, .slice a1 n1 d1, .slice a2 n2 d2] 25))) :=
        hid ⟨blk_alloc I.out.res _, blk_alloc I.out.box _, blk_new _ _, hF, own_ext I.out.o0 (ext_alloc _ _), own_ext I.out.o1 (ext_alloc _ _), own_ext I.out.o2 (ext_alloc _ _), I.out.ap, I.out.bel.trans ((ext_alloc _ _).mono I.out.bel.size)⟩
      have Rx0 : Hid (∀ W, Below w.heap.size w W → Rd W a0 (f.r.flatMap kyC)) := hid fun W h => HX.out.r0.ext h
      have Rx1 : Hid (∀ W, Below w.heap.size w W → Rd W a1 (f.s.flatMap spC)) := hid fun W h => HX.out.r1.ext h
      have Rx2 : Hid (∀ W, Below w.heap.size w W → Rd W a2 (f.w.flatMap kyC)) := hid fun W h => HX.out.r2.ext h
      have e0 : Hid ((f.r.flatMap kyC).length = n0 * 2) := hid (by rw [fm_len (s := 2) (fun _ => rfl)]; rw [show n0 = f.r.length from HX.out.e0])
      have e1 : Hid ((f.s.flatMap spC).length = n1 * 3) := hid (by rw [fm_len (s := 3) (fun _ => rfl)]; rw [show n1 = f.s.length from HX.out.e1])
      have e2 : Hid ((f.w.flatMap kyC).length = n2 * 2) := hid (by rw [fm_len (s := 2) (fun _ => rfl)]; rw [show n2 = f.w.length from HX.out.e2])
      have t0 : m0 + n0 ≤ 1000000 := by have h1 := LR.out; rw [HR.out] at h1; have h2 := I.out.l0; have h3 : n0 = f.r.length := HX.out.e0; simp only [List.length_append] at h1; unfold catR at z0 h2; omega
      have t1 : m1 + n1 ≤ 1000000 := by have h1 := LS.out; rw [HS.out] at h1; have h2 := I.out.l1; have h3 : n1 = f.s.length := HX.out.e1; simp only [List.length_append] at h1; unfold catS at z1 h2; omega
      have t2 : m2 + n2 ≤ 1000000 := by have h1 := LW.out; rw [HW.out] at h1; have h2 := I.out.l2; have h3 : n2 = f.w.length := HX.out.e2; simp only [List.length_append] at h1; unfold catW at z2 h2; omega
      go_wp2_with (first
        | (at_builtin; refine wl_ap rfl rfl (w.heap.size + 2) 80 huk info_key rfl (by decide) (.slice A0 m0 c0) m0 _ rfl J0.out.o0 a0 n0 d0 _ rfl e0.out (Rx0.out _ J0.out.bel) (ky_one _) (by unfold maxLen; omega) (by omega) (by have := J0.out.bel.size; have := heap_lt J0.out.box; omega) ?_; intro B0 f0 W1 _ _ hown hkp hhop; have J1 := hid (J0.out.ap0 hown hkp hhop); have J2 := hid (J1.out.set 0 (.slice B0 (m0 + n0) f0)); have s1 := heap_lt J1.out.box; have fz1 := blk_free J1.out.box 0; have c0 := blk_cell J1.out.box 0; have r1 := blk_cell J1.out.box 1; have r2 := blk_cell J1.out.fot 1; simp at c0 r1 r2; clear hown hkp hhop)
        | (at_builtin; refine wl_ap rfl rfl (w.heap.size + 2) 46 hus info_span rfl (by decide) (.slice A1 m1 c1) m1 _ rfl J2.out.o1 a1 n1 d1 _ rfl e1.out (Rx1.out _ J2.out.bel) (sp_one _) (by unfold maxLen; omega) (by omega) (by have := J2.out.bel.size; have := heap_lt J2.out.box; omega) ?_; intro B1 f1 W2 _ _ hown hkp hhop; have J3 := hid (J2.out.ap1 hown hkp); have J4 := hid (J3.out.set 1 (.slice B1 (m1 + n1) f1)); have s2 := heap_lt J3.out.box; have fz2 := blk_free J3.out.box 1; have c1 := blk_cell J3.out.box 1; have r3 := blk_cell J3.out.box 2; have r4 := blk_cell J3.out.fot 2; simp at c1 r3 r4; clear hown hkp hhop)
        | (at_builtin; refine wl_ap rfl rfl (w.heap.size + 2) 80 huk info_key rfl (by decide) (.slice A2 m2 c2) m2 _ rfl J4.out.o2 a2 n2 d2 _ rfl e2.out (Rx2.out _ J4.out.bel) (ky_one _) (by unfold maxLen; omega) (by omega) (by have := J4.out.bel.size; have := heap_lt J4.out.box; omega) ?_; intro B2 f2 W3 _ _ hown hkp hhop; have J5 := hid (J4.out.ap2 hown hkp hhop); have J6 := hid (J5.out.set 2 (.slice B2 (m2 + n2) f2)); have s3 := heap_lt J5.out.box; have fz3 := blk_free J5.out.box 2; have c2 := blk_cell J5.out.box 2; simp at c2; clear hown hkp hhop))
      go_roundw
      case measure => simp [intOf]; omega
      case rel =>
        have K := J6.out
        refine ⟨k + 1, B0, m0 + n0, f0, B1, m1 + n1, f1, B2, m2 + n2, f2, by go_num, by omega, hid ⟨K.res, K.box, ?_, ?_, ?_, ?_, ?_, ?_, K.ap, K.bel⟩⟩
        · show _ = ((fs.take (k + 1)).flatMap (·.f.r)).length
          rw [HR.out, List.length_append, I.out.l0, show n0 = f.r.length from HX.out.e0]
          rfl
        · show _ = ((fs.take (k + 1)).flatMap (·.f.s)).length
          rw [HS.out, List.length_append, I.out.l1, show n1 = f.s.length from HX.out.e1]
          rfl
        · show _ = ((fs.take (k + 1)).flatMap (·.f.w)).length
          rw [HW.out, List.length_append, I.out.l2, show n2 = f.w.length from HX.out.e2]
          rfl
        · show World.ownsRow _ _ _ _ _ _ (((fs.take (k + 1)).flatMap (·.f.r)).flatMap kyC)
          rw [HR.out, List.flatMap_append]
          exact K.o0
        · show World.ownsRow _ _ _ _ _ _ (((fs.take (k + 1)).flatMap (·.f.s)).flatMap spC)
          rw [HS.out, List.flatMap_append]
          exact K.o1
        · show World.ownsRow _ _ _ _ _ _ (((fs.take (k + 1)).flatMap (·.f.w)).flatMap kyC)
          rw [HW.out, List.flatMap_append]
          exact K.o2
    · have hk' : k = n := by omega
      subst hk'
      have ET : fs.take k = fs := List.take_of_length_le (by rw [Hn.out]; exact Nat.le_refl _)
      have I := I.out
      rw [ET] at I
      go_wp2
      refine wp_region_use (n := 10) (jV w fs (.slice A0 m0 c0) (.slice A1 m1 c1) (.slice A2 m2 c2)) (jU w fs (.slice A0 m0 c0) m0 (.slice A1 m1 c1) m1 (.slice A2 m2 c2) m2) (fun a b => Kp (fun k => k < w.heap.size + 2) a b) (by kernel_rfl) (by kernel_rfl) rfl rfl (fun _ => Kp.refl _ _) (fun _ _ _ h k => h.trans k) ?hU ?hstep ?hlast
      case hU =>
        intro j
        match j with
        | 0 => trivial
        | 1 => trivial
        | 2 => exact I.o0
        | 3 => trivial
        | 4 => trivial
        | 5 => exact I.o1
        | 6 => trivial
        | 7 => trivial
        | 8 => exact I.o2
        | _ + 9 => trivial
      case hstep =>
        intro j o ho hj a w' J hU
        have t3 := (J.other 3 (noDst_spec (by kernel_rfl))).trans rfl
        have q0 := J.rel.cell (blk_cell (blk_drew I.box) 0) (show w.heap.size + 1 < w.heap.size + 2 by omega)
        have q1 := J.rel.cell (blk_cell (blk_drew I.box) 1) (show w.heap.size + 1 < w.heap.size + 2 by omega)
        have q2 := J.rel.cell (blk_cell (blk_drew I.box) 2) (show w.heap.size + 1 < w.heap.size + 2 by omega)
        simp at q0 q1 q2
        match j, hj with
        | 0, _ =>
          injection ho with ho
          subst ho
          exact op_val rfl rfl (v := .pointer (some ⟨w.heap.size + 1, 0, none⟩)) (w' := w') (by simp [execOp, go_sem, t3]) ⟨_, rfl, rfl, Kp.refl _ _, fun i _ => ⟨fun _ _ h => h, fun h => h⟩⟩
        | 1, _ =>
          injection ho with ho
          subst ho
          obtain ⟨v, rfl, hv⟩ := J.dep _ rfl ⟨0, .data⟩ (by simp) rfl
          have hv := hv _ rfl
          exact op_val rfl rfl (v := .slice A0 m0 c0) (w' := w') (by simp [execOp, go_sem, hv, q0]) ⟨_, rfl, rfl, Kp.refl _ _, fun i _ => ⟨fun _ _ h => h, fun h => h⟩⟩
        | 2, _ =>
          injection ho with ho
          subst ho
          obtain ⟨v, rfl, hv⟩ := J.dep _ rfl ⟨1, .data⟩ (by simp) rfl
          have hv := hv _ rfl
          refine op_call rfl rfl (f := 42) (args := #[.slice A0 m0 c0]) (w1 := w') (by simp [execOp, go_sem, hv]) ?_
          refine (Hk0.out w' _ A0 m0 c0 hU (by have := I.l0; omega)).mono ?_
          rintro e w2 ⟨B, p, d, rfl, hp, hown, hkp, hhop⟩
          refine ⟨_, rfl, _, rfl, ⟨B, p, d, rfl, hp, hown, ?_⟩, jrel hU hkp, fun i hi => ⟨fun hd => (jkeep2 hU I.ap hkp i hi).1 (fun e => by subst e; exact hd _ rfl ⟨2, .data⟩ (by simp) rfl rfl), (jkeep2 hU I.ap hkp i hi).2⟩⟩
          exact fun x hx hu => by
            rcases hhop x hx with h1 | h1
            · exact I.ap x h1 hu
            · obtain ⟨_, cur, h2⟩ := own_blk I.o2 hu
              have := heap_lt h2
              have := J.rel.size
              simp at this
              omega
        | 3, _ =>
          injection ho with ho
          subst ho
          exact op_val rfl rfl (v := .pointer (some ⟨w.heap.size + 1, 1, none⟩)) (w' := w') (by simp [execOp, go_sem, t3]) ⟨_, rfl, rfl, Kp.refl _ _, fun i _ => ⟨fun _ _ h => h, fun h => h⟩⟩
        | 4, _ =>
          injection ho with ho
          subst ho
          obtain ⟨v, rfl, hv⟩ := J.dep _ rfl ⟨3, .data⟩ (by simp) rfl
          have hv := hv _ rfl
          exact op_val rfl rfl (v := .slice A1 m1 c1) (w' := w') (by simp [execOp, go_sem, hv, q1]) ⟨_, rfl, rfl, Kp.refl _ _, fun i _ => ⟨fun _ _ h => h, fun h => h⟩⟩
        | 5, _ =>
          injection ho with ho
          subst ho
          obtain ⟨v, rfl, hv⟩ := J.dep _ rfl ⟨4, .data⟩ (by simp) rfl
          have hv := hv _ rfl
          refine op_call rfl rfl (f := 43) (args := #[.slice A1 m1 c1]) (w1 := w') (by simp [execOp, go_sem, hv]) ?_
          refine (spans_any Hs.out w' _ A1 m1 c1 (catS fs) hU (by have := I.l1; omega) Hi.out).mono ?_
          rintro e w2 ⟨B, p, d, rfl, hp, hown, hkp⟩
          have hwb : w.heap.size + 2 ≤ w'.heap.size := Nat.le_trans (heap_lt I.box) J.rel.size
          exact ⟨_, rfl, _, rfl, ⟨B, p, d, rfl, hp, own_base hown (fun k hk => Nat.le_trans hwb (own_blk hown hk).1)⟩, jrel hU hkp, fun i hi => ⟨fun hd => (jkeep5 hU hkp i hi).1 (fun e => by subst e; exact hd _ rfl ⟨5, .data⟩ (by simp) rfl rfl), (jkeep5 hU hkp i hi).2⟩⟩
        | 6, _ =>
          injection ho with ho
          subst ho
          exact op_val rfl rfl (v := .pointer (some ⟨w.heap.size + 1, 2, none⟩)) (w' := w') (by simp [execOp, go_sem, t3]) ⟨_, rfl, rfl, Kp.refl _ _, fun i _ => ⟨fun _ _ h => h, fun h => h⟩⟩
        | 7, _ =>
          injection ho with ho
          subst ho
          obtain ⟨v, rfl, hv⟩ := J.dep _ rfl ⟨6, .data⟩ (by simp) rfl
          have hv := hv _ rfl
          exact op_val rfl rfl (v := .slice A2 m2 c2) (w' := w') (by simp [execOp, go_sem, hv, q2]) ⟨_, rfl, rfl, Kp.refl _ _, fun i _ => ⟨fun _ _ h => h, fun h => h⟩⟩
        | 8, _ =>
          injection ho with ho
          subst ho
          obtain ⟨v, rfl, hv⟩ := J.dep _ rfl ⟨7, .data⟩ (by simp) rfl
          have hv := hv _ rfl
          refine op_call rfl rfl (f := 42) (args := #[.slice A2 m2 c2]) (w1 := w') (by simp [execOp, go_sem, hv]) ?_
          refine (Hk2.out w' _ A2 m2 c2 hU (by have := I.l2; omega)).mono ?_
          rintro e w2 ⟨B, p, d, rfl, hp, hown, hkp, hhop⟩
          refine ⟨_, rfl, _, rfl, ⟨B, p, d, rfl, hp, hown, ?_⟩, jrel hU hkp, fun i hi => ⟨fun hd => (jkeep8 hU I.ap hkp i hi).1 (fun e => by subst e; exact hd _ rfl ⟨8, .data⟩ (by simp) rfl rfl), (jkeep8 hU I.ap hkp i hi).2⟩⟩
          exact fun x hx hu => by
            rcases hhop x hx with h1 | h1
            · exact I.ap x hu h1
            · obtain ⟨_, cur, h2⟩ := own_blk I.o0 hu
              have := heap_lt h2
              have := J.rel.size
              simp at this
              omega
        | 9, _ =>
          injection ho with ho
          subst ho
          obtain ⟨v, ⟨B0, p0, d0, rfl, e0, o0, _⟩, v0⟩ := J.dep _ rfl ⟨2, .data⟩ (by simp) rfl
          have v0 := v0 _ rfl
          obtain ⟨v, ⟨B1, p1, d1, rfl, e1, o1⟩, v1⟩ := J.dep _ rfl ⟨5, .data⟩ (by simp) rfl
          have v1 := v1 _ rfl
          obtain ⟨v, ⟨B2, p2, d2, rfl, e2, o2, _⟩, v2⟩ := J.dep _ rfl ⟨8, .data⟩ (by simp) rfl
          have v2 := v2 _ rfl
          exact op_val rfl rfl (v := .agg #[.slice B0 p0 d0, .slice B1 p1 d1, .slice B2 p2 d2]) (w' := w') (by simp [execOp, go_sem, v0, v1, v2]) ⟨_, rfl, ⟨_, _, _, _, _, _, _, _, _, rfl, e0, e1, e2, o0, o1, o2⟩, Kp.refl _ _, fun i _ => ⟨fun _ _ h => h, fun h => h⟩⟩
        | k + 10, hk => omega
      case hlast =>
        intro vals w' hlen hR hv _
        have ZB2 := hid (hR.blk (blk_drew I.res) (show w.heap.size < w.heap.size + 2 by omega))
        have E7 := hid ((I.bel.trans ((ext_drew wr).mono I.bel.size)).trans (hR.below (Nat.le_trans I.bel.size (Nat.le_refl _)) (fun k hk => by omega)))
        match vals, hlen with
        | [v0, v1, v2, v3, v4, v5, v6, v7, v8, v9], _ =>
        obtain ⟨B0, p0, d0, B1, p1, d1, B2, p2, d2, e9, e0, e1, e2, o0, o1, o2⟩ := hv 9 v9 rfl
        subst e9
        have O0 := hid o0
        have O1 := hid o1
        have O2 := hid o2
        have F0 := hid e0
        have F1 := hid e1
        have F2 := hid e2
        clear hv hR o0 o1 o2 e0 e1 e2
        refine op_list rfl ?_
        have z0' := blk_cell ZB2.out 0
        have z1' := blk_cell ZB2.out 1
        have z2' := blk_cell ZB2.out 2
        have g0 := blk_free ZB2.out 0
        have g1 := blk_free ZB2.out 1
        have g2 := blk_free ZB2.out 2
        simp at z0' z1' z2'
        clear I
        simp only [putAll, List.take_succ_cons, List.take_zero, Act.put]
        go_wp2
        refine bodyPost_ret (v := .agg #[.slice B0 p0 d0, .slice B1 p1 d1, .slice B2 p2 d2]) (by simp [results, Try.results18, go_sem, z0', z1', z2']) rfl ?_
        have KW : ∀ W, Kp (fun k => k ≠ w.heap.size) w' W → CopPost w (joinF (catF fs)) (.returned (.agg #[.slice B0 p0 d0, .slice B1 p1 d1, .slice B2 p2 d2])) W := fun W hk => by
          have far : ∀ {e size n : Nat} {v : Value} {xs : List Value}, w'.ownsRow (w.heap.size + 2) e size v n xs → W.ownsRow (w.heap.size + 2) e size v n xs := fun ho => own_kp ho hk (fun k hk e => by have := (own_blk ho hk).1; omega)
          have fresh : ∀ {A : Option Addr} {e size n c m : Nat} {xs : List Value}, W.ownsRow (w.heap.size + 2) e size (.slice A n c) m xs → FreshA w.heap.size A := fun ho a ha => Nat.le_trans (Nat.le_add_right _ 2) (own_blk ho (k := a.block) (by rw [ha]; rfl)).1
          have a0 := far O0.out
          have a1 := far O1.out
          have a2 := far O2.out
          have j0 := keysJ_len (catR fs)
          have j1 := spansJ_len (catS fs)
          have j2 := keysJ_len (catW fs)
          exact ⟨B0, p0, d0, B1, p1, d1, B2, p2, d2, rfl, ⟨F0.out, F1.out, F2.out, by rw [F0.out]; omega, by rw [F1.out]; omega, by rw [F2.out]; omega, own_rd a0, own_rd a1, own_rd a2⟩, E7.out.trans (hk.below E7.out.size (fun k hk => by omega)), fresh a0, fresh a1, fresh a2⟩
        refine KW _ ?_
        have kset : ∀ {a b : World} {i : Nat} {v : Value}, Kp (fun k => k ≠ w.heap.size) a b → Kp (fun k => k ≠ w.heap.size) a (b.setCell ⟨w.heap.size, i, none⟩ v) := fun h => h.trans (kp_set _ _ _ _)
        exact kset (kset (kset (Kp.refl _ _)))
end Go.Proofs.Ytgnikijaihmeeaa
