/- What record.take leaves. -/
import Derived.Test.YtgnfccdhlpeknaaSwT
open Go Go.RowKit
namespace Go.Proofs.Ytgnfccdhlpeknaa
set_option maxRecDepth 100000
theorem flat_ge {α : Type} (f : α → List Nat) (l : List α) (h : ∀ x, 0 < (f x).length) : l.length ≤ (l.flatMap f).length := by
  induction l with
  | nil => simp
  | cons x l ih => have := h x; rw [List.flatMap_cons, List.length_append, List.length_cons]; omega
theorem kyB_pos (x : Ky) : 0 < (kyB x).length := by unfold kyB; have := cntB_pos x.t.toNat; simp only [List.length_append]; omega
theorem spB_pos (x : Sp) : 0 < (spB x).length := by unfold spB; have := cntB_pos x.t.toNat; simp only [List.length_append]; omega
theorem footBy_ge (f : Ft) : f.r.length + f.s.length + f.w.length ≤ (footBy f).length := by
  have h1 := flat_ge kyB f.r kyB_pos
  have h2 := flat_ge spB f.s spB_pos
  have h3 := flat_ge kyB f.w kyB_pos
  unfold footBy keysB
  simp only [List.length_append]
  omega
theorem takenF_sz {bs : List Nat} {f : Ft} (h : takenF bs = some f) : f.r.length + f.s.length + f.w.length ≤ bs.length := by
  unfold takenF at h
  split at h
  · rename_i hc
    simp only [Option.some.injEq] at h
    subst h
    have := footBy_ge (takeF (some bs)).1
    rw [hc.2.2] at this
    exact this
  · cases h
theorem rTake_byt {n : Nat} {s : St} (h : Byt s) : Byt (rTake n s).2 ∧ (∀ b ∈ (rTake n s).1, b < 256) ∧ (rTake n s).1.length + rLeft (rTake n s).2 ≤ rLeft s := by
  cases s with
  | none => exact ⟨Byt.none, by simp [rTake], by simp [rTake, rLeft]⟩
  | some l =>
    simp only [rTake]
    split
    · exact ⟨Byt.none, by simp, by simp [rLeft]⟩
    · exact ⟨Byt.some (fun x hx => h _ rfl x (List.mem_of_mem_drop hx)), fun b hb => h _ rfl b (List.mem_of_mem_take hb), by simp [rLeft]; omega⟩
theorem rBytes_facts {s : St} (h : Byt s) : Byt (rBytes s).2 ∧ (∀ b ∈ (rBytes s).1, b < 256) ∧ (rBytes s).1.length + rLeft (rBytes s).2 ≤ rLeft s := by
  have h1 := rTake_byt (n := (rCount s).1) (rCount_byt h)
  have h2 := rCount_le s
  exact ⟨h1.1, h1.2.1, by have := h1.2.2; unfold rBytes; omega⟩
/-- A leads into blocks from B on -/
def Fresh (B : Nat) (A : Option Addr) : Prop := ∀ a, A = some a → B ≤ a.block
theorem Fresh.none (B : Nat) : Fresh B none := fun _ h => by cases h
theorem Fresh.mono {B C : Nat} {A : Option Addr} (h : Fresh B A) (hc : C ≤ B) : Fresh C A := fun a ha => Nat.le_trans hc (h a ha)
/-- What record.take leaves. -/
def RTakePost (w : World) (br : Nat) (s : St) (e : Ending) (w' : World) : Prop :=
  ∃ (Ac : Option Addr) (nc cc : Nat) (A0 : Option Addr) (n0 c0 : Nat) (A1 : Option Addr) (n1 c1 : Nat) (A2 : Option Addr) (n2 c2 : Nat) (Aw : Option Addr) (nw cw : Nat),
    e = .returned (.agg #[.int .i64 (takeR s).1.seq, .bool (takeR s).1.val, .int .i64 (takeR s).1.pg.fuel, .slice Ac nc cc, .slice A0 n0 c0, .slice A1 n1 c1, .slice A2 n2 c2, .slice Aw nw cw]) ∧
    RecRd w' (takeR s).1 Ac nc cc A0 n0 c0 A1 n1 c1 A2 n2 c2 Aw nw cw ∧ RecOk (takeR s).1 ∧ ReaderAt w' br (takeR s).2 ∧ Byt (takeR s).2 ∧ Kp (· ≠ br) w w' ∧ (Fresh w.heap.size Ac ∧ Fresh w.heap.size A0 ∧ Fresh w.heap.size A1 ∧ Fresh w.heap.size A2 ∧ Fresh w.heap.size Aw)
theorem Kp.set {S : Nat → Prop} {a b : World} (h : Kp S a b) {k i : Nat} {v : Value} (hs : ∀ j, S j → j ≠ k) : Kp S a (b.setCell ⟨k, i, none⟩ v) := h.trans ((kp_set _ _ _ _).mono (fun j _ hj => hs j hj))
theorem FtRd.kp {S : Nat → Prop} {w w' : World} {f : Ft} {A0 : Option Addr} {n0 c0 : Nat} {A1 : Option Addr} {n1 c1 : Nat} {A2 : Option Addr} {n2 c2 : Nat} (h : FtRd w f A0 n0 c0 A1 n1 c1 A2 n2 c2) (hk : Kp S w w')
    (h0 : ∀ a, A0 = some a → S a.block) (h1 : ∀ a, A1 = some a → S a.block) (h2 : ∀ a, A2 = some a → S a.block) : FtRd w' f A0 n0 c0 A1 n1 c1 A2 n2 c2 :=
  ⟨h.e0, h.e1, h.e2, h.b0, h.b1, h.b2, h.r0.kp hk (fun a ha _ => h0 a ha), h.r1.kp hk (fun a ha _ => h1 a ha), h.r2.kp hk (fun a ha _ => h2 a ha)⟩
theorem PgRd.kp {S : Nat → Prop} {w w' : World} {p : Pg} {A : Option Addr} {n c : Nat} (h : PgRd w p A n c) (hk : Kp S w w') (h0 : ∀ a, A = some a → S a.block) : PgRd w' p A n c :=
  ⟨h.e, h.b, h.r.kp hk (fun a ha _ => h0 a ha)⟩
end Go.Proofs.Ytgnfccdhlpeknaa
