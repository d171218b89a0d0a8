/- The walks of foot's writing. -/
import Derived.Test.YtgnikijaihmeeaaSwFd
import Derived.Test.YtgnikijaihmeeaaSwWc
open Go Go.RowKit
namespace Go.Proofs.Ytgnikijaihmeeaa
set_option linter.unusedVariables false
set_option linter.unusedSimpArgs false
set_option maxRecDepth 100000
theorem WrAt.new {B : Nat} {w w0 : World} {bw : Nat} {v : Value} {bs : List Nat} (h : WrAt B w0 bw v bs) {k : Nat} (hk : w0.heap.size ≤ k) (_ : w0 = w0 ∨ w = w) : k ≠ bw ∧ v.ownBlock ≠ some k :=
  ⟨fun e => by have := h.lt; omega, fun e => by obtain ⟨_, cur, h2⟩ := own_blk h.2.2 e; have := heap_lt h2; omega⟩
def kyB (x : Ky) : List Nat := cntB x.t.toNat ++ numB x.k
def keysB (l : List Ky) : List Nat := cntB l.length ++ l.flatMap kyB
theorem kyB_len {x : Ky} (h : 0 ≤ x.t ∧ x.t < 4) (hk : inI x.k) : (kyB x).length ≤ 20 := by
  have h1 := cntB_len64 (n := x.t.toNat) (by omega)
  have h2 := cntB_len64 (zig_lt hk.1 hk.2)
  unfold kyB numB
  simp
  omega
theorem flat_len {α : Type} (f : α → List Nat) (m : Nat) (l : List α) (h : ∀ x ∈ l, (f x).length ≤ m) : (l.flatMap f).length ≤ m * l.length := by
  induction l with
  | nil => simp
  | cons x l ih =>
    have h1 := h x (by simp)
    have h2 := ih (fun y hy => h y (by simp [hy]))
    rw [List.flatMap_cons, List.length_append, List.length_cons, Nat.mul_add]
    omega
theorem flat_snoc {α β : Type} (f : α → List β) (l : List α) (k : Nat) (x : α) (hx : l[k]? = some x) : (l.take (k + 1)).flatMap f = (l.take k).flatMap f ++ f x := by
  obtain ⟨hk, rfl⟩ := List.getElem?_eq_some_iff.1 hx
  rw [List.take_succ_eq_append_getElem hk, List.flatMap_append]
  simp
def kyOk (l : List Ky) : Prop := ∀ x ∈ l, (0 ≤ x.t ∧ x.t < 4) ∧ inI x.k
theorem kyOk.take {l : List Ky} (h : kyOk l) (k : Nat) : kyOk (l.take k) := fun x hx => h x (List.mem_of_mem_take hx)
set_option maxHeartbeats 1000000 in
theorem putKeys_any (B : Nat) (w : World) (bw : Nat) (v : Value) (bs : List Nat) (A : Option Addr) (n c : Nat) (l : List Ky) (hw : WrAt B w bw v bs) (hn : n = l.length) (hr : Rd w A (l.flatMap kyC)) (hA : ∀ a, A = some a → 0 < n → a.block < B) (hl : kyOk l) (hb : bs.length + 20 + 20 * l.length ≤ 140737488355328) :
    Calls Try.prog 20 #[.pointer (some ⟨bw, 0, none⟩), .slice A n c] w fun e w' => e = .returned (.tuple #[]) ∧ WrPost B w bw v bs (keysB l) w' := by
  have Hw := hid hw
  have Hb := hid hb
  have Hr := hid hr
  have Hn := hid hn
  have HA := hid hA
  have Hl := hid hl
  have hn48 : n ≤ 140737488355328 := by omega
  clear hw hb hr hn hA hl
  go_enter Try.func20, Try.ntmps20
  go_wp2_with fail
  refine (Wcount_any B _ bw v bs n Hw.out (by omega) (by have := Hb.out; omega)).mono ?_
  rintro e w1 ⟨rfl, hp⟩
  obtain ⟨v1, h1, h2⟩ := hp
  have H1 := hid h1
  have H2 := hid h2
  have Hl10 := hid (cntB_len64 (n := n) (by omega))
  clear h1 h2
  go_wp2
  go_loopw [13] (fun v13 wr => ∃ (k : Nat) (u : Value), v13 = .int .i64 k ∧ k ≤ n ∧ Hid (WrAt B wr bw u (bs ++ (cntB n ++ (l.take k).flatMap kyB))) ∧ Hid (WrStep w bw v wr u)) (fun v13 _ => n - (intOf v13).toNat)
  case atStart => exact ⟨0, v1, rfl, by omega, by simpa using H1, H2⟩
  case round =>
    obtain ⟨k, u, rfl, hk, Hu, Hs⟩ := hrel
    have Hbel := hid (Hs.out.below Hw.out)
    by_cases hlt : k < n
    · have hkx : k < l.length := by rw [← Hn.out]; exact hlt
      obtain ⟨b, o, rfl, hb1, hb2⟩ := Hr.out.addr (by rw [fm_len (s := 2) (fun _ => rfl)]; omega)
      have Hb1 := hid (HA.out _ rfl (by omega))
      clear hb1 hb2
      have hx := List.getElem?_eq_getElem hkx
      have Hxl := hid (Hl.out _ (List.getElem_mem hkx))
      generalize l[k] = X at hx Hxl
      obtain ⟨g0, g1⟩ := (Hr.out.kp (Kp.of_below Hbel.out) (fun a ha _ => HA.out a ha (by omega))).ky hx
      have Hx := hid hx
      clear hx hkx
      have Hlen : Hid ((bs ++ (cntB n ++ (l.take k).flatMap kyB)).length + 30 ≤ 140737488355328) := by
        refine hid ?_
        have h3 := flat_len kyB 20 (l.take k) (fun x hx => kyB_len ((Hl.out.take k) x hx).1 ((Hl.out.take k) x hx).2)
        have h4 : (l.take k).length ≤ k := List.length_take_le _ _
        have := Hb.out
        have := Hl10.out
        have := Hn.out
        simp only [List.length_append]
        omega
      have Hwt : Hid (IntKind.u64.wrap X.t = (X.t.toNat : Int)) := hid <| by rw [IntKind.wrap_u64]; have := Hxl.out.1; omega
      go_wp2_with fail
      rw [Hwt.out]
      refine (Wcount_any B _ bw u _ X.t.toNat (Hu.out.ext (ext_alloc _ _)) (by have := Hxl.out.1; omega) (by have := Hlen.out; omega)).mono ?_
      rintro e w2 ⟨rfl, hp⟩
      obtain ⟨v2, h3, h4⟩ := hp
      have hfar := Hu.out.new (w := wr) (Nat.le_refl _) (.inl rfl)
      have hc1 := h4.1.cell (blk_cell (blk_new wr (Obj.cells #[.int .i64 X.t, .int .i64 X.k] 80)) 1) hfar
      simp at hc1
      have H3 := hid h3
      have H4 := hid h4
      clear h3 h4 hfar g0 g1
      go_wp2_with fail
      refine (Wnum_any B _ bw v2 _ X.k H3.out Hxl.out.2.1 Hxl.out.2.2 ?_).mono ?_
      · have h5 := cntB_len64 (n := X.t.toNat) (by have := Hxl.out.1; omega)
        have := Hlen.out
        rw [List.length_append]
        omega
      rintro e w3 ⟨rfl, hp⟩
      obtain ⟨v3, h5, h6⟩ := hp
      have H5 := hid h5
      have H6 := hid h6
      clear h5 h6 hc1
      go_wp2
      refine ⟨⟨k + 1, v3, by go_num, by omega, hid ?_, hid (Hs.out.trans ((WrStep.of_ext (ext_alloc _ _)).trans (H4.out.trans H6.out)))⟩, by simp [intOf]; omega⟩
      have := H5.out
      rw [flat_snoc kyB l k X Hx.out]
      rw [show kyB X = cntB X.t.toNat ++ numB X.k from rfl]
      simpa [List.append_assoc] using this
    · obtain rfl : k = n := by omega
      go_wp2
      go_end0
      refine ⟨rfl, u, ?_, Hs.out⟩
      have := Hu.out
      rw [List.take_of_length_le (by rw [← Hn.out]; exact Nat.le_refl _)] at this
      unfold keysB
      rw [← Hn.out]
      exact this
end Go.Proofs.Ytgnikijaihmeeaa
