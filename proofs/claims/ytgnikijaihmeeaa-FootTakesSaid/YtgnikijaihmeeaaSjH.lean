/- foot.keys at no key; foot.Join at the one foot that alive asks. -/
import Derived.Test.YtgnikijaihmeeaaSjF
import Derived.Test.YtgnikijaihmeeaaSjG
import Derived.Test.YtgnikijaihmeeaaSnA
import Derived.Test.YtgnikijaihmeeaaSwFd
open Go Go.RowKit
namespace Go.Proofs.Ytgnikijaihmeeaa
set_option linter.unusedVariables false
set_option linter.unusedSimpArgs false
set_option maxRecDepth 100000
theorem Compact_small (A : Option Addr) (n c : Nat) (w : World) (hn : n < 2) : Calls Try.prog 56 #[.slice A n c] w fun e w' => e = .returned (.slice A n c) ∧ w = w' := by
  have h2 : (n : Int) < 2 := by omega
  go_enter Try.func56, Try.ntmps56
  go_wp2
  go_ret
  exact ⟨rfl, rfl⟩
theorem keysC_nil : KeysC [] := fun w B A n c ho _ => by
  have h0 : n = 0 := by have := ho.1; simp at this; omega
  subst h0
  have Ho := hid ho
  have hs : ∀ w, Calls Try.prog 54 #[.slice A 0 c, .func (.func 55) #[] #[]] w fun e w' => e = .returned (.tuple #[]) ∧ w' = w := fun w => AnyF.slices_SortFunc_none Try.sortKeys A c _ w
  have Hs := hid hs
  clear ho hs
  go_enter Try.func42, Try.ntmps42
  go_wp2_with (first | (go_at_call 54; refine (Hs.out _).mono ?_; rintro e w' ⟨rfl, rfl⟩) | (go_at_call 56; refine (Compact_small _ _ _ _ (by omega)).mono ?_; rintro e w' ⟨rfl, rfl⟩))
  go_ret
  have e : keysJ [] = [] := by decide +kernel
  exact ⟨A, 0, c, rfl, by rw [e]; rfl, by rw [e]; exact Ho.out, Kp.refl _ _, Hop.refl _ _⟩
set_option maxHeartbeats 2000000 in
theorem alive_any (w : World) : Calls Try.prog 5 #[] w fun e w' => e = .returned (.bool true) ∧ Below w.heap.size w w' := by
  have hus := Try.underlying23
  go_enter Try.func5, Try.ntmps5
  go_wp2_with fail
  have HB := hid (blk_alloc (blk_new w (.cells #[.int .i64 1, .int .i64 4, .int .i64 5, .int .i64 1, .int .i64 1, .int .i64 3] 46)) (.cells #[.slice none 0 0, .slice (some ⟨w.heap.size, 0, none⟩) 2 2, .slice none 0 0] 25))
  have HC := hid (blk_new (w.alloc (.cells #[.int .i64 1, .int .i64 4, .int .i64 5, .int .i64 1, .int .i64 1, .int .i64 3] 46)) (.cells #[.slice none 0 0, .slice (some ⟨w.heap.size, 0, none⟩) 2 2, .slice none 0 0] 25))
  simp only [World.size_alloc] at HC
  have E := hid (((Below.refl w.heap.size w).alloc (Nat.le_refl _) (.cells #[.int .i64 1, .int .i64 4, .int .i64 5, .int .i64 1, .int .i64 1, .int .i64 3] 46)).alloc (by simp) (.cells #[.slice none 0 0, .slice (some ⟨w.heap.size, 0, none⟩) 2 2, .slice none 0 0] 25))
  refine (Join_any sortS_any _ [⟨⟨[], [⟨1, 4, 5⟩, ⟨1, 1, 3⟩], []⟩, none, 0, 0, some ⟨w.heap.size, 0, none⟩, 2, 2, none, 0, 0⟩] (some ⟨w.heap.size + 1, 0, none⟩) 1 1 rfl (by omega) (Rd.of_cells fun j u hu => by rw [blk_cell HC.out, Nat.zero_add]; rw [← List.getElem?_toArray] at hu; exact hu)
    (fun x hx => by
      simp only [List.mem_singleton] at hx
      subst hx
      exact ⟨rfl, rfl, rfl, (show 0 ≤ 140737488355328 by omega), (show 2 ≤ 140737488355328 by omega), (show 0 ≤ 140737488355328 by omega), Rd.nil _ _, Rd.of_cells fun j u hu => by rw [blk_cell HB.out, Nat.zero_add]; rw [← List.getElem?_toArray] at hu; exact hu, Rd.nil _ _⟩)
    keysC_nil keysC_nil (show 0 ≤ 1000000 by omega) (show 2 ≤ 1000000 by omega) (show 0 ≤ 1000000 by omega) (fun x hx => by simp [catS] at hx; rcases hx with rfl | rfl <;> decide)).mono ?_
  rintro e w1 ⟨A0, n0, c0, A1, n1, c1, A2, n2, c2, rfl, hf, hb, _⟩
  rw [show catF [⟨⟨[], [⟨1, 4, 5⟩, ⟨1, 1, 3⟩], []⟩, none, 0, 0, some ⟨w.heap.size, 0, none⟩, 2, 2, none, 0, 0⟩] = ⟨[], [⟨1, 4, 5⟩, ⟨1, 1, 3⟩], []⟩ from rfl, joinF_ex] at hf
  have E1 := hid (E.out.trans (hb.mono E.out.size))
  have h1 : n1 = 1 := hf.e1
  subst h1
  obtain ⟨b, o, rfl, hz1, hz2⟩ := hf.r1.addr (by decide)
  have hbl : b < w1.heap.size := hz1
  clear hz1 hz2
  obtain ⟨g0, g1, g2⟩ := hf.r1.sp (i := 0) (x := ⟨1, 1, 5⟩) rfl
  simp at g0 g1 g2
  have Hf := hid hf
  have hgd := guard_span
  have hq := fun w => eql_span ⟨1, 1, 5⟩ ⟨1, 1, 5⟩ w
  simp only [spV, beq_self_eq_true, Bool.and_self] at hq
  clear hf hb HB HC E
  go_wp2_with fail
  have EG : goodB ⟨[], [⟨1, 1, 5⟩], []⟩ = true := by decide +kernel
  refine (Good_any _ ⟨[], [⟨1, 1, 5⟩], []⟩ _ _ _ _ _ _ _ _ _ (Hf.out.ext (ext_alloc _ _)) (fun x hx => by simp at hx; subst hx; unfold inI; simp)).mono ?_
  rintro e w2 ⟨rfl, hb2⟩
  rw [EG]
  have E2 : Hid (Below w.heap.size w w2) := hid ((E1.out.trans ((ext_alloc w1 _).mono E1.out.size)).trans (hb2.mono (by have := E1.out.size; simp; omega)))
  clear hb2
  go_wp2
  go_ret
  exact ⟨rfl, E2.out⟩
end Go.Proofs.Ytgnikijaihmeeaa
