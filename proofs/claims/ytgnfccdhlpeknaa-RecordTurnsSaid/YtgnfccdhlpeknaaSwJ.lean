/- The walks of prog's checks. -/
import Derived.Test.YtgnfccdhlpeknaaSwA
import Derived.Test.YtgnfccdhlpeknaaProg
open Go Go.RowKit
namespace Go.Proofs.Ytgnfccdhlpeknaa
set_option maxRecDepth 100000
/-- which field a letter means -/
def fldI (l : Int) : Nat := if l == 97 || l == 115 then 1 else if l == 98 then 2 else if l == 99 then 3 else if l == 116 then 4 else 5
theorem fldI_lt (l : Int) : fldI l < 6 ∧ 0 < fldI l := by unfold fldI; (repeat' split) <;> omega
theorem pfield_any (w : World) (b : Nat) (l : Int) : Calls Try.prog 50 #[.pointer (some ⟨b, 0, none⟩), .int .u8 l] w fun e w' => e = .returned (.pointer (some ⟨b, fldI l, none⟩)) ∧ w = w' := by
  have e : ∀ i, i = fldI l → Ending.returned (.pointer (some ⟨b, i, none⟩)) = Ending.returned (.pointer (some ⟨b, fldI l, none⟩)) := fun i h => by rw [h]
  have E := hid e
  clear e
  go_enter Try.func50, Try.ntmps50
  go_wp2
  all_goals (go_ret; exact ⟨E.out _ (by unfold fldI; simp [*]), rfl⟩)
def withinB (n least most : Int) : Bool := decide (least ≤ n) && decide (n ≤ most)
theorem within_any (w : World) (n a b : Int) : Calls Try.prog 39 #[.int .i64 n, .int .i64 a, .int .i64 b] w fun e w' => e = .returned (.bool (withinB n a b)) ∧ w = w' := by
  go_enter Try.func39, Try.ntmps39
  go_wp2
  all_goals (go_ret; exact ⟨ret_bool (by unfold withinB; first | (simp [*]; done) | (simp [*]; omega)), rfl⟩)
def soundB (l n behind : Int) : Bool :=
  if l == 97 || l == 98 || l == 99 then withinB n 0 7 else if l == 116 then withinB n 0 3 else if l == 107 then withinB n 1 64 else if l == 115 then withinB n 1 behind else if l == 106 then withinB n 0 3 else true
theorem sound_any (w : World) (l n behind : Int) : Calls Try.prog 62 #[.int .u8 l, .int .i64 n, .int .i64 behind] w fun e w' => e = .returned (.bool (soundB l n behind)) ∧ w = w' := by
  go_enter Try.func62, Try.ntmps62
  go_wp2_with (go_at_call 39; refine (within_any _ _ _ _).mono ?_; rintro e w' ⟨rfl, rfl⟩)
  all_goals (go_ret; exact ⟨ret_bool (by unfold soundB; simp [*]), rfl⟩)
def str (l : List UInt8) : ByteArray := ⟨l.toArray⟩
def shapeS (op : Int) : ByteArray :=
  if op == 0 then str [97, 110] else if op == 1 then str [97, 98] else if op == 2 || op == 3 || op == 4 || op == 5 || op == 6 then str [97, 98, 99] else if op == 7 || op == 8 then str [97, 116, 98] else if op == 9 then str [116, 98, 97]
  else if op == 10 then str [116, 98] else if op == 11 || op == 12 then str [97, 116, 98, 99, 107] else if op == 13 then str [115, 98, 106, 99] else if op == 14 then str [98, 106, 99] else if op == 15 then str [97] else str []
def shapeOk (op : Int) : Bool := op == 0 || op == 1 || op == 2 || op == 3 || op == 4 || op == 5 || op == 6 || op == 7 || op == 8 || op == 9 || op == 10 || op == 11 || op == 12 || op == 13 || op == 14 || op == 15
theorem ret_shape {s s' : ByteArray} {a b : Bool} (h : s = s') (h' : a = b) : Ending.returned (.tuple #[.string s, .bool a]) = .returned (.tuple #[.string s', .bool b]) := by rw [h, h']
theorem Shape_any (w : World) (op : Int) : Calls Try.prog 49 #[.int .i64 op] w fun e w' => e = .returned (.tuple #[.string (shapeS op), .bool (shapeOk op)]) ∧ w = w' := by
  go_enter Try.func49, Try.ntmps49
  go_wp2
  all_goals (go_ret2; exact ⟨ret_shape (by unfold shapeS; simp [*, str]) (by unfold shapeOk; simp [*]), rfl⟩)
end Go.Proofs.Ytgnfccdhlpeknaa
