/- record.small, and record.take as a plain function. -/
import Derived.Test.YtgnfccdhlpeknaaSwSb
import Derived.Test.YtgnfccdhlpeknaaSwM
open Go Go.RowKit
namespace Go.Proofs.Ytgnfccdhlpeknaa
set_option maxRecDepth 100000
theorem rsmall_any (w : World) (br : Nat) (s : St) (hby : Byt s) (h : ReaderAt w br s) :
    Calls Try.prog 31 #[.pointer (some ⟨br, 0, none⟩)] w fun e w' => e = .returned (.int .i64 ((rSm s).1 : Int)) ∧ Hid (ReaderAt w' br (rSm s).2) ∧ Hid (Kp (· ≠ br) w w') := by
  have H := hid (Count_any w br s hby h)
  have e1 : Hid (rSm s = ((rCount s).1 % 4611686018427387904, (rCount s).2)) := rfl
  have hlt := rCount_lt hby
  generalize rCount s = q at H hlt e1
  obtain ⟨n, t⟩ := q
  clear hby h
  have Hlt := hid hlt
  clear hlt
  rw [e1.out]
  go_enter Try.func31, Try.ntmps31
  go_wp2_with fail
  refine H.out.mono ?_
  rintro e w1 ⟨rfl, h1, h2⟩
  go_wp2
  go_ret
  refine ⟨ret_int ?_, h1, h2⟩
  rw [mask62 Hlt.out]
  unfold wrap64
  omega
/-- one write, read -/
def rWi (s : St) : Wi × St :=
  let a := rSm s
  let b := rNum a.2
  let c := rFlag b.2
  if c.1 then (⟨a.1, b.1, 0, true⟩, c.2) else (⟨a.1, b.1, (rNum c.2).1, false⟩, (rNum c.2).2)
def wsGo : Nat → St → List Wi × St
  | 0, s => ([], s)
  | m + 1, s => if rLeft s = 0 then ([], s) else ((rWi s).1 :: (wsGo m (rWi s).2).1, (wsGo m (rWi s).2).2)
/-- a record of bytes, without the sum -/
def takeR (s : St) : Rec × St :=
  let a := rSm s
  let f := rFlag a.2
  if f.1 then
    let n := rSm f.2
    (⟨a.1, true, ⟨0, []⟩, ⟨[], [], []⟩, (wsGo n.1 n.2).1⟩, (wsGo n.1 n.2).2)
  else
    let b := rBytes f.2
    let c := rBytes b.2
    (⟨a.1, false, (decP b.1).getD ⟨0, []⟩, (takenF c.1).getD ⟨[], [], []⟩, []⟩, c.2)
theorem rFlag_byt {s : St} (h : Byt s) : Byt (rFlag s).2 := by
  cases s with
  | none => exact Byt.none
  | some l => cases l with
    | nil => exact Byt.none
    | cons b r =>
      simp only [rFlag]
      split
      · exact Byt.none
      · exact Byt.some (fun x hx => h _ rfl x (by simp [hx]))
theorem rWi_byt {s : St} (h : Byt s) : Byt (rWi s).2 := by
  unfold rWi
  have h1 : Byt (rFlag (rNum (rSm s).2).2).2 := rFlag_byt (rNum_byt (rSm_byt h))
  by_cases hc : (rFlag (rNum (rSm s).2).2).1 = true
  · simp only [hc, if_true]; exact h1
  · simp only [Bool.not_eq_true] at hc
    simp only [hc, Bool.false_eq_true, if_false]; exact rNum_byt h1
end Go.Proofs.Ytgnfccdhlpeknaa
