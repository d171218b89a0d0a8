/- record.bare and record.rising. -/
import Derived.Test.YtgnfccdhlpeknaaSwO
import Derived.Test.YtgnfccdhlpeknaaSwFc
import Derived.Test.YtgnfccdhlpeknaaSwM
open Go Go.RowKit
namespace Go.Proofs.Ytgnfccdhlpeknaa
set_option maxRecDepth 100000
structure Wi where
  t : Int
  k : Int
  v : Int
  dead : Bool
deriving DecidableEq, Inhabited
def wiC (x : Wi) : List Value := [.int .i64 x.t, .int .i64 x.k, .int .i64 x.v, .bool x.dead]
structure Rec where
  seq : Int
  val : Bool
  pg : Pg
  ft : Ft
  ws : List Wi
/-- a record's value, read -/
structure RecRd (w : World) (x : Rec) (Ac : Option Addr) (nc cc : Nat) (A0 : Option Addr) (n0 c0 : Nat) (A1 : Option Addr) (n1 c1 : Nat) (A2 : Option Addr) (n2 c2 : Nat) (Aw : Option Addr) (nw cw : Nat) : Prop where
  p : PgRd w x.pg Ac nc cc
  f : FtRd w x.ft A0 n0 c0 A1 n1 c1 A2 n2 c2
  en : nw = x.ws.length
  bn : nw ≤ 140737488355328
  rw : Rd w Aw (x.ws.flatMap wiC)
def bareB (x : Rec) : Bool := decide (x.pg.fuel = 0) && (decide (x.pg.code.length = 0) && decide (x.ft.r.length + x.ft.s.length + x.ft.w.length = 0))
set_option maxHeartbeats 1000000 in
theorem bare_any (w : World) (x : Rec) (Ac : Option Addr) (nc cc : Nat) (A0 : Option Addr) (n0 c0 : Nat) (A1 : Option Addr) (n1 c1 : Nat) (A2 : Option Addr) (n2 c2 : Nat) (Aw : Option Addr) (nw cw : Nat) (h : RecRd w x Ac nc cc A0 n0 c0 A1 n1 c1 A2 n2 c2 Aw nw cw) :
    Calls Try.prog 18 #[.agg #[.int .i64 x.seq, .bool x.val, .int .i64 x.pg.fuel, .slice Ac nc cc, .slice A0 n0 c0, .slice A1 n1 c1, .slice A2 n2 c2, .slice Aw nw cw]] w fun e w' => e = .returned (.bool (bareB x)) ∧ Below w.heap.size w w' := by
  have h1 := h.p.b
  have h2 := h.f.b0
  have h3 := h.f.b1
  have h4 := h.f.b2
  have hB : Hid (bareB x = (decide (x.pg.fuel = 0) && (decide (nc = 0) && decide (n0 + n1 + n2 = 0)))) := by
    refine hid ?_
    unfold bareB
    rw [h.p.e, h.f.e0, h.f.e1, h.f.e2]
  clear h
  rw [hB.out]
  generalize x.pg.fuel = F at *
  generalize x.seq = S
  generalize x.val = V
  clear hB
  go_enter Try.func18, Try.ntmps18
  go_wp2
  all_goals go_ret
  all_goals refine ⟨ret_bool ?_, two_new _ _ _⟩
  all_goals rw [Bool.eq_iff_iff]
  all_goals simp
  all_goals omega
end Go.Proofs.Ytgnfccdhlpeknaa
