/-
  Cursors and notes as numbers: which may be. No condition.
-/
import Derived.Test.YtmldoeeangekoaaGreatDoorBookRow
namespace Go.Proofs.YtmldoeeangekoaaGreatDoor
open Go.RowKit

structure Cur where
  id : Int
  rows : Int
  size : Int
  tl : Int
  file : List UInt8
deriving DecidableEq
structure Nte where
  kind : Int
  c : Cur
deriving DecidableEq
def curC (x : Cur) : List Value := [.int .i64 x.id, .int .i64 x.rows, .int .i64 x.size, .int .i64 x.tl, .string (txt x.file)]
def nteC (x : Nte) : List Value := [.int .i64 x.kind, .int .i64 x.c.id, .int .i64 x.c.rows, .int .i64 x.c.size, .int .i64 x.c.tl, .string (txt x.c.file)]
def nteV (x : Nte) : Value := .agg #[.int .i64 x.kind, .int .i64 x.c.id, .int .i64 x.c.rows, .int .i64 x.c.size, .int .i64 x.c.tl, .string (txt x.c.file)]
theorem curC_len (x : Cur) : (curC x).length = 5 := rfl
theorem nteC_len (x : Nte) : (nteC x).length = 6 := rfl
def Wf64 (a : Int) : Prop := -9223372036854775808 ≤ a ∧ a ≤ 9223372036854775807
/-- The machine's numbers, and a text that a machine can hold. -/
def CurWf (x : Cur) : Prop := Wf64 x.id ∧ Wf64 x.rows ∧ Wf64 x.size ∧ Wf64 x.tl ∧ x.file.length ≤ 9223372036854775807
def NteWf (x : Nte) : Prop := Wf64 x.kind ∧ CurWf x.c
def okOpen (x : Nte) : Prop := x.kind = 1 ∧ (1 ≤ x.c.id ∧ x.c.id ≤ 1000000) ∧ (0 ≤ x.c.rows ∧ x.c.rows ≤ 2000) ∧ (1 ≤ x.c.size ∧ x.c.size ≤ 100) ∧ (0 ≤ x.c.tl ∧ x.c.tl ≤ 1000000000) ∧ (1 ≤ x.c.file.length ∧ x.c.file.length ≤ 60)
def okClose (x : Nte) : Prop := x.kind = 2 ∧ (1 ≤ x.c.id ∧ x.c.id ≤ 1000000) ∧ x.c.rows = 0 ∧ x.c.size = 0 ∧ x.c.tl = 0 ∧ x.c.file = []
def okClock (x : Nte) : Prop := x.kind = 3 ∧ (0 ≤ x.c.tl ∧ x.c.tl ≤ 1000000000) ∧ x.c.id = 0 ∧ x.c.rows = 0 ∧ x.c.size = 0 ∧ x.c.file = []
def okSeg (x : Nte) : Prop := x.kind = 4 ∧ (0 ≤ x.c.rows ∧ x.c.rows ≤ 1000) ∧ (1 ≤ x.c.file.length ∧ x.c.file.length ≤ 60) ∧ x.c.id = 0 ∧ x.c.size = 0 ∧ x.c.tl = 0
instance (x : Nte) : Decidable (okOpen x) := by unfold okOpen; exact inferInstance
instance (x : Nte) : Decidable (okClose x) := by unfold okClose; exact inferInstance
instance (x : Nte) : Decidable (okClock x) := by unfold okClock; exact inferInstance
instance (x : Nte) : Decidable (okSeg x) := by unfold okSeg; exact inferInstance
def okN (x : Nte) : Prop := okOpen x ∨ okClose x ∨ okClock x ∨ okSeg x
instance (x : Nte) : Decidable (okN x) := by unfold okN; exact inferInstance
end Go.Proofs.YtmldoeeangekoaaGreatDoor
