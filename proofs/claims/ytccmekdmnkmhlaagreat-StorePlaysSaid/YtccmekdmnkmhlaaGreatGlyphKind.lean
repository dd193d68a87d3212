/-
  What glyph.Kind and the document's Kind answer. No condition. (soft)
-/
import Derived.Test.YtccmekdmnkmhlaaGreatAid
import Derived.Test.YtccmekdmnkmhlaaGreatGlyphMath
import Derived.Test.YtccmekdmnkmhlaaGreatProg
namespace Go.Proofs.YtccmekdmnkmhlaaGreat
open Go.RowKit

def isLetter (r : Int) : Bool := decide (97 ≤ r ∧ r ≤ 122 ∨ 65 ≤ r ∧ r ≤ 90 ∨ r = 95 ∨ 128 ≤ r)
/-- The kind of a rune. -/
def kind (r : Int) : Int :=
  if r < 0 ∨ r = 65533 then 0 else if isLetter r = true then 1 else if 48 ≤ r ∧ r ≤ 57 then 2 else if r = 32 ∨ r = 9 ∨ r = 10 then 3 else 4

theorem kind_any (r : Int) (w : World) : Calls Tryz.prog 132 #[.int .i32 r] w fun e w' => e = .returned (.int .i64 (kind r)) ∧ w = w' := by
  go_enter Tryz.func132, Tryz.ntmps132
  go_wp2
  all_goals
    go_ret
    refine ⟨?_, rfl⟩
    simp only [beq_iff_eq, beq_eq_false_iff_ne, ne_eq] at *
    unfold kind isLetter
    repeat' split
    all_goals first | (exfalso; omega) | (exfalso; simp only [decide_eq_true_eq] at *; omega) | (exfalso; simp at *; done) | rfl
theorem refKind_any (r : Int) (w : World) : Calls Tryz.prog 122 #[.int .i32 r] w fun e w' => e = .returned (.int .i64 (kind r)) ∧ w = w' := by
  go_enter Tryz.func122, Tryz.ntmps122
  go_wp2
  all_goals
    go_ret
    refine ⟨?_, rfl⟩
    simp only [beq_iff_eq, beq_eq_false_iff_ne, ne_eq] at *
    unfold kind isLetter
    repeat' split
    all_goals first | (exfalso; omega) | (exfalso; simp only [decide_eq_true_eq] at *; omega) | (exfalso; simp at *; done) | rfl
theorem kind_rng (r : Int) : 0 ≤ kind r ∧ kind r ≤ 4 := by
  unfold kind
  repeat' split
  all_goals omega
end Go.Proofs.YtccmekdmnkmhlaaGreat
