/-
  What the ops of package fixed answer. No condition. (soft)
-/
import Derived.Test.YtccmekdmnkmhlaaGreatProg
import Derived.Test.YtccmekdmnkmhlaaGreatAid
namespace Go.Proofs.YtccmekdmnkmhlaaGreat
open Go.RowKit

/-- A number within the limit. -/
def In (a : Int) : Prop := -1000000000000 ≤ a ∧ a ≤ 1000000000000
def b2i : Bool → Int
  | true => 1
  | false => 0
def ret2 (v e : Int) : Ending := .returned (.tuple #[.int .i64 v, .int .i64 e])

theorem right_any (a : Int) (w : World) : Calls Tryz.prog 23 #[.int .i64 a] w fun e w' => e = .returned (.bool (decide (-1000000000000 ≤ a) && decide (a ≤ 1000000000000))) ∧ w = w' := by
  go_enter Tryz.func23, Tryz.ntmps23
  go_wp2
  all_goals
    go_ret
    refine ⟨?_, rfl⟩
    apply congrArg (fun b => Ending.returned (Value.bool b))
    rw [Bool.eq_iff_iff]
    simp
    omega
theorem right_yes (a : Int) (w : World) (h : In a) : Calls Tryz.prog 23 #[.int .i64 a] w fun e w' => e = .returned (.bool true) ∧ w = w' := by
  refine (right_any a w).mono ?_
  rintro e w' ⟨rfl, rfl⟩
  have h1 : (decide (-1000000000000 ≤ a) && decide (a ≤ 1000000000000)) = true := by simp; exact h
  rw [h1]; exact ⟨rfl, rfl⟩
theorem right_no (a : Int) (w : World) (h : ¬ In a) : Calls Tryz.prog 23 #[.int .i64 a] w fun e w' => e = .returned (.bool false) ∧ w = w' := by
  refine (right_any a w).mono ?_
  rintro e w' ⟨rfl, rfl⟩
  have h1 : (decide (-1000000000000 ≤ a) && decide (a ≤ 1000000000000)) = false := by
    rw [← Bool.not_eq_true]; simpa [In] using h
  rw [h1]; exact ⟨rfl, rfl⟩

theorem in_tdiv {a b : Int} (ha : In a) : In (a.tdiv b) := by
  have h : (a.tdiv b).natAbs = a.natAbs / b.natAbs := Int.natAbs_tdiv a b
  have h2 : a.natAbs / b.natAbs ≤ a.natAbs := Nat.div_le_self _ _
  unfold In at *
  omega
theorem in_tmod {a b : Int} (ha : In a) : In (a.tmod b) := by
  have h : (a.tmod b).natAbs = a.natAbs % b.natAbs := Int.natAbs_tmod a b
  have h2 : a.natAbs % b.natAbs ≤ a.natAbs := Nat.mod_le _ _
  unfold In at *
  omega
/-- Is a product too great? -/
def tooBig (a b : Int) : Bool := decide (a ≠ 0) && decide (b ≠ 0) && decide (1000000000000 / (max b (-b)) < max a (-a))
theorem small_mul {a b : Int} (ha : In a) (hb : In b) (h : tooBig a b = false) : In (a * b) := by
  unfold In at *
  by_cases h0 : a = 0
  · subst h0; simp
  by_cases h1 : b = 0
  · subst h1; simp
  have h2 : max a (-a) ≤ 1000000000000 / max b (-b) := by
    simp only [tooBig, h0, h1, ne_eq, not_false_eq_true, decide_true, Bool.true_and, decide_eq_false_iff_not] at h
    omega
  have hb0 : 0 < max b (-b) := by omega
  have h3 := Int.mul_le_of_le_ediv hb0 h2
  have h4 : max a (-a) * max b (-b) = a * b ∨ max a (-a) * max b (-b) = -(a * b) := by
    have ea : max a (-a) = a ∨ max a (-a) = -a := by omega
    have eb : max b (-b) = b ∨ max b (-b) = -b := by omega
    rcases ea with ea | ea <;> rcases eb with eb | eb <;> rw [ea, eb]
    · exact .inl rfl
    · exact .inr (Int.mul_neg _ _)
    · exact .inr (Int.neg_mul _ _)
    · exact .inl (Int.neg_mul_neg _ _)
  have h5 : 0 ≤ max a (-a) * max b (-b) := Int.mul_nonneg (by omega) (by omega)
  generalize max a (-a) * max b (-b) = m at *
  generalize a * b = n at *
  omega
theorem wrap_in {n : Int} (h : In n) : wrap64 n = n := by unfold In at h; unfold wrap64; omega

/-- What a product comes to. -/
def TimesPost (a b : Int) (w : World) (e : Ending) (w' : World) : Prop := e = (if tooBig a b then ret2 0 4 else ret2 (a * b) 0) ∧ w = w'
theorem max_if (b : Int) : max b (-b) = if b < -b then -b else b := by split <;> omega
/-- What a comparison of two numbers by the runes of an op comes to. -/
def cmpStep (ne : Bool) (a b : Int) (o : Bool) (r : UInt8) : Bool :=
  if r = 60 then decide (a < b) else if r = 62 then decide (b < a) else if r = 61 ∧ ne = true then (a != b) else if r = 61 then (o || (a == b)) else o
def cmpV (op : List UInt8) (a b : Int) : Bool := op.foldl (cmpStep (op == [33, 61]) a b) (op == [33, 61])

theorem cmp_take (op : List UInt8) (ne : Bool) (a b : Int) (k : Nat) (h : k < op.length) : (op.take (k + 1)).foldl (cmpStep ne a b) ne = cmpStep ne a b ((op.take k).foldl (cmpStep ne a b) ne) op[k] := by
  rw [List.take_succ_eq_append_getElem h, List.foldl_append]
  rfl

end Go.Proofs.YtccmekdmnkmhlaaGreat
