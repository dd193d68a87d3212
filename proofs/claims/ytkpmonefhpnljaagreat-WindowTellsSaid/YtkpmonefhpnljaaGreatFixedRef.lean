/-
  What the document's own answers to chapter 4 are (numbers and ops). No condition.
-/
import Derived.Test.YtkpmonefhpnljaaGreatFixedDo
namespace Go.Proofs.YtkpmonefhpnljaaGreat
open Go.RowKit

theorem value_yes (a : Int) (w : World) (h : In a) : Calls Tryz.prog 23 #[.int .i64 a] w fun e w' => e = .returned (.bool true) ∧ w = w' := by
  unfold In at h
  go_enter Tryz.func23, Tryz.ntmps23
  go_wp2
  go_ret
  exact ⟨by simp [h], rfl⟩
theorem value_no (a : Int) (w : World) (h : ¬ In a) : Calls Tryz.prog 23 #[.int .i64 a] w fun e w' => e = .returned (.bool false) ∧ w = w' := by
  have hh : a < -1000000000000 ∨ (-1000000000000 ≤ a ∧ 1000000000000 < a) := by unfold In at h; omega
  clear h
  rcases hh with h | ⟨h1, h⟩
  all_goals
    go_enter Tryz.func23, Tryz.ntmps23
    go_wp2
    go_ret
    exact ⟨by simp; try omega, rfl⟩

theorem refCompares_any (op : List UInt8) (w : World) : Calls Tryz.prog 77 #[.string (txt op)] w fun e w' => e = .returned (.bool (cmpOp op)) ∧ w = w' := by
  by_cases h : op = [61, 61]
  · subst h
    go_enter Tryz.func77, Tryz.ntmps77
    go_wp2
    go_ret
    exact ⟨rfl, rfl⟩
  have d61_61 := eqL h
  clear h
  by_cases h : op = [33, 61]
  · subst h
    go_enter Tryz.func77, Tryz.ntmps77
    go_wp2
    go_ret
    exact ⟨rfl, rfl⟩
  have d33_61 := eqL h
  clear h
  by_cases h : op = [60]
  · subst h
    go_enter Tryz.func77, Tryz.ntmps77
    go_wp2
    go_ret
    exact ⟨rfl, rfl⟩
  have d60 := eqL h
  clear h
  by_cases h : op = [60, 61]
  · subst h
    go_enter Tryz.func77, Tryz.ntmps77
    go_wp2
    go_ret
    exact ⟨rfl, rfl⟩
  have d60_61 := eqL h
  clear h
  by_cases h : op = [62]
  · subst h
    go_enter Tryz.func77, Tryz.ntmps77
    go_wp2
    go_ret
    exact ⟨rfl, rfl⟩
  have d62 := eqL h
  clear h
  by_cases h : op = [62, 61]
  · subst h
    go_enter Tryz.func77, Tryz.ntmps77
    go_wp2
    go_ret
    exact ⟨rfl, rfl⟩
  have d62_61 := eqL h
  clear h
  have hf : cmpOp op = false := by simp only [cmpOp, d61_61, d33_61, d60, d60_61, d62, d62_61]; rfl
  replace hf := Lib.hid hf
  go_enter Tryz.func77, Tryz.ntmps77
  go_wp2
  go_ret
  exact ⟨by rw [hf.out]; rfl, rfl⟩

/-- Is an op one of all? -/
def anyOp (op : List UInt8) : Bool := cmpOp op || op == [43] || op == [45] || op == [42] || op == [47] || op == [37]
theorem refOp_any (op : List UInt8) (w : World) : Calls Tryz.prog 76 #[.string (txt op)] w fun e w' => e = .returned (.bool (anyOp op)) ∧ w = w' := by
  by_cases hc : cmpOp op = true
  · have hf : anyOp op = true := by simp [anyOp, hc]
    replace hf := Lib.hid hf
    go_enter Tryz.func76, Tryz.ntmps76
    go_wp2_with fail
    refine (refCompares_any _ _).mono ?_
    rintro e w' ⟨rfl, rfl⟩
    rw [hc]
    go_wp2
    go_ret
    exact ⟨by rw [hf.out]; rfl, rfl⟩
  have hcf : cmpOp op = false := by simpa using hc
  clear hc
  by_cases h : op = [43]
  · subst h
    clear hcf
    go_enter Tryz.func76, Tryz.ntmps76
    go_wp2_with fail
    refine (refCompares_any _ _).mono ?_
    rintro e w' ⟨rfl, rfl⟩
    rw [show cmpOp [43] = false from by decide]
    go_wp2
    go_ret
    exact ⟨rfl, rfl⟩
  have d43 := eqL h
  clear h
  by_cases h : op = [45]
  · subst h
    clear hcf
    go_enter Tryz.func76, Tryz.ntmps76
    go_wp2_with fail
    refine (refCompares_any _ _).mono ?_
    rintro e w' ⟨rfl, rfl⟩
    rw [show cmpOp [45] = false from by decide]
    go_wp2
    go_ret
    exact ⟨rfl, rfl⟩
  have d45 := eqL h
  clear h
  by_cases h : op = [42]
  · subst h
    clear hcf
    go_enter Tryz.func76, Tryz.ntmps76
    go_wp2_with fail
    refine (refCompares_any _ _).mono ?_
    rintro e w' ⟨rfl, rfl⟩
    rw [show cmpOp [42] = false from by decide]
    go_wp2
    go_ret
    exact ⟨rfl, rfl⟩
  have d42 := eqL h
  clear h
  by_cases h : op = [47]
  · subst h
    clear hcf
    go_enter Tryz.func76, Tryz.ntmps76
    go_wp2_with fail
    refine (refCompares_any _ _).mono ?_
    rintro e w' ⟨rfl, rfl⟩
    rw [show cmpOp [47] = false from by decide]
    go_wp2
    go_ret
    exact ⟨rfl, rfl⟩
  have d47 := eqL h
  clear h
  by_cases h : op = [37]
  · subst h
    clear hcf
    go_enter Tryz.func76, Tryz.ntmps76
    go_wp2_with fail
    refine (refCompares_any _ _).mono ?_
    rintro e w' ⟨rfl, rfl⟩
    rw [show cmpOp [37] = false from by decide]
    go_wp2
    go_ret
    exact ⟨rfl, rfl⟩
  have d37 := eqL h
  clear h
  have hf : anyOp op = false := by simp only [anyOp, hcf, d43, d45, d42, d47, d37]; rfl
  replace hf := Lib.hid hf
  go_enter Tryz.func76, Tryz.ntmps76
  go_wp2_with fail
  refine (refCompares_any _ _).mono ?_
  rintro e w' ⟨rfl, rfl⟩
  rw [hcf]
  go_wp2
  go_ret
  exact ⟨by rw [hf.out]; rfl, rfl⟩
end Go.Proofs.YtkpmonefhpnljaaGreat
