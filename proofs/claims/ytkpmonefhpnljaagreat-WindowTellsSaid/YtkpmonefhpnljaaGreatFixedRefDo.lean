/-
  What the document's own Do answers. No condition.
-/
import Derived.Test.YtkpmonefhpnljaaGreatFixedRef
namespace Go.Proofs.YtkpmonefhpnljaaGreat
open Go.RowKit

theorem cmp_lt (a b : Int) : cmpV [60] a b = decide (a < b) := by simp [cmpV, cmpStep]
theorem cmp_gt (a b : Int) : cmpV [62] a b = decide (b < a) := by simp [cmpV, cmpStep]
theorem cmp_eq (a b : Int) : cmpV [61, 61] a b = decide (a = b) := by
  rw [show cmpV [61, 61] a b = (a == b) from by simp [cmpV, cmpStep]]
  rw [Bool.eq_iff_iff]; simp
theorem cmp_ne (a b : Int) : cmpV [33, 61] a b = decide (a ≠ b) := by
  rw [show cmpV [33, 61] a b = (a != b) from by simp [cmpV, cmpStep]]
  rw [Bool.eq_iff_iff]; simp
theorem cmp_le (a b : Int) : cmpV [60, 61] a b = decide (a ≤ b) := by
  rw [show cmpV [60, 61] a b = (decide (a < b) || a == b) from by simp [cmpV, cmpStep]]
  rw [Bool.eq_iff_iff]; simp; omega
theorem cmp_ge (a b : Int) : cmpV [62, 61] a b = decide (b ≤ a) := by
  rw [show cmpV [62, 61] a b = (decide (b < a) || a == b) from by simp [cmpV, cmpStep]]
  rw [Bool.eq_iff_iff]; simp; omega

def RefPost (op : List UInt8) (a b : Int) (w : World) (e : Ending) (w' : World) : Prop := e = ret2 (doV op a b).1 (doV op a b).2 ∧ w = w'
set_option maxHeartbeats 1000000 in
theorem refDo_61_61 (a b : Int) (w : World) (ha : -1000000000000 ≤ a ∧ a ≤ 1000000000000) (hb : -1000000000000 ≤ b ∧ b ≤ 1000000000000) : Calls Tryz.prog 26 #[.string (txt [61, 61]), .int .i64 a, .int .i64 b] w (RefPost [61, 61] a b w) := by
  have haI : In a := ha
  have hbI : In b := hb
  have hab : ¬ ¬ (In a ∧ In b) := by simp [haI, hbI]
  have hv : doV [61, 61] a b = (b2i (decide (a = b)), 0) := by unfold doV; rw [if_neg hab, if_pos (by decide), cmp_eq]
  by_cases hh : a = b
  · have hfin : doV [61, 61] a b = (1, 0) := by rw [hv, decide_eq_true hh]; rfl
    replace hfin := Lib.hid hfin
    clear hv hab
    subst hh
    have hs : (a == a) = true := eqT rfl
    go_enter Tryz.func26, Tryz.ntmps26
    go_wp2_with fail
    refine (value_yes _ _ haI).mono ?_
    rintro e w' ⟨rfl, rfl⟩
    go_wp2_with fail
    refine (value_yes _ _ hbI).mono ?_
    rintro e w' ⟨rfl, rfl⟩
    go_wp2_with fail
    refine (refOp_any _ _).mono ?_
    rintro e w' ⟨rfl, rfl⟩
    rw [show anyOp [61, 61] = true from by decide]
    go_wp2_with fail
    refine (refCompares_any _ _).mono ?_
    rintro e w' ⟨rfl, rfl⟩
    rw [show cmpOp [61, 61] = true from by decide]
    go_wp2
    go_ret2
    exact ⟨by rw [hfin.out]; rfl, rfl⟩
  · have hfin : doV [61, 61] a b = (0, 0) := by rw [hv, decide_eq_false hh]; rfl
    replace hfin := Lib.hid hfin
    clear hv hab
    have hs : (a == b) = false := eqF hh
    go_enter Tryz.func26, Tryz.ntmps26
    go_wp2_with fail
    refine (value_yes _ _ haI).mono ?_
    rintro e w' ⟨rfl, rfl⟩
    go_wp2_with fail
    refine (value_yes _ _ hbI).mono ?_
    rintro e w' ⟨rfl, rfl⟩
    go_wp2_with fail
    refine (refOp_any _ _).mono ?_
    rintro e w' ⟨rfl, rfl⟩
    rw [show anyOp [61, 61] = true from by decide]
    go_wp2_with fail
    refine (refCompares_any _ _).mono ?_
    rintro e w' ⟨rfl, rfl⟩
    rw [show cmpOp [61, 61] = true from by decide]
    go_wp2
    go_ret2
    exact ⟨by rw [hfin.out]; rfl, rfl⟩
set_option maxHeartbeats 1000000 in
theorem refDo_33_61 (a b : Int) (w : World) (ha : -1000000000000 ≤ a ∧ a ≤ 1000000000000) (hb : -1000000000000 ≤ b ∧ b ≤ 1000000000000) : Calls Tryz.prog 26 #[.string (txt [33, 61]), .int .i64 a, .int .i64 b] w (RefPost [33, 61] a b w) := by
  have haI : In a := ha
  have hbI : In b := hb
  have hab : ¬ ¬ (In a ∧ In b) := by simp [haI, hbI]
  have hv : doV [33, 61] a b = (b2i (decide (a ≠ b)), 0) := by unfold doV; rw [if_neg hab, if_pos (by decide), cmp_ne]
  by_cases hh : a ≠ b
  · have hfin : doV [33, 61] a b = (1, 0) := by rw [hv, decide_eq_true hh]; rfl
    replace hfin := Lib.hid hfin
    clear hv hab
    have hs : (a == b) = false := eqF hh
    have hs2 : (a != b) = true := by rw [bne, hs]; rfl
    go_enter Tryz.func26, Tryz.ntmps26
    go_wp2_with fail
    refine (value_yes _ _ haI).mono ?_
    rintro e w' ⟨rfl, rfl⟩
    go_wp2_with fail
    refine (value_yes _ _ hbI).mono ?_
    rintro e w' ⟨rfl, rfl⟩
    go_wp2_with fail
    refine (refOp_any _ _).mono ?_
    rintro e w' ⟨rfl, rfl⟩
    rw [show anyOp [33, 61] = true from by decide]
    go_wp2_with fail
    refine (refCompares_any _ _).mono ?_
    rintro e w' ⟨rfl, rfl⟩
    rw [show cmpOp [33, 61] = true from by decide]
    go_wp2
    go_ret2
    exact ⟨by rw [hfin.out]; rfl, rfl⟩
  · have hfin : doV [33, 61] a b = (0, 0) := by rw [hv, decide_eq_false hh]; rfl
    replace hfin := Lib.hid hfin
    clear hv hab
    obtain rfl : a = b := by omega
    clear hh
    have hs : (a == a) = true := eqT rfl
    have hs2 : (a != a) = false := by rw [bne, hs]; rfl
    go_enter Tryz.func26, Tryz.ntmps26
    go_wp2_with fail
    refine (value_yes _ _ haI).mono ?_
    rintro e w' ⟨rfl, rfl⟩
    go_wp2_with fail
    refine (value_yes _ _ hbI).mono ?_
    rintro e w' ⟨rfl, rfl⟩
    go_wp2_with fail
    refine (refOp_any _ _).mono ?_
    rintro e w' ⟨rfl, rfl⟩
    rw [show anyOp [33, 61] = true from by decide]
    go_wp2_with fail
    refine (refCompares_any _ _).mono ?_
    rintro e w' ⟨rfl, rfl⟩
    rw [show cmpOp [33, 61] = true from by decide]
    go_wp2
    go_ret2
    exact ⟨by rw [hfin.out]; rfl, rfl⟩
set_option maxHeartbeats 1000000 in
theorem refDo_60 (a b : Int) (w : World) (ha : -1000000000000 ≤ a ∧ a ≤ 1000000000000) (hb : -1000000000000 ≤ b ∧ b ≤ 1000000000000) : Calls Tryz.prog 26 #[.string (txt [60]), .int .i64 a, .int .i64 b] w (RefPost [60] a b w) := by
  have haI : In a := ha
  have hbI : In b := hb
  have hab : ¬ ¬ (In a ∧ In b) := by simp [haI, hbI]
  have hv : doV [60] a b = (b2i (decide (a < b)), 0) := by unfold doV; rw [if_neg hab, if_pos (by decide), cmp_lt]
  by_cases hh : a < b
  · have hfin : doV [60] a b = (1, 0) := by rw [hv, decide_eq_true hh]; rfl
    replace hfin := Lib.hid hfin
    clear hv hab
    go_enter Tryz.func26, Tryz.ntmps26
    go_wp2_with fail
    refine (value_yes _ _ haI).mono ?_
    rintro e w' ⟨rfl, rfl⟩
    go_wp2_with fail
    refine (value_yes _ _ hbI).mono ?_
    rintro e w' ⟨rfl, rfl⟩
    go_wp2_with fail
    refine (refOp_any _ _).mono ?_
    rintro e w' ⟨rfl, rfl⟩
    rw [show anyOp [60] = true from by decide]
    go_wp2_with fail
    refine (refCompares_any _ _).mono ?_
    rintro e w' ⟨rfl, rfl⟩
    rw [show cmpOp [60] = true from by decide]
    go_wp2
    go_ret2
    exact ⟨by rw [hfin.out]; rfl, rfl⟩
  · have hfin : doV [60] a b = (0, 0) := by rw [hv, decide_eq_false hh]; rfl
    replace hfin := Lib.hid hfin
    clear hv hab
    go_enter Tryz.func26, Tryz.ntmps26
    go_wp2_with fail
    refine (value_yes _ _ haI).mono ?_
    rintro e w' ⟨rfl, rfl⟩
    go_wp2_with fail
    refine (value_yes _ _ hbI).mono ?_
    rintro e w' ⟨rfl, rfl⟩
    go_wp2_with fail
    refine (refOp_any _ _).mono ?_
    rintro e w' ⟨rfl, rfl⟩
    rw [show anyOp [60] = true from by decide]
    go_wp2_with fail
    refine (refCompares_any _ _).mono ?_
    rintro e w' ⟨rfl, rfl⟩
    rw [show cmpOp [60] = true from by decide]
    go_wp2
    go_ret2
    exact ⟨by rw [hfin.out]; rfl, rfl⟩
set_option maxHeartbeats 1000000 in
theorem refDo_60_61 (a b : Int) (w : World) (ha : -1000000000000 ≤ a ∧ a ≤ 1000000000000) (hb : -1000000000000 ≤ b ∧ b ≤ 1000000000000) : Calls Tryz.prog 26 #[.string (txt [60, 61]), .int .i64 a, .int .i64 b] w (RefPost [60, 61] a b w) := by
  have haI : In a := ha
  have hbI : In b := hb
  have hab : ¬ ¬ (In a ∧ In b) := by simp [haI, hbI]
  have hv : doV [60, 61] a b = (b2i (decide (a ≤ b)), 0) := by unfold doV; rw [if_neg hab, if_pos (by decide), cmp_le]
  by_cases hh : a ≤ b
  · have hfin : doV [60, 61] a b = (1, 0) := by rw [hv, decide_eq_true hh]; rfl
    replace hfin := Lib.hid hfin
    clear hv hab
    go_enter Tryz.func26, Tryz.ntmps26
    go_wp2_with fail
    refine (value_yes _ _ haI).mono ?_
    rintro e w' ⟨rfl, rfl⟩
    go_wp2_with fail
    refine (value_yes _ _ hbI).mono ?_
    rintro e w' ⟨rfl, rfl⟩
    go_wp2_with fail
    refine (refOp_any _ _).mono ?_
    rintro e w' ⟨rfl, rfl⟩
    rw [show anyOp [60, 61] = true from by decide]
    go_wp2_with fail
    refine (refCompares_any _ _).mono ?_
    rintro e w' ⟨rfl, rfl⟩
    rw [show cmpOp [60, 61] = true from by decide]
    go_wp2
    go_ret2
    exact ⟨by rw [hfin.out]; rfl, rfl⟩
  · have hfin : doV [60, 61] a b = (0, 0) := by rw [hv, decide_eq_false hh]; rfl
    replace hfin := Lib.hid hfin
    clear hv hab
    go_enter Tryz.func26, Tryz.ntmps26
    go_wp2_with fail
    refine (value_yes _ _ haI).mono ?_
    rintro e w' ⟨rfl, rfl⟩
    go_wp2_with fail
    refine (value_yes _ _ hbI).mono ?_
    rintro e w' ⟨rfl, rfl⟩
    go_wp2_with fail
    refine (refOp_any _ _).mono ?_
    rintro e w' ⟨rfl, rfl⟩
    rw [show anyOp [60, 61] = true from by decide]
    go_wp2_with fail
    refine (refCompares_any _ _).mono ?_
    rintro e w' ⟨rfl, rfl⟩
    rw [show cmpOp [60, 61] = true from by decide]
    go_wp2
    go_ret2
    exact ⟨by rw [hfin.out]; rfl, rfl⟩
set_option maxHeartbeats 1000000 in
theorem refDo_62 (a b : Int) (w : World) (ha : -1000000000000 ≤ a ∧ a ≤ 1000000000000) (hb : -1000000000000 ≤ b ∧ b ≤ 1000000000000) : Calls Tryz.prog 26 #[.string (txt [62]), .int .i64 a, .int .i64 b] w (RefPost [62] a b w) := by
  have haI : In a := ha
  have hbI : In b := hb
  have hab : ¬ ¬ (In a ∧ In b) := by simp [haI, hbI]
  have hv : doV [62] a b = (b2i (decide (b < a)), 0) := by unfold doV; rw [if_neg hab, if_pos (by decide), cmp_gt]
  by_cases hh : b < a
  · have hfin : doV [62] a b = (1, 0) := by rw [hv, decide_eq_true hh]; rfl
    replace hfin := Lib.hid hfin
    clear hv hab
    go_enter Tryz.func26, Tryz.ntmps26
    go_wp2_with fail
    refine (value_yes _ _ haI).mono ?_
    rintro e w' ⟨rfl, rfl⟩
    go_wp2_with fail
    refine (value_yes _ _ hbI).mono ?_
    rintro e w' ⟨rfl, rfl⟩
    go_wp2_with fail
    refine (refOp_any _ _).mono ?_
    rintro e w' ⟨rfl, rfl⟩
    rw [show anyOp [62] = true from by decide]
    go_wp2_with fail
    refine (refCompares_any _ _).mono ?_
    rintro e w' ⟨rfl, rfl⟩
    rw [show cmpOp [62] = true from by decide]
    go_wp2
    go_ret2
    exact ⟨by rw [hfin.out]; rfl, rfl⟩
  · have hfin : doV [62] a b = (0, 0) := by rw [hv, decide_eq_false hh]; rfl
    replace hfin := Lib.hid hfin
    clear hv hab
    go_enter Tryz.func26, Tryz.ntmps26
    go_wp2_with fail
    refine (value_yes _ _ haI).mono ?_
    rintro e w' ⟨rfl, rfl⟩
    go_wp2_with fail
    refine (value_yes _ _ hbI).mono ?_
    rintro e w' ⟨rfl, rfl⟩
    go_wp2_with fail
    refine (refOp_any _ _).mono ?_
    rintro e w' ⟨rfl, rfl⟩
    rw [show anyOp [62] = true from by decide]
    go_wp2_with fail
    refine (refCompares_any _ _).mono ?_
    rintro e w' ⟨rfl, rfl⟩
    rw [show cmpOp [62] = true from by decide]
    go_wp2
    go_ret2
    exact ⟨by rw [hfin.out]; rfl, rfl⟩
set_option maxHeartbeats 1000000 in
theorem refDo_62_61 (a b : Int) (w : World) (ha : -1000000000000 ≤ a ∧ a ≤ 1000000000000) (hb : -1000000000000 ≤ b ∧ b ≤ 1000000000000) : Calls Tryz.prog 26 #[.string (txt [62, 61]), .int .i64 a, .int .i64 b] w (RefPost [62, 61] a b w) := by
  have haI : In a := ha
  have hbI : In b := hb
  have hab : ¬ ¬ (In a ∧ In b) := by simp [haI, hbI]
  have hv : doV [62, 61] a b = (b2i (decide (b ≤ a)), 0) := by unfold doV; rw [if_neg hab, if_pos (by decide), cmp_ge]
  by_cases hh : b ≤ a
  · have hfin : doV [62, 61] a b = (1, 0) := by rw [hv, decide_eq_true hh]; rfl
    replace hfin := Lib.hid hfin
    clear hv hab
    go_enter Tryz.func26, Tryz.ntmps26
    go_wp2_with fail
    refine (value_yes _ _ haI).mono ?_
    rintro e w' ⟨rfl, rfl⟩
    go_wp2_with fail
    refine (value_yes _ _ hbI).mono ?_
    rintro e w' ⟨rfl, rfl⟩
    go_wp2_with fail
    refine (refOp_any _ _).mono ?_
    rintro e w' ⟨rfl, rfl⟩
    rw [show anyOp [62, 61] = true from by decide]
    go_wp2_with fail
    refine (refCompares_any _ _).mono ?_
    rintro e w' ⟨rfl, rfl⟩
    rw [show cmpOp [62, 61] = true from by decide]
    go_wp2
    go_ret2
    exact ⟨by rw [hfin.out]; rfl, rfl⟩
  · have hfin : doV [62, 61] a b = (0, 0) := by rw [hv, decide_eq_false hh]; rfl
    replace hfin := Lib.hid hfin
    clear hv hab
    go_enter Tryz.func26, Tryz.ntmps26
    go_wp2_with fail
    refine (value_yes _ _ haI).mono ?_
    rintro e w' ⟨rfl, rfl⟩
    go_wp2_with fail
    refine (value_yes _ _ hbI).mono ?_
    rintro e w' ⟨rfl, rfl⟩
    go_wp2_with fail
    refine (refOp_any _ _).mono ?_
    rintro e w' ⟨rfl, rfl⟩
    rw [show anyOp [62, 61] = true from by decide]
    go_wp2_with fail
    refine (refCompares_any _ _).mono ?_
    rintro e w' ⟨rfl, rfl⟩
    rw [show cmpOp [62, 61] = true from by decide]
    go_wp2
    go_ret2
    exact ⟨by rw [hfin.out]; rfl, rfl⟩
set_option maxHeartbeats 2000000 in
theorem refDo_43 (a b : Int) (w : World) (ha : -1000000000000 ≤ a ∧ a ≤ 1000000000000) (hb : -1000000000000 ≤ b ∧ b ≤ 1000000000000) : Calls Tryz.prog 26 #[.string (txt [43]), .int .i64 a, .int .i64 b] w (RefPost [43] a b w) := by
  have haI : In a := ha
  have hbI : In b := hb
  have hab : ¬ ¬ (In a ∧ In b) := by simp [haI, hbI]
  by_cases hr : In (a + b)
  · have hfin : doV [43] a b = (a + b, 0) := by unfold doV; rw [if_neg hab, if_neg (by decide)]; rw [if_pos rfl, if_pos hr]
    replace hfin := Lib.hid hfin
    clear hab
    go_enter Tryz.func26, Tryz.ntmps26
    go_wp2_with fail
    refine (value_yes _ _ haI).mono ?_
    rintro e w' ⟨rfl, rfl⟩
    go_wp2_with fail
    refine (value_yes _ _ hbI).mono ?_
    rintro e w' ⟨rfl, rfl⟩
    go_wp2_with fail
    refine (refOp_any _ _).mono ?_
    rintro e w' ⟨rfl, rfl⟩
    rw [show anyOp [43] = true from by decide]
    go_wp2_with fail
    refine (refCompares_any _ _).mono ?_
    rintro e w' ⟨rfl, rfl⟩
    rw [show cmpOp [43] = false from by decide]
    go_wp2_with fail
    refine (value_yes _ _ hr).mono ?_
    rintro e w' ⟨rfl, rfl⟩
    go_wp2
    go_ret2
    exact ⟨by rw [hfin.out]; rfl, rfl⟩
  · have hfin : doV [43] a b = (0, 4) := by unfold doV; rw [if_neg hab, if_neg (by decide)]; rw [if_pos rfl, if_neg hr]
    replace hfin := Lib.hid hfin
    clear hab
    go_enter Tryz.func26, Tryz.ntmps26
    go_wp2_with fail
    refine (value_yes _ _ haI).mono ?_
    rintro e w' ⟨rfl, rfl⟩
    go_wp2_with fail
    refine (value_yes _ _ hbI).mono ?_
    rintro e w' ⟨rfl, rfl⟩
    go_wp2_with fail
    refine (refOp_any _ _).mono ?_
    rintro e w' ⟨rfl, rfl⟩
    rw [show anyOp [43] = true from by decide]
    go_wp2_with fail
    refine (refCompares_any _ _).mono ?_
    rintro e w' ⟨rfl, rfl⟩
    rw [show cmpOp [43] = false from by decide]
    go_wp2_with fail
    refine (value_no _ _ hr).mono ?_
    rintro e w' ⟨rfl, rfl⟩
    go_wp2
    go_ret2
    exact ⟨by rw [hfin.out]; rfl, rfl⟩
set_option maxHeartbeats 2000000 in
theorem refDo_45 (a b : Int) (w : World) (ha : -1000000000000 ≤ a ∧ a ≤ 1000000000000) (hb : -1000000000000 ≤ b ∧ b ≤ 1000000000000) : Calls Tryz.prog 26 #[.string (txt [45]), .int .i64 a, .int .i64 b] w (RefPost [45] a b w) := by
  have haI : In a := ha
  have hbI : In b := hb
  have hab : ¬ ¬ (In a ∧ In b) := by simp [haI, hbI]
  by_cases hr : In (a - b)
  · have hfin : doV [45] a b = (a - b, 0) := by unfold doV; rw [if_neg hab, if_neg (by decide)]; rw [if_neg (by decide)]; rw [if_pos rfl, if_pos hr]
    replace hfin := Lib.hid hfin
    clear hab
    go_enter Tryz.func26, Tryz.ntmps26
    go_wp2_with fail
    refine (value_yes _ _ haI).mono ?_
    rintro e w' ⟨rfl, rfl⟩
    go_wp2_with fail
    refine (value_yes _ _ hbI).mono ?_
    rintro e w' ⟨rfl, rfl⟩
    go_wp2_with fail
    refine (refOp_any _ _).mono ?_
    rintro e w' ⟨rfl, rfl⟩
    rw [show anyOp [45] = true from by decide]
    go_wp2_with fail
    refine (refCompares_any _ _).mono ?_
    rintro e w' ⟨rfl, rfl⟩
    rw [show cmpOp [45] = false from by decide]
    go_wp2_with fail
    refine (value_yes _ _ hr).mono ?_
    rintro e w' ⟨rfl, rfl⟩
    go_wp2
    go_ret2
    exact ⟨by rw [hfin.out]; rfl, rfl⟩
  · have hfin : doV [45] a b = (0, 4) := by unfold doV; rw [if_neg hab, if_neg (by decide)]; rw [if_neg (by decide)]; rw [if_pos rfl, if_neg hr]
    replace hfin := Lib.hid hfin
    clear hab
    go_enter Tryz.func26, Tryz.ntmps26
    go_wp2_with fail
    refine (value_yes _ _ haI).mono ?_
    rintro e w' ⟨rfl, rfl⟩
    go_wp2_with fail
    refine (value_yes _ _ hbI).mono ?_
    rintro e w' ⟨rfl, rfl⟩
    go_wp2_with fail
    refine (refOp_any _ _).mono ?_
    rintro e w' ⟨rfl, rfl⟩
    rw [show anyOp [45] = true from by decide]
    go_wp2_with fail
    refine (refCompares_any _ _).mono ?_
    rintro e w' ⟨rfl, rfl⟩
    rw [show cmpOp [45] = false from by decide]
    go_wp2_with fail
    refine (value_no _ _ hr).mono ?_
    rintro e w' ⟨rfl, rfl⟩
    go_wp2
    go_ret2
    exact ⟨by rw [hfin.out]; rfl, rfl⟩
set_option maxHeartbeats 2000000 in
theorem refDo_42 (a b : Int) (w : World) (ha : -1000000000000 ≤ a ∧ a ≤ 1000000000000) (hb : -1000000000000 ≤ b ∧ b ≤ 1000000000000) : Calls Tryz.prog 26 #[.string (txt [42]), .int .i64 a, .int .i64 b] w (RefPost [42] a b w) := by
  have haI : In a := ha
  have hbI : In b := hb
  have hab : ¬ ¬ (In a ∧ In b) := by simp [haI, hbI]
  have hv : doV [42] a b = if tooBig a b = true then (0, 4) else (a * b, 0) := by unfold doV; rw [if_neg hab, if_neg (by decide), if_neg (by decide), if_neg (by decide), if_pos rfl]
  clear hab
  have hin := small_mul haI hbI
  by_cases h0 : a = 0
  · subst h0
    have hfin : doV [42] 0 b = (0, 0) := by rw [hv]; simp [tooBig]
    replace hfin := Lib.hid hfin
    clear hv hin
    go_enter Tryz.func26, Tryz.ntmps26
    go_wp2_with fail
    refine (value_yes _ _ haI).mono ?_
    rintro e w' ⟨rfl, rfl⟩
    go_wp2_with fail
    refine (value_yes _ _ hbI).mono ?_
    rintro e w' ⟨rfl, rfl⟩
    go_wp2_with fail
    refine (refOp_any _ _).mono ?_
    rintro e w' ⟨rfl, rfl⟩
    rw [show anyOp [42] = true from by decide]
    go_wp2_with fail
    refine (refCompares_any _ _).mono ?_
    rintro e w' ⟨rfl, rfl⟩
    rw [show cmpOp [42] = false from by decide]
    go_wp2_with fail
    refine (value_yes _ _ (by unfold In; simp [wrap64])).mono ?_
    rintro e w' ⟨rfl, rfl⟩
    go_wp2
    go_ret2
    exact ⟨by rw [hfin.out]; simp [ret2, wrap64], rfl⟩
  by_cases h1 : b = 0
  · subst h1
    have hfin : doV [42] a 0 = (0, 0) := by rw [hv]; simp [tooBig]
    replace hfin := Lib.hid hfin
    clear hv hin
    have e1 : (a != 0) = true := by simpa using h0
    go_enter Tryz.func26, Tryz.ntmps26
    go_wp2_with fail
    refine (value_yes _ _ haI).mono ?_
    rintro e w' ⟨rfl, rfl⟩
    go_wp2_with fail
    refine (value_yes _ _ hbI).mono ?_
    rintro e w' ⟨rfl, rfl⟩
    go_wp2_with fail
    refine (refOp_any _ _).mono ?_
    rintro e w' ⟨rfl, rfl⟩
    rw [show anyOp [42] = true from by decide]
    go_wp2_with fail
    refine (refCompares_any _ _).mono ?_
    rintro e w' ⟨rfl, rfl⟩
    rw [show cmpOp [42] = false from by decide]
    go_wp2_with fail
    refine (value_yes _ _ (by unfold In; simp [wrap64])).mono ?_
    rintro e w' ⟨rfl, rfl⟩
    go_wp2
    go_ret2
    exact ⟨by rw [hfin.out]; simp [ret2, wrap64], rfl⟩
  have ht : tooBig a b = decide (1000000000000 / (max b (-b)) < max a (-a)) := by simp [tooBig, h0, h1]
  have e1 : (a != 0) = true := by simpa using h0
  have e2 : (b != 0) = true := by simpa using h1
  by_cases hc : 1000000000000 / (max b (-b)) < max a (-a)
  · have hfin : doV [42] a b = (0, 4) := by rw [hv, ht, decide_eq_true hc, if_pos rfl]
    replace hfin := Lib.hid hfin
    clear hv hin ht
    have hc2 := hc
    rw [max_if, max_if] at hc2
    go_enter Tryz.func26, Tryz.ntmps26
    go_wp2_with fail
    refine (value_yes _ _ haI).mono ?_
    rintro e w' ⟨rfl, rfl⟩
    go_wp2_with fail
    refine (value_yes _ _ hbI).mono ?_
    rintro e w' ⟨rfl, rfl⟩
    go_wp2_with fail
    refine (refOp_any _ _).mono ?_
    rintro e w' ⟨rfl, rfl⟩
    rw [show anyOp [42] = true from by decide]
    go_wp2
    all_goals
      go_ret2
      exact ⟨by rw [hfin.out]; rfl, rfl⟩
  · have htf : tooBig a b = false := by rw [ht]; simpa using hc
    have hfin : doV [42] a b = (a * b, 0) := by rw [hv, htf]; rfl
    have hii := hin htf
    have hw := wrap_in hii
    replace hfin := Lib.hid hfin
    clear hv hin ht htf
    replace hii := Lib.hid hii
    have hc2 := hc
    rw [max_if, max_if] at hc2
    go_enter Tryz.func26, Tryz.ntmps26
    go_wp2_with fail
    refine (value_yes _ _ haI).mono ?_
    rintro e w' ⟨rfl, rfl⟩
    go_wp2_with fail
    refine (value_yes _ _ hbI).mono ?_
    rintro e w' ⟨rfl, rfl⟩
    go_wp2_with fail
    refine (refOp_any _ _).mono ?_
    rintro e w' ⟨rfl, rfl⟩
    rw [show anyOp [42] = true from by decide]
    go_wp2_with fail
    all_goals
      refine (refCompares_any _ _).mono ?_
      rintro e w' ⟨rfl, rfl⟩
      rw [show cmpOp [42] = false from by decide]
      go_wp2_with fail
      refine (value_yes _ _ hii.out).mono ?_
      rintro e w' ⟨rfl, rfl⟩
      go_wp2
      go_ret2
      exact ⟨by rw [hfin.out]; rfl, rfl⟩
set_option maxHeartbeats 2000000 in
theorem refDo_47 (a b : Int) (w : World) (ha : -1000000000000 ≤ a ∧ a ≤ 1000000000000) (hb : -1000000000000 ≤ b ∧ b ≤ 1000000000000) : Calls Tryz.prog 26 #[.string (txt [47]), .int .i64 a, .int .i64 b] w (RefPost [47] a b w) := by
  have haI : In a := ha
  have hbI : In b := hb
  have hab : ¬ ¬ (In a ∧ In b) := by simp [haI, hbI]
  have hv : doV [47] a b = if b = 0 then (0, 5) else (a.tdiv b, 0) := by unfold doV; rw [if_neg hab, if_neg (by decide), if_neg (by decide), if_neg (by decide), if_neg (by decide), if_pos rfl]
  clear hab
  by_cases h0 : b = 0
  · subst h0
    have hfin : doV [47] a 0 = (0, 5) := by rw [hv, if_pos rfl]
    replace hfin := Lib.hid hfin
    clear hv
    go_enter Tryz.func26, Tryz.ntmps26
    go_wp2_with fail
    refine (value_yes _ _ haI).mono ?_
    rintro e w' ⟨rfl, rfl⟩
    go_wp2_with fail
    refine (value_yes _ _ hbI).mono ?_
    rintro e w' ⟨rfl, rfl⟩
    go_wp2_with fail
    refine (refOp_any _ _).mono ?_
    rintro e w' ⟨rfl, rfl⟩
    rw [show anyOp [47] = true from by decide]
    go_wp2
    go_ret2
    exact ⟨by rw [hfin.out]; rfl, rfl⟩
  · have hfin : doV [47] a b = (a.tdiv b, 0) := by rw [hv, if_neg h0]
    have e2 : (b == 0) = false := eqF h0
    have hq : In (a.tdiv b) := in_tdiv haI
    have hr : In (a.tmod b) := in_tmod haI
    have hqr : b * a.tdiv b = a - a.tmod b := by have := Int.mul_tdiv_add_tmod a b; omega
    have hwq : wrap64 (a.tdiv b) = a.tdiv b := wrap_in hq
    clear hv
    generalize a.tmod b = r at *
    replace hfin := Lib.hid hfin
    replace hqr := Lib.hid hqr
    replace hq := Lib.hid hq
    go_enter Tryz.func26, Tryz.ntmps26
    go_wp2_with fail
    refine (value_yes _ _ haI).mono ?_
    rintro e w' ⟨rfl, rfl⟩
    go_wp2_with fail
    refine (value_yes _ _ hbI).mono ?_
    rintro e w' ⟨rfl, rfl⟩
    go_wp2_with fail
    refine (refOp_any _ _).mono ?_
    rintro e w' ⟨rfl, rfl⟩
    rw [show anyOp [47] = true from by decide]
    go_wp2_with fail
    refine (refCompares_any _ _).mono ?_
    rintro e w' ⟨rfl, rfl⟩
    rw [show cmpOp [47] = false from by decide]
    go_wp2_with fail
    refine (value_yes _ _ (by first | exact hq.out | (rw [hwq]; exact hq.out))).mono ?_
    rintro e w' ⟨rfl, rfl⟩
    go_wp2
    go_ret2
    exact ⟨by rw [hfin.out]; first | rfl | (show Ending.returned (.tuple #[.int .i64 (wrap64 (a.tdiv b)), .int .i64 0]) = _; rw [hwq]; rfl), rfl⟩
set_option maxHeartbeats 2000000 in
theorem refDo_37 (a b : Int) (w : World) (ha : -1000000000000 ≤ a ∧ a ≤ 1000000000000) (hb : -1000000000000 ≤ b ∧ b ≤ 1000000000000) : Calls Tryz.prog 26 #[.string (txt [37]), .int .i64 a, .int .i64 b] w (RefPost [37] a b w) := by
  have haI : In a := ha
  have hbI : In b := hb
  have hab : ¬ ¬ (In a ∧ In b) := by simp [haI, hbI]
  have hv : doV [37] a b = if b = 0 then (0, 5) else (a.tmod b, 0) := by unfold doV; rw [if_neg hab, if_neg (by decide), if_neg (by decide), if_neg (by decide), if_neg (by decide), if_neg (by decide), if_pos rfl]
  clear hab
  by_cases h0 : b = 0
  · subst h0
    have hfin : doV [37] a 0 = (0, 5) := by rw [hv, if_pos rfl]
    replace hfin := Lib.hid hfin
    clear hv
    go_enter Tryz.func26, Tryz.ntmps26
    go_wp2_with fail
    refine (value_yes _ _ haI).mono ?_
    rintro e w' ⟨rfl, rfl⟩
    go_wp2_with fail
    refine (value_yes _ _ hbI).mono ?_
    rintro e w' ⟨rfl, rfl⟩
    go_wp2_with fail
    refine (refOp_any _ _).mono ?_
    rintro e w' ⟨rfl, rfl⟩
    rw [show anyOp [37] = true from by decide]
    go_wp2
    go_ret2
    exact ⟨by rw [hfin.out]; rfl, rfl⟩
  · have hfin : doV [37] a b = (a.tmod b, 0) := by rw [hv, if_neg h0]
    have e2 : (b == 0) = false := eqF h0
    have hq : In (a.tdiv b) := in_tdiv haI
    have hr : In (a.tmod b) := in_tmod haI
    have hqr : b * a.tdiv b = a - a.tmod b := by have := Int.mul_tdiv_add_tmod a b; omega
    have hwq : wrap64 (a.tdiv b) = a.tdiv b := wrap_in hq
    clear hv
    have hb1 : a - (a - a.tmod b) = a.tmod b := by omega
    replace hfin := Lib.hid hfin
    go_enter Tryz.func26, Tryz.ntmps26
    go_wp2_with fail
    refine (value_yes _ _ haI).mono ?_
    rintro e w' ⟨rfl, rfl⟩
    go_wp2_with fail
    refine (value_yes _ _ hbI).mono ?_
    rintro e w' ⟨rfl, rfl⟩
    go_wp2_with fail
    refine (refOp_any _ _).mono ?_
    rintro e w' ⟨rfl, rfl⟩
    rw [show anyOp [37] = true from by decide]
    go_wp2_with fail
    refine (refCompares_any _ _).mono ?_
    rintro e w' ⟨rfl, rfl⟩
    rw [show cmpOp [37] = false from by decide]
    go_wp2_with fail
    have he : wrap64 (a - wrap64 (a - a.tmod b)) = a.tmod b := by
      unfold In at hr
      generalize a.tmod b = r at hr
      unfold wrap64
      omega
    rw [he]
    refine (value_yes _ _ hr).mono ?_
    rintro e w' ⟨rfl, rfl⟩
    go_wp2
    go_ret2
    exact ⟨by rw [hfin.out]; rfl, rfl⟩
set_option maxHeartbeats 2000000 in
theorem refDo_any (op : List UInt8) (a b : Int) (w : World) (xa : -9223372036854775808 ≤ a ∧ a ≤ 9223372036854775807) (xb : -9223372036854775808 ≤ b ∧ b ≤ 9223372036854775807) :
    Calls Tryz.prog 26 #[.string (txt op), .int .i64 a, .int .i64 b] w (RefPost op a b w) := by
  by_cases ha : In a
  · by_cases hb : In b
    · by_cases h1 : op = [61, 61]
      · subst h1; exact refDo_61_61 a b w ha hb
      by_cases h2 : op = [33, 61]
      · subst h2; exact refDo_33_61 a b w ha hb
      by_cases h3 : op = [60]
      · subst h3; exact refDo_60 a b w ha hb
      by_cases h4 : op = [60, 61]
      · subst h4; exact refDo_60_61 a b w ha hb
      by_cases h5 : op = [62]
      · subst h5; exact refDo_62 a b w ha hb
      by_cases h6 : op = [62, 61]
      · subst h6; exact refDo_62_61 a b w ha hb
      by_cases h7 : op = [43]
      · subst h7; exact refDo_43 a b w ha hb
      by_cases h8 : op = [45]
      · subst h8; exact refDo_45 a b w ha hb
      by_cases h9 : op = [42]
      · subst h9; exact refDo_42 a b w ha hb
      by_cases h10 : op = [47]
      · subst h10; exact refDo_47 a b w ha hb
      by_cases h11 : op = [37]
      · subst h11; exact refDo_37 a b w ha hb
      have hc : cmpOp op = false := by simp only [cmpOp, eqL h1, eqL h2, eqL h3, eqL h4, eqL h5, eqL h6]; rfl
      have hf : anyOp op = false := by simp only [anyOp, hc, eqL h7, eqL h8, eqL h9, eqL h10, eqL h11]; rfl
      have hfin : doV op a b = (0, 1) := by unfold doV; rw [if_neg (by simp [ha, hb]), if_neg (by rw [hc]; decide), if_neg h7, if_neg h8, if_neg h9, if_neg h10, if_neg h11]
      replace hfin := Lib.hid hfin
      clear h1 h2 h3 h4 h5 h6 h7 h8 h9 h10 h11 hc
      have haI := ha
      have hbI := hb
      go_enter Tryz.func26, Tryz.ntmps26
      go_wp2_with fail
      refine (value_yes _ _ haI).mono ?_
      rintro e w' ⟨rfl, rfl⟩
      go_wp2_with fail
      refine (value_yes _ _ hbI).mono ?_
      rintro e w' ⟨rfl, rfl⟩
      go_wp2_with fail
      refine (refOp_any _ _).mono ?_
      rintro e w' ⟨rfl, rfl⟩
      rw [hf]
      go_wp2
      go_ret2
      exact ⟨by rw [hfin.out]; rfl, rfl⟩
    · have hfin : doV op a b = (0, 1) := by unfold doV; rw [if_pos (by simp [hb])]
      replace hfin := Lib.hid hfin
      have haI := ha
      go_enter Tryz.func26, Tryz.ntmps26
      go_wp2_with fail
      refine (value_yes _ _ haI).mono ?_
      rintro e w' ⟨rfl, rfl⟩
      go_wp2_with fail
      refine (value_no _ _ hb).mono ?_
      rintro e w' ⟨rfl, rfl⟩
      go_wp2
      go_ret2
      exact ⟨by rw [hfin.out]; rfl, rfl⟩
  · have hfin : doV op a b = (0, 1) := by unfold doV; rw [if_pos (by simp [ha])]
    replace hfin := Lib.hid hfin
    go_enter Tryz.func26, Tryz.ntmps26
    go_wp2_with fail
    refine (value_no _ _ ha).mono ?_
    rintro e w' ⟨rfl, rfl⟩
    go_wp2
    go_ret2
    exact ⟨by rw [hfin.out]; rfl, rfl⟩
end Go.Proofs.YtkpmonefhpnljaaGreat
