/-
  What fixed.Do answers. No condition.
-/
import Derived.Test.YtkpmonefhpnljaaGreatFixedOps
import Derived.Test.YtkpmonefhpnljaaGreatShelf
namespace Go.Proofs.YtkpmonefhpnljaaGreat
open Go.RowKit

/-- Is an op one of the six that compare? -/
def cmpOp (op : List UInt8) : Bool := op == [61, 61] || op == [33, 61] || op == [60] || op == [60, 61] || op == [62] || op == [62, 61]

def sixOps : List ByteArray := [⟨#[61, 61]⟩, ⟨#[33, 61]⟩, ⟨#[60]⟩, ⟨#[60, 61]⟩, ⟨#[62]⟩, ⟨#[62, 61]⟩]
theorem six_eq (op : List UInt8) : Lib.containsS (sixOps.take 6) (txt op) = cmpOp op := by
  rw [Bool.eq_iff_iff, Lib.containsS_iff]
  have h : ∀ m : List UInt8, txt op = txt m ↔ op = m := fun m => ⟨txt_inj, fun e => by rw [e]⟩
  have e : sixOps.take 6 = [txt [61, 61], txt [33, 61], txt [60], txt [60, 61], txt [62], txt [62, 61]] := rfl
  rw [e]
  simp [h, cmpOp, or_assoc]
theorem six_cell (w : World) : ∀ j, j < sixOps.length → (w.alloc (.cells #[.string ⟨#[61, 61]⟩, .string ⟨#[33, 61]⟩, .string ⟨#[60]⟩, .string ⟨#[60, 61]⟩, .string ⟨#[62]⟩, .string ⟨#[62, 61]⟩] 9)).cell? ⟨w.heap.size, 0 + j, none⟩ = some (.string (sixOps.getD j ByteArray.empty)) := by
  intro j hj
  rw [Nat.zero_add, World.cell?_alloc_new]
  have hj' : j < 6 := hj
  have hc : j = 0 ∨ j = 1 ∨ j = 2 ∨ j = 3 ∨ j = 4 ∨ j = 5 := by omega
  rcases hc with rfl | rfl | rfl | rfl | rfl | rfl <;> rfl

theorem compares_any (op : List UInt8) (w : World) : Calls Tryz.prog 102 #[.string (txt op)] w fun e w' => e = .returned (.bool (cmpOp op)) ∧ Gr w w' := by
  have hg := gr_alloc w (.cells #[.string ⟨#[61, 61]⟩, .string ⟨#[33, 61]⟩, .string ⟨#[60]⟩, .string ⟨#[60, 61]⟩, .string ⟨#[62]⟩, .string ⟨#[62, 61]⟩] 9) none
  have hc := Tryz.slices_Contains_string w.heap.size 0 6 6 sixOps (txt op) _ (by decide) (by decide) (six_cell w)
  rw [six_eq] at hc
  replace hg := Lib.hid hg
  go_enter Tryz.func102, Tryz.ntmps102
  go_wp2_with fail
  refine hc.mono ?_
  rintro e w' ⟨rfl, rfl⟩
  clear hc
  go_wp2
  go_ret
  exact ⟨rfl, hg.out⟩

/-- What an op on two numbers comes to: the number, the error's. -/
def inB (a : Int) : Bool := decide (-1000000000000 ≤ a) && decide (a ≤ 1000000000000)
theorem inB_iff (a : Int) : inB a = true ↔ In a := by simp [inB, In]
instance (a : Int) : Decidable (In a) := by unfold In; exact inferInstance
def doV (op : List UInt8) (a b : Int) : Int × Int :=
  if ¬ (In a ∧ In b) then (0, 1)
  else if cmpOp op = true then (b2i (cmpV op a b), 0)
  else if op = [43] then (if In (a + b) then (a + b, 0) else (0, 4))
  else if op = [45] then (if In (a - b) then (a - b, 0) else (0, 4))
  else if op = [42] then (if tooBig a b = true then (0, 4) else (a * b, 0))
  else if op = [47] then (if b = 0 then (0, 5) else (a.tdiv b, 0))
  else if op = [37] then (if b = 0 then (0, 5) else (a.tmod b, 0))
  else (0, 1)
def DoPost (op : List UInt8) (a b : Int) (w : World) (e : Ending) (w' : World) : Prop := e = ret2 (doV op a b).1 (doV op a b).2 ∧ Gr w w'
theorem eqL {x y : List UInt8} (h : x ≠ y) : (x == y) = false := by rw [beq_eq_false_iff_ne]; exact h

set_option maxHeartbeats 2000000 in
theorem do_any (op : List UInt8) (a b : Int) (w : World) (xa : -9223372036854775808 ≤ a ∧ a ≤ 9223372036854775807) (xb : -9223372036854775808 ≤ b ∧ b ≤ 9223372036854775807) :
    Calls Tryz.prog 75 #[.string (txt op), .int .i64 a, .int .i64 b] w (DoPost op a b w) := by
  by_cases ha : In a
  · by_cases hb : In b
    · have hab : ¬ ¬ (In a ∧ In b) := by simp [ha, hb]
      have haI := ha
      have hbI := hb
      unfold In at ha hb
      by_cases hc : cmpOp op = true
      · have hfin : doV op a b = (b2i (cmpV op a b), 0) := by unfold doV; rw [if_neg hab, if_pos hc]
        have hlen : op.length ≤ 2 := by
          simp only [cmpOp, Bool.or_eq_true, beq_iff_eq] at hc
          rcases hc with ((((rfl | rfl) | rfl) | rfl) | rfl) | rfl <;> decide
        have hasc : ∀ x ∈ op, x.toNat < 128 := by
          simp only [cmpOp, Bool.or_eq_true, beq_iff_eq] at hc
          rcases hc with ((((rfl | rfl) | rfl) | rfl) | rfl) | rfl <;> decide
        replace hfin := Lib.hid hfin
        replace hasc := Lib.hid hasc
        replace hab := Lib.hid hab
        go_enter Tryz.func75, Tryz.ntmps75
        go_wp2_with fail
        refine (right_yes a _ haI).mono ?_
        rintro e w' ⟨rfl, rfl⟩
        go_wp2_with fail
        refine (right_yes _ _ hbI).mono ?_
        rintro e w' ⟨rfl, rfl⟩
        go_wp2_with fail
        refine (compares_any op _).mono ?_
        rintro e w1 ⟨rfl, g1⟩
        rw [hc]
        go_wp2_with fail
        refine (compare_any op a b _ hlen hasc.out).mono ?_
        unfold ret2
        rintro e w2 ⟨rfl, g2⟩
        go_wp2
        go_ret2
        exact ⟨by rw [hfin.out]; rfl, gr_trans g1 g2⟩
      · have hcf : cmpOp op = false := by simpa using hc
        by_cases c43 : op = [43]
        · subst c43
          by_cases hr : In (a + b)
          · have hfin : doV [43] a b = (a + b, 0) := by unfold doV; rw [if_neg hab, if_neg (by decide)]; skip; rw [if_pos rfl, if_pos hr]
            replace hfin := Lib.hid hfin
            replace hab := Lib.hid hab
            go_enter Tryz.func75, Tryz.ntmps75
            go_wp2_with fail
            refine (right_yes a _ haI).mono ?_
            rintro e w' ⟨rfl, rfl⟩
            go_wp2_with fail
            refine (right_yes _ _ hbI).mono ?_
            rintro e w' ⟨rfl, rfl⟩
            go_wp2_with fail
            refine (compares_any _ _).mono ?_
            rintro e w1 ⟨rfl, g1⟩
            rw [hcf]
            go_wp2_with fail
            refine (within_yes _ _ hr).mono ?_
            unfold ret2
            rintro e w2 ⟨rfl, rfl⟩
            go_wp2
            go_ret2
            exact ⟨by rw [hfin.out]; rfl, g1⟩
          · have hfin : doV [43] a b = (0, 4) := by unfold doV; rw [if_neg hab, if_neg (by decide)]; skip; rw [if_pos rfl, if_neg hr]
            replace hfin := Lib.hid hfin
            replace hab := Lib.hid hab
            go_enter Tryz.func75, Tryz.ntmps75
            go_wp2_with fail
            refine (right_yes a _ haI).mono ?_
            rintro e w' ⟨rfl, rfl⟩
            go_wp2_with fail
            refine (right_yes _ _ hbI).mono ?_
            rintro e w' ⟨rfl, rfl⟩
            go_wp2_with fail
            refine (compares_any _ _).mono ?_
            rintro e w1 ⟨rfl, g1⟩
            rw [hcf]
            go_wp2_with fail
            refine (within_no _ _ hr).mono ?_
            unfold ret2
            rintro e w2 ⟨rfl, rfl⟩
            go_wp2
            go_ret2
            exact ⟨by rw [hfin.out]; rfl, g1⟩
        by_cases c45 : op = [45]
        · subst c45
          by_cases hr : In (a - b)
          · have hfin : doV [45] a b = (a - b, 0) := by unfold doV; rw [if_neg hab, if_neg (by decide)]; rw [if_neg (by decide)]; rw [if_pos rfl, if_pos hr]
            replace hfin := Lib.hid hfin
            replace hab := Lib.hid hab
            go_enter Tryz.func75, Tryz.ntmps75
            go_wp2_with fail
            refine (right_yes a _ haI).mono ?_
            rintro e w' ⟨rfl, rfl⟩
            go_wp2_with fail
            refine (right_yes _ _ hbI).mono ?_
            rintro e w' ⟨rfl, rfl⟩
            go_wp2_with fail
            refine (compares_any _ _).mono ?_
            rintro e w1 ⟨rfl, g1⟩
            rw [hcf]
            go_wp2_with fail
            refine (within_yes _ _ hr).mono ?_
            unfold ret2
            rintro e w2 ⟨rfl, rfl⟩
            go_wp2
            go_ret2
            exact ⟨by rw [hfin.out]; rfl, g1⟩
          · have hfin : doV [45] a b = (0, 4) := by unfold doV; rw [if_neg hab, if_neg (by decide)]; rw [if_neg (by decide)]; rw [if_pos rfl, if_neg hr]
            replace hfin := Lib.hid hfin
            replace hab := Lib.hid hab
            go_enter Tryz.func75, Tryz.ntmps75
            go_wp2_with fail
            refine (right_yes a _ haI).mono ?_
            rintro e w' ⟨rfl, rfl⟩
            go_wp2_with fail
            refine (right_yes _ _ hbI).mono ?_
            rintro e w' ⟨rfl, rfl⟩
            go_wp2_with fail
            refine (compares_any _ _).mono ?_
            rintro e w1 ⟨rfl, g1⟩
            rw [hcf]
            go_wp2_with fail
            refine (within_no _ _ hr).mono ?_
            unfold ret2
            rintro e w2 ⟨rfl, rfl⟩
            go_wp2
            go_ret2
            exact ⟨by rw [hfin.out]; rfl, g1⟩
        by_cases c42 : op = [42]
        · subst c42
          have hTt : tooBig a b = true → ∀ W, Calls Tryz.prog 104 #[.int .i64 a, .int .i64 b] W fun e w' => e = .returned (.tuple #[.int .i64 0, .int .i64 4]) ∧ W = w' := fun ht W => (times_any a b W haI hbI).mono (by rintro e w' ⟨rfl, rfl⟩; rw [ht]; exact ⟨rfl, rfl⟩)
          have hTf : tooBig a b = false → ∀ W, Calls Tryz.prog 104 #[.int .i64 a, .int .i64 b] W fun e w' => e = .returned (.tuple #[.int .i64 (a * b), .int .i64 0]) ∧ W = w' := fun ht W => (times_any a b W haI hbI).mono (by rintro e w' ⟨rfl, rfl⟩; rw [ht]; exact ⟨rfl, rfl⟩)
          cases ht : tooBig a b with
          | true =>
            have hfin : doV [42] a b = (0, 4) := by unfold doV; rw [if_neg hab, if_neg (by decide)]; rw [if_neg (by decide), if_neg (by decide)]; rw [if_pos rfl, if_pos ht]
            replace hfin := Lib.hid hfin
            replace hab := Lib.hid hab
            have hT := Lib.hid (hTt ht)
            clear hTt hTf ht
            go_enter Tryz.func75, Tryz.ntmps75
            go_wp2_with fail
            refine (right_yes a _ haI).mono ?_
            rintro e w' ⟨rfl, rfl⟩
            go_wp2_with fail
            refine (right_yes _ _ hbI).mono ?_
            rintro e w' ⟨rfl, rfl⟩
            go_wp2_with fail
            refine (compares_any _ _).mono ?_
            rintro e w1 ⟨rfl, g1⟩
            rw [hcf]
            go_wp2_with fail
            refine (hT.out _).mono ?_
            rintro e w2 ⟨rfl, rfl⟩
            go_wp2
            go_ret2
            exact ⟨by rw [hfin.out]; rfl, g1⟩
          | false =>
            have hfin : doV [42] a b = (a * b, 0) := by unfold doV; rw [if_neg hab, if_neg (by decide)]; rw [if_neg (by decide), if_neg (by decide)]; rw [if_pos rfl, if_neg (by rw [ht]; decide)]
            replace hfin := Lib.hid hfin
            replace hab := Lib.hid hab
            have hT := Lib.hid (hTf ht)
            clear hTt hTf ht
            go_enter Tryz.func75, Tryz.ntmps75
            go_wp2_with fail
            refine (right_yes a _ haI).mono ?_
            rintro e w' ⟨rfl, rfl⟩
            go_wp2_with fail
            refine (right_yes _ _ hbI).mono ?_
            rintro e w' ⟨rfl, rfl⟩
            go_wp2_with fail
            refine (compares_any _ _).mono ?_
            rintro e w1 ⟨rfl, g1⟩
            rw [hcf]
            go_wp2_with fail
            refine (hT.out _).mono ?_
            rintro e w2 ⟨rfl, rfl⟩
            go_wp2
            go_ret2
            exact ⟨by rw [hfin.out]; rfl, g1⟩
        by_cases c47 : op = [47]
        · subst c47
          by_cases hz : b = 0
          · subst hz
            have hfin : doV [47] a 0 = (0, 5) := by unfold doV; rw [if_neg hab, if_neg (by decide)]; rw [if_neg (by decide), if_neg (by decide), if_neg (by decide)]; rw [if_pos rfl, if_pos rfl]
            replace hfin := Lib.hid hfin
            replace hab := Lib.hid hab
            go_enter Tryz.func75, Tryz.ntmps75
            go_wp2_with fail
            refine (right_yes a _ haI).mono ?_
            rintro e w' ⟨rfl, rfl⟩
            go_wp2_with fail
            refine (right_yes _ _ hbI).mono ?_
            rintro e w' ⟨rfl, rfl⟩
            go_wp2_with fail
            refine (compares_any _ _).mono ?_
            rintro e w1 ⟨rfl, g1⟩
            rw [hcf]
            go_wp2_with fail
            refine (divides_zero _ _ _).mono ?_
            unfold ret2
            rintro e w2 ⟨rfl, rfl⟩
            go_wp2
            go_ret2
            exact ⟨by rw [hfin.out]; rfl, g1⟩
          · have hfin : doV [47] a b = (a.tdiv b, 0) := by unfold doV; rw [if_neg hab, if_neg (by decide)]; rw [if_neg (by decide), if_neg (by decide), if_neg (by decide)]; rw [if_pos rfl, if_neg hz]
            replace hfin := Lib.hid hfin
            replace hab := Lib.hid hab
            replace hz := Lib.hid hz
            go_enter Tryz.func75, Tryz.ntmps75
            go_wp2_with fail
            refine (right_yes a _ haI).mono ?_
            rintro e w' ⟨rfl, rfl⟩
            go_wp2_with fail
            refine (right_yes _ _ hbI).mono ?_
            rintro e w' ⟨rfl, rfl⟩
            go_wp2_with fail
            refine (compares_any _ _).mono ?_
            rintro e w1 ⟨rfl, g1⟩
            rw [hcf]
            go_wp2_with fail
            refine (divides_quo _ _ _ haI hbI hz.out).mono ?_
            unfold ret2
            rintro e w2 ⟨rfl, rfl⟩
            go_wp2
            go_ret2
            exact ⟨by rw [hfin.out]; rfl, g1⟩
        by_cases c37 : op = [37]
        · subst c37
          by_cases hz : b = 0
          · subst hz
            have hfin : doV [37] a 0 = (0, 5) := by unfold doV; rw [if_neg hab, if_neg (by decide)]; rw [if_neg (by decide), if_neg (by decide), if_neg (by decide), if_neg (by decide)]; rw [if_pos rfl, if_pos rfl]
            replace hfin := Lib.hid hfin
            replace hab := Lib.hid hab
            go_enter Tryz.func75, Tryz.ntmps75
            go_wp2_with fail
            refine (right_yes a _ haI).mono ?_
            rintro e w' ⟨rfl, rfl⟩
            go_wp2_with fail
            refine (right_yes _ _ hbI).mono ?_
            rintro e w' ⟨rfl, rfl⟩
            go_wp2_with fail
            refine (compares_any _ _).mono ?_
            rintro e w1 ⟨rfl, g1⟩
            rw [hcf]
            go_wp2_with fail
            refine (divides_zero _ _ _).mono ?_
            unfold ret2
            rintro e w2 ⟨rfl, rfl⟩
            go_wp2
            go_ret2
            exact ⟨by rw [hfin.out]; rfl, g1⟩
          · have hfin : doV [37] a b = (a.tmod b, 0) := by unfold doV; rw [if_neg hab, if_neg (by decide)]; rw [if_neg (by decide), if_neg (by decide), if_neg (by decide), if_neg (by decide)]; rw [if_pos rfl, if_neg hz]
            replace hfin := Lib.hid hfin
            replace hab := Lib.hid hab
            replace hz := Lib.hid hz
            go_enter Tryz.func75, Tryz.ntmps75
            go_wp2_with fail
            refine (right_yes a _ haI).mono ?_
            rintro e w' ⟨rfl, rfl⟩
            go_wp2_with fail
            refine (right_yes _ _ hbI).mono ?_
            rintro e w' ⟨rfl, rfl⟩
            go_wp2_with fail
            refine (compares_any _ _).mono ?_
            rintro e w1 ⟨rfl, g1⟩
            rw [hcf]
            go_wp2_with fail
            refine (divides_rem _ _ _ haI hbI hz.out).mono ?_
            unfold ret2
            rintro e w2 ⟨rfl, rfl⟩
            go_wp2
            go_ret2
            exact ⟨by rw [hfin.out]; rfl, g1⟩
        have hfin : doV op a b = (0, 1) := by unfold doV; rw [if_neg hab, if_neg hc, if_neg c43, if_neg c45, if_neg c42, if_neg c47, if_neg c37]
        replace hfin := Lib.hid hfin
        replace hab := Lib.hid hab
        have d43 := eqL c43
        have d45 := eqL c45
        have d42 := eqL c42
        have d47 := eqL c47
        have d37 := eqL c37
        clear c43 c45 c42 c47 c37 hc
        go_enter Tryz.func75, Tryz.ntmps75
        go_wp2_with fail
        refine (right_yes a _ haI).mono ?_
        rintro e w' ⟨rfl, rfl⟩
        go_wp2_with fail
        refine (right_yes _ _ hbI).mono ?_
        rintro e w' ⟨rfl, rfl⟩
        go_wp2_with fail
        refine (compares_any _ _).mono ?_
        rintro e w1 ⟨rfl, g1⟩
        rw [hcf]
        go_wp2
        go_ret2
        exact ⟨by rw [hfin.out]; rfl, g1⟩
    · have hfin : doV op a b = (0, 1) := by unfold doV; rw [if_pos (by simp [hb])]
      replace hfin := Lib.hid hfin
      have haI := ha
      unfold In at ha
      go_enter Tryz.func75, Tryz.ntmps75
      go_wp2_with fail
      refine (right_yes a _ haI).mono ?_
      rintro e w' ⟨rfl, rfl⟩
      go_wp2_with fail
      refine (right_no b _ hb).mono ?_
      rintro e w' ⟨rfl, rfl⟩
      go_wp2
      go_ret2
      exact ⟨by rw [hfin.out]; rfl, gr_refl _ _⟩
  · have hfin : doV op a b = (0, 1) := by unfold doV; rw [if_pos (by simp [ha])]
    replace hfin := Lib.hid hfin
    go_enter Tryz.func75, Tryz.ntmps75
    go_wp2_with fail
    refine (right_no a _ ha).mono ?_
    rintro e w' ⟨rfl, rfl⟩
    go_wp2
    go_ret2
    exact ⟨by rw [hfin.out]; rfl, gr_refl _ _⟩
end Go.Proofs.YtkpmonefhpnljaaGreat
