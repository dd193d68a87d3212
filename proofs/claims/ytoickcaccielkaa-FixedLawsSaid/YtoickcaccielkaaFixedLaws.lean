/-
  FixedLaws holds of the program: for every input the call returns true and leaves what came in as it was. No condition.
-/
import Derived.Test.YtoickcaccielkaaRows
import Derived.Test.YtoickcaccielkaaFixedRank
import Derived.WalkKit
import Derived.ProofKit
import Derived.OpenShut
import Derived.ShutString
import Derived.ChangeOld
import Derived.Below
namespace Go.Proofs.Ytoickcaccielkaa.fixedLaws
open Go.ChangeShapes Go.WideShapes Go.ChangeAt Go.RowKit
open Go.ChangeMaps (open_string shut_string)
set_option linter.unusedVariables false

theorem own : ownKnob Try.prog.godebug = none := by kernel_rfl
theorem laidOut : laidOutB Try.prog = true := by kernel_rfl

theorem do_eq (op : ByteArray) (a b : Int) (v e : Int) (h : doV op.data.toList a b = (v, e)) (xa : -9223372036854775808 ≤ a ∧ a ≤ 9223372036854775807) (xb : -9223372036854775808 ≤ b ∧ b ≤ 9223372036854775807) (W : World) :
    Calls Try.prog 10 #[.string op, .int .i64 a, .int .i64 b] W fun e' w' => e' = .returned (.tuple #[.int .i64 v, .int .i64 e]) ∧ Gr W w' := by
  have := do_any op.data.toList a b W xa xb
  rw [txt_of] at this
  refine this.mono ?_
  rintro e' w' ⟨rfl, g⟩
  rw [h]
  exact ⟨rfl, g⟩
theorem doV42 {a b : Int} (ha : In a) (hb : In b) : doV [42] a b = if tooBig a b = true then (0, 4) else (a * b, 0) := by
  unfold doV
  rw [if_neg (by simp [ha, hb]), if_neg (by decide), if_neg (by decide), if_neg (by decide), if_pos rfl]
theorem cmp_lt (a b : Int) : cmpV [60] a b = decide (a < b) := by simp [cmpV, cmpStep]
theorem cmp_gt (a b : Int) : cmpV [62] a b = decide (b < a) := by simp [cmpV, cmpStep]
theorem cmp_eq (a b : Int) : cmpV [61, 61] a b = (a == b) := by simp [cmpV, cmpStep]
theorem tooBig_comm (a b : Int) (ha : In a) (hb : In b) : tooBig a b = tooBig b a := by
  rw [Bool.eq_iff_iff]
  simp only [tooBig, Bool.and_eq_true, decide_eq_true_eq]
  have key : ∀ x y : Int, 0 < x → 0 < y → (1000000000000 / y < x ↔ 1000000000000 / x < y) := by
    intro x y hx hy
    rw [Int.ediv_lt_iff_lt_mul hy, Int.ediv_lt_iff_lt_mul hx, Int.mul_comm]
  constructor
  · rintro ⟨⟨h1, h2⟩, h3⟩
    exact ⟨⟨h2, h1⟩, (key (max a (-a)) (max b (-b)) (by omega) (by omega)).1 h3⟩
  · rintro ⟨⟨h1, h2⟩, h3⟩
    exact ⟨⟨h2, h1⟩, (key (max b (-b)) (max a (-a)) (by omega) (by omega)).1 h3⟩

set_option maxHeartbeats 8000000 in
set_option maxRecDepth 100000 in
theorem walk (w : World) (a0 : Int) (w0 : (Lit.int .i64 a0).wf = true) (a1 : Int) (w1 : (Lit.int .i64 a1).wf = true) :
    Calls Try.prog 4 #[.int .i64 a0, .int .i64 a1] w fun e w' => e = .returned (.bool true) ∧ Below w.heap.size w w' := by
  have x0 := rng_i64 w0
  have x1 := rng_i64 w1
  clear w0 w1
  by_cases ha : In a0
  · by_cases hb : In a1
    · have haI := ha
      have hbI := hb
      have hab : ¬ ¬ (In a0 ∧ In a1) := by simp [ha, hb]
      have hba : ¬ ¬ (In a1 ∧ In a0) := by simp [ha, hb]
      unfold In at ha hb
      obtain ⟨u, g, hug⟩ : ∃ u g, doV [42] a0 a1 = (u, g) := ⟨_, _, rfl⟩
      have hvu : doV [42] a1 a0 = (u, g) := by
        rw [← hug, doV42 haI hbI, doV42 hbI haI, tooBig_comm a1 a0 hbI haI, Int.mul_comm]
      have cm := Lib.hid (do_eq ⟨#[42]⟩ a0 a1 u g hug x0 x1)
      have cm' := Lib.hid (do_eq ⟨#[42]⟩ a1 a0 u g hvu x1 x0)
      have hlt : doV [60] a0 a1 = (b2i (decide (a0 < a1)), 0) := by unfold doV; rw [if_neg hab, if_pos (by decide), cmp_lt]
      have hgt : doV [62] a0 a1 = (b2i (decide (a1 < a0)), 0) := by unfold doV; rw [if_neg hab, if_pos (by decide), cmp_gt]
      have heq : doV [61, 61] a0 a1 = (b2i (a0 == a1), 0) := by unfold doV; rw [if_neg hab, if_pos (by decide), cmp_eq]
      clear hug hvu
      have hq : doV [47] a0 a1 = if a1 = 0 then (0, 5) else (a0.tdiv a1, 0) := by unfold doV; rw [if_neg hab, if_neg (by decide), if_neg (by decide), if_neg (by decide), if_neg (by decide), if_pos rfl]
      have hr : doV [37] a0 a1 = if a1 = 0 then (0, 5) else (a0.tmod a1, 0) := by unfold doV; rw [if_neg hab, if_neg (by decide), if_neg (by decide), if_neg (by decide), if_neg (by decide), if_neg (by decide), if_pos rfl]
      have hqr : a0.tdiv a1 * a1 = a0 - a0.tmod a1 := by have := Int.tdiv_mul_add_tmod a0 a1; omega
      have hqi : In (a0.tdiv a1) := in_tdiv haI
      have hri : In (a0.tmod a1) := in_tmod haI
      generalize a0.tdiv a1 = q at hq hqr hqi
      generalize a0.tmod a1 = r at hr hqr hri
      unfold In at hqi hri
      obtain ⟨sv, se, hs, hs', hz⟩ : ∃ sv se, doV [43] a0 a1 = (sv, se) ∧ doV [43] a1 a0 = (sv, se) ∧ ((se = 0 ∧ In sv ∧ doV [45] sv a1 = (a0, 0)) ∨ se = 4) := by
        by_cases hin : In (a0 + a1)
        · refine ⟨a0 + a1, 0, ?_, ?_, .inl ⟨rfl, hin, ?_⟩⟩
          · unfold doV; rw [if_neg hab, if_neg (by decide), if_pos rfl, if_pos hin]
          · unfold doV; rw [if_neg hba, if_neg (by decide), if_pos rfl, Int.add_comm, if_pos hin]
          · unfold doV; rw [if_neg (by simp [hin, hbI]), if_neg (by decide), if_neg (by decide), if_pos rfl, show a0 + a1 - a1 = a0 from by omega, if_pos haI]
        · refine ⟨0, 4, ?_, ?_, .inr rfl⟩
          · unfold doV; rw [if_neg hab, if_neg (by decide), if_pos rfl, if_neg hin]
          · unfold doV; rw [if_neg hba, if_neg (by decide), if_pos rfl, Int.add_comm, if_neg hin]
      have cs := Lib.hid (do_eq ⟨#[43]⟩ a0 a1 sv se hs x0 x1)
      have cs' := Lib.hid (do_eq ⟨#[43]⟩ a1 a0 sv se hs' x1 x0)
      clear hs hs' hab hba
      have hlt1 := Lib.hid hlt
      have hgt1 := Lib.hid hgt
      have heq1 := Lib.hid heq
      have hq1 := Lib.hid hq
      have hr1 := Lib.hid hr
      clear hlt hgt heq hq hr
      replace hqr := Lib.hid hqr
      rcases hz with ⟨rfl, hsin, hz⟩ | rfl
      · unfold In at hsin
        have cz := Lib.hid (do_eq ⟨#[45]⟩ sv a1 a0 0 hz (by omega) x1)
        clear hz
        by_cases hb0 : a1 = 0
        · subst hb0
          have cq := Lib.hid (do_eq ⟨#[47]⟩ a0 0 0 5 (hq1.out.trans (if_pos rfl)) x0 x1)
          have cr := Lib.hid (do_eq ⟨#[37]⟩ a0 0 0 5 (hr1.out.trans (if_pos rfl)) x0 x1)
          go_enter Try.func4, Try.ntmps4
          go_wp2_with fail
          refine (right_yes _ _ haI).mono ?_
          rintro e w0 ⟨rfl, rfl⟩
          go_wp2_with fail
          refine (right_yes _ _ hbI).mono ?_
          rintro e w0 ⟨rfl, rfl⟩
          go_wp2_with fail
          refine (alive_any _).mono ?_
          rintro e w1 ⟨rfl, g1⟩
          go_wp2_with fail
          refine (cs.out _).mono ?_
          rintro e w2 ⟨rfl, g2⟩
          go_wp2_with fail
          refine (cs'.out _).mono ?_
          rintro e w3 ⟨rfl, g3⟩
          go_wp2_with fail
          refine (cm.out _).mono ?_
          rintro e w4 ⟨rfl, g4⟩
          go_wp2_with fail
          refine (cm'.out _).mono ?_
          rintro e w5 ⟨rfl, g5⟩
          go_wp2_with fail
          refine (cz.out _).mono ?_
          rintro e w6 ⟨rfl, g6⟩
          go_wp2_with fail
          refine (cq.out _).mono ?_
          rintro e w7 ⟨rfl, g7⟩
          go_wp2_with fail
          refine (cr.out _).mono ?_
          rintro e w8 ⟨rfl, g8⟩
          go_wp2
          go_ret
          exact ⟨rfl, gr_below (gr_trans (gr_trans (gr_trans (gr_trans (gr_trans (gr_trans (gr_trans g1 g2) g3) g4) g5) g6) g7) g8)⟩
        · have hbf : (a1 == 0) = false := eqF hb0
          have cq := Lib.hid (do_eq ⟨#[47]⟩ a0 a1 q 0 (hq1.out.trans (if_neg hb0)) x0 x1)
          have cr := Lib.hid (do_eq ⟨#[37]⟩ a0 a1 r 0 (hr1.out.trans (if_neg hb0)) x0 x1)
          clear hb0
          rcases Int.lt_trichotomy a0 a1 with ho | ho | ho
          · have cl := Lib.hid (do_eq ⟨#[60]⟩ a0 a1 1 0 (by show doV [60] a0 a1 = _; rw [hlt1.out, decide_eq_true (by omega)]; rfl) x0 x1)
            have cg := Lib.hid (do_eq ⟨#[62]⟩ a0 a1 0 0 (by show doV [62] a0 a1 = _; rw [hgt1.out, decide_eq_false (by omega)]; rfl) x0 x1)
            have ce := Lib.hid (do_eq ⟨#[61, 61]⟩ a0 a1 0 0 (by show doV [61, 61] a0 a1 = _; rw [heq1.out, eqF (by omega)]; rfl) x0 x1)
            replace ho := Lib.hid ho
            go_enter Try.func4, Try.ntmps4
            go_wp2_with fail
            refine (right_yes _ _ haI).mono ?_
            rintro e w0 ⟨rfl, rfl⟩
            go_wp2_with fail
            refine (right_yes _ _ hbI).mono ?_
            rintro e w0 ⟨rfl, rfl⟩
            go_wp2_with fail
            refine (alive_any _).mono ?_
            rintro e w1 ⟨rfl, g1⟩
            go_wp2_with fail
            refine (cs.out _).mono ?_
            rintro e w2 ⟨rfl, g2⟩
            go_wp2_with fail
            refine (cs'.out _).mono ?_
            rintro e w3 ⟨rfl, g3⟩
            go_wp2_with fail
            refine (cm.out _).mono ?_
            rintro e w4 ⟨rfl, g4⟩
            go_wp2_with fail
            refine (cm'.out _).mono ?_
            rintro e w5 ⟨rfl, g5⟩
            go_wp2_with fail
            refine (cz.out _).mono ?_
            rintro e w6 ⟨rfl, g6⟩
            go_wp2_with fail
            refine (cq.out _).mono ?_
            rintro e w7 ⟨rfl, g7⟩
            go_wp2_with fail
            refine (cr.out _).mono ?_
            rintro e w8 ⟨rfl, g8⟩
            go_wp2_with fail
            refine (cl.out _).mono ?_
            rintro e w9 ⟨rfl, g9⟩
            go_wp2_with fail
            refine (cg.out _).mono ?_
            rintro e w10 ⟨rfl, g10⟩
            go_wp2_with fail
            refine (ce.out _).mono ?_
            rintro e w11 ⟨rfl, g11⟩
            have hqv := hqr.out
            have hfin : a0 - r + r = a0 := by omega
            go_wp2
            go_ret
            exact ⟨rfl, gr_below (gr_trans (gr_trans (gr_trans (gr_trans (gr_trans (gr_trans (gr_trans (gr_trans (gr_trans (gr_trans g1 g2) g3) g4) g5) g6) g7) g8) g9) g10) g11)⟩
          · have cl := Lib.hid (do_eq ⟨#[60]⟩ a0 a1 0 0 (by show doV [60] a0 a1 = _; rw [hlt1.out, decide_eq_false (by omega)]; rfl) x0 x1)
            have cg := Lib.hid (do_eq ⟨#[62]⟩ a0 a1 0 0 (by show doV [62] a0 a1 = _; rw [hgt1.out, decide_eq_false (by omega)]; rfl) x0 x1)
            have ce := Lib.hid (do_eq ⟨#[61, 61]⟩ a0 a1 1 0 (by show doV [61, 61] a0 a1 = _; rw [heq1.out, eqT (by omega)]; rfl) x0 x1)
            replace ho := Lib.hid ho
            go_enter Try.func4, Try.ntmps4
            go_wp2_with fail
            refine (right_yes _ _ haI).mono ?_
            rintro e w0 ⟨rfl, rfl⟩
            go_wp2_with fail
            refine (right_yes _ _ hbI).mono ?_
            rintro e w0 ⟨rfl, rfl⟩
            go_wp2_with fail
            refine (alive_any _).mono ?_
            rintro e w1 ⟨rfl, g1⟩
            go_wp2_with fail
            refine (cs.out _).mono ?_
            rintro e w2 ⟨rfl, g2⟩
            go_wp2_with fail
            refine (cs'.out _).mono ?_
            rintro e w3 ⟨rfl, g3⟩
            go_wp2_with fail
            refine (cm.out _).mono ?_
            rintro e w4 ⟨rfl, g4⟩
            go_wp2_with fail
            refine (cm'.out _).mono ?_
            rintro e w5 ⟨rfl, g5⟩
            go_wp2_with fail
            refine (cz.out _).mono ?_
            rintro e w6 ⟨rfl, g6⟩
            go_wp2_with fail
            refine (cq.out _).mono ?_
            rintro e w7 ⟨rfl, g7⟩
            go_wp2_with fail
            refine (cr.out _).mono ?_
            rintro e w8 ⟨rfl, g8⟩
            go_wp2_with fail
            refine (cl.out _).mono ?_
            rintro e w9 ⟨rfl, g9⟩
            go_wp2_with fail
            refine (cg.out _).mono ?_
            rintro e w10 ⟨rfl, g10⟩
            go_wp2_with fail
            refine (ce.out _).mono ?_
            rintro e w11 ⟨rfl, g11⟩
            have hqv := hqr.out
            have hfin : a0 - r + r = a0 := by omega
            go_wp2
            go_ret
            exact ⟨rfl, gr_below (gr_trans (gr_trans (gr_trans (gr_trans (gr_trans (gr_trans (gr_trans (gr_trans (gr_trans (gr_trans g1 g2) g3) g4) g5) g6) g7) g8) g9) g10) g11)⟩
          · have cl := Lib.hid (do_eq ⟨#[60]⟩ a0 a1 0 0 (by show doV [60] a0 a1 = _; rw [hlt1.out, decide_eq_false (by omega)]; rfl) x0 x1)
            have cg := Lib.hid (do_eq ⟨#[62]⟩ a0 a1 1 0 (by show doV [62] a0 a1 = _; rw [hgt1.out, decide_eq_true (by omega)]; rfl) x0 x1)
            have ce := Lib.hid (do_eq ⟨#[61, 61]⟩ a0 a1 0 0 (by show doV [61, 61] a0 a1 = _; rw [heq1.out, eqF (by omega)]; rfl) x0 x1)
            replace ho := Lib.hid ho
            go_enter Try.func4, Try.ntmps4
            go_wp2_with fail
            refine (right_yes _ _ haI).mono ?_
            rintro e w0 ⟨rfl, rfl⟩
            go_wp2_with fail
            refine (right_yes _ _ hbI).mono ?_
            rintro e w0 ⟨rfl, rfl⟩
            go_wp2_with fail
            refine (alive_any _).mono ?_
            rintro e w1 ⟨rfl, g1⟩
            go_wp2_with fail
            refine (cs.out _).mono ?_
            rintro e w2 ⟨rfl, g2⟩
            go_wp2_with fail
            refine (cs'.out _).mono ?_
            rintro e w3 ⟨rfl, g3⟩
            go_wp2_with fail
            refine (cm.out _).mono ?_
            rintro e w4 ⟨rfl, g4⟩
            go_wp2_with fail
            refine (cm'.out _).mono ?_
            rintro e w5 ⟨rfl, g5⟩
            go_wp2_with fail
            refine (cz.out _).mono ?_
            rintro e w6 ⟨rfl, g6⟩
            go_wp2_with fail
            refine (cq.out _).mono ?_
            rintro e w7 ⟨rfl, g7⟩
            go_wp2_with fail
            refine (cr.out _).mono ?_
            rintro e w8 ⟨rfl, g8⟩
            go_wp2_with fail
            refine (cl.out _).mono ?_
            rintro e w9 ⟨rfl, g9⟩
            go_wp2_with fail
            refine (cg.out _).mono ?_
            rintro e w10 ⟨rfl, g10⟩
            go_wp2_with fail
            refine (ce.out _).mono ?_
            rintro e w11 ⟨rfl, g11⟩
            have hqv := hqr.out
            have hfin : a0 - r + r = a0 := by omega
            go_wp2
            go_ret
            exact ⟨rfl, gr_below (gr_trans (gr_trans (gr_trans (gr_trans (gr_trans (gr_trans (gr_trans (gr_trans (gr_trans (gr_trans g1 g2) g3) g4) g5) g6) g7) g8) g9) g10) g11)⟩
      · by_cases hb0 : a1 = 0
        · subst hb0
          have cq := Lib.hid (do_eq ⟨#[47]⟩ a0 0 0 5 (hq1.out.trans (if_pos rfl)) x0 x1)
          have cr := Lib.hid (do_eq ⟨#[37]⟩ a0 0 0 5 (hr1.out.trans (if_pos rfl)) x0 x1)
          go_enter Try.func4, Try.ntmps4
          go_wp2_with fail
          refine (right_yes _ _ haI).mono ?_
          rintro e w0 ⟨rfl, rfl⟩
          go_wp2_with fail
          refine (right_yes _ _ hbI).mono ?_
          rintro e w0 ⟨rfl, rfl⟩
          go_wp2_with fail
          refine (alive_any _).mono ?_
          rintro e w1 ⟨rfl, g1⟩
          go_wp2_with fail
          refine (cs.out _).mono ?_
          rintro e w2 ⟨rfl, g2⟩
          go_wp2_with fail
          refine (cs'.out _).mono ?_
          rintro e w3 ⟨rfl, g3⟩
          go_wp2_with fail
          refine (cm.out _).mono ?_
          rintro e w4 ⟨rfl, g4⟩
          go_wp2_with fail
          refine (cm'.out _).mono ?_
          rintro e w5 ⟨rfl, g5⟩
          go_wp2_with fail
          refine (cq.out _).mono ?_
          rintro e w7 ⟨rfl, g7⟩
          go_wp2_with fail
          refine (cr.out _).mono ?_
          rintro e w8 ⟨rfl, g8⟩
          go_wp2
          go_ret
          exact ⟨rfl, gr_below (gr_trans (gr_trans (gr_trans (gr_trans (gr_trans (gr_trans g1 g2) g3) g4) g5) g7) g8)⟩
        · have hbf : (a1 == 0) = false := eqF hb0
          have cq := Lib.hid (do_eq ⟨#[47]⟩ a0 a1 q 0 (hq1.out.trans (if_neg hb0)) x0 x1)
          have cr := Lib.hid (do_eq ⟨#[37]⟩ a0 a1 r 0 (hr1.out.trans (if_neg hb0)) x0 x1)
          clear hb0
          rcases Int.lt_trichotomy a0 a1 with ho | ho | ho
          · have cl := Lib.hid (do_eq ⟨#[60]⟩ a0 a1 1 0 (by show doV [60] a0 a1 = _; rw [hlt1.out, decide_eq_true (by omega)]; rfl) x0 x1)
            have cg := Lib.hid (do_eq ⟨#[62]⟩ a0 a1 0 0 (by show doV [62] a0 a1 = _; rw [hgt1.out, decide_eq_false (by omega)]; rfl) x0 x1)
            have ce := Lib.hid (do_eq ⟨#[61, 61]⟩ a0 a1 0 0 (by show doV [61, 61] a0 a1 = _; rw [heq1.out, eqF (by omega)]; rfl) x0 x1)
            replace ho := Lib.hid ho
            go_enter Try.func4, Try.ntmps4
            go_wp2_with fail
            refine (right_yes _ _ haI).mono ?_
            rintro e w0 ⟨rfl, rfl⟩
            go_wp2_with fail
            refine (right_yes _ _ hbI).mono ?_
            rintro e w0 ⟨rfl, rfl⟩
            go_wp2_with fail
            refine (alive_any _).mono ?_
            rintro e w1 ⟨rfl, g1⟩
            go_wp2_with fail
            refine (cs.out _).mono ?_
            rintro e w2 ⟨rfl, g2⟩
            go_wp2_with fail
            refine (cs'.out _).mono ?_
            rintro e w3 ⟨rfl, g3⟩
            go_wp2_with fail
            refine (cm.out _).mono ?_
            rintro e w4 ⟨rfl, g4⟩
            go_wp2_with fail
            refine (cm'.out _).mono ?_
            rintro e w5 ⟨rfl, g5⟩
            go_wp2_with fail
            refine (cq.out _).mono ?_
            rintro e w7 ⟨rfl, g7⟩
            go_wp2_with fail
            refine (cr.out _).mono ?_
            rintro e w8 ⟨rfl, g8⟩
            go_wp2_with fail
            refine (cl.out _).mono ?_
            rintro e w9 ⟨rfl, g9⟩
            go_wp2_with fail
            refine (cg.out _).mono ?_
            rintro e w10 ⟨rfl, g10⟩
            go_wp2_with fail
            refine (ce.out _).mono ?_
            rintro e w11 ⟨rfl, g11⟩
            have hqv := hqr.out
            have hfin : a0 - r + r = a0 := by omega
            go_wp2
            go_ret
            exact ⟨rfl, gr_below (gr_trans (gr_trans (gr_trans (gr_trans (gr_trans (gr_trans (gr_trans (gr_trans (gr_trans g1 g2) g3) g4) g5) g7) g8) g9) g10) g11)⟩
          · have cl := Lib.hid (do_eq ⟨#[60]⟩ a0 a1 0 0 (by show doV [60] a0 a1 = _; rw [hlt1.out, decide_eq_false (by omega)]; rfl) x0 x1)
            have cg := Lib.hid (do_eq ⟨#[62]⟩ a0 a1 0 0 (by show doV [62] a0 a1 = _; rw [hgt1.out, decide_eq_false (by omega)]; rfl) x0 x1)
            have ce := Lib.hid (do_eq ⟨#[61, 61]⟩ a0 a1 1 0 (by show doV [61, 61] a0 a1 = _; rw [heq1.out, eqT (by omega)]; rfl) x0 x1)
            replace ho := Lib.hid ho
            go_enter Try.func4, Try.ntmps4
            go_wp2_with fail
            refine (right_yes _ _ haI).mono ?_
            rintro e w0 ⟨rfl, rfl⟩
            go_wp2_with fail
            refine (right_yes _ _ hbI).mono ?_
            rintro e w0 ⟨rfl, rfl⟩
            go_wp2_with fail
            refine (alive_any _).mono ?_
            rintro e w1 ⟨rfl, g1⟩
            go_wp2_with fail
            refine (cs.out _).mono ?_
            rintro e w2 ⟨rfl, g2⟩
            go_wp2_with fail
            refine (cs'.out _).mono ?_
            rintro e w3 ⟨rfl, g3⟩
            go_wp2_with fail
            refine (cm.out _).mono ?_
            rintro e w4 ⟨rfl, g4⟩
            go_wp2_with fail
            refine (cm'.out _).mono ?_
            rintro e w5 ⟨rfl, g5⟩
            go_wp2_with fail
            refine (cq.out _).mono ?_
            rintro e w7 ⟨rfl, g7⟩
            go_wp2_with fail
            refine (cr.out _).mono ?_
            rintro e w8 ⟨rfl, g8⟩
            go_wp2_with fail
            refine (cl.out _).mono ?_
            rintro e w9 ⟨rfl, g9⟩
            go_wp2_with fail
            refine (cg.out _).mono ?_
            rintro e w10 ⟨rfl, g10⟩
            go_wp2_with fail
            refine (ce.out _).mono ?_
            rintro e w11 ⟨rfl, g11⟩
            have hqv := hqr.out
            have hfin : a0 - r + r = a0 := by omega
            go_wp2
            go_ret
            exact ⟨rfl, gr_below (gr_trans (gr_trans (gr_trans (gr_trans (gr_trans (gr_trans (gr_trans (gr_trans (gr_trans g1 g2) g3) g4) g5) g7) g8) g9) g10) g11)⟩
          · have cl := Lib.hid (do_eq ⟨#[60]⟩ a0 a1 0 0 (by show doV [60] a0 a1 = _; rw [hlt1.out, decide_eq_false (by omega)]; rfl) x0 x1)
            have cg := Lib.hid (do_eq ⟨#[62]⟩ a0 a1 1 0 (by show doV [62] a0 a1 = _; rw [hgt1.out, decide_eq_true (by omega)]; rfl) x0 x1)
            have ce := Lib.hid (do_eq ⟨#[61, 61]⟩ a0 a1 0 0 (by show doV [61, 61] a0 a1 = _; rw [heq1.out, eqF (by omega)]; rfl) x0 x1)
            replace ho := Lib.hid ho
            go_enter Try.func4, Try.ntmps4
            go_wp2_with fail
            refine (right_yes _ _ haI).mono ?_
            rintro e w0 ⟨rfl, rfl⟩
            go_wp2_with fail
            refine (right_yes _ _ hbI).mono ?_
            rintro e w0 ⟨rfl, rfl⟩
            go_wp2_with fail
            refine (alive_any _).mono ?_
            rintro e w1 ⟨rfl, g1⟩
            go_wp2_with fail
            refine (cs.out _).mono ?_
            rintro e w2 ⟨rfl, g2⟩
            go_wp2_with fail
            refine (cs'.out _).mono ?_
            rintro e w3 ⟨rfl, g3⟩
            go_wp2_with fail
            refine (cm.out _).mono ?_
            rintro e w4 ⟨rfl, g4⟩
            go_wp2_with fail
            refine (cm'.out _).mono ?_
            rintro e w5 ⟨rfl, g5⟩
            go_wp2_with fail
            refine (cq.out _).mono ?_
            rintro e w7 ⟨rfl, g7⟩
            go_wp2_with fail
            refine (cr.out _).mono ?_
            rintro e w8 ⟨rfl, g8⟩
            go_wp2_with fail
            refine (cl.out _).mono ?_
            rintro e w9 ⟨rfl, g9⟩
            go_wp2_with fail
            refine (cg.out _).mono ?_
            rintro e w10 ⟨rfl, g10⟩
            go_wp2_with fail
            refine (ce.out _).mono ?_
            rintro e w11 ⟨rfl, g11⟩
            have hqv := hqr.out
            have hfin : a0 - r + r = a0 := by omega
            go_wp2
            go_ret
            exact ⟨rfl, gr_below (gr_trans (gr_trans (gr_trans (gr_trans (gr_trans (gr_trans (gr_trans (gr_trans (gr_trans g1 g2) g3) g4) g5) g7) g8) g9) g10) g11)⟩
    · unfold In at ha
      have haI : In a0 := ha
      go_enter Try.func4, Try.ntmps4
      go_wp2_with fail
      refine (right_yes _ _ haI).mono ?_
      rintro e w0 ⟨rfl, rfl⟩
      go_wp2_with fail
      refine (right_no _ _ hb).mono ?_
      rintro e w0 ⟨rfl, rfl⟩
      go_wp2_with fail
      refine (alive_any _).mono ?_
      rintro e w1 ⟨rfl, g1⟩
      go_wp2
      go_ret
      exact ⟨rfl, gr_below g1⟩
  · go_enter Try.func4, Try.ntmps4
    go_wp2_with fail
    refine (right_no _ _ ha).mono ?_
    rintro e w0 ⟨rfl, rfl⟩
    go_wp2_with fail
    refine (alive_any _).mono ?_
    rintro e w1 ⟨rfl, g1⟩
    go_wp2
    go_ret
    exact ⟨rfl, gr_below g1⟩

set_option maxRecDepth 100000 in
theorem lifted (os : Os) (started : os.Started) (H : Type) (enc : TypeId × Value → H) :
    ReturnsInHanded {} Try.checked os 4 .any (Rows.fixedLawsSpec.pre6 enc Try.prog Try.f4 Rows.fixedLawsRow.domain false) (Rows.fixedLawsSpec.post enc Try.prog Try.f4 false true false false) := by
  refine returnsInHanded_of_change (C := Try.checked) own started (by kernel_rfl) Try.func4
    (ChangeSpec.witness6 (enc := enc) (C := Try.checked) false ⟨#[], #[.int .i64 0, .int .i64 0], []⟩ 8 (by kernel_rfl) (by kernel_rfl) (by kernel_rfl) (by kernel_rfl)) ?_
  intro W base args ds gs before hval0 hW hcnd _
  have hval : ∀ (j : Nat) t v, Try.f4.params[j]? = some t → args[j]? = some v → Value.okWide Try.prog W .any base t v := hval0
  have hW' := hW
  obtain ⟨p, q, hA0, hV, rfl, hfz, hnd⟩ := hW
  have hA : DataW.TrodAll enc Try.prog W 0 (fun _ => true) true Try.f4.params.toList args.toList ds p := hA0
  rw [Try.params4] at hA hval
  obtain ⟨v0, vs0, d0, ds0, p0, q0, hargs, rfl, rfl, h0, r0⟩ := trodAll_cons hA
  obtain ⟨v1, vs1, d1, ds1, p1, q1, rfl, rfl, rfl, h1, r1⟩ := trodAll_cons r0
  obtain ⟨rfl, rfl, rfl⟩ := trodAll_nil r1
  obtain rfl : args = #[v0, v1] := by cases args; simp_all
  obtain ⟨rfl, rfl⟩ := trodVars_none hV
  obtain ⟨a0, rfl, rfl, rfl, w0⟩ := open_int Try.underlying3 (hval 0 3 v0 rfl rfl) h0
  obtain ⟨a1, rfl, rfl, rfl, w1⟩ := open_int Try.underlying3 (hval 1 3 v1 rfl rfl) h1
  clear hA0 hval0
  refine (walk W a0 w0 a1 w1).mono fun e W' ⟨he, bel⟩ => ?_
  subst he
  exact ⟨_, rfl, _, _, _, [], _, [], hW', trodAll_mk1 (shut_bool Try.underlying4 _), (trodAll_cons_mk (shut_int Try.underlying3 w0) (trodAll_cons_mk (shut_int Try.underlying3 w1) trodAll_mk0)), rfl, bel.frame _, fun h => by cases h⟩

theorem over : Rows.fixedLawsRow.holds Try.pinned (OpenSpec.ofChange Rows.fixedLawsSpec) :=
  OpenClaim.holds_of_wide 4 Try.f4 rfl rfl rfl rfl rfl rfl rfl ⟨rfl, rfl, rfl, rfl, rfl⟩ rfl rfl rfl rfl rfl (by kernel_rfl) Try.func4 (by kernel_rfl)
    (of_decide_eq_true (by kernel_rfl)) (by unfold Func.isWrapper; first | (rw [if_pos (by decide +kernel)]; kernel_rfl) | (rw [if_neg (by decide +kernel)]; exact ⟨rfl, rfl⟩))
    (fun os started H enc _ => lifted os started H enc)

/-- THE STATEMENT -/
theorem proved : Rows.FixedLawsSaid := over
#print axioms proved
end Go.Proofs.Ytoickcaccielkaa.fixedLaws

