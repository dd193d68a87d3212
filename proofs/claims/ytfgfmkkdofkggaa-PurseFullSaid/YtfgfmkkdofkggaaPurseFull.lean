/-
  PurseFull holds of the program: for every input the call returns true and leaves what came in as it was. No condition.
-/
import Derived.Test.YtfgfmkkdofkggaaRows
import Derived.Test.YtfgfmkkdofkggaaPurseAlive
import Derived.WalkKit
import Derived.ProofKit
import Derived.OpenShut
import Derived.ShutString
import Derived.ChangeOld
import Derived.Below
namespace Go.Proofs.Ytfgfmkkdofkggaa.purseFull
open Go.ChangeShapes Go.WideShapes Go.ChangeAt Go.RowKit
open Go.ChangeMaps (open_string shut_string)
set_option linter.unusedVariables false

theorem own : ownKnob Try.prog.godebug = none := by kernel_rfl
theorem laidOut : laidOutB Try.prog = true := by kernel_rfl

set_option maxHeartbeats 1000000 in
theorem walk (w : World) (a0 : Int) (w0 : (Lit.int .i64 a0).wf = true) (a1 : Int) (w1 : (Lit.int .i64 a1).wf = true) :
    Calls Try.prog 5 #[.int .i64 a0, .int .i64 a1] w fun e w' => e = .returned (.bool true) ∧ Below w.heap.size w w' := by
  have x0 : -9223372036854775808 ≤ a0 ∧ a0 ≤ 9223372036854775807 := by simpa [Lit.wf, IntKind.min, IntKind.max, IntKind.signed, IntKind.bits] using w0
  have x1 : -9223372036854775808 ≤ a1 ∧ a1 ≤ 9223372036854775807 := by simpa [Lit.wf, IntKind.min, IntKind.max, IntKind.signed, IntKind.bits] using w1
  clear w0 w1
  by_cases c : 0 ≤ a0 ∧ a0 ≤ 1000000 ∧ 0 ≤ a1 ∧ a1 ≤ a0
  · obtain ⟨c1, c2, c3, c4⟩ := c
    go_enter Try.func5, Try.ntmps5
    go_wp2_with fail
    refine (alive_any _).mono ?_
    rintro e w1 ⟨rfl, B1⟩
    have hsz := B1.size
    go_wp2_with fail
    refine (new_ok _ _ c1 c2).mono ?_
    rintro e w2 ⟨b, rfl, hb, H2, B2⟩
    have hbb : w.heap.size ≤ b := by rw [hb]; exact hsz
    have hs2 := B2.size
    have B := Lib.hid (gr_below (gr_trans B1 B2))
    clear hb B1 B2
    go_wp2_with fail
    refine (take_yes _ _ _ _ _ _ H2 ⟨by omega, by omega, by omega, by omega⟩ (by omega) (by omega)).mono ?_
    rintro e w3 ⟨rfl, H3, B3⟩
    go_wp2_with fail
    refine (take_no _ _ _ _ _ _ H3 ⟨by omega, by omega, by omega, by omega⟩ (by omega)).mono ?_
    rintro e w4 ⟨rfl, B4⟩
    have H4 := pu_gr H3 B4
    go_wp2_with fail
    refine (take_yes _ _ _ _ _ _ H4 ⟨by omega, by omega, by omega, by omega⟩ (by omega) (by omega)).mono ?_
    rintro e w5 ⟨rfl, H5, B5⟩
    go_wp2_with fail
    refine (left_any _ _ _ _ _ H5 ⟨by omega, by omega, by omega, by omega⟩).mono ?_
    rintro e w6 ⟨rfl, B6⟩
    have H6 := pu_gr H5 B6
    have e6 : a0 - (0 + a1 + (a0 - a1)) = 0 := by omega
    rw [e6]
    clear e6
    go_wp2_with fail
    refine (take_no _ _ _ _ _ _ H6 ⟨by omega, by omega, by omega, by omega⟩ (by omega)).mono ?_
    rintro e w7 ⟨rfl, B7⟩
    have H7 := pu_gr H6 B7
    go_wp2_with fail
    refine (take_yes _ _ _ _ _ _ H7 ⟨by omega, by omega, by omega, by omega⟩ (by omega) (by omega)).mono ?_
    rintro e w8 ⟨rfl, H8, B8⟩
    go_wp2_with fail
    refine (give_yes _ _ _ _ _ _ H8 ⟨by omega, by omega, by omega, by omega⟩ (by omega) (by omega)).mono ?_
    rintro e w9 ⟨rfl, H9, B9⟩
    go_wp2_with fail
    refine (left_any _ _ _ _ _ H9 ⟨by omega, by omega, by omega, by omega⟩).mono ?_
    rintro e w10 ⟨rfl, B10⟩
    have H10 := pu_gr H9 B10
    have e10 : a0 - (0 + a1 + (a0 - a1) + 0 - a0) = a0 := by omega
    rw [e10]
    clear e10
    go_wp2_with fail
    refine (high_any _ _ _ _ _ H10).mono ?_
    rintro e w11 ⟨rfl, rfl⟩
    have e11 : max (max (max 0 (0 + a1)) (0 + a1 + (a0 - a1))) (0 + a1 + (a0 - a1) + 0) = a0 := by omega
    rw [e11]
    clear e11
    go_wp2_with fail
    refine (give_no _ _ _ _ _ _ H10 ⟨by omega, by omega, by omega, by omega⟩ (by omega)).mono ?_
    rintro e w12 ⟨rfl, rfl⟩
    go_wp2_with fail
    refine (take_no _ _ _ _ _ _ H10 ⟨by omega, by omega, by omega, by omega⟩ (by omega)).mono ?_
    rintro e w13 ⟨rfl, B13⟩
    have H13 := pu_gr H10 B13
    go_wp2
    go_ret
    have g : GrB b w2 w13 := gr_trans (gr_trans (gr_trans (gr_trans (gr_trans (gr_trans (gr_trans (gr_trans B3 (gr_more _ B4)) B5) (gr_more _ B6)) (gr_more _ B7)) B8) B9) (gr_more _ B10)) (gr_more _ B13)
    exact ⟨rfl, below_gr B.out g (by omega) (by simp; omega)⟩
  · have c' : a0 < 0 ∨ (0 ≤ a0 ∧ 1000000 < a0) ∨ (0 ≤ a0 ∧ a0 ≤ 1000000 ∧ a1 < 0) ∨ (0 ≤ a0 ∧ a0 ≤ 1000000 ∧ 0 ≤ a1 ∧ a0 < a1) := by omega
    clear c
    rcases c' with c | ⟨c1, c⟩ | ⟨c1, c2, c⟩ | ⟨c1, c2, c3, c⟩
    all_goals
      go_enter Try.func5, Try.ntmps5
      go_wp2_with (go_at_call 6; refine (alive_any _).mono ?_; rintro e w1 ⟨rfl, B⟩)
      go_ret
      exact ⟨rfl, gr_below B⟩

set_option maxRecDepth 100000 in
theorem lifted (os : Os) (started : os.Started) (H : Type) (enc : TypeId × Value → H) :
    ReturnsInHanded {} Try.checked os 5 .any (Rows.purseFullSpec.pre6 enc Try.prog Try.f5 Rows.purseFullRow.domain false) (Rows.purseFullSpec.post enc Try.prog Try.f5 false true false false) := by
  refine returnsInHanded_of_change (C := Try.checked) own started (by kernel_rfl) Try.func5
    (ChangeSpec.witness6 (enc := enc) (C := Try.checked) false ⟨#[], #[.int .i64 0, .int .i64 0], []⟩ 8 (by kernel_rfl) (by kernel_rfl) (by kernel_rfl) (by kernel_rfl)) ?_
  intro W base args ds gs before hval0 hW hcnd _
  have hval : ∀ (j : Nat) t v, Try.f5.params[j]? = some t → args[j]? = some v → Value.okWide Try.prog W .any base t v := hval0
  have hW' := hW
  obtain ⟨p, q, hA0, hV, rfl, hfz, hnd⟩ := hW
  have hA : DataW.TrodAll enc Try.prog W 0 (fun _ => true) true Try.f5.params.toList args.toList ds p := hA0
  rw [Try.params5] at hA hval
  obtain ⟨v0, vs0, d0, ds0, p0, q0, hargs, rfl, rfl, h0, r0⟩ := trodAll_cons hA
  obtain ⟨v1, vs1, d1, ds1, p1, q1, rfl, rfl, rfl, h1, r1⟩ := trodAll_cons r0
  obtain ⟨rfl, rfl, rfl⟩ := trodAll_nil r1
  obtain rfl : args = #[v0, v1] := by cases args; simp_all
  obtain ⟨rfl, rfl⟩ := trodVars_none hV
  obtain ⟨a0, rfl, rfl, rfl, w0⟩ := open_int Try.underlying3 (hval 0 3 v0 rfl rfl) h0
  obtain ⟨a1, rfl, rfl, rfl, w1⟩ := open_int Try.underlying3 (hval 1 3 v1 rfl rfl) h1
  clear hA0 hval0
  refine (walk W a0 w0 a1 w1).mono fun e W' ⟨he, bel⟩ => ?_
  subst he
  exact ⟨_, rfl, _, _, _, [], _, [], hW', trodAll_mk1 (shut_bool Try.underlying4 _), (trodAll_cons_mk (shut_int Try.underlying3 w0) (trodAll_cons_mk (shut_int Try.underlying3 w1) trodAll_mk0)), rfl, bel.frame _, fun h => by cases h⟩

theorem over : Rows.purseFullRow.holds Try.pinned (OpenSpec.ofChange Rows.purseFullSpec) :=
  OpenClaim.holds_of_wide 5 Try.f5 rfl rfl rfl rfl rfl rfl rfl ⟨rfl, rfl, rfl, rfl, rfl⟩ rfl rfl rfl rfl rfl (by kernel_rfl) Try.func5 (by kernel_rfl)
    (of_decide_eq_true (by kernel_rfl)) (by unfold Func.isWrapper; first | (rw [if_pos (by decide +kernel)]; kernel_rfl) | (rw [if_neg (by decide +kernel)]; exact ⟨rfl, rfl⟩))
    (fun os started H enc _ => lifted os started H enc)

/-- THE STATEMENT -/
theorem proved : Rows.PurseFullSaid := over
#print axioms proved
end Go.Proofs.Ytfgfmkkdofkggaa.purseFull

