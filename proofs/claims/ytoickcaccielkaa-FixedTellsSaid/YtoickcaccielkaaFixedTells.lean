/-
  FixedTells holds of the program: for every input the call returns true and leaves what came in as it was. No condition.
-/
import Derived.Test.YtoickcaccielkaaRows
import Derived.Test.YtoickcaccielkaaFixedRefDo
import Derived.WalkKit
import Derived.ProofKit
import Derived.OpenShut
import Derived.ShutString
import Derived.ChangeOld
import Derived.Below
namespace Go.Proofs.Ytoickcaccielkaa.fixedTells
open Go.ChangeShapes Go.WideShapes Go.ChangeAt Go.RowKit
open Go.ChangeMaps (open_string shut_string)
set_option linter.unusedVariables false

theorem own : ownKnob Try.prog.godebug = none := by kernel_rfl
theorem laidOut : laidOutB Try.prog = true := by kernel_rfl

set_option maxHeartbeats 4000000 in
set_option maxRecDepth 100000 in
theorem walk (w : World) (a0 : ByteArray) (w0 : a0.size ≤ maxLen) (a1 : Int) (w1 : (Lit.int .i64 a1).wf = true) (a2 : Int) (w2 : (Lit.int .i64 a2).wf = true) :
    Calls Try.prog 3 #[.string a0, .int .i64 a1, .int .i64 a2] w fun e w' => e = .returned (.bool true) ∧ Below w.heap.size w w' := by
  have x1 := rng_i64 w1
  have x2 := rng_i64 w2
  clear w1 w2
  unfold maxLen at w0
  obtain ⟨op, rfl⟩ : ∃ op, a0 = txt op := ⟨_, (txt_of a0).symm⟩
  have hz : (txt op).size = op.length := txt_size op
  by_cases c : (op.length : Int) ≤ 20
  · obtain ⟨v, er, hv⟩ : ∃ v er, doV op a1 a2 = (v, er) := ⟨_, _, rfl⟩
    have c1 : ∀ W, Calls Try.prog 10 #[.string (txt op), .int .i64 a1, .int .i64 a2] W fun e' w' => e' = .returned (.tuple #[.int .i64 v, .int .i64 er]) ∧ Gr W w' := fun W => (do_any op a1 a2 W x1 x2).mono (by rintro e' w' ⟨rfl, g⟩; rw [hv]; exact ⟨rfl, g⟩)
    have c2 : ∀ W, Calls Try.prog 11 #[.string (txt op), .int .i64 a1, .int .i64 a2] W fun e' w' => e' = .returned (.tuple #[.int .i64 v, .int .i64 er]) ∧ W = w' := fun W => (refDo_any op a1 a2 W x1 x2).mono (by rintro e' w' ⟨rfl, rfl⟩; rw [hv]; exact ⟨rfl, rfl⟩)
    obtain ⟨rb, c3, c4⟩ : ∃ rb, (∀ W, Calls Try.prog 14 #[.int .i64 a1] W fun e' w' => e' = .returned (.bool rb) ∧ W = w') ∧ (∀ W, Calls Try.prog 15 #[.int .i64 a1] W fun e' w' => e' = .returned (.bool rb) ∧ W = w') := by
      by_cases h : In a1
      · exact ⟨true, fun W => right_yes a1 W h, fun W => value_yes a1 W h⟩
      · exact ⟨false, fun W => right_no a1 W h, fun W => value_no a1 W h⟩
    clear hv
    replace c1 := Lib.hid c1
    replace c2 := Lib.hid c2
    replace c3 := Lib.hid c3
    replace c4 := Lib.hid c4
    generalize hco : cmpOp op = co
    have c5 : ∀ W, Calls Try.prog 12 #[.string (txt op)] W fun e' w' => e' = .returned (.bool co) ∧ Gr W w' := fun W => by rw [← hco]; exact compares_any op W
    have c6 : ∀ W, Calls Try.prog 13 #[.string (txt op)] W fun e' w' => e' = .returned (.bool co) ∧ W = w' := fun W => by rw [← hco]; exact refCompares_any op W
    clear hco
    replace c5 := Lib.hid c5
    replace c6 := Lib.hid c6
    go_enter Try.func3, Try.ntmps3
    go_wp2_with fail
    refine (alive_any _).mono ?_
    rintro e W1 ⟨rfl, g1⟩
    go_wp2_with fail
    refine (c1.out _).mono ?_
    rintro e W2 ⟨rfl, g2⟩
    go_wp2_with fail
    refine (c2.out _).mono ?_
    rintro e W3 ⟨rfl, rfl⟩
    go_wp2_with fail
    refine (c5.out _).mono ?_
    rintro e W3 ⟨rfl, g3⟩
    go_wp2_with fail
    refine (c6.out _).mono ?_
    rintro e W4 ⟨rfl, rfl⟩
    go_wp2_with fail
    refine (c3.out _).mono ?_
    rintro e W4 ⟨rfl, rfl⟩
    go_wp2_with fail
    refine (c4.out _).mono ?_
    rintro e W4 ⟨rfl, rfl⟩
    go_wp2
    go_ret
    exact ⟨rfl, gr_below (gr_trans (gr_trans g1 g2) g3)⟩
  · have c' : (20 : Int) < op.length := by omega
    clear c
    go_enter Try.func3, Try.ntmps3
    go_wp2_with (go_at_call 9; refine (alive_any _).mono ?_; rintro e w1 ⟨rfl, B⟩)
    go_ret
    exact ⟨rfl, gr_below B⟩

set_option maxRecDepth 100000 in
theorem lifted (os : Os) (started : os.Started) (H : Type) (enc : TypeId × Value → H) :
    ReturnsInHanded {} Try.checked os 3 .any (Rows.fixedTellsSpec.pre6 enc Try.prog Try.f3 Rows.fixedTellsRow.domain false) (Rows.fixedTellsSpec.post enc Try.prog Try.f3 false true false false) := by
  refine returnsInHanded_of_change (C := Try.checked) own started (by kernel_rfl) Try.func3
    (ChangeSpec.witness6 (enc := enc) (C := Try.checked) false ⟨#[], #[.string ByteArray.empty, .int .i64 0, .int .i64 0], []⟩ 8 (by kernel_rfl) (by kernel_rfl) (by kernel_rfl) (by kernel_rfl)) ?_
  intro W base args ds gs before hval0 hW hcnd _
  have hval : ∀ (j : Nat) t v, Try.f3.params[j]? = some t → args[j]? = some v → Value.okWide Try.prog W .any base t v := hval0
  have hW' := hW
  obtain ⟨p, q, hA0, hV, rfl, hfz, hnd⟩ := hW
  have hA : DataW.TrodAll enc Try.prog W 0 (fun _ => true) true Try.f3.params.toList args.toList ds p := hA0
  rw [Try.params3] at hA hval
  obtain ⟨v0, vs0, d0, ds0, p0, q0, hargs, rfl, rfl, h0, r0⟩ := trodAll_cons hA
  obtain ⟨v1, vs1, d1, ds1, p1, q1, rfl, rfl, rfl, h1, r1⟩ := trodAll_cons r0
  obtain ⟨v2, vs2, d2, ds2, p2, q2, rfl, rfl, rfl, h2, r2⟩ := trodAll_cons r1
  obtain ⟨rfl, rfl, rfl⟩ := trodAll_nil r2
  obtain rfl : args = #[v0, v1, v2] := by cases args; simp_all
  obtain ⟨rfl, rfl⟩ := trodVars_none hV
  obtain ⟨a0, rfl, rfl, rfl, w0⟩ := open_string Try.underlying9 (hval 0 9 v0 rfl rfl) h0
  obtain ⟨a1, rfl, rfl, rfl, w1⟩ := open_int Try.underlying3 (hval 1 3 v1 rfl rfl) h1
  obtain ⟨a2, rfl, rfl, rfl, w2⟩ := open_int Try.underlying3 (hval 2 3 v2 rfl rfl) h2
  clear hA0 hval0
  refine (walk W a0 w0 a1 w1 a2 w2).mono fun e W' ⟨he, bel⟩ => ?_
  subst he
  exact ⟨_, rfl, _, _, _, [], _, [], hW', trodAll_mk1 (shut_bool Try.underlying4 _), (trodAll_cons_mk (shut_string Try.underlying9 w0) (trodAll_cons_mk (shut_int Try.underlying3 w1) (trodAll_cons_mk (shut_int Try.underlying3 w2) trodAll_mk0))), rfl, bel.frame _, fun h => by cases h⟩

theorem over : Rows.fixedTellsRow.holds Try.pinned (OpenSpec.ofChange Rows.fixedTellsSpec) :=
  OpenClaim.holds_of_wide 3 Try.f3 rfl rfl rfl rfl rfl rfl rfl ⟨rfl, rfl, rfl, rfl, rfl⟩ rfl rfl rfl rfl rfl (by kernel_rfl) Try.func3 (by kernel_rfl)
    (of_decide_eq_true (by kernel_rfl)) (by unfold Func.isWrapper; first | (rw [if_pos (by decide +kernel)]; kernel_rfl) | (rw [if_neg (by decide +kernel)]; exact ⟨rfl, rfl⟩))
    (fun os started H enc _ => lifted os started H enc)

/-- THE STATEMENT -/
theorem proved : Rows.FixedTellsSaid := over
#print axioms proved
end Go.Proofs.Ytoickcaccielkaa.fixedTells

