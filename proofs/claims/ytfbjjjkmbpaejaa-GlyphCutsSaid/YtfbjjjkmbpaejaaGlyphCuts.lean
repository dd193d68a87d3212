/-
  GlyphCuts holds of the program: for every input the call returns true and leaves what came in as it was. No condition.
-/
import Derived.Test.YtfbjjjkmbpaejaaRows
import Derived.Test.YtfbjjjkmbpaejaaGlyphAlive
import Derived.WalkKit
import Derived.ProofKit
import Derived.OpenShut
import Derived.ShutString
import Derived.ChangeOld
import Derived.Below
namespace Go.Proofs.Ytfbjjjkmbpaejaa.glyphCuts
open Go.ChangeShapes Go.WideShapes Go.ChangeAt Go.RowKit
open Go.ChangeMaps (open_string shut_string)
set_option linter.unusedVariables false

theorem own : ownKnob Try.prog.godebug = none := by kernel_rfl
theorem laidOut : laidOutB Try.prog = true := by kernel_rfl

set_option maxHeartbeats 4000000 in
set_option maxRecDepth 100000 in
theorem walk (w : World) (a0 : ByteArray) (w0 : a0.size ≤ maxLen) (a1 : Int) (w1 : (Lit.int .i64 a1).wf = true) (a2 : Int) (w2 : (Lit.int .i64 a2).wf = true) :
    Calls Try.prog 8 #[.string a0, .int .i64 a1, .int .i64 a2] w fun e w' => e = .returned (.bool true) ∧ Below w.heap.size w w' := by
  have x1 := rng_i64 w1
  have x2 := rng_i64 w2
  clear w1 w2 w0
  obtain ⟨l, hl⟩ : ∃ l, a0 = txt l := ⟨_, (txt_of a0).symm⟩
  have hsz : a0.size = l.length := by rw [hl, txt_size]
  by_cases c : (a0.size : Int) ≤ 1500
  · subst hl
    have hl : l.length ≤ 1500 := by omega
    replace hsz := Lib.hid hsz
    go_enter Try.func8, Try.ntmps8
    go_wp2_with fail
    refine (alive_any _).mono ?_
    rintro e W1 ⟨rfl, g1⟩
    have hA1 := upto_rest a1.toNat l
    have hA2 := upto_upto a1.toNat l
    have hA3 : joinC ((chunks (upto a1.toNat l)).drop a1.toNat) = [] := by rw [chunks_upto, List.drop_of_length_le (List.length_take_le _ _)]; rfl
    have hA4 : (chunks (upto a1.toNat l)).length ≤ a1.toNat := by rw [chunks_upto]; exact List.length_take_le _ _
    have hE1 := upto_rest a2.toNat l
    have hAE : a1 ≤ a2 → (upto a1.toNat l).length ≤ (upto a2.toNat l).length := fun h => upto_mono (by omega) l
    have cA : ∀ W, Calls Try.prog 19 #[.string (txt l), .int .i64 a1] W (CutPost l a1 W) := fun W => cut_any l a1 W (by omega) x1
    have hAl : (upto a1.toNat l).length ≤ l.length := by have := congrArg List.length hA1; rw [List.length_append] at this; omega
    have cA2 : ∀ W, Calls Try.prog 19 #[.string (txt (upto a1.toNat l)), .int .i64 a1] W (CutPost (upto a1.toNat l) a1 W) := fun W => cut_any _ a1 W (by omega) x1
    have cE : ∀ W, Calls Try.prog 19 #[.string (txt l), .int .i64 a2] W (CutPost l a2 W) := fun W => cut_any l a2 W (by omega) x2
    have cC : ∀ W, Calls Try.prog 16 #[.string (txt (upto a1.toNat l))] W _ := fun W => count_any (upto a1.toNat l) W (by omega)
    unfold CutPost at cA cA2 cE
    rw [hA2, hA3] at cA2
    generalize joinC ((chunks l).drop a1.toNat) = B at *
    generalize joinC ((chunks l).drop a2.toNat) = F at *
    generalize upto a1.toNat l = A at *
    generalize upto a2.toNat l = E at *
    generalize (chunks A).length = M at *
    have s1 : A.length + B.length ≤ 9223372036854775807 := by have := congrArg List.length hA1; rw [List.length_append] at this; omega
    have s2 : E.length + F.length ≤ 9223372036854775807 := by have := congrArg List.length hE1; rw [List.length_append] at this; omega
    have d1 : (A ++ B == l) = true := by rw [hA1]; simp
    have d2 : (E ++ F == l) = true := by rw [hE1]; simp
    clear hA2 hA3
    replace hA1 := Lib.hid hA1
    replace hE1 := Lib.hid hE1
    replace cA := Lib.hid cA
    replace cA2 := Lib.hid cA2
    replace cE := Lib.hid cE
    replace cC := Lib.hid cC
    go_wp2_with fail
    refine (cA.out _).mono ?_
    rintro e W2 ⟨rfl, g2⟩
    go_wp2_with fail
    refine (cA2.out _).mono ?_
    rintro e W3 ⟨rfl, g3⟩
    go_wp2_with fail
    refine (cE.out _).mono ?_
    rintro e W4 ⟨rfl, g4⟩
    by_cases hle : a1 ≤ a2
    · have hAE' := hAE hle
      have hAEi : (A.length : Int) ≤ (E.length : Int) := by omega
      clear hAE
      go_wp2_with fail
      refine (cC.out _).mono ?_
      rintro e W5 ⟨rfl, g5⟩
      have hmx : (M : Int) ≤ max a1 0 := by omega
      go_wp2
      go_ret
      exact ⟨rfl, gr_below (gr_trans (gr_trans (gr_trans (gr_trans g1 g2) g3) g4) g5)⟩
    · have hgt : a2 < a1 := by omega
      clear hAE hle
      go_wp2_with fail
      refine (cC.out _).mono ?_
      rintro e W5 ⟨rfl, g5⟩
      have hmx : (M : Int) ≤ max a1 0 := by omega
      go_wp2
      go_ret
      exact ⟨rfl, gr_below (gr_trans (gr_trans (gr_trans (gr_trans g1 g2) g3) g4) g5)⟩
  · have c' : 1500 < (a0.size : Int) := by omega
    clear c hsz hl
    go_enter Try.func8, Try.ntmps8
    go_wp2_with (go_at_call 9; refine (alive_any _).mono ?_; rintro e w1 ⟨rfl, B⟩)
    go_ret
    exact ⟨rfl, gr_below B⟩


set_option maxRecDepth 100000 in
theorem lifted (os : Os) (started : os.Started) (H : Type) (enc : TypeId × Value → H) :
    ReturnsInHanded {} Try.checked os 8 .any (Rows.glyphCutsSpec.pre6 enc Try.prog Try.f8 Rows.glyphCutsRow.domain false) (Rows.glyphCutsSpec.post enc Try.prog Try.f8 false true false false) := by
  refine returnsInHanded_of_change (C := Try.checked) own started (by kernel_rfl) Try.func8
    (ChangeSpec.witness6 (enc := enc) (C := Try.checked) false ⟨#[], #[.string ByteArray.empty, .int .i64 0, .int .i64 0], []⟩ 8 (by kernel_rfl) (by kernel_rfl) (by kernel_rfl) (by kernel_rfl)) ?_
  intro W base args ds gs before hval0 hW hcnd _
  have hval : ∀ (j : Nat) t v, Try.f8.params[j]? = some t → args[j]? = some v → Value.okWide Try.prog W .any base t v := hval0
  have hW' := hW
  obtain ⟨p, q, hA0, hV, rfl, hfz, hnd⟩ := hW
  have hA : DataW.TrodAll enc Try.prog W 0 (fun _ => true) true Try.f8.params.toList args.toList ds p := hA0
  rw [Try.params8] at hA hval
  obtain ⟨v0, vs0, d0, ds0, p0, q0, hargs, rfl, rfl, h0, r0⟩ := trodAll_cons hA
  obtain ⟨v1, vs1, d1, ds1, p1, q1, rfl, rfl, rfl, h1, r1⟩ := trodAll_cons r0
  obtain ⟨v2, vs2, d2, ds2, p2, q2, rfl, rfl, rfl, h2, r2⟩ := trodAll_cons r1
  obtain ⟨rfl, rfl, rfl⟩ := trodAll_nil r2
  obtain rfl : args = #[v0, v1, v2] := by cases args; simp_all
  obtain ⟨rfl, rfl⟩ := trodVars_none hV
  obtain ⟨a0, rfl, rfl, rfl, w0⟩ := open_string Try.underlying9 (hval 0 9 v0 rfl rfl) h0
  obtain ⟨a1, rfl, rfl, rfl, w1⟩ := open_int Try.underlying3 (hval 1 3 v1 rfl rfl) h1
  obtain ⟨a2, rfl, rfl, rfl, w2⟩ := open_int Try.underlying3 (hval 2 3 v2 rfl rfl) h2
  clear hA0 hval0
  refine (walk W a0 w0 a1 w1 a2 w2).mono fun e W' ⟨he, bel⟩ => ?_
  subst he
  exact ⟨_, rfl, _, _, _, [], _, [], hW', trodAll_mk1 (shut_bool Try.underlying4 _), (trodAll_cons_mk (shut_string Try.underlying9 w0) (trodAll_cons_mk (shut_int Try.underlying3 w1) (trodAll_cons_mk (shut_int Try.underlying3 w2) trodAll_mk0))), rfl, bel.frame _, fun h => by cases h⟩

theorem over : Rows.glyphCutsRow.holds Try.pinned (OpenSpec.ofChange Rows.glyphCutsSpec) :=
  OpenClaim.holds_of_wide 8 Try.f8 rfl rfl rfl rfl rfl rfl rfl ⟨rfl, rfl, rfl, rfl, rfl⟩ rfl rfl rfl rfl rfl (by kernel_rfl) Try.func8 (by kernel_rfl)
    (of_decide_eq_true (by kernel_rfl)) (by unfold Func.isWrapper; first | (rw [if_pos (by decide +kernel)]; kernel_rfl) | (rw [if_neg (by decide +kernel)]; exact ⟨rfl, rfl⟩))
    (fun os started H enc _ => lifted os started H enc)

/-- THE STATEMENT -/
theorem proved : Rows.GlyphCutsSaid := over
#print axioms proved
end Go.Proofs.Ytfbjjjkmbpaejaa.glyphCuts

