/-
  WindowParts holds of the program: for every input the call returns true and leaves what came in as it was. No condition.
-/
import Derived.Test.YtklflekldhhmcaaRows
import Derived.Test.YtklflekldhhmcaaWinLaw
import Derived.WalkKit
import Derived.ProofKit
import Derived.OpenShut
import Derived.ShutString
import Derived.ChangeOld
import Derived.Below
namespace Go.Proofs.Ytklflekldhhmcaa.windowParts
open Go.ChangeShapes Go.WideShapes Go.ChangeAt Go.RowKit
open Go.ChangeMaps (open_string shut_string)
set_option linter.unusedVariables false

theorem own : ownKnob Try.prog.godebug = none := by kernel_rfl
theorem laidOut : laidOutB Try.prog = true := by kernel_rfl

set_option maxHeartbeats 4000000 in
set_option maxRecDepth 100000 in
theorem walk (w : World) (a0 : Option Addr) (len0 cap0 : Nat) (z0 : List (Int × Int)) (w0 : IsPts w a0 len0 cap0 z0) (a1 : Int) (w1 : (Lit.int .i64 a1).wf = true) (a2 : Int) (w2 : (Lit.int .i64 a2).wf = true) (a3 : Int) (w3 : (Lit.int .i64 a3).wf = true) :
    Calls Try.prog 5 #[.slice a0 len0 cap0, .int .i64 a1, .int .i64 a2, .int .i64 a3] w fun e w' => e = .returned (.bool true) ∧ Below w.heap.size w w' := by
  have x1 := rng_i64 w1
  have x2 := rng_i64 w2
  have x3 := rng_i64 w3
  obtain ⟨hr, hcap, hcap2, _⟩ := w0
  clear w1 w2 w3
  have hl := pt_len hr
  have cP := fun W (g : Gr w W) => refPoints_any a0 len0 cap0 z0 W (by omega) (pt_gr hr g)
  cases hrb : rightB z0 with
  | false =>
    rw [hrb] at cP
    replace cP := Lib.hid cP
    replace hl := Lib.hid hl
    clear hr hrb
    go_enter Try.func5, Try.ntmps5
    go_wp2_with fail
    refine (cP.out _ (gr_refl _ _)).mono ?_
    rintro e W1 ⟨rfl, g1⟩
    go_wp2_with fail
    refine (alive_any _).mono ?_
    rintro e W2 ⟨rfl, g2⟩
    go_wp2
    go_ret
    exact ⟨rfl, gr_below (gr_trans g1 g2)⟩
  | true =>
    rw [hrb] at cP
    by_cases hbad : a2 < 0 ∨ a3 < 0 ∨ 1000000 < a2 ∨ 1000000 < a3 ∨ a1 < a3 ∨ 1000000000 < a1
    · have hcs : a2 < 0 ∨ (¬ a2 < 0 ∧ a3 < 0) ∨ (¬ a2 < 0 ∧ ¬ a3 < 0 ∧ 1000000 < a2) ∨ (¬ a2 < 0 ∧ ¬ a3 < 0 ∧ ¬ 1000000 < a2 ∧ 1000000 < a3) ∨ (¬ a2 < 0 ∧ ¬ a3 < 0 ∧ ¬ 1000000 < a2 ∧ ¬ 1000000 < a3 ∧ a1 < a3) ∨ (¬ a2 < 0 ∧ ¬ a3 < 0 ∧ ¬ 1000000 < a2 ∧ ¬ 1000000 < a3 ∧ ¬ a1 < a3 ∧ 1000000000 < a1) := by omega
      replace cP := Lib.hid cP
      replace hl := Lib.hid hl
      clear hr hrb hbad
      rcases hcs with h | ⟨h, h2⟩ | ⟨h, h2, h3⟩ | ⟨h, h2, h3, h4⟩ | ⟨h, h2, h3, h4, h5⟩ | ⟨h, h2, h3, h4, h5, h6⟩
      all_goals
        go_enter Try.func5, Try.ntmps5
        go_wp2_with fail
        refine (cP.out _ (gr_refl _ _)).mono ?_
        rintro e W1 ⟨rfl, g1⟩
        go_wp2_with fail
        refine (alive_any _).mono ?_
        rintro e W2 ⟨rfl, g2⟩
        go_wp2
        go_ret
        exact ⟨rfl, gr_below (gr_trans g1 g2)⟩
    · have b0 : 0 ≤ a2 := by omega
      have b1 : a2 ≤ 1000000 := by omega
      have b2 : 0 ≤ a3 := by omega
      have b3 : a3 ≤ 1000000 := by omega
      have b4 : a3 ≤ a1 := by omega
      have b5 : a1 ≤ 1000000000 := by omega
      have hlaw := parts_law (t := a1) (a := a2) (b := a3) (right_rise hrb) b0 b2
      have cx := fun W (g : Gr w W) => winOf_any a0 len0 cap0 z0 (a1 - a3) a2 W (by omega) (pt_gr hr g) (by omega) (by omega)
      have cy := fun W (g : Gr w W) => winOf_any a0 len0 cap0 z0 a1 a3 W (by omega) (pt_gr hr g) (by omega) (by omega)
      have cz := fun W (g : Gr w W) => winOf_any a0 len0 cap0 z0 a1 (a2 + a3) W (by omega) (pt_gr hr g) (by omega) (by omega)
      unfold OfPost at cx cy cz
      have l1 := ofP_25 z0 (a1 - a3) a2
      have l2 := ofP_25 z0 a1 a3
      have l3 := ofP_25 z0 a1 (a2 + a3)
      rw [ofP_ok hrb (by omega) (by omega) b0 (by omega)] at cx l1
      rw [ofP_ok hrb (by omega) b5 b2 (by omega)] at cy l2
      rw [ofP_ok hrb (by omega) b5 (by omega) (by omega)] at cz l3
      generalize z0.filter (inWin (a1 - a3) a2) = X at *
      generalize z0.filter (inWin a1 a3) = Y at *
      generalize z0.filter (inWin a1 (a2 + a3)) = Z at *
      subst hlaw
      obtain ⟨ii, hi, hz0, hz1, hz2⟩ := info_parts infoPt
      replace cP := Lib.hid cP
      replace cx := Lib.hid cx
      replace cy := Lib.hid cy
      replace cz := Lib.hid cz
      replace hl := Lib.hid hl
      replace hr := Lib.hid hr
      replace hrb := Lib.hid hrb
      clear hbad
      go_enter Try.func5, Try.ntmps5
      go_wp2_with fail
      refine (cP.out _ (gr_refl _ _)).mono ?_
      rintro e W1 ⟨rfl, g1⟩
      go_wp2_with fail
      refine (alive_any _).mono ?_
      rintro e W2 ⟨rfl, g2⟩
      have g12 := Lib.hid (gr_trans g1 g2)
      clear g1 g2
      go_wp2_with fail
      refine (cx.out _ g12.out).mono ?_
      rintro e W3 ⟨vx, rfl, ox, g3⟩
      obtain ⟨Ax, kx, rfl, _, _, nx, rx⟩ := own_slice3 ox
      have g13 := Lib.hid (gr_trans g12.out g3)
      clear ox g3
      replace rx := Lib.hid rx
      replace nx := Lib.hid nx
      go_wp2_with fail
      refine (cy.out _ g13.out).mono ?_
      rintro e W4 ⟨vy, rfl, oy, g4⟩
      obtain ⟨Ay, ky, rfl, _, _, ny, ry⟩ := own_slice3 oy
      have g14 := Lib.hid (gr_trans g13.out g4)
      have rx4 := Lib.hid (row_gr rx.out g4)
      clear oy g4 rx
      replace ry := Lib.hid ry
      replace ny := Lib.hid ny
      go_wp2_with fail
      refine (cz.out _ g14.out).mono ?_
      rintro e W5 ⟨vz, rfl, oz, g5⟩
      obtain ⟨Az, kz, rfl, _, _, nz, rz⟩ := own_slice3 oz
      have g15 := Lib.hid (gr_trans g14.out g5)
      have rx5 := Lib.hid (row_gr rx4.out g5)
      have ry5 := Lib.hid (row_gr ry.out g5)
      clear oz g5 rx4 ry
      replace rz := Lib.hid rz
      replace nz := Lib.hid nz
      go_wp2_with (at_builtin; first | (refine wpList_append_row (o := ⟨some 62, _, _, _, _, _⟩) rfl _ _ 22 rfl W5.heap.size 26 ii (.agg #[.int .i64 0, .int .i64 0]) 2 16 Try.underlying22 hi hz0 hz1 hz2 rfl (by decide) (.slice none 0 0) 0 [] rfl (World.ownsRow_nil _ _ _ _) Ax X.length kx (pcs X) rfl nx.out rx5.out (pcs_one X) X.length (pcs X) (Nat.zero_add _) rfl (by unfold maxLen; omega) (by omega) (Nat.le_refl _) ?_; intro v6 W6 o6 g6; replace g6 := Lib.hid (show Gr W5 W6 from g6); replace o6 := Lib.hid o6) | (refine wpList_append_row (o := ⟨some 64, _, _, _, _, _⟩) rfl _ _ 22 rfl W5.heap.size 26 ii (.agg #[.int .i64 0, .int .i64 0]) 2 16 Try.underlying22 hi hz0 hz1 hz2 rfl (by decide) v6 X.length (pcs X) rfl o6.out Ay Y.length ky (pcs Y) rfl ny.out (row_gr ry5.out g6.out) (pcs_one Y) (X.length + Y.length) (pcs (X ++ Y)) rfl (pcs_append X Y).symm (by unfold maxLen; omega) (by omega) g6.out.size ?_; intro v7 W7 o7 g7; replace g7 := Lib.hid g7; replace o7 := Lib.hid o7))
      have hb7 := Lib.hid ((gr_below g6.out).grown g7.out g6.out.size (fun k hk => (o6.out.lt k hk).1))
      obtain ⟨A7, k7, rfl, _, _, _, r7⟩ := own_slice3 o7.out
      have rz7 := row_below rz.out hb7.out
      have hXY : (X ++ Y).length = X.length + Y.length := List.length_append
      rw [hXY] at rz7
      refine (samePts_yes A7 Az (X.length + Y.length) k7 kz (X ++ Y) _ (by omega) r7 rz7).mono ?_
      rintro e W8 ⟨rfl, g8⟩
      go_wp2
      go_ret
      refine ⟨rfl, ?_⟩
      have h1 := (gr_below g15.out).trans (Below.mono_to hb7.out g15.out.size)
      exact below_gr h1 g8 h1.size (by simp)


set_option maxRecDepth 100000 in
theorem lifted (os : Os) (started : os.Started) (H : Type) (enc : TypeId × Value → H) :
    ReturnsInHanded {} Try.checked os 5 .any (Rows.windowPartsSpec.pre6 enc Try.prog Try.f5 Rows.windowPartsRow.domain false) (Rows.windowPartsSpec.post enc Try.prog Try.f5 false true false false) := by
  refine returnsInHanded_of_change (C := Try.checked) own started (by kernel_rfl) Try.func5
    (ChangeSpec.witness6 (enc := enc) (C := Try.checked) false ⟨#[], #[.slice none 0 0, .int .i64 0, .int .i64 0, .int .i64 0], []⟩ 8 (by kernel_rfl) (by kernel_rfl) (by kernel_rfl) (by kernel_rfl)) ?_
  intro W base args ds gs before hval0 hW hcnd _
  have hval : ∀ (j : Nat) t v, Try.f5.params[j]? = some t → args[j]? = some v → Value.okWide Try.prog W .any base t v := hval0
  have hW' := hW
  obtain ⟨p, q, hA0, hV, rfl, hfz, hnd⟩ := hW
  have hA : DataW.TrodAll enc Try.prog W 0 (fun _ => true) true Try.f5.params.toList args.toList ds p := hA0
  rw [Try.params5] at hA hval
  obtain ⟨v0, vs0, d0, ds0, p0, q0, hargs, rfl, rfl, h0, r0⟩ := trodAll_cons hA
  obtain ⟨v1, vs1, d1, ds1, p1, q1, rfl, rfl, rfl, h1, r1⟩ := trodAll_cons r0
  obtain ⟨v2, vs2, d2, ds2, p2, q2, rfl, rfl, rfl, h2, r2⟩ := trodAll_cons r1
  obtain ⟨v3, vs3, d3, ds3, p3, q3, rfl, rfl, rfl, h3, r3⟩ := trodAll_cons r2
  obtain ⟨rfl, rfl, rfl⟩ := trodAll_nil r3
  obtain rfl : args = #[v0, v1, v2, v3] := by cases args; simp_all
  obtain ⟨rfl, rfl⟩ := trodVars_none hV
  obtain ⟨a0, len0, cap0, rfl⟩ := okWide_slice Try.underlying22 (hval 0 22 v0 rfl rfl)
  have k0 := h0
  have lt0 : ∀ x ∈ p0, x.block < W.heap.size := by obtain ⟨m, hm⟩ := k0; exact DataW.trod_lt m _ _ _ hm
  obtain ⟨z0, w0⟩ := pts_open h0
  obtain ⟨a1, rfl, rfl, rfl, w1⟩ := open_int Try.underlying3 (hval 1 3 v1 rfl rfl) h1
  obtain ⟨a2, rfl, rfl, rfl, w2⟩ := open_int Try.underlying3 (hval 2 3 v2 rfl rfl) h2
  obtain ⟨a3, rfl, rfl, rfl, w3⟩ := open_int Try.underlying3 (hval 3 3 v3 rfl rfl) h3
  clear hA0 hval0
  refine (walk W a0 len0 cap0 z0 w0 a1 w1 a2 w2 a3 w3).mono fun e W' ⟨he, bel⟩ => ?_
  subst he
  exact ⟨_, rfl, _, _, _, [], _, [], hW', trodAll_mk1 (shut_bool Try.underlying4 _), (trodAll_cons_mk (Below.trod laidOut (by kernel_rfl) (of_decide_eq_true (by kernel_rfl)) k0 bel lt0) (trodAll_cons_mk (shut_int Try.underlying3 w1) (trodAll_cons_mk (shut_int Try.underlying3 w2) (trodAll_cons_mk (shut_int Try.underlying3 w3) trodAll_mk0)))), rfl, bel.frame _, fun h => by cases h⟩

theorem over : Rows.windowPartsRow.holds Try.pinned (OpenSpec.ofChange Rows.windowPartsSpec) :=
  OpenClaim.holds_of_wide 5 Try.f5 rfl rfl rfl rfl rfl rfl rfl ⟨rfl, rfl, rfl, rfl, rfl⟩ rfl rfl rfl rfl rfl (by kernel_rfl) Try.func5 (by kernel_rfl)
    (of_decide_eq_true (by kernel_rfl)) (by unfold Func.isWrapper; first | (rw [if_pos (by decide +kernel)]; kernel_rfl) | (rw [if_neg (by decide +kernel)]; exact ⟨rfl, rfl⟩))
    (fun os started H enc _ => lifted os started H enc)

/-- THE STATEMENT -/
theorem proved : Rows.WindowPartsSaid := over
#print axioms proved
end Go.Proofs.Ytklflekldhhmcaa.windowParts

