/-
  FixedLists holds of the program: for every input the call returns true and leaves what came in as it was. No condition.
-/
import Derived.Test.YtoickcaccielkaaRows
import Derived.Test.YtoickcaccielkaaRefRank
import Derived.WalkKit
import Derived.ProofKit
import Derived.OpenShut
import Derived.ShutString
import Derived.ChangeOld
import Derived.Below
namespace Go.Proofs.Ytoickcaccielkaa.fixedLists
open Go.ChangeShapes Go.WideShapes Go.ChangeAt Go.RowKit
open Go.ChangeMaps (open_string shut_string)
set_option linter.unusedVariables false

theorem own : ownKnob Try.prog.godebug = none := by kernel_rfl
theorem laidOut : laidOutB Try.prog = true := by kernel_rfl

theorem fixSum_any (A : Option Addr) (n c : Nat) (zs : List Int) (w : World) (hn : n ≤ maxLen) (hr : Row w A n 1 (zs.map (.int .i64))) :
    Calls Try.prog 18 #[.slice A n c] w fun e w' => e = .returned (.tuple #[.int .i64 (sumV n zs).1, .int .i64 (sumV n zs).2]) ∧ w = w' := by
  unfold sumV
  by_cases h : 2000 < n ∨ ¬ ∀ x ∈ zs, In x
  · rw [if_pos h]
    exact sum_bad A n c zs w hn hr h
  · rw [if_neg h]
    have h1 : n ≤ 2000 := by omega
    have h2 : ∀ x ∈ zs, In x := Decidable.byContradiction fun h3 => h (Or.inr h3)
    by_cases hs : In zs.sum
    · rw [if_pos hs]
      exact sum_ok A n c zs w h1 hr h2 hs
    · rw [if_neg hs]
      exact sum_over A n c zs w h1 hr h2 hs
theorem fixMean_any (A : Option Addr) (n c : Nat) (zs : List Int) (w : World) (hn : n ≤ maxLen) (hr : Row w A n 1 (zs.map (.int .i64))) :
    Calls Try.prog 20 #[.slice A n c] w fun e w' => e = .returned (.tuple #[.int .i64 (meanV n zs).1, .int .i64 (meanV n zs).2]) ∧ w = w' := by
  unfold meanV
  by_cases h0 : n = 0
  · rw [if_pos h0]
    subst h0
    exact mean_none A c w
  · rw [if_neg h0]
    by_cases h : 2000 < n ∨ ¬ ∀ x ∈ zs, In x
    · rw [if_pos h]
      exact mean_bad A n c zs w (by omega) hn hr h
    · rw [if_neg h]
      have h1 : n ≤ 2000 := by omega
      have h2 : ∀ x ∈ zs, In x := Decidable.byContradiction fun h3 => h (Or.inr h3)
      exact mean_ok A n c zs w (by omega) h1 hr h2
theorem meanV_or (n : Nat) (zs : List Int) : (meanV n zs).2 = 0 ∨ (meanV n zs).1 = 0 := by
  unfold meanV
  split
  · exact Or.inr rfl
  · split
    · exact Or.inr rfl
    · exact Or.inl rfl

set_option maxHeartbeats 4000000 in
set_option maxRecDepth 100000 in
theorem walk (w : World) (a0 : Option Addr) (len0 cap0 : Nat) (z0 : List Int) (w0 : IsRow .i64 w a0 len0 cap0 z0) (a1 : Int) (w1 : (Lit.int .i64 a1).wf = true) :
    Calls Try.prog 7 #[.slice a0 len0 cap0, .int .i64 a1] w fun e w' => e = .returned (.bool true) ∧ Below w.heap.size w w' := by
  have x1 := rng_i64 w1
  clear w1
  have hrow := row_isRow w0
  clear w0
  generalize z0.take len0 = zs at hrow
  have hzl : zs.length = len0 := by simpa using hrow.1
  by_cases c : (len0 : Int) ≤ 2100
  · have hln : len0 ≤ 2100 := by omega
    have hmx : len0 ≤ maxLen := by unfold maxLen; omega
    have mo := meanV_or len0 zs
    have cS : ∀ (A : Option Addr) (cp : Nat) (W : World), Row W A len0 1 (zs.map (.int .i64)) → Calls Try.prog 18 #[.slice A len0 cp] W _ := fun A cp W h => fixSum_any A len0 cp zs W hmx h
    have cRS : ∀ (A : Option Addr) (cp : Nat) (W : World), Row W A len0 1 (zs.map (.int .i64)) → Calls Try.prog 19 #[.slice A len0 cp] W _ := fun A cp W h => refSum_any A len0 cp zs W hmx h
    have cM : ∀ (A : Option Addr) (cp : Nat) (W : World), Row W A len0 1 (zs.map (.int .i64)) → Calls Try.prog 20 #[.slice A len0 cp] W _ := fun A cp W h => fixMean_any A len0 cp zs W hmx h
    have cRM : ∀ (A : Option Addr) (cp : Nat) (W : World), Row W A len0 1 (zs.map (.int .i64)) → Calls Try.prog 21 #[.slice A len0 cp] W _ := fun A cp W h => refMean_any A len0 cp zs W hmx h
    generalize (sumV len0 zs).1 = sv at *
    generalize (sumV len0 zs).2 = se at *
    generalize (meanV len0 zs).1 = mv at *
    generalize (meanV len0 zs).2 = me at *
    have cR : len0 ≤ 200 → ∃ (rv : Int) (ro : Bool), (∀ (A : Option Addr) (cp : Nat) (W : World), Row W A len0 1 (zs.map (.int .i64)) → Calls Try.prog 16 #[.int .i64 a1, .slice A len0 cp] W fun e w' => e = .returned (.tuple #[.int .i64 rv, .bool ro]) ∧ Gr W w') ∧ (∀ (A : Option Addr) (cp : Nat) (W : World), Row W A len0 1 (zs.map (.int .i64)) → Calls Try.prog 23 #[.int .i64 a1, .slice A len0 cp] W fun e w' => e = .returned (.tuple #[.int .i64 rv, .bool ro]) ∧ Gr W w') := by
      intro h2
      by_cases hb : len0 = 0 ∨ a1 < 0 ∨ 100 < a1
      · exact ⟨0, false, fun A cp W _ => (rank_bad a1 A len0 cp W hb x1 hmx).mono fun _ _ ⟨h3, h4⟩ => ⟨h3, by subst h4; exact gr_refl _ _⟩, fun A cp W _ => (refRank_bad a1 A len0 cp W hb x1 hmx).mono fun _ _ ⟨h3, h4⟩ => ⟨h3, by subst h4; exact gr_refl _ _⟩⟩
      · obtain ⟨p, hp⟩ := Int.eq_ofNat_of_zero_le (show 0 ≤ a1 by omega)
        refine ⟨(sortI zs).getD (rankI p zs.length) 0, true, fun A cp W h => ?_, fun A cp W h => ?_⟩
        · have := rank_any p A len0 cp zs W (by omega) (by omega) (by omega) h
          rw [← hp] at this
          exact this
        · have := refRank_any p A len0 cp zs W (by omega) (by omega) (by omega) h
          rw [← hp] at this
          exact this
    replace hrow := Lib.hid hrow
    replace hzl := Lib.hid hzl
    replace cS := Lib.hid cS
    replace cRS := Lib.hid cRS
    replace cM := Lib.hid cM
    replace cRM := Lib.hid cRM
    replace cR := Lib.hid cR
    have mo' : me = 0 ∨ (me ≠ 0 ∧ mv = 0) := by
      rcases mo with h | h
      · exact Or.inl h
      · by_cases h2 : me = 0
        · exact Or.inl h2
        · exact Or.inr ⟨h2, h⟩
    clear mo
    rcases mo' with rfl | ⟨hme, rfl⟩
    · go_enter Try.func7, Try.ntmps7
      go_wp2_with fail
      refine (alive_any _).mono ?_
      rintro e W1 ⟨rfl, g1⟩
      go_wp2_with fail
      refine (lentInts_any a0 len0 cap0 zs _ (by omega) (row_gr hrow.out g1)).mono ?_
      rintro e W2 ⟨A', c', rfl, hL, g2⟩
      have hr2 := Lib.hid (row_gr hrow.out (gr_trans g1 g2))
      have hg2 := Lib.hid (gr_trans g1 g2)
      replace hL := Lib.hid hL
      clear g1 g2
      go_wp2_with fail
      refine (cS.out _ _ _ (lent_row hL.out)).mono ?_
      rintro e W3 ⟨rfl, rfl⟩
      go_wp2_with fail
      refine (cRS.out _ _ _ hr2.out).mono ?_
      rintro e W3 ⟨rfl, rfl⟩
      go_wp2_with fail
      refine (cM.out _ _ _ (lent_row hL.out)).mono ?_
      rintro e W3 ⟨rfl, rfl⟩
      go_wp2_with fail
      refine (cRM.out _ _ _ hr2.out).mono ?_
      rintro e W3 ⟨rfl, rfl⟩
      go_wp2_with fail
      refine (staysInts_any A' a0 len0 c' cap0 zs _ (by omega) hL.out hr2.out).mono ?_
      rintro e W3 ⟨rfl, g3⟩
      by_cases h200 : (200 : Int) < len0
      · go_wp2
        go_ret
        exact ⟨rfl, gr_below (gr_trans hg2.out g3)⟩
      · obtain ⟨rv, ro, hR1, hR2⟩ := cR.out (by omega)
        replace hR1 := Lib.hid hR1
        replace hR2 := Lib.hid hR2
        have hL3 := Lib.hid (lent_gr hL.out g3)
        have hr3 := Lib.hid (row_gr hr2.out g3)
        have hg3 := Lib.hid (gr_trans hg2.out g3)
        clear g3
        go_wp2_with fail
        refine (hR1.out _ _ _ (lent_row hL3.out)).mono ?_
        rintro e W4 ⟨rfl, g4⟩
        go_wp2_with fail
        refine (hR2.out _ _ _ (row_gr hr3.out g4)).mono ?_
        rintro e W5 ⟨rfl, g5⟩
        go_wp2_with fail
        refine (staysInts_any A' a0 len0 c' cap0 zs _ (by omega) (lent_gr hL3.out (gr_trans g4 g5)) (row_gr hr3.out (gr_trans g4 g5))).mono ?_
        rintro e W6 ⟨rfl, g6⟩
        go_wp2
        go_ret
        exact ⟨rfl, gr_below (gr_trans (gr_trans (gr_trans hg3.out g4) g5) g6)⟩
    · have d1 : (me == 0) = false := eqF hme
      have d2 : (me != 0) = true := by simpa using hme
      clear hme
      go_enter Try.func7, Try.ntmps7
      go_wp2_with fail
      refine (alive_any _).mono ?_
      rintro e W1 ⟨rfl, g1⟩
      go_wp2_with fail
      refine (lentInts_any a0 len0 cap0 zs _ (by omega) (row_gr hrow.out g1)).mono ?_
      rintro e W2 ⟨A', c', rfl, hL, g2⟩
      have hr2 := Lib.hid (row_gr hrow.out (gr_trans g1 g2))
      have hg2 := Lib.hid (gr_trans g1 g2)
      replace hL := Lib.hid hL
      clear g1 g2
      go_wp2_with fail
      refine (cS.out _ _ _ (lent_row hL.out)).mono ?_
      rintro e W3 ⟨rfl, rfl⟩
      go_wp2_with fail
      refine (cRS.out _ _ _ hr2.out).mono ?_
      rintro e W3 ⟨rfl, rfl⟩
      go_wp2_with fail
      refine (cM.out _ _ _ (lent_row hL.out)).mono ?_
      rintro e W3 ⟨rfl, rfl⟩
      go_wp2_with fail
      refine (cRM.out _ _ _ hr2.out).mono ?_
      rintro e W3 ⟨rfl, rfl⟩
      go_wp2_with fail
      refine (staysInts_any A' a0 len0 c' cap0 zs _ (by omega) hL.out hr2.out).mono ?_
      rintro e W3 ⟨rfl, g3⟩
      by_cases h200 : (200 : Int) < len0
      · go_wp2
        go_ret
        exact ⟨rfl, gr_below (gr_trans hg2.out g3)⟩
      · obtain ⟨rv, ro, hR1, hR2⟩ := cR.out (by omega)
        replace hR1 := Lib.hid hR1
        replace hR2 := Lib.hid hR2
        have hL3 := Lib.hid (lent_gr hL.out g3)
        have hr3 := Lib.hid (row_gr hr2.out g3)
        have hg3 := Lib.hid (gr_trans hg2.out g3)
        clear g3
        go_wp2_with fail
        refine (hR1.out _ _ _ (lent_row hL3.out)).mono ?_
        rintro e W4 ⟨rfl, g4⟩
        go_wp2_with fail
        refine (hR2.out _ _ _ (row_gr hr3.out g4)).mono ?_
        rintro e W5 ⟨rfl, g5⟩
        go_wp2_with fail
        refine (staysInts_any A' a0 len0 c' cap0 zs _ (by omega) (lent_gr hL3.out (gr_trans g4 g5)) (row_gr hr3.out (gr_trans g4 g5))).mono ?_
        rintro e W6 ⟨rfl, g6⟩
        go_wp2
        go_ret
        exact ⟨rfl, gr_below (gr_trans (gr_trans (gr_trans hg3.out g4) g5) g6)⟩
  · have c' : 2100 < (len0 : Int) := by omega
    clear c hzl
    go_enter Try.func7, Try.ntmps7
    go_wp2_with (go_at_call 9; refine (alive_any _).mono ?_; rintro e w1 ⟨rfl, B⟩)
    go_ret
    exact ⟨rfl, gr_below B⟩


set_option maxRecDepth 100000 in
theorem lifted (os : Os) (started : os.Started) (H : Type) (enc : TypeId × Value → H) :
    ReturnsInHanded {} Try.checked os 7 .any (Rows.fixedListsSpec.pre6 enc Try.prog Try.f7 Rows.fixedListsRow.domain false) (Rows.fixedListsSpec.post enc Try.prog Try.f7 false true false false) := by
  refine returnsInHanded_of_change (C := Try.checked) own started (by kernel_rfl) Try.func7
    (ChangeSpec.witness6 (enc := enc) (C := Try.checked) false ⟨#[], #[.slice none 0 0, .int .i64 0], []⟩ 8 (by kernel_rfl) (by kernel_rfl) (by kernel_rfl) (by kernel_rfl)) ?_
  intro W base args ds gs before hval0 hW hcnd _
  have hval : ∀ (j : Nat) t v, Try.f7.params[j]? = some t → args[j]? = some v → Value.okWide Try.prog W .any base t v := hval0
  have hW' := hW
  obtain ⟨p, q, hA0, hV, rfl, hfz, hnd⟩ := hW
  have hA : DataW.TrodAll enc Try.prog W 0 (fun _ => true) true Try.f7.params.toList args.toList ds p := hA0
  rw [Try.params7] at hA hval
  obtain ⟨v0, vs0, d0, ds0, p0, q0, hargs, rfl, rfl, h0, r0⟩ := trodAll_cons hA
  obtain ⟨v1, vs1, d1, ds1, p1, q1, rfl, rfl, rfl, h1, r1⟩ := trodAll_cons r0
  obtain ⟨rfl, rfl, rfl⟩ := trodAll_nil r1
  obtain rfl : args = #[v0, v1] := by cases args; simp_all
  obtain ⟨rfl, rfl⟩ := trodVars_none hV
  obtain ⟨a0, len0, cap0, rfl⟩ := okWide_slice Try.underlying30 (hval 0 30 v0 rfl rfl)
  have k0 := h0
  have lt0 : ∀ x ∈ p0, x.block < W.heap.size := by obtain ⟨m, hm⟩ := k0; exact DataW.trod_lt m _ _ _ hm
  obtain ⟨z0, w0⟩ := isRow_open Try.underlying30 Try.underlying3 (by kernel_rfl) h0 rfl
  obtain ⟨a1, rfl, rfl, rfl, w1⟩ := open_int Try.underlying3 (hval 1 3 v1 rfl rfl) h1
  clear hA0 hval0
  refine (walk W a0 len0 cap0 z0 w0 a1 w1).mono fun e W' ⟨he, bel⟩ => ?_
  subst he
  exact ⟨_, rfl, _, _, _, [], _, [], hW', trodAll_mk1 (shut_bool Try.underlying4 _), (trodAll_cons_mk (Below.trod laidOut (by kernel_rfl) (of_decide_eq_true (by kernel_rfl)) k0 bel lt0) (trodAll_cons_mk (shut_int Try.underlying3 w1) trodAll_mk0)), rfl, bel.frame _, fun h => by cases h⟩

theorem over : Rows.fixedListsRow.holds Try.pinned (OpenSpec.ofChange Rows.fixedListsSpec) :=
  OpenClaim.holds_of_wide 7 Try.f7 rfl rfl rfl rfl rfl rfl rfl ⟨rfl, rfl, rfl, rfl, rfl⟩ rfl rfl rfl rfl rfl (by kernel_rfl) Try.func7 (by kernel_rfl)
    (of_decide_eq_true (by kernel_rfl)) (by unfold Func.isWrapper; first | (rw [if_pos (by decide +kernel)]; kernel_rfl) | (rw [if_neg (by decide +kernel)]; exact ⟨rfl, rfl⟩))
    (fun os started H enc _ => lifted os started H enc)

/-- THE STATEMENT -/
theorem proved : Rows.FixedListsSaid := over
#print axioms proved
end Go.Proofs.Ytoickcaccielkaa.fixedLists

