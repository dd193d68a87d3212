/-
  WindowGrows holds of the program: for every input the call returns true and leaves what came in as it was. No condition.
-/
import Derived.Test.YtklflekldhhmcaaRows
import Derived.Test.YtklflekldhhmcaaWinGrowMath
import Derived.WalkKit
import Derived.ProofKit
import Derived.OpenShut
import Derived.ShutString
import Derived.ChangeOld
import Derived.Below
namespace Go.Proofs.Ytklflekldhhmcaa.windowGrows
open Go.ChangeShapes Go.WideShapes Go.ChangeAt Go.RowKit
open Go.ChangeMaps (open_string shut_string)
set_option linter.unusedVariables false

theorem own : ownKnob Try.prog.godebug = none := by kernel_rfl
theorem laidOut : laidOutB Try.prog = true := by kernel_rfl

def RisesTo (zs : List (Int × Int)) (k : Nat) : Prop := ∀ j, j < k → 0 ≤ pV zs j ∧ pV zs j ≤ 1000000000 ∧ (0 < j → pV zs (j - 1) ≤ pV zs j)
theorem risesTo_all {zs : List (Int × Int)} (h : RisesTo zs zs.length) : Rises zs := ⟨fun k hk => (h k hk).1, fun k hk => (h k hk).2.1, fun k h0 hk => (h k hk).2.2 h0⟩

set_option maxHeartbeats 4000000 in
set_option maxRecDepth 100000 in
theorem walk (w : World) (a0 : Option Addr) (len0 cap0 : Nat) (z0 : List (Int × Int)) (w0 : IsPts w a0 len0 cap0 z0) (a1 : Int) (w1 : (Lit.int .i64 a1).wf = true) :
    Calls Try.prog 6 #[.slice a0 len0 cap0, .int .i64 a1] w fun e w' => e = .returned (.bool true) ∧ Below w.heap.size w w' := by
  have x1 := rng_i64 w1
  obtain ⟨hr, hcap, hcap2, _⟩ := w0
  clear w1
  have hl := pt_len hr
  have cP := fun W (g : Gr w W) => refPoints_any a0 len0 cap0 z0 W (by omega) (pt_gr hr g)
  by_cases h2 : (len0 : Int) < 2
  · replace hl := Lib.hid hl
    clear hr cP
    go_enter Try.func6, Try.ntmps6
    go_wp2_with fail
    refine (alive_any _).mono ?_
    rintro e W2 ⟨rfl, g2⟩
    go_wp2
    go_ret
    exact ⟨rfl, gr_below g2⟩
  · cases hrb : rightB z0 with
    | false =>
      rw [hrb] at cP
      replace cP := Lib.hid cP
      replace hl := Lib.hid hl
      clear hr hrb
      go_enter Try.func6, Try.ntmps6
      go_wp2_with fail
      refine (cP.out _ (gr_refl _ _)).mono ?_
      rintro e W1 ⟨rfl, g1⟩
      go_wp2_with fail
      refine (alive_any _).mono ?_
      rintro e W2 ⟨rfl, g2⟩
      go_wp2
      go_ret
      exact ⟨rfl, gr_below (gr_trans g1 g2)⟩
    | true =>
      rw [hrb] at cP
      have h25 : len0 ≤ 25 := by rw [← hl]; exact (right_iff.1 hrb).1
      replace cP := Lib.hid cP
      replace hl := Lib.hid hl
      replace hr := Lib.hid hr
      replace hrb := Lib.hid hrb
      go_enter Try.func6, Try.ntmps6
      go_wp2_with fail
      refine (cP.out _ (gr_refl _ _)).mono ?_
      rintro e W1 ⟨rfl, g1⟩
      go_wp2_with fail
      refine (alive_any _).mono ?_
      rintro e W2 ⟨rfl, g2⟩
      have g12 := Lib.hid (gr_trans g1 g2)
      clear g1 g2
      go_wp2_with fail
      go_loopw [5] (fun i wr => ∃ k : Nat, k ≤ len0 ∧ i = .int .i64 k ∧ Hid (RisesTo z0 k) ∧ Hid (Gr w wr)) (fun i _ => len0 - (intOf i).toNat)
      case atStart => exact ⟨0, Nat.zero_le _, rfl, (fun j hj => by omega), g12.out⟩
      case round =>
        obtain ⟨k, hk, rfl, hok, hg⟩ := hrel
        by_cases hlt : k < len0
        · obtain ⟨B, o, rfl, hB, hc1, hc2⟩ := pt_cell (pt_gr hr.out hg.out) hlt
          have hki : (k : Int) < (len0 : Int) := by omega
          have hk0 : (0 : Int) ≤ (k : Int) := by omega
          have hyes : 0 ≤ pV z0 k → pV z0 k ≤ 1000000000 → (0 < k → pV z0 (k - 1) ≤ pV z0 k) → RisesTo z0 (k + 1) := fun h1 h2 h3 j hj => by
            rcases Nat.lt_succ_iff_lt_or_eq.1 hj with h5 | h5
            · exact hok.out j h5
            · rw [h5]; exact ⟨h1, h2, h3⟩
          have hprev : 0 < k → wr.cell? ⟨B, o + (k - 1) * 2 + 1, none⟩ = some (.int .i64 (pV z0 (k - 1))) := fun h => (pt_cells (pt_gr hr.out hg.out) (k := k - 1) (by omega)).2
          generalize pV z0 (k - 1) = P at *
          generalize pT z0 k = T at *
          generalize pV z0 k = V at *
          by_cases t0 : V < 0
          · clear hyes hprev
            go_wp2_with fail
            go_quiet (fail)
            go_wp2
            go_ret
            exact ⟨rfl, gr_below (gr_trans hg.out (gr_drewN _ _ _))⟩
          · have t0' : decide (V < 0) = false := decide_eq_false t0
            by_cases t1 : 1000000000 < V
            · clear hyes hprev t0
              go_wp2_with fail
              go_quiet (fail)
              go_wp2
              go_ret
              exact ⟨rfl, gr_below (gr_trans hg.out (gr_drewN _ _ _))⟩
            · have t1' : decide (1000000000 < V) = false := decide_eq_false t1
              by_cases hk1 : 0 < k
              · have k1 : decide ((0 : Int) < (k : Int)) = true := decide_eq_true (by omega)
                have k1n : decide (0 < k) = true := decide_eq_true hk1
                have hp := hprev hk1
                have y0 : (0 : Int) ≤ (k : Int) - 1 := by omega
                have y0' : (1 : Int) ≤ (k : Int) := by omega
                have y1 : (k : Int) - 1 < (len0 : Int) := by omega
                have y2 : ((k : Int) - 1).toNat = k - 1 := by omega
                have y3 : IntKind.i64.wrap ((k : Int) - 1) = (k : Int) - 1 := IntWalk.i64_in _ (by omega)
                by_cases hVP : V < P
                · have d3 : decide (V < P) = true := decide_eq_true hVP
                  clear hyes hprev
                  go_wp2_with fail
                  go_quiet (fail)
                  go_wp2
                  go_ret
                  exact ⟨rfl, gr_below (gr_trans hg.out (gr_drewN _ _ _))⟩
                · have d3 : decide (V < P) = false := decide_eq_false hVP
                  have hn := Lib.hid (hyes (by omega) (by omega) (fun _ => by omega))
                  clear hyes hprev
                  go_wp2_with fail
                  go_quiet (fail)
                  go_wp2
                  go_roundw
                  case rel => exact ⟨k + 1, by omega, by go_num, hn.out, gr_trans hg.out (gr_drewN _ _ _)⟩
                  case measure => simp [intOf]; omega
              · have k1 : decide ((0 : Int) < (k : Int)) = false := decide_eq_false (by omega)
                have k1n : decide (0 < k) = false := decide_eq_false hk1
                have hn := Lib.hid (hyes (by omega) (by omega) (fun h => by omega))
                clear hyes hprev
                go_wp2_with fail
                go_quiet (fail)
                go_wp2
                go_roundw
                case rel => exact ⟨k + 1, by omega, by go_num, hn.out, gr_trans hg.out (gr_drewN _ _ _)⟩
                case measure => simp [intOf]; omega
        · obtain rfl : k = len0 := by omega
          obtain ⟨m, rfl⟩ : ∃ m, k = m + 1 := ⟨k - 1, by omega⟩
          have hlq := hl.out
          have hR : Rises z0 := risesTo_all (by rw [hlq]; exact hok.out)
          obtain ⟨e1, e2, e3⟩ := rises_do hrb.out hR (by omega)
          have e3' := e3 (by omega)
          rw [hlq, Nat.add_sub_cancel] at e1
          have cI : ∀ W (g : Gr w W), Calls Try.prog 10 #[.string (txt incL), .slice a0 (m + 1) cap0] W fun e w' => e = .returned (.tuple #[.int .i64 (pV z0 m - pV z0 0), .bool true, .int .i64 0]) ∧ Gr W w' := fun W g => by
            have := do_inc a0 (m + 1) cap0 z0 W (by omega) (pt_gr hr.out g)
            unfold DoIncPost ret3 at this
            rw [e1, e2, e3'] at this
            exact this
          have cA : ∀ (K : Nat), 1 ≤ K → K ≤ m → ∀ W (g : Gr w W), Calls Try.prog 10 #[.string (txt incL), .slice a0 K cap0] W fun e w' => ∃ b, e = .returned (.tuple #[.int .i64 (pV z0 (K - 1) - pV z0 0), .bool b, .int .i64 0]) ∧ Gr W w' := fun K h1 h2 W g => by
            have hrt : PtRow W a0 K (z0.take K) := by
              have := row_take (pt_gr hr.out g) K (by omega)
              rw [← pcs_take] at this
              exact this
            have hlt : (z0.take K).length = K := by rw [List.length_take, hlq]; omega
            obtain ⟨f1, f2, _⟩ := rises_do (right_take hrb.out K) (rises_take hR K) (by omega)
            rw [hlt, (pV_take z0 (show K - 1 < K by omega)).1, (pV_take z0 (show 0 < K by omega)).1] at f1
            have := do_inc a0 K cap0 (z0.take K) W (by omega) hrt
            unfold DoIncPost ret3 at this
            rw [f1, f2] at this
            exact this.mono fun _ _ h => ⟨_, h⟩
          have cB : ∀ (K : Nat), 1 ≤ K → K ≤ m → ∀ (A' : Option Addr) (cp : Nat), (∀ B o, a0 = some ⟨B, o, none⟩ → K - 1 < m + 1 → A' = some ⟨B, o + (K - 1) * 2, none⟩) → ∀ (nn : Nat), nn = m + 1 - (K - 1) → ∀ W (g : Gr w W), Calls Try.prog 10 #[.string (txt incL), .slice A' nn cp] W fun e w' => ∃ b, e = .returned (.tuple #[.int .i64 (pV z0 m - pV z0 (K - 1)), .bool b, .int .i64 0]) ∧ Gr W w' := fun K h1 h2 A' cp hA nn hnn W g => by
            subst hnn
            have hrd : PtRow W A' (m + 1 - (K - 1)) (z0.drop (K - 1)) := by
              have := row_drop (pt_gr hr.out g) (K - 1) A' hA (by omega)
              rw [← pcs_drop] at this
              exact this
            have hlt : (z0.drop (K - 1)).length = m + 1 - (K - 1) := by rw [List.length_drop, hlq]
            obtain ⟨f1, f2, _⟩ := rises_do (right_drop hrb.out (K - 1)) (rises_drop hR (K - 1)) (by omega)
            rw [hlt, (pV_drop z0 (K - 1) _).1, (pV_drop z0 (K - 1) 0).1, Nat.add_zero, show K - 1 + (m + 1 - (K - 1) - 1) = m by omega] at f1
            have := do_inc A' (m + 1 - (K - 1)) cp (z0.drop (K - 1)) W (by omega) hrd
            unfold DoIncPost ret3 at this
            rw [f1, f2] at this
            exact this.mono fun _ _ h => ⟨_, h⟩
          obtain ⟨B, o, rfl, hB, hm1, hm2⟩ := pt_cell (pt_gr hr.out hg.out) (k := m) (by omega)
          have h01 := (pt_cells (pt_gr hr.out hg.out) (k := 0) (by omega)).2
          have bM1 := hR.low m (by omega)
          have bM2 := hR.high m (by omega)
          have b01 := hR.low 0 (by omega)
          have b02 := hR.high 0 (by omega)
          have bK : ∀ K, K < m + 1 → 0 ≤ pV z0 K ∧ pV z0 K ≤ 1000000000 := fun K h => ⟨hR.low K (by omega), hR.high K (by omega)⟩
          generalize pV z0 m = VM at *
          generalize pV z0 0 = V0 at *
          replace cI := Lib.hid cI
          replace cA := Lib.hid cA
          replace cB := Lib.hid cB
          replace bK := Lib.hid bK
          replace hm2 := Lib.hid hm2
          replace h01 := Lib.hid h01
          replace hR := Lib.hid hR
          obtain ⟨wo, rfl⟩ : ∃ wo : World, wo = wr := ⟨_, rfl⟩
          clear e1 e2 e3 e3' hlq hm1
          go_wp2_with fail
          refine (cI.out _ hg.out).mono ?_
          rintro e W3 ⟨rfl, g3⟩
          have hg3 := Lib.hid (gr_trans hg.out g3)
          have hM3 := Lib.hid (gr_cell g3 hm2.out)
          have h03 := Lib.hid (gr_cell g3 h01.out)
          clear g3
          go_upto_region 9 with fail
          go_cut [9] (fun s9 wx => ∃ K : Nat, s9 = .int .i64 K ∧ 1 ≤ K ∧ K ≤ m ∧ W3 = wx)
          case first =>
            go_wp2_with fail
            go_meet
            obtain ⟨K, hK, hK1, hK2⟩ := cut_place3 a1 m (by omega) (by omega)
            exact ⟨K, congrArg (Value.int .i64) hK, hK1, hK2, rfl⟩
          case rest =>
            obtain ⟨K, rfl, hK1, hK2, rfl⟩ := hcut
            obtain ⟨J, rfl⟩ : ∃ J, K = J + 1 := ⟨K - 1, by omega⟩
            have cA' := fun W g => cA.out (J + 1) hK1 hK2 W g
            have cB' := fun A' cp hA nn hnn W g => cB.out (J + 1) hK1 hK2 A' cp hA nn hnn W g
            have hb := bK.out J (by omega)
            simp only [Nat.add_sub_cancel] at cA' cB'
            generalize pV z0 J = VK at *
            obtain ⟨hb1, hb2⟩ := hb
            replace cA' := Lib.hid cA'
            replace cB' := Lib.hid cB'
            have hJi : (J : Int) + 1 ≤ (cap0 : Int) := by omega
            have hJm : (J : Int) + 1 ≤ (m : Int) := by omega
            have hJ0 : (0 : Int) ≤ (J : Int) := by omega
            have hmc : (m : Int) + 1 ≤ (cap0 : Int) := by omega
            have hcJ : ¬ cap0 = J := by omega
            have sm : IntKind.i64.wrap (VM - V0) = VM - V0 := IntWalk.i64_in _ (by omega)
            have sm2 : IntKind.i64.wrap (VK - V0 + (VM - VK)) = VK - V0 + (VM - VK) := IntWalk.i64_in _ (by omega)
            have d1 : ((VK - V0 + (VM - VK)) == (VM - V0)) = true := eqT (by omega)
            have mm : IntKind.i64.wrap (m : Int) = (m : Int) := IntWalk.i64_in _ (by omega)
            have m0 : (0 : Int) ≤ (m : Int) := by omega
            have m1 : (m : Int) < (m : Int) + 1 := by omega
            go_wp2_with fail
            refine (cA'.out _ hg3.out).mono ?_
            rintro e W4 ⟨b4, rfl, g4⟩
            have hg4 := Lib.hid (gr_trans hg3.out g4)
            have hM4 := Lib.hid (gr_cell g4 hM3.out)
            have h04 := Lib.hid (gr_cell g4 h03.out)
            clear g4
            go_wp2_with fail
            all_goals
              refine (cB'.out _ _ (fun B' o' e h => by
                have e2 := Option.some.inj e
                injection e2 with e3 e4
                subst e3 e4
                first | rfl | (exfalso; omega) | simp) _ (by omega) _ hg4.out).mono ?_
              rintro e W5 ⟨b5, rfl, g5⟩
              have hg5 := Lib.hid (gr_trans hg4.out g5)
              have hM5 := gr_cell g5 hM4.out
              have h05 := gr_cell g5 h04.out
              clear g5
              go_wp2_with fail
              go_quiet (fail)
              go_wp2
              go_ret
              exact ⟨rfl, gr_below (gr_trans hg5.out (gr_drewN _ _ _))⟩


set_option maxRecDepth 100000 in
theorem lifted (os : Os) (started : os.Started) (H : Type) (enc : TypeId × Value → H) :
    ReturnsInHanded {} Try.checked os 6 .any (Rows.windowGrowsSpec.pre6 enc Try.prog Try.f6 Rows.windowGrowsRow.domain false) (Rows.windowGrowsSpec.post enc Try.prog Try.f6 false true false false) := by
  refine returnsInHanded_of_change (C := Try.checked) own started (by kernel_rfl) Try.func6
    (ChangeSpec.witness6 (enc := enc) (C := Try.checked) false ⟨#[], #[.slice none 0 0, .int .i64 0], []⟩ 8 (by kernel_rfl) (by kernel_rfl) (by kernel_rfl) (by kernel_rfl)) ?_
  intro W base args ds gs before hval0 hW hcnd _
  have hval : ∀ (j : Nat) t v, Try.f6.params[j]? = some t → args[j]? = some v → Value.okWide Try.prog W .any base t v := hval0
  have hW' := hW
  obtain ⟨p, q, hA0, hV, rfl, hfz, hnd⟩ := hW
  have hA : DataW.TrodAll enc Try.prog W 0 (fun _ => true) true Try.f6.params.toList args.toList ds p := hA0
  rw [Try.params6] at hA hval
  obtain ⟨v0, vs0, d0, ds0, p0, q0, hargs, rfl, rfl, h0, r0⟩ := trodAll_cons hA
  obtain ⟨v1, vs1, d1, ds1, p1, q1, rfl, rfl, rfl, h1, r1⟩ := trodAll_cons r0
  obtain ⟨rfl, rfl, rfl⟩ := trodAll_nil r1
  obtain rfl : args = #[v0, v1] := by cases args; simp_all
  obtain ⟨rfl, rfl⟩ := trodVars_none hV
  obtain ⟨a0, len0, cap0, rfl⟩ := okWide_slice Try.underlying22 (hval 0 22 v0 rfl rfl)
  have k0 := h0
  have lt0 : ∀ x ∈ p0, x.block < W.heap.size := by obtain ⟨m, hm⟩ := k0; exact DataW.trod_lt m _ _ _ hm
  obtain ⟨z0, w0⟩ := pts_open h0
  obtain ⟨a1, rfl, rfl, rfl, w1⟩ := open_int Try.underlying3 (hval 1 3 v1 rfl rfl) h1
  clear hA0 hval0
  refine (walk W a0 len0 cap0 z0 w0 a1 w1).mono fun e W' ⟨he, bel⟩ => ?_
  subst he
  exact ⟨_, rfl, _, _, _, [], _, [], hW', trodAll_mk1 (shut_bool Try.underlying4 _), (trodAll_cons_mk (Below.trod laidOut (by kernel_rfl) (of_decide_eq_true (by kernel_rfl)) k0 bel lt0) (trodAll_cons_mk (shut_int Try.underlying3 w1) trodAll_mk0)), rfl, bel.frame _, fun h => by cases h⟩

theorem over : Rows.windowGrowsRow.holds Try.pinned (OpenSpec.ofChange Rows.windowGrowsSpec) :=
  OpenClaim.holds_of_wide 6 Try.f6 rfl rfl rfl rfl rfl rfl rfl ⟨rfl, rfl, rfl, rfl, rfl⟩ rfl rfl rfl rfl rfl (by kernel_rfl) Try.func6 (by kernel_rfl)
    (of_decide_eq_true (by kernel_rfl)) (by unfold Func.isWrapper; first | (rw [if_pos (by decide +kernel)]; kernel_rfl) | (rw [if_neg (by decide +kernel)]; exact ⟨rfl, rfl⟩))
    (fun os started H enc _ => lifted os started H enc)

/-- THE STATEMENT -/
theorem proved : Rows.WindowGrowsSaid := over
#print axioms proved
end Go.Proofs.Ytklflekldhhmcaa.windowGrows

