/-
  WindowEach holds of the program: for every input the call returns true and leaves what came in as it was. No condition.
-/
import Derived.Test.YtklflekldhhmcaaRows
import Derived.Test.YtklflekldhhmcaaWinEachMath
import Derived.WalkKit
import Derived.ProofKit
import Derived.OpenShut
import Derived.ShutString
import Derived.ChangeOld
import Derived.Below
namespace Go.Proofs.Ytklflekldhhmcaa.windowEach
open Go.ChangeShapes Go.WideShapes Go.ChangeAt Go.RowKit
open Go.ChangeMaps (open_string shut_string)
set_option linter.unusedVariables false

theorem own : ownKnob Try.prog.godebug = none := by kernel_rfl
theorem laidOut : laidOutB Try.prog = true := by kernel_rfl
set_option maxHeartbeats 4000000 in
set_option maxRecDepth 100000 in
theorem walk (w : World) (a0 : Option Addr) (len0 cap0 : Nat) (z0 : List (Int × Int)) (w0 : IsPts w a0 len0 cap0 z0) :
    Calls Try.prog 3 #[.slice a0 len0 cap0] w fun e w' => e = .returned (.bool true) ∧ Below w.heap.size w w' := by
  obtain ⟨hr, hcap, hcap2, _⟩ := w0
  have hl := pt_len hr
  have cP := fun W (g : Gr w W) => refPoints_any a0 len0 cap0 z0 W (by omega) (pt_gr hr g)
  by_cases h2 : (len0 : Int) < 2
  · replace hl := Lib.hid hl
    clear hr cP
    go_enter Try.func3, Try.ntmps3
    go_wp2_with fail
    refine (alive_any _).mono ?_
    rintro e W2 ⟨rfl, g2⟩
    go_wp2
    go_ret
    exact ⟨rfl, gr_below g2⟩
  by_cases h25 : 25 < (len0 : Int)
  · replace hl := Lib.hid hl
    clear hr cP
    go_enter Try.func3, Try.ntmps3
    go_wp2_with fail
    refine (alive_any _).mono ?_
    rintro e W2 ⟨rfl, g2⟩
    go_wp2
    go_ret
    exact ⟨rfl, gr_below g2⟩
  cases hrb : rightB z0 with
  | false =>
    rw [hrb] at cP
    replace cP := Lib.hid cP
    replace hl := Lib.hid hl
    clear hr hrb
    go_enter Try.func3, Try.ntmps3
    go_wp2_with fail
    refine (cP.out _ (gr_refl _ _)).mono ?_
    rintro e W1 ⟨rfl, g1⟩
    go_wp2_with fail
    refine (alive_any _).mono ?_
    rintro e W2 ⟨rfl, g2⟩
    go_wp2
    go_ret
    exact ⟨rfl, gr_below (gr_trans g1 g2)⟩
  | true =>
    rw [hrb] at cP
    replace cP := Lib.hid cP
    replace hl := Lib.hid hl
    replace hr := Lib.hid hr
    replace hrb := Lib.hid hrb
    go_enter Try.func3, Try.ntmps3
    go_wp2_with fail
    refine (cP.out _ (gr_refl _ _)).mono ?_
    rintro e W1 ⟨rfl, g1⟩
    go_wp2_with fail
    refine (alive_any _).mono ?_
    rintro e W2 ⟨rfl, g2⟩
    have g12 := Lib.hid (gr_trans g1 g2)
    clear g1 g2
    go_wp2_with fail
    go_loopw [3] (fun i wr => ∃ k : Nat, k ≤ len0 ∧ i = .int .i64 k ∧ Hid (∀ j, j < k → -1000000000 ≤ pV z0 j ∧ pV z0 j ≤ 1000000000) ∧ Hid (Gr w wr)) (fun i _ => len0 - (intOf i).toNat)
    case atStart => exact ⟨0, Nat.zero_le _, rfl, (fun j hj => by omega), g12.out⟩
    case round =>
      obtain ⟨k, hk, rfl, hok, hg⟩ := hrel
      by_cases hlt : k < len0
      · obtain ⟨B, o, rfl, hB, hc1, hc2⟩ := pt_cell (pt_gr hr.out hg.out) hlt
        have hki : (k : Int) < (len0 : Int) := by omega
        have hk0 : (0 : Int) ≤ (k : Int) := by omega
        have hyes : -1000000000 ≤ pV z0 k → pV z0 k ≤ 1000000000 → (∀ j, j < k + 1 → -1000000000 ≤ pV z0 j ∧ pV z0 j ≤ 1000000000) := fun h1 h2 j hj => by
          rcases Nat.lt_succ_iff_lt_or_eq.1 hj with h5 | h5
          · exact hok.out j h5
          · rw [h5]; exact ⟨h1, h2⟩
        generalize pV z0 k = V at *
        by_cases t0 : 1000000000 < V
        · clear hyes
          go_wp2
          go_ret
          exact ⟨rfl, gr_below hg.out⟩
        · by_cases t1 : V < -1000000000
          · clear hyes
            go_wp2
            go_ret
            exact ⟨rfl, gr_below hg.out⟩
          · have hn := Lib.hid (hyes (by omega) (by omega))
            clear hyes
            go_wp2
            go_roundw
            case rel => exact ⟨k + 1, by omega, by go_num, hn.out, hg.out⟩
            case measure => simp [intOf]; omega
      · obtain rfl : k = len0 := by omega
        obtain ⟨m, rfl⟩ : ∃ m, k = m + 1 := ⟨k - 1, by omega⟩
        obtain ⟨ef1, ef2, ef3, ef4, ef5⟩ := each_facts hr.out hrb.out (by omega) hok.out
        have hri := riseV_in z0
        have hrp : In (rateP z0).1 := doV_in _ _ _
        have hlq := hl.out
        have dI : doInc z0 = ((riseV z0).1, true, 0) := by
          unfold doInc incV
          rw [if_pos hrb.out, if_neg (by omega), ef2]
          rfl
        have cS : ∀ W (g : Gr w W), Calls Try.prog 10 #[.string (txt sumL), .slice a0 (m + 1) cap0] W fun e w' => e = .returned (.tuple #[.int .i64 (nums z0).sum, .bool true, .int .i64 0]) ∧ Gr W w' := fun W g => do_sum a0 (m + 1) cap0 z0 W (by omega) (pt_gr hr.out g) hrb.out ef1
        have cA : ∀ W (g : Gr w W), Calls Try.prog 10 #[.string (txt avgL), .slice a0 (m + 1) cap0] W fun e w' => e = .returned (.tuple #[.int .i64 ((nums z0).sum.tdiv ((m : Int) + 1)), .bool true, .int .i64 0]) ∧ Gr W w' := fun W g => do_avg a0 (m + 1) cap0 z0 W (by omega) (pt_gr hr.out g) hrb.out
        have cMn : ∀ W (g : Gr w W), Calls Try.prog 10 #[.string (txt minL), .slice a0 (m + 1) cap0] W fun e w' => e = .returned (.tuple #[.int .i64 (Lib.minOf (nums z0)), .bool true, .int .i64 0]) ∧ Gr W w' := fun W g => do_min a0 (m + 1) cap0 z0 W (by omega) (pt_gr hr.out g) hrb.out
        have cMx : ∀ W (g : Gr w W), Calls Try.prog 10 #[.string (txt maxL), .slice a0 (m + 1) cap0] W fun e w' => e = .returned (.tuple #[.int .i64 (Lib.maxOf (nums z0)), .bool true, .int .i64 0]) ∧ Gr W w' := fun W g => do_max a0 (m + 1) cap0 z0 W (by omega) (pt_gr hr.out g) hrb.out
        have cN : ∀ W (g : Gr w W), Calls Try.prog 10 #[.string (txt countL), .slice a0 (m + 1) cap0] W fun e w' => e = .returned (.tuple #[.int .i64 ((m : Int) + 1), .bool true, .int .i64 0]) ∧ Gr W w' := fun W g => do_count a0 (m + 1) cap0 z0 W (by omega) (pt_gr hr.out g) hrb.out
        have cL : ∀ W (g : Gr w W), Calls Try.prog 10 #[.string (txt lastL), .slice a0 (m + 1) cap0] W fun e w' => e = .returned (.tuple #[.int .i64 ((nums z0).getD m 0), .bool true, .int .i64 0]) ∧ Gr W w' := fun W g => do_last a0 (m + 1) cap0 z0 W (by omega) (pt_gr hr.out g) hrb.out
        have cI : ∀ W (g : Gr w W), Calls Try.prog 10 #[.string (txt incL), .slice a0 (m + 1) cap0] W fun e w' => e = .returned (.tuple #[.int .i64 (riseV z0).1, .bool true, .int .i64 0]) ∧ Gr W w' := fun W g => by
          have := do_inc a0 (m + 1) cap0 z0 W (by omega) (pt_gr hr.out g)
          unfold DoIncPost ret3 at this
          rw [dI] at this
          exact this
        have cR : ∀ W (g : Gr w W), Calls Try.prog 10 #[.string (txt rateL), .slice a0 (m + 1) cap0] W fun e w' => e = .returned (.tuple #[.int .i64 ((rateP z0).1.tdiv (pT z0 m - pT z0 0)), .bool ((rateP z0).2 == 0), .int .i64 (rateP z0).2]) ∧ Gr W w' := fun W g => do_rate a0 m cap0 z0 W (by omega) (pt_gr hr.out g) hrb.out ef2
        have hltT := right_times hrb.out m (by omega) (by omega)
        have ht0 := okP_iff.1 ((right_iff.1 hrb.out).2 0 (by omega))
        have htm := okP_iff.1 ((right_iff.1 hrb.out).2 m (by omega))
        obtain ⟨t00, t01, _⟩ := ht0
        obtain ⟨tm0, tm1, _⟩ := htm
        obtain ⟨B, o, rfl, hB, hm1, _⟩ := pt_cell (pt_gr hr.out hg.out) (k := m) (by omega)
        have h01 := (pt_cells (pt_gr hr.out hg.out) (k := 0) (by omega)).1
        simp only [Nat.zero_mul, Nat.add_zero] at h01
        have hM := in_tdiv (b := (m : Int) + 1) ef1
        unfold In at hri hrp
        have hM' := hM
        unfold In at hM'
        obtain ⟨M, hMd⟩ : ∃ M, M = (nums z0).sum.tdiv ((m : Int) + 1) := ⟨_, rfl⟩
        rw [← hMd] at hM hM' ef3
        have cA' : ∀ W (g : Gr w W), Calls Try.prog 10 #[.string (txt avgL), .slice (some ⟨B, o, none⟩) (m + 1) cap0] W fun e w' => e = .returned (.tuple #[.int .i64 M, .bool true, .int .i64 0]) ∧ Gr W w' := by rw [hMd]; exact cA
        have hMq : wrap64 ((nums z0).sum.tdiv ((m : Int) + 1)) = M := by rw [← hMd]; exact wrap_in hM
        clear cA hMd
        generalize (nums z0).sum = SS at *
        generalize Lib.minOf (nums z0) = Mn at *
        generalize Lib.maxOf (nums z0) = Mx at *
        generalize (nums z0).getD m 0 = LL at *
        generalize rateP z0 = p at *
        generalize (riseV z0).1 = r at *
        generalize pT z0 0 = T0 at *
        generalize pT z0 m = T1 at *
        obtain ⟨p1, p2⟩ := p
        simp only at ef5 hrp cR
        obtain ⟨D, hDD⟩ : ∃ D, D = T1 - T0 := ⟨_, rfl⟩
        have sm : IntKind.i64.wrap (T1 - T0) = D := by rw [hDD]; exact IntWalk.i64_in _ (by omega)
        have sm2 : wrap64 (T1 - T0) = D := by rw [hDD]; unfold wrap64; omega
        have nz : (D == 0) = false := eqF (by omega)
        have nz2 : ¬ D = 0 := by omega
        rw [← hDD] at cR
        have hIq := in_tdiv (a := p1) (b := D) (by unfold In; omega)
        have hwq := wrap_in hIq
        obtain ⟨Q, hQ⟩ : ∃ Q, Q = p1.tdiv D := ⟨_, rfl⟩
        rw [← hQ] at cR
        have mz : ((m : Int) + 1 == 0) = false := eqF (by omega)
        have mz2 : ¬ ((m : Int) + 1 = 0) := by omega
        have mm : IntKind.i64.wrap (m : Int) = (m : Int) := IntWalk.i64_in _ (by omega)
        have m0 : (0 : Int) ≤ (m : Int) := by omega
        have m1 : (m : Int) < (m : Int) + 1 := by omega
        obtain ⟨f1, f2⟩ := ef3
        obtain ⟨f3, f4⟩ := ef4
        have f1' : Mn ≤ M + 1 := by omega
        have w1 : wrap64 (M + 1) = M + 1 := by unfold wrap64; omega
        have w2 : wrap64 (M - 1) = M - 1 := by unfold wrap64; omega
        have f2' : M - 1 ≤ Mx := by omega
        replace cS := Lib.hid cS
        replace cA' := Lib.hid cA'
        replace cMn := Lib.hid cMn
        replace cMx := Lib.hid cMx
        replace cN := Lib.hid cN
        replace cL := Lib.hid cL
        replace cI := Lib.hid cI
        replace cR := Lib.hid cR
        replace hm1 := Lib.hid hm1
        replace h01 := Lib.hid h01
        replace hQ := Lib.hid hQ
        replace hwq := Lib.hid hwq
        have facts : (∃ R, p2 = 0 ∧ wrap64 (r * 1000) = R ∧ wrap64 (R.tdiv D) = Q) ∨ (p2 = 4 ∧ (1000000000 < r ∨ ¬ 1000000000 < r ∧ r < -1000000000)) := by
          rcases ef5 with ⟨e1, e2⟩ | ⟨e1, e2⟩
          · left
            refine ⟨p1, e1, ?_, by rw [hwq.out]; exact hQ.out.symm⟩
            rw [← e2]
            unfold wrap64
            omega
          · right
            exact ⟨e1, by omega⟩
        clear ef5 hrp hri hok hlt hIq hDD hltT ef1 ef2 dI hlq hM hM' hl hQ hwq f1 f2
        rcases facts with ⟨R, rfl, hR1, hR2⟩ | ⟨rfl, g1 | ⟨g1, g2⟩⟩
        all_goals
          go_wp2_with fail
          refine (cS.out _ hg.out).mono ?_
          rintro e V1 ⟨rfl, g⟩
          have hg1 := Lib.hid (gr_trans hg.out g)
          have hm2 := Lib.hid (gr_cell g hm1.out)
          have h02 := Lib.hid (gr_cell g h01.out)
          clear g
          go_wp2_with fail
          refine (cA'.out _ hg1.out).mono ?_
          rintro e V2 ⟨rfl, g⟩
          have hg2 := Lib.hid (gr_trans hg1.out g)
          have hm3 := Lib.hid (gr_cell g hm2.out)
          have h03 := Lib.hid (gr_cell g h02.out)
          clear g
          go_wp2_with fail
          refine (cMn.out _ hg2.out).mono ?_
          rintro e V3 ⟨rfl, g⟩
          have hg3 := Lib.hid (gr_trans hg2.out g)
          have hm4 := Lib.hid (gr_cell g hm3.out)
          have h04 := Lib.hid (gr_cell g h03.out)
          clear g
          go_wp2_with fail
          refine (cMx.out _ hg3.out).mono ?_
          rintro e V4 ⟨rfl, g⟩
          have hg4 := Lib.hid (gr_trans hg3.out g)
          have hm5 := Lib.hid (gr_cell g hm4.out)
          have h05 := Lib.hid (gr_cell g h04.out)
          clear g
          go_wp2_with fail
          refine (cN.out _ hg4.out).mono ?_
          rintro e V5 ⟨rfl, g⟩
          have hg5 := Lib.hid (gr_trans hg4.out g)
          have hm6 := Lib.hid (gr_cell g hm5.out)
          have h06 := Lib.hid (gr_cell g h05.out)
          clear g
          go_wp2_with fail
          refine (cL.out _ hg5.out).mono ?_
          rintro e V6 ⟨rfl, g⟩
          have hg6 := Lib.hid (gr_trans hg5.out g)
          have hm7 := Lib.hid (gr_cell g hm6.out)
          have h07 := Lib.hid (gr_cell g h06.out)
          clear g
          go_wp2_with fail
          refine (cI.out _ hg6.out).mono ?_
          rintro e V7 ⟨rfl, g⟩
          have hg7 := Lib.hid (gr_trans hg6.out g)
          have hm8 := Lib.hid (gr_cell g hm7.out)
          have h08 := Lib.hid (gr_cell g h07.out)
          clear g
          go_wp2_with fail
          refine (cR.out _ hg7.out).mono ?_
          rintro e V8 ⟨rfl, g⟩
          have hg8 := Lib.hid (gr_trans hg7.out g)
          have hm9 := gr_cell g hm8.out
          have h09 := gr_cell g h08.out
          clear g
          go_wp2_with fail
          go_quiet (fail)
          go_wp2
          go_ret
          exact ⟨rfl, gr_below (gr_trans hg8.out (gr_drewN _ _ _))⟩


set_option maxRecDepth 100000 in
theorem lifted (os : Os) (started : os.Started) (H : Type) (enc : TypeId × Value → H) :
    ReturnsInHanded {} Try.checked os 3 .any (Rows.windowEachSpec.pre6 enc Try.prog Try.f3 Rows.windowEachRow.domain false) (Rows.windowEachSpec.post enc Try.prog Try.f3 false true false false) := by
  refine returnsInHanded_of_change (C := Try.checked) own started (by kernel_rfl) Try.func3
    (ChangeSpec.witness6 (enc := enc) (C := Try.checked) false ⟨#[], #[.slice none 0 0], []⟩ 8 (by kernel_rfl) (by kernel_rfl) (by kernel_rfl) (by kernel_rfl)) ?_
  intro W base args ds gs before hval0 hW hcnd _
  have hval : ∀ (j : Nat) t v, Try.f3.params[j]? = some t → args[j]? = some v → Value.okWide Try.prog W .any base t v := hval0
  have hW' := hW
  obtain ⟨p, q, hA0, hV, rfl, hfz, hnd⟩ := hW
  have hA : DataW.TrodAll enc Try.prog W 0 (fun _ => true) true Try.f3.params.toList args.toList ds p := hA0
  rw [Try.params3] at hA hval
  obtain ⟨v0, vs0, d0, ds0, p0, q0, hargs, rfl, rfl, h0, r0⟩ := trodAll_cons hA
  obtain ⟨rfl, rfl, rfl⟩ := trodAll_nil r0
  obtain rfl : args = #[v0] := by cases args; simp_all
  obtain ⟨rfl, rfl⟩ := trodVars_none hV
  obtain ⟨a0, len0, cap0, rfl⟩ := okWide_slice Try.underlying22 (hval 0 22 v0 rfl rfl)
  have k0 := h0
  have lt0 : ∀ x ∈ p0, x.block < W.heap.size := by obtain ⟨m, hm⟩ := k0; exact DataW.trod_lt m _ _ _ hm
  obtain ⟨z0, w0⟩ := pts_open h0
  clear hA0 hval0
  refine (walk W a0 len0 cap0 z0 w0).mono fun e W' ⟨he, bel⟩ => ?_
  subst he
  exact ⟨_, rfl, _, _, _, [], _, [], hW', trodAll_mk1 (shut_bool Try.underlying4 _), (trodAll_cons_mk (Below.trod laidOut (by kernel_rfl) (of_decide_eq_true (by kernel_rfl)) k0 bel lt0) trodAll_mk0), rfl, bel.frame _, fun h => by cases h⟩

theorem over : Rows.windowEachRow.holds Try.pinned (OpenSpec.ofChange Rows.windowEachSpec) :=
  OpenClaim.holds_of_wide 3 Try.f3 rfl rfl rfl rfl rfl rfl rfl ⟨rfl, rfl, rfl, rfl, rfl⟩ rfl rfl rfl rfl rfl (by kernel_rfl) Try.func3 (by kernel_rfl)
    (of_decide_eq_true (by kernel_rfl)) (by unfold Func.isWrapper; first | (rw [if_pos (by decide +kernel)]; kernel_rfl) | (rw [if_neg (by decide +kernel)]; exact ⟨rfl, rfl⟩))
    (fun os started H enc _ => lifted os started H enc)

/-- THE STATEMENT -/
theorem proved : Rows.WindowEachSaid := over
#print axioms proved
end Go.Proofs.Ytklflekldhhmcaa.windowEach

