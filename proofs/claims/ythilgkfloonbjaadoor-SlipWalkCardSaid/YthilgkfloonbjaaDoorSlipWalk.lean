/-
  SlipWalk holds of the program: for every input the call returns true and leaves what came in as it was. No condition.
-/
import Derived.Test.YthilgkfloonbjaaDoorRows
import Derived.Test.YthilgkfloonbjaaDoorCards
import Derived.Test.YthilgkfloonbjaaDoorTie
import Derived.LaidMore
import Derived.Stop.Joined
import Derived.Stop.LaidErr
import Derived.Lib.LaidTab
import Derived.SevenTiedAt
import Derived.Test.YthilgkfloonbjaaDoorSlipAlive
import Derived.Test.YthilgkfloonbjaaDoorSlipVars
import Derived.WalkKit
import Derived.ProofKit
import Derived.OpenShut
import Derived.ShutString
import Derived.ChangeOld
import Derived.Below
namespace Go.Proofs.YthilgkfloonbjaaDoor.slipWalk
open Go.ChangeShapes Go.WideShapes Go.ChangeAt Go.RowKit
open Go.ChangeMaps (open_string shut_string)
set_option linter.unusedVariables false

theorem own : ownKnob Tryd.prog.godebug = none := by kernel_rfl
theorem laidOut : laidOutB Tryd.prog = true := by kernel_rfl

theorem mul_inj {a b s : Nat} (hs : 0 < s) (h : ((a * s : Nat) : Int) = ((b * s : Nat) : Int)) : a = b := Nat.eq_of_mul_eq_mul_right hs (by omega)
set_option maxHeartbeats 4000000 in
set_option maxRecDepth 100000 in
theorem walk (w : World) (hL : laidMetH Tryd.prog Rows.slipWalkRow.laid w) (a0 : Int) (w0 : (Lit.int .i64 a0).wf = true) (a1 : Int) (w1 : (Lit.int .i64 a1).wf = true) :
    Calls Tryd.prog 4 #[.int .i64 a0, .int .i64 a1] w fun e w' => e = .returned (.bool true) ∧ Below w.heap.size w w' := by
  have hv : Vars w := vars_of hL
  clear hL w0 w1
  by_cases c : 0 ≤ a0 ∧ a0 ≤ 2000 ∧ 1 ≤ a1 ∧ a1 ≤ 100
  · obtain ⟨rows, rfl⟩ : ∃ n : Nat, a0 = n := ⟨a0.toNat, by omega⟩
    obtain ⟨size, rfl⟩ : ∃ n : Nat, a1 = n := ⟨a1.toNat, by omega⟩
    obtain ⟨c1, c2, c3, c4⟩ := c
    have hr : rows ≤ 2000 := by omega
    have hs : 0 < size := by omega
    have hs2 : size ≤ 100 := by omega
    go_enter Tryd.func4, Tryd.ntmps4
    go_wp2_with fail
    refine (alive_any _ hv).mono ?_
    rintro e W1 ⟨rfl, g1⟩
    go_wp2_with fail
    refine (pages_any rows size _ hr hs hs2).mono ?_
    rintro e W2 ⟨v, rfl, hown, g2⟩
    obtain ⟨A, c, rfl, _, _⟩ := own_open hown
    have hrow := row_own hown
    have hn0 : 0 < pagesN rows size := by unfold pagesN; omega
    have hn1 := (pages_small hr hs hs2 hn0 (Nat.le_refl _)).2
    have hq : (pagesN rows size : Int) = max ((((rows + size - 1) / size : Nat)) : Int) 1 := by unfold pagesN; omega
    have hq2 : ((rows : Int) + (size : Int) - 1).tdiv (size : Int) = (((rows + size - 1) / size : Nat) : Int) := by
      have : (rows : Int) + (size : Int) - 1 = ((rows + size - 1 : Nat) : Int) := by omega
      rw [this]
      rfl
    clear hown
    have g12 := Lib.hid (gr_trans g1 g2)
    clear g1 g2
    replace hrow := Lib.hid hrow
    have hN : ∃ N, N = pagesN rows size := ⟨_, rfl⟩
    obtain ⟨N, hN⟩ := hN
    rw [← hN] at hrow hn0 hn1 hq ⊢
    replace hN := Lib.hid hN
    replace hq := Lib.hid hq
    go_wp2
    go_loopw [6, 7] (fun av iv wr => ∃ (k : Nat) (x : Int), k ≤ N ∧ iv = .int .i64 k ∧ av = .int .i64 x ∧ Hid (k < N → x = (k * size : Nat)) ∧ Hid (Gr W2 wr)) (fun _ i _ => N - (intOf i).toNat)
    case atStart => exact ⟨0, 0, Nat.zero_le _, rfl, rfl, fun _ => by simp, gr_refl _ _⟩
    case round =>
      obtain ⟨k, x, hk, rfl, rfl, hx, hg⟩ := hrel
      by_cases hlt : k < N
      · obtain rfl := hx.out hlt
        obtain ⟨y, B, o, hy, rfl, hc⟩ := row_elem (row_gr hrow.out hg.out) hlt
        have hy2 := pagesL_at (size := size) hlt
        have hy3 : y = ((k * size : Nat) : Int) := by rw [hN.out] at hlt hy hy2; rw [hy2] at hy; exact (Option.some.inj hy).symm
        subst hy3
        clear hy hy2 hx
        have hki : (k : Int) < (N : Int) := by omega
        have hnext := next_any rows size ((k * size : Nat) : Int) wr hr hs hs2
        generalize hat : ((k * size : Nat) : Int) = at1 at *
        replace hat := Lib.hid hat
        go_wp2_with fail
        refine hnext.mono ?_
        rintro e W4 ⟨v, b, rfl, hnx, g4⟩
        clear hnext
        by_cases hmore : k + 1 < N
        · have hmi : (k : Int) + 1 < (N : Int) := by omega
          obtain ⟨rfl, rfl⟩ : v = ((k + 1) * size : Nat) ∧ b = true := by
            rcases hnx with ⟨k', e1, _, e2, e3⟩ | ⟨h, _⟩
            · rw [← hat.out] at e1
              obtain rfl := mul_inj hs e1
              exact ⟨e2, e3⟩
            · exact absurd hat.out.symm (h k (by rw [← hN.out]; exact hmore))
          replace hnx := Lib.hid hnx
          generalize hat2 : (((k + 1) * size : Nat) : Int) = at2 at *
          replace hat2 := Lib.hid hat2
          go_wp2
          go_roundw
          case rel => exact ⟨k + 1, at2, by omega, by go_num, rfl, fun _ => hat2.out.symm, gr_trans hg.out g4⟩
          case measure => simp [intOf]; omega
        · have hmi : ((k : Int) + 1 < (N : Int)) = False := by simp; omega
          obtain ⟨rfl, rfl⟩ : v = 0 ∧ b = false := by
            rcases hnx with ⟨k', e1, e0, e2, e3⟩ | ⟨_, h⟩
            · rw [← hat.out] at e1
              obtain rfl := mul_inj hs e1
              exact absurd (by rw [hN.out]; exact e0) hmore
            · exact h
          replace hnx := Lib.hid hnx
          go_wp2
          go_roundw
          case rel => exact ⟨k + 1, 0, by omega, by go_num, rfl, fun h => by omega, gr_trans hg.out g4⟩
          case measure => simp [intOf]; omega
      · obtain rfl : k = N := by omega
        have hfin : (((k : Nat) : Int) == max (wrap64 (((rows + size - 1 : Nat) : Int) / ((size : Nat) : Int))) 1) = true := by
          have h1 : (((rows + size - 1 : Nat) : Int) / ((size : Nat) : Int)) = (((rows + size - 1) / size : Nat) : Int) := rfl
          have h2 : (rows + size - 1) / size ≤ 2100 := Nat.le_trans (Nat.div_le_self _ _) (by omega)
          have h3 : ∀ q : Nat, q ≤ 2100 → wrap64 (q : Int) = q := fun q h => by unfold wrap64; omega
          rw [h1, h3 _ h2, beq_iff_eq]
          exact hq.out
        go_wp2
        go_ret
        exact ⟨rfl, gr_below (gr_trans g12.out hg.out)⟩
  · by_cases c1 : a0 < 0
    · go_enter Tryd.func4, Tryd.ntmps4
      go_wp2_with fail
      refine (alive_any _ hv).mono ?_
      rintro e W1 ⟨rfl, g1⟩
      go_wp2
      go_ret
      exact ⟨rfl, gr_below g1⟩
    by_cases c2 : 2000 < a0
    · go_enter Tryd.func4, Tryd.ntmps4
      go_wp2_with fail
      refine (alive_any _ hv).mono ?_
      rintro e W1 ⟨rfl, g1⟩
      go_wp2
      go_ret
      exact ⟨rfl, gr_below g1⟩
    by_cases c3 : a1 < 1
    · go_enter Tryd.func4, Tryd.ntmps4
      go_wp2_with fail
      refine (alive_any _ hv).mono ?_
      rintro e W1 ⟨rfl, g1⟩
      go_wp2
      go_ret
      exact ⟨rfl, gr_below g1⟩
    by_cases c4 : 100 < a1
    · go_enter Tryd.func4, Tryd.ntmps4
      go_wp2_with fail
      refine (alive_any _ hv).mono ?_
      rintro e W1 ⟨rfl, g1⟩
      go_wp2
      go_ret
      exact ⟨rfl, gr_below g1⟩
    · omega


set_option maxRecDepth 100000 in
theorem door_met (os : Os) (args : Array Value) : laidMetH Tryd.prog Rows.slipWalkRow.laid ((World.doorLaid Tryd.prog 62 os).forCall (fun _ _ => 0) ⟨#[], args, []⟩).memory :=
  laidMetH_of_parts3 (fuel := 8) (laidMet_of_run' 8 (by kernel_rfl) (by kernel_rfl)) (by kernel_rfl) (by kernel_rfl)

set_option maxRecDepth 100000 in
theorem lifted (os : Os) (started : os.Started) (H : Type) (enc : TypeId × Value → H) :
    ReturnsInHanded {} Tryd.checked os 4 .any (fun w args => (Rows.slipWalkSpec.pre enc Tryd.prog Tryd.f4 [] false w args ∧ laidMetH Tryd.prog Rows.slipWalkRow.laid w) ∧ sizedMet enc Tryd.prog Tryd.f4 (OpenSpec.ofChange Rows.slipWalkSpec) false w args) (Rows.slipWalkSpec.post enc Tryd.prog Tryd.f4 false true false false) := by
  refine returnsInHanded_of_change_and (C := Tryd.checked) (X := fun w _ => laidMetH Tryd.prog Rows.slipWalkRow.laid w) (fun _ _ _ hh h => h.of_heap hh) own started (by kernel_rfl) Tryd.func4
    (ChangeSpec.witness_shaped (enc := enc) (C := Tryd.checked) (os := os) (X := fun w _ => laidMetH Tryd.prog Rows.slipWalkRow.laid w) false (World.doorLaid Tryd.prog 62 os) #[.int .i64 0, .int .i64 0] 8 rfl (World.shaped_of_RefB (by kernel_rfl) (by kernel_rfl)) (by kernel_rfl) (by kernel_rfl) (by kernel_rfl) (door_met os _)) ?_
  intro W base args ds gs before hval0 hW _ _ hL _
  have hval : ∀ (j : Nat) t v, Tryd.f4.params[j]? = some t → args[j]? = some v → Value.okWide Tryd.prog W .any base t v := hval0
  have hW' := hW
  obtain ⟨p, q, hA0, hV, rfl, hfz, hnd⟩ := hW
  have hA : DataW.TrodAll enc Tryd.prog W 0 (fun _ => true) true Tryd.f4.params.toList args.toList ds p := hA0
  rw [Tryd.params4] at hA hval
  obtain ⟨v0, vs0, d0, ds0, p0, q0, hargs, rfl, rfl, h0, r0⟩ := trodAll_cons hA
  obtain ⟨v1, vs1, d1, ds1, p1, q1, rfl, rfl, rfl, h1, r1⟩ := trodAll_cons r0
  obtain ⟨rfl, rfl, rfl⟩ := trodAll_nil r1
  obtain rfl : args = #[v0, v1] := by cases args; simp_all
  obtain ⟨rfl, rfl⟩ := trodVars_none hV
  obtain ⟨a0, rfl, rfl, rfl, w0⟩ := open_int Tryd.underlying3 (hval 0 3 v0 rfl rfl) h0
  obtain ⟨a1, rfl, rfl, rfl, w1⟩ := open_int Tryd.underlying3 (hval 1 3 v1 rfl rfl) h1
  clear hA0 hval0
  refine (walk W hL a0 w0 a1 w1).mono fun e W' ⟨he, bel⟩ => ?_
  subst he
  exact ⟨_, rfl, _, _, _, [], _, [], hW', trodAll_mk1 (shut_bool Tryd.underlying4 _), (trodAll_cons_mk (shut_int Tryd.underlying3 w0) (trodAll_cons_mk (shut_int Tryd.underlying3 w1) trodAll_mk0)), rfl, bel.frame _, fun h => by cases h⟩

theorem over : Rows.slipWalkRow.holds Tryd.pinned (OpenSpec.ofChange Rows.slipWalkSpec) :=
  OpenClaim.holds_of_wide 4 Tryd.f4 rfl rfl rfl rfl rfl rfl rfl ⟨rfl, rfl, rfl, rfl, rfl⟩ rfl rfl rfl rfl rfl (by kernel_rfl) Tryd.func4 (by kernel_rfl)
    (of_decide_eq_true (by kernel_rfl)) (by unfold Func.isWrapper; first | (rw [if_pos (by decide +kernel)]; kernel_rfl) | (rw [if_neg (by decide +kernel)]; exact ⟨rfl, rfl⟩))
    (fun os started H enc _ => lifted os started H enc)

/-- THE STATEMENT -/
theorem proved : Rows.SlipWalkCardSaid :=
  Claim7.holds_tied_plain_at .later [] [.data, .data, .data, .sentinel, .sentinel] true (true, "aca53c241e5f8e454f8ed5672da97628d3022438e1217d830dae172dc0633cbd") true
    over (fun _ h => by cases h) (by kernel_rfl) (fun _ h => by cases h) slipWalk_row_tie rfl ⟨rfl, rfl⟩ (by kernel_rfl) rfl
    (fun f fn hf hfn => by
      obtain rfl : f = 4 := Option.some.inj ((show Tryd.prog.funcNamed "leporello/leporellolaw20.SlipWalk" = some 4 by kernel_rfl).symm.trans hf) |>.symm
      obtain rfl : fn = Tryd.f4 := (Option.some.inj (Tryd.func4.symm.trans hfn)).symm
      exact ⟨by kernel_rfl, fun j t ht => by
        rw [Tryd.params4] at ht
        have hm : t ∈ [3, 3] := by simpa using Array.mem_of_getElem? ht
        have hall : ([3, 3].all fun u => !Tryd.prog.wantsStandIn u) = true := by kernel_rfl
        exact (show Tryd.prog.wantsStandIn t = false by simpa using List.all_eq_true.1 hall t hm)⟩)
    (by kernel_rfl)
#print axioms proved
end Go.Proofs.YthilgkfloonbjaaDoor.slipWalk

