/-
  StoreOf holds of the program: for every input the call returns true and leaves what came in as it was. No condition.
-/
import Derived.Test.YthlkcoiaahpmoaaRows
import Derived.Test.YthlkcoiaahpmoaaStoOfX
import Derived.Test.YthlkcoiaahpmoaaPointsRight
import Derived.Test.YthlkcoiaahpmoaaRefLx
import Derived.WalkKit
import Derived.ProofKit
import Derived.OpenShut
import Derived.ShutString
import Derived.ChangeOld
import Derived.Below
namespace Go.Proofs.Ythlkcoiaahpmoaa.storeOf
open Go.ChangeShapes Go.WideShapes Go.ChangeAt Go.RowKit
open Go.ChangeMaps (open_string shut_string)
set_option linter.unusedVariables false

theorem own : ownKnob Try.prog.godebug = none := by kernel_rfl
theorem laidOut : laidOutB Try.prog = true := by kernel_rfl

set_option maxHeartbeats 64000000 in
set_option maxRecDepth 100000 in
theorem walk (w : World) (a0 : Option Addr) (len0 cap0 : Nat) (z0 : List Ser) (i0 : IsSers w a0 len0 cap0 z0) :
    Calls Try.prog 8 #[.slice a0 len0 cap0] w fun e w' => e = .returned (.bool true) ∧ Below w.heap.size w w' := by
  obtain ⟨hs, hso, hsz⟩ := isSers_of i0
  have hln0 : len0 ≤ 9223372036854775807 := by have := i0.2.1; have := i0.2.2.1; omega
  clear i0
  replace hso := Lib.hid hso
  replace hsz := Lib.hid hsz
  go_enter Try.func8, Try.ntmps8
  by_cases h60 : 60 < len0
  · have hI : (60 : Int) < (len0 : Int) := by omega
    go_wp2_with fail
    refine (alive_any _).mono ?_
    rintro e wA ⟨rfl, gA⟩
    go_wp2
    go_ret
    exact ⟨rfl, gr_below gA⟩
  · have hI : ¬ (60 : Int) < (len0 : Int) := by omega
    obtain ⟨b0, hb0⟩ : ∃ b, b = decide (len0 ≤ 40) := ⟨_, rfl⟩
    have hd1 : decide ((len0 : Int) ≤ 40) = b0 := by rw [hb0]; exact decide_eq_decide.2 (by omega)
    have hd2 : decide (len0 ≤ 40) = b0 := hb0.symm
    replace hb0 := Lib.hid hb0
    go_wp2_with fail
    refine (alive_any _).mono ?_
    rintro e w1 ⟨rfl, g1⟩
    go_wp2
    clear hd1 hd2
    go_loopw [3, 4] (fun bv iv wr => ∃ (k : Nat) (b : Bool), k ≤ len0 ∧ bv = .bool b ∧ iv = .int .i64 k ∧ Hid (IfB b (len0 ≤ 40 ∧ OkUpto z0 k)) ∧ Hid (LiteUpto hs z0 k) ∧ Hid (Gr w wr)) (fun _ iv _ => len0 - (intOf iv).toNat)
    case atStart => exact ⟨0, b0, Nat.zero_le _, rfl, rfl, Lib.hid (by unfold IfB; rw [hb0.out, decide_eq_true_iff]; exact ⟨fun h => ⟨h, okUpto_zero _⟩, fun h => h.1⟩), Lib.hid (fun i h s hi => by omega), Lib.hid g1⟩
    case round =>
      obtain ⟨k, b, hkn, rfl, rfl, hbe, hli, hg⟩ := hrel
      by_cases hlt : k < len0
      · obtain ⟨x, s, B, o, hx, hsx, rfl, d0, d1, hrd, hxl, hxp⟩ := sersOf_at (sersOf_gr hso.out hg.out) hlt
        obtain ⟨z1, z2, z3⟩ := hsz.out k x s hx hsx
        have hkI : (k : Int) < (len0 : Int) := by omega
        have hk0 : (0 : Int) ≤ (k : Int) := by omega
        have cL := llight_any x.la x.ln x.lc s.l wr z1 hrd.1
        unfold LLPost at cL
        replace cL := Lib.hid cL
        replace hrd := Lib.hid hrd
        replace hx := Lib.hid hx
        replace hsx := Lib.hid hsx
        clear z3
        go_wp2_with fail
        refine cL.out.mono ?_
        rintro e w3 ⟨⟨bl, rfl, hbl⟩, rfl⟩
        cases bl with
        | false =>
          go_wp2
          go_ret
          exact ⟨rfl, gr_below hg.out⟩
        | true =>
          have hL := hbl rfl
          clear hbl cL
          by_cases h60p : 60 < x.pn
          · have hpI : (60 : Int) < (x.pn : Int) := by omega
            replace hL := Lib.hid hL
            go_wp2
            go_ret
            exact ⟨rfl, gr_below hg.out⟩
          · have hpI : ¬ (60 : Int) < (x.pn : Int) := by omega
            have hln20 : x.ln ≤ 20 := by have := hL.1; omega
            have hli2 := Lib.hid (lite_next hli.out hx.out hsx.out hL (by omega))
            obtain ⟨b1, hb1⟩ : ∃ b, b = decide (okLbs s.l) := ⟨_, rfl⟩
            obtain ⟨b2, hb2⟩ : ∃ b, b = rightB s.p := ⟨_, rfl⟩
            obtain ⟨G, hG⟩ : ∃ G, G = getL s.l metricB := ⟨_, rfl⟩
            have cR := fun W (g : Gr wr W) => refRight_any x.la x.ln x.lc s.l W (by omega) (row_gr hrd.out.1 g) (fun y hy => by have := hL.2 y hy; omega)
            have cG : ∀ W, Gr wr W → Calls Try.prog 19 #[.slice x.la x.ln x.lc, .string ⟨#[109, 101, 116, 114, 105, 99]⟩] W fun e w' => e = .returned (.string (txt (getL s.l metricB))) ∧ Gr W w' := fun W g => rget1_any x.la x.ln x.lc s.l metricB W (by omega) (row_gr hrd.out.1 g)
            have cP := fun W (g : Gr wr W) => refPoints_any x.pa x.pn x.pc s.p W (by omega) (row_gr hrd.out.2 g)
            rw [← hb1] at cR
            rw [← hb2] at cP
            rw [← hG] at cG
            have hprev : ∃ (zc : Int) (yA : Option Addr) (yn yc : Nat), (0 < k → wr.cell? ⟨B, o + (k - 1) * 2, none⟩ = some (.slice yA yn yc) ∧ (prevOk z0 k s ↔ zc < 0) ∧ ∀ W, Gr wr W → Calls Try.prog 24 #[.slice yA yn yc, .slice x.la x.ln x.lc] W fun e w' => e = .returned (.int .i64 zc) ∧ Gr W w') := by
              by_cases hk1 : 0 < k
              · obtain ⟨y, q, B', o', hy, hq, hA', f0, f1, hrdy, hyl, _⟩ := sersOf_at (sersOf_gr hso.out hg.out) (show k - 1 < len0 by omega)
                have e := Option.some.inj hA'
                injection e with e2 e3
                subst e2 e3
                have hly := (hli.out (k - 1) y q (by omega) hy hq).1.1
                refine ⟨cmpLs q.l s.l, y.la, y.ln, y.lc, fun _ => ⟨f0, ?_, fun W g => refCompare_any y.la x.la y.ln x.ln y.lc x.lc q.l s.l W (by omega) (by omega) (row_gr hrdy.1 g) (row_gr hrd.out.1 g)⟩⟩
                constructor
                · rintro (r | ⟨q', hq', r⟩)
                  · omega
                  · rw [hq] at hq'
                    have := Option.some.inj hq'
                    subst this
                    exact r
                · exact fun r => .inr ⟨q, hq, r⟩
              · exact ⟨0, none, 0, 0, fun h => absurd h hk1⟩
            obtain ⟨zc, yA, yn, yc, hprev⟩ := hprev
            have hyes : b = true → b1 = true → G ≠ [] → x.pn ≠ 0 → b2 = true → (k = 0 ∨ zc < 0) → IfB true (len0 ≤ 40 ∧ OkUpto z0 (k + 1)) := fun q0 q1 q2 q3 q4 q5 => by
              have h1 := hbe.out.1 q0
              refine ifB_yes ⟨h1.1, okUpto_next h1.2 hsx.out ⟨⟨of_decide_eq_true (hb1.symm.trans q1), by rw [← hG]; exact q2⟩, by omega, hb2.symm.trans q4⟩ ?_⟩
              rcases q5 with r | r
              · exact .inl r
              · rcases Nat.eq_zero_or_pos k with h0 | h0
                · exact .inl h0
                · exact (hprev h0).2.1.2 r
            have hkeep : b = false → IfB false (len0 ≤ 40 ∧ OkUpto z0 (k + 1)) := fun q0 => by
              refine ifB_no fun h => ?_
              have h1 := hbe.out.2 ⟨h.1, fun i s' hi => h.2 i s' (by omega)⟩
              rw [q0] at h1; cases h1
            have hno : (b1 = false ∨ G = [] ∨ x.pn = 0 ∨ b2 = false ∨ (0 < k ∧ 0 ≤ zc)) → IfB false (len0 ≤ 40 ∧ OkUpto z0 (k + 1)) := fun q => by
              refine ifB_no fun h => ?_
              obtain ⟨⟨⟨r0, r1⟩, r2, r3⟩, r4⟩ := h.2 k s (by omega) hsx.out
              rcases q with q | q | q | q | ⟨q1, q2⟩
              · rw [hb1, decide_eq_true r0] at q; cases q
              · exact r1 (by rw [← hG]; exact q)
              · omega
              · rw [hb2, r3] at q; cases q
              · have := (hprev q1).2.1.1 r4
                omega
            have hcmp : 0 < k → wr.cell? ⟨B, o + (k - 1) * 2, none⟩ = some (.slice yA yn yc) := fun h => (hprev h).1
            have cM : 0 < k → ∀ W, Gr wr W → Calls Try.prog 24 #[.slice yA yn yc, .slice x.la x.ln x.lc] W fun e w' => e = .returned (.int .i64 zc) ∧ Gr W w' := fun h => (hprev h).2.2
            replace cR := Lib.hid cR
            replace cG := Lib.hid cG
            replace cP := Lib.hid cP
            replace hyes := Lib.hid hyes
            replace hno := Lib.hid hno
            replace hkeep := Lib.hid hkeep
            clear hprev hb1 hb2 hG hx hsx hrd hxl hxp hL hbe hli
            go_upto_region 9 with fail
            cases b with
            | false =>
              have hD := hkeep.out rfl
              replace hD := Lib.hid hD
              clear hcmp cM hno hkeep hyes
              refine wp_region_quiet_gr (by kernel_rfl) (by kernel_rfl) ?_
              have E0 := cell_to (w := wr) d0
              have E1 := cell_to (w := wr) d1
              repeat (go_big_quiet_step (first | (go_at_call 22; exact calls_gr (cR.out _ (by exact Grown.gr _))) | (go_at_call 19; exact calls_gr (cG.out _ (by exact Grown.gr _))) | (go_at_call 23; exact calls_gr (cP.out _ (by exact Grown.gr _))) | (go_at_call 24; exact calls_gr (cN.out _ (by exact Grown.gr _)))))
              refine wpQuiet_nil ?_
              intro w2 hw2
              obtain ⟨⟨wP, gP⟩, rfl⟩ := hw2
              have Gf := Lib.hid (gr_trans hg.out gP)
              go_wp2
              go_roundw
              case rel => exact ⟨k + 1, false, by omega, rfl, by go_num, hD, hli2, Gf⟩
              case measure => simp [intOf]; omega
            | true =>
              cases b1 with
              | false =>
                have hD := hno.out (.inl rfl)
                replace hD := Lib.hid hD
                clear hcmp cM hno hkeep hyes
                refine wp_region_quiet_gr (by kernel_rfl) (by kernel_rfl) ?_
                have E0 := cell_to (w := wr) d0
                have E1 := cell_to (w := wr) d1
                repeat (go_big_quiet_step (first | (go_at_call 22; exact calls_gr (cR.out _ (by exact Grown.gr _))) | (go_at_call 19; exact calls_gr (cG.out _ (by exact Grown.gr _))) | (go_at_call 23; exact calls_gr (cP.out _ (by exact Grown.gr _))) | (go_at_call 24; exact calls_gr (cN.out _ (by exact Grown.gr _)))))
                refine wpQuiet_nil ?_
                intro w2 hw2
                obtain ⟨⟨wP, gP⟩, rfl⟩ := hw2
                have Gf := Lib.hid (gr_trans hg.out gP)
                go_wp2
                go_roundw
                case rel => exact ⟨k + 1, false, by omega, rfl, by go_num, hD, hli2, Gf⟩
                case measure => simp [intOf]; omega
              | true =>
                by_cases hm : G = []
                · have hmt : G.isEmpty = true := by rw [hm]; rfl
                  have hmq : (G == []) = true := by rw [hm]; rfl
                  have hD := hno.out (.inr (.inl hm))
                  replace hm := Lib.hid hm
                  replace hD := Lib.hid hD
                  clear hcmp cM hno hkeep hyes
                  refine wp_region_quiet_gr (by kernel_rfl) (by kernel_rfl) ?_
                  have E0 := cell_to (w := wr) d0
                  have E1 := cell_to (w := wr) d1
                  repeat (go_big_quiet_step (first | (go_at_call 22; exact calls_gr (cR.out _ (by exact Grown.gr _))) | (go_at_call 19; exact calls_gr (cG.out _ (by exact Grown.gr _))) | (go_at_call 23; exact calls_gr (cP.out _ (by exact Grown.gr _))) | (go_at_call 24; exact calls_gr (cN.out _ (by exact Grown.gr _)))))
                  refine wpQuiet_nil ?_
                  intro w2 hw2
                  obtain ⟨⟨wP, gP⟩, rfl⟩ := hw2
                  have Gf := Lib.hid (gr_trans hg.out gP)
                  go_wp2
                  go_roundw
                  case rel => exact ⟨k + 1, false, by omega, rfl, by go_num, hD, hli2, Gf⟩
                  case measure => simp [intOf]; omega
                · have hmt : G.isEmpty = false := by cases G with | nil => exact absurd rfl hm | cons a t => rfl
                  have hmq : (G == []) = false := by cases G with | nil => exact absurd rfl hm | cons a t => rfl
                  by_cases hp0 : x.pn = 0
                  · have hpx : ((0 : Int) < (x.pn : Int)) = False := eq_false (by omega)
                    have hpy : (0 < x.pn) = False := eq_false (by omega)
                    have hD := hno.out (.inr (.inr (.inl hp0)))
                    replace hp0 := Lib.hid hp0
                    replace hm := Lib.hid hm
                    replace hD := Lib.hid hD
                    clear hcmp cM hno hkeep hyes
                    refine wp_region_quiet_gr (by kernel_rfl) (by kernel_rfl) ?_
                    have E0 := cell_to (w := wr) d0
                    have E1 := cell_to (w := wr) d1
                    repeat (go_big_quiet_step (first | (go_at_call 22; exact calls_gr (cR.out _ (by exact Grown.gr _))) | (go_at_call 19; exact calls_gr (cG.out _ (by exact Grown.gr _))) | (go_at_call 23; exact calls_gr (cP.out _ (by exact Grown.gr _))) | (go_at_call 24; exact calls_gr (cN.out _ (by exact Grown.gr _)))))
                    refine wpQuiet_nil ?_
                    intro w2 hw2
                    obtain ⟨⟨wP, gP⟩, rfl⟩ := hw2
                    have Gf := Lib.hid (gr_trans hg.out gP)
                    go_wp2
                    go_roundw
                    case rel => exact ⟨k + 1, false, by omega, rfl, by go_num, hD, hli2, Gf⟩
                    case measure => simp [intOf]; omega
                  · have hpx : ((0 : Int) < (x.pn : Int)) = True := eq_true (by omega)
                    have hpy : (0 < x.pn) = True := eq_true (by omega)
                    cases b2 with
                    | false =>
                      have hD := hno.out (.inr (.inr (.inr (.inl rfl))))
                      replace hp0 := Lib.hid hp0
                      replace hm := Lib.hid hm
                      replace hD := Lib.hid hD
                      clear hcmp cM hno hkeep hyes
                      refine wp_region_quiet_gr (by kernel_rfl) (by kernel_rfl) ?_
                      have E0 := cell_to (w := wr) d0
                      have E1 := cell_to (w := wr) d1
                      repeat (go_big_quiet_step (first | (go_at_call 22; exact calls_gr (cR.out _ (by exact Grown.gr _))) | (go_at_call 19; exact calls_gr (cG.out _ (by exact Grown.gr _))) | (go_at_call 23; exact calls_gr (cP.out _ (by exact Grown.gr _))) | (go_at_call 24; exact calls_gr (cN.out _ (by exact Grown.gr _)))))
                      refine wpQuiet_nil ?_
                      intro w2 hw2
                      obtain ⟨⟨wP, gP⟩, rfl⟩ := hw2
                      have Gf := Lib.hid (gr_trans hg.out gP)
                      go_wp2
                      go_roundw
                      case rel => exact ⟨k + 1, false, by omega, rfl, by go_num, hD, hli2, Gf⟩
                      case measure => simp [intOf]; omega
                    | true =>
                      by_cases hk1 : 0 < k
                      · have hkd : ((k : Int) == 0) = false := eqF (by omega)
                        have hkd2 : (k == 0) = false := by simp; omega
                        have y0 : (0 : Int) ≤ (k : Int) - 1 := by omega
                        have y0' : (1 : Int) ≤ (k : Int) := by omega
                        have y1 : (k : Int) - 1 < (len0 : Int) := by omega
                        have y2 : ((k : Int) - 1).toNat = k - 1 := by omega
                        have y3 : IntKind.i64.wrap ((k : Int) - 1) = (k : Int) - 1 := IntWalk.i64_in _ (by omega)
                        have hcm := hcmp hk1
                        have cN := Lib.hid (cM hk1)
                        have HC := cell_to (w := wr) hcm
                        clear hcm
                        by_cases hz : zc < 0
                        · have hzd : decide (zc < 0) = true := decide_eq_true hz
                          have hD := hyes.out rfl rfl hm (by omega) rfl (.inr hz)
                          replace hp0 := Lib.hid hp0
                          replace hm := Lib.hid hm
                          replace hD := Lib.hid hD
                          clear hcmp cM hno hkeep hyes
                          refine wp_region_quiet_gr (by kernel_rfl) (by kernel_rfl) ?_
                          have E0 := cell_to (w := wr) d0
                          have E1 := cell_to (w := wr) d1
                          repeat (go_big_quiet_step (first | (go_at_call 22; exact calls_gr (cR.out _ (by exact Grown.gr _))) | (go_at_call 19; exact calls_gr (cG.out _ (by exact Grown.gr _))) | (go_at_call 23; exact calls_gr (cP.out _ (by exact Grown.gr _))) | (go_at_call 24; exact calls_gr (cN.out _ (by exact Grown.gr _)))))
                          refine wpQuiet_nil ?_
                          intro w2 hw2
                          obtain ⟨⟨wP, gP⟩, rfl⟩ := hw2
                          have Gf := Lib.hid (gr_trans hg.out gP)
                          go_wp2
                          go_roundw
                          case rel => exact ⟨k + 1, true, by omega, rfl, by go_num, hD, hli2, Gf⟩
                          case measure => simp [intOf]; omega
                        · have hzd : decide (zc < 0) = false := decide_eq_false hz
                          have hD := hno.out (.inr (.inr (.inr (.inr ⟨hk1, by omega⟩))))
                          replace hp0 := Lib.hid hp0
                          replace hm := Lib.hid hm
                          replace hD := Lib.hid hD
                          clear hcmp cM hno hkeep hyes
                          refine wp_region_quiet_gr (by kernel_rfl) (by kernel_rfl) ?_
                          have E0 := cell_to (w := wr) d0
                          have E1 := cell_to (w := wr) d1
                          repeat (go_big_quiet_step (first | (go_at_call 22; exact calls_gr (cR.out _ (by exact Grown.gr _))) | (go_at_call 19; exact calls_gr (cG.out _ (by exact Grown.gr _))) | (go_at_call 23; exact calls_gr (cP.out _ (by exact Grown.gr _))) | (go_at_call 24; exact calls_gr (cN.out _ (by exact Grown.gr _)))))
                          refine wpQuiet_nil ?_
                          intro w2 hw2
                          obtain ⟨⟨wP, gP⟩, rfl⟩ := hw2
                          have Gf := Lib.hid (gr_trans hg.out gP)
                          go_wp2
                          go_roundw
                          case rel => exact ⟨k + 1, false, by omega, rfl, by go_num, hD, hli2, Gf⟩
                          case measure => simp [intOf]; omega
                      · have hkz : k = 0 := by omega
                        have hkd : ((k : Int) == 0) = true := eqT (by omega)
                        have hkd2 : (k == 0) = true := by rw [hkz]; rfl
                        have hD := hyes.out rfl rfl hm (by omega) rfl (.inl hkz)
                        replace hkz := Lib.hid hkz
                        replace hk1 := Lib.hid hk1
                        replace hp0 := Lib.hid hp0
                        replace hm := Lib.hid hm
                        replace hD := Lib.hid hD
                        clear hcmp cM hno hkeep hyes
                        refine wp_region_quiet_gr (by kernel_rfl) (by kernel_rfl) ?_
                        have E0 := cell_to (w := wr) d0
                        have E1 := cell_to (w := wr) d1
                        repeat (go_big_quiet_step (first | (go_at_call 22; exact calls_gr (cR.out _ (by exact Grown.gr _))) | (go_at_call 19; exact calls_gr (cG.out _ (by exact Grown.gr _))) | (go_at_call 23; exact calls_gr (cP.out _ (by exact Grown.gr _))) | (go_at_call 24; exact calls_gr (cN.out _ (by exact Grown.gr _)))))
                        refine wpQuiet_nil ?_
                        intro w2 hw2
                        obtain ⟨⟨wP, gP⟩, rfl⟩ := hw2
                        have Gf := Lib.hid (gr_trans hg.out gP)
                        go_wp2
                        go_roundw
                        case rel => exact ⟨k + 1, true, by omega, rfl, by go_num, hD, hli2, Gf⟩
                        case measure => simp [intOf]; omega
      · have hkI : ((k : Int) < (len0 : Int)) = False := eq_false (by omega)
        obtain rfl : k = len0 := by omega
        have hlit : ∀ (i : Nat) h s, hs[i]? = some h → z0[i]? = some s → LightL s.l ∧ h.pn ≤ 60 := fun i h s e1 e2 => hli.out i h s (by rw [← hso.out.2.1]; exact (List.getElem?_eq_some_iff.1 e1).1) e1 e2
        have hbH : ∀ h ∈ hs, h.ln ≤ 1000000 ∧ h.pn ≤ 1000000 ∧ NilOk h := fun h hh => by
          obtain ⟨i, hi⟩ := List.getElem?_of_mem hh
          have hil : i < k := by rw [← hso.out.2.1]; exact (List.getElem?_eq_some_iff.1 hi).1
          obtain ⟨h', s', _, _, e1, e2, _, _, _, _, e3, _⟩ := sersOf_at hso.out hil
          rw [hi] at e1
          have := Option.some.inj e1
          subst this
          have h1 := hlit i h s' hi e2
          have h2 := h1.1.1
          exact ⟨by omega, by omega, (hsz.out i h s' hi e2).2.2⟩
        have hsh : ∀ s ∈ z0, ShortL s.l ∧ s.l.length ≤ 1000000 ∧ s.p.length ≤ 1000000 := fun s hh => by
          obtain ⟨i, hi⟩ := List.getElem?_of_mem hh
          have hil : i < k := by rw [← hso.out.1]; exact (List.getElem?_eq_some_iff.1 hi).1
          obtain ⟨h', s', _, _, e1, e2, _, _, _, _, e3, e4⟩ := sersOf_at hso.out hil
          rw [hi] at e2
          have := Option.some.inj e2
          subst this
          have h1 := hlit i h' s e1 hi
          have h2 := h1.1.1
          exact ⟨light_short h1.1, by omega, by omega⟩
        have cO := sof_any a0 k cap0 hs z0 wr (sersOf_gr hso.out hg.out) (by omega) hbH (fun s h => (hsh s h).1)
        unfold OfPost at cO
        have hbe2 : IfB b (OkSs z0) := by unfold OkSs; rw [hso.out.1]; exact hbe.out
        have hz0 : z0.length = k := hso.out.1
        replace hz0 := Lib.hid hz0
        replace cO := Lib.hid cO
        replace hbe2 := Lib.hid hbe2
        replace hsh := Lib.hid hsh
        replace hbH := Lib.hid hbH
        clear hlit hli hbe
        go_wp2_with fail
        refine cO.out.mono ?_
        rintro e w2 ⟨g2, hcase⟩
        have G2 := gr_trans hg.out g2
        rcases hcase with ⟨hok, m, rfl, hst⟩ | ⟨hnok, rfl⟩
        · obtain rfl : b = true := hbe2.out.2 hok
          have cA := fun W (g : Gr w2 W) => sall_any wr.heap.size m z0 W (stoAt_gr hst g) (okSs_inv hok)
          unfold CopyPost at cA
          rw [hz0.out] at cA
          replace cA := Lib.hid cA
          replace G2 := Lib.hid G2
          replace hok := Lib.hid hok
          clear cO hst g2
          go_wp2_with fail
          refine (cA.out _ (gr_refl _ _)).mono ?_
          rintro e w4 ⟨A4, c4, h4, rfl, F4, g4⟩
          have G4 := gr_trans G2.out g4
          have cS := fun W (g : Gr w4 W) => sameSer_yes A4 a0 k c4 cap0 h4 hs z0 W (by omega) (sersOf_gr (sersIn_rd F4) g) (sersOf_gr hso.out (gr_trans G4 g)) (fun s h => (hsh.out s h).2)
          replace cS := Lib.hid cS
          replace G4 := Lib.hid G4
          clear F4 g4
          go_wp2_with fail
          refine (cS.out _ (gr_refl _ _)).mono ?_
          rintro e w5 ⟨rfl, g5⟩
          have G5 := Lib.hid (gr_below (gr_trans G4.out g5))
          go_wp2
          go_ret
          exact ⟨rfl, G5.out⟩
        · obtain rfl : b = false := by cases b with | false => rfl | true => exact absurd (hbe2.out.1 rfl) hnok
          have G5 := Lib.hid (gr_below G2)
          clear cO G2 g2
          go_wp2
          go_ret
          exact ⟨rfl, G5.out⟩



set_option maxRecDepth 100000 in
theorem lifted (os : Os) (started : os.Started) (H : Type) (enc : TypeId × Value → H) :
    ReturnsInHanded {} Try.checked os 8 .any (Rows.storeOfSpec.pre6 enc Try.prog Try.f8 Rows.storeOfRow.domain false) (Rows.storeOfSpec.post enc Try.prog Try.f8 false true false false) := by
  refine returnsInHanded_of_change (C := Try.checked) own started (by kernel_rfl) Try.func8
    (ChangeSpec.witness6 (enc := enc) (C := Try.checked) false ⟨#[], #[.slice none 0 0], []⟩ 8 (by kernel_rfl) (by kernel_rfl) (by kernel_rfl) (by kernel_rfl)) ?_
  intro W base args ds gs before hval0 hW hcnd _
  have hval : ∀ (j : Nat) t v, Try.f8.params[j]? = some t → args[j]? = some v → Value.okWide Try.prog W .any base t v := hval0
  have hW' := hW
  obtain ⟨p, q, hA0, hV, rfl, hfz, hnd⟩ := hW
  have hA : DataW.TrodAll enc Try.prog W 0 (fun _ => true) true Try.f8.params.toList args.toList ds p := hA0
  rw [Try.params8] at hA hval
  obtain ⟨v0, vs0, d0, ds0, p0, q0, hargs, rfl, rfl, h0, r0⟩ := trodAll_cons hA
  obtain ⟨rfl, rfl, rfl⟩ := trodAll_nil r0
  obtain rfl : args = #[v0] := by cases args; simp_all
  obtain ⟨rfl, rfl⟩ := trodVars_none hV
  obtain ⟨a0, len0, cap0, rfl⟩ := okWide_slice Try.underlying29 (hval 0 29 v0 rfl rfl)
  have k0 := h0
  have lt0 : ∀ x ∈ p0, x.block < W.heap.size := by obtain ⟨m, hm⟩ := k0; exact DataW.trod_lt m _ _ _ hm
  obtain ⟨z0, w0⟩ := sers_open h0
  clear hA0 hval0
  refine (walk W a0 len0 cap0 z0 w0).mono fun e W' ⟨he, bel⟩ => ?_
  subst he
  exact ⟨_, rfl, _, _, _, [], _, [], hW', trodAll_mk1 (shut_bool Try.underlying4 _), (trodAll_cons_mk (Below.trod laidOut (by kernel_rfl) (of_decide_eq_true (by kernel_rfl)) k0 bel lt0) trodAll_mk0), rfl, bel.frame _, fun h => by cases h⟩

theorem over : Rows.storeOfRow.holds Try.pinned (OpenSpec.ofChange Rows.storeOfSpec) :=
  OpenClaim.holds_of_wide 8 Try.f8 rfl rfl rfl rfl rfl rfl rfl ⟨rfl, rfl, rfl, rfl, rfl⟩ rfl rfl rfl rfl rfl (by kernel_rfl) Try.func8 (by kernel_rfl)
    (of_decide_eq_true (by kernel_rfl)) (by unfold Func.isWrapper; first | (rw [if_pos (by decide +kernel)]; kernel_rfl) | (rw [if_neg (by decide +kernel)]; exact ⟨rfl, rfl⟩))
    (fun os started H enc _ => lifted os started H enc)

/-- THE STATEMENT -/
theorem proved : Rows.StoreOfSaid := over
#print axioms proved
end Go.Proofs.Ythlkcoiaahpmoaa.storeOf

