/-
  StoreOrder holds of the program: for every input the call returns true and leaves what came in as it was. No condition.
-/
import Derived.Test.YthlkcoiaahpmoaaRows
import Derived.Test.YthlkcoiaahpmoaaOrdX
import Derived.Test.YthlkcoiaahpmoaaOpOpen
import Derived.WalkKit
import Derived.ProofKit
import Derived.OpenShut
import Derived.ShutString
import Derived.ChangeOld
import Derived.Below
namespace Go.Proofs.Ythlkcoiaahpmoaa.storeOrder
open Go.ChangeShapes Go.WideShapes Go.ChangeAt Go.RowKit
open Go.ChangeMaps (open_string shut_string)
set_option linter.unusedVariables false

theorem own : ownKnob Try.prog.godebug = none := by kernel_rfl
theorem laidOut : laidOutB Try.prog = true := by kernel_rfl
set_option maxHeartbeats 64000000 in
set_option maxRecDepth 100000 in
theorem walk (w : World) (a0 : Option Addr) (len0 cap0 : Nat) (z0 : List Opx) (i0 : IsOps w a0 len0 cap0 z0) (a1 : Option Addr) (len1 cap1 : Nat) (z1 : List Opx) (i1 : IsOps w a1 len1 cap1 z1) :
    Calls Try.prog 4 #[.slice a0 len0 cap0, .slice a1 len1 cap1] w fun e w' => e = .returned (.bool true) ∧ Below w.heap.size w w' := by
  have cL0 := olight_any a0 len0 cap0 z0 w i0
  unfold OLPost at cL0
  replace cL0 := Lib.hid cL0
  replace i0 := Lib.hid i0
  have cL1 := olight_any a1 len1 cap1 z1 w i1
  unfold OLPost at cL1
  replace cL1 := Lib.hid cL1
  replace i1 := Lib.hid i1
  have hmm := @run_makeMap Try.prog
  go_enter Try.func4, Try.ntmps4
  go_wp2_with fail
  refine cL0.out.mono ?_
  rintro e wL ⟨⟨b0, rfl, hb0⟩, rfl⟩
  cases b0 with
  | false =>
    go_wp2_with fail
    refine (alive_any _).mono ?_
    rintro e wA ⟨rfl, gA⟩
    go_wp2
    go_ret
    exact ⟨rfl, gr_below gA⟩
  | true =>
    obtain ⟨hN0, hL0⟩ := hb0 rfl
    rw [i0.out.1] at hN0
    replace hL0 := Lib.hid hL0
    clear hb0 cL0
    go_wp2_with fail
    refine cL1.out.mono ?_
    rintro e wL ⟨⟨b1, rfl, hb1⟩, rfl⟩
    cases b1 with
    | false =>
      go_wp2_with fail
      refine (alive_any _).mono ?_
      rintro e wA ⟨rfl, gA⟩
      go_wp2
      go_ret
      exact ⟨rfl, gr_below gA⟩
    | true =>
      obtain ⟨hN1, hL1⟩ := hb1 rfl
      rw [i1.out.1] at hN1
      replace hL1 := Lib.hid hL1
      clear hb1 cL1
      by_cases h120 : len0 + len1 > 100
      · have hI : (100 : Int) < (len0 : Int) + (len1 : Int) := by omega
        go_wp2_with fail
        refine (alive_any _).mono ?_
        rintro e wA ⟨rfl, gA⟩
        go_wp2
        go_ret
        exact ⟨rfl, gr_below gA⟩
      · have hI : ¬ (100 : Int) < (len0 : Int) + (len1 : Int) := by omega
        go_wp2_with fail
        refine (alive_any _).mono ?_
        rintro e w2 ⟨rfl, g2⟩
        go_upto_region 5 with fail
        obtain ⟨WB, hWB⟩ : ∃ WB, WB = (w2.alloc (.cells #[.slice none 0 0] 31)).alloc (.cells #[.slice none 0 0] 31) := ⟨_, rfl⟩
        have hTw := two_pair w2 _ (rfl : Obj.cells #[.slice none 0 0] 31 = stoO)
        obtain ⟨base, hbase⟩ : ∃ base, base = w2.heap.size := ⟨_, rfl⟩
        have hMB : WB.heap.size = base + 2 := by rw [hWB, hbase]; simp
        rw [← hWB, ← hbase] at hTw
        have hS0 := seen_new WB
        have gWB : Below w.heap.size w WB := by rw [hWB]; exact gr_below (gr_trans g2 (gr_trans (gr_alloc w2 _ none) (gr_alloc _ _ none)))
        have hK : w.heap.size ≤ base := by rw [hbase]; exact g2.size
        rw [← hWB, ← hbase]
        obtain ⟨M, hM⟩ : ∃ M, M = base + 2 := ⟨_, rfl⟩
        rw [← hM]
        rw [← hM] at hMB
        rw [hMB] at hS0
        obtain ⟨W3, hW3⟩ : ∃ W3, W3 = WB.alloc (.map #[] 0) := ⟨_, rfl⟩
        have gAB : Gr WB W3 := by rw [hW3]; exact gr_alloc _ _ _
        rw [← hW3] at hS0 ⊢
        have gW3 : Below w.heap.size w W3 := gWB.grown gAB gWB.size (by simp)
        have hMw : w.heap.size ≤ M := by omega
        have hG0 : GrS (fun q => q = M) W3 W3 := grs_refl _ _
        have hAB : GrS (fun q => q = M) WB W3 := grs_gr _ gAB
        have hl0 : z0.length = len0 := i0.out.1
        have hll0 : len0 ≤ 100 := by omega
        replace hl0 := Lib.hid hl0
        replace hS0 := Lib.hid hS0
        replace hG0 := Lib.hid hG0
        replace hTw := Lib.hid hTw
        replace gW3 := Lib.hid gW3
        replace hAB := Lib.hid hAB
        replace hMB := Lib.hid hMB
        replace hM := Lib.hid hM
        clear hW3 hWB hbase gWB gAB g2
        go_wp2_with fail
        go_loopw [8] (fun iv wr => ∃ k : Nat, k ≤ len0 ∧ iv = .int .i64 k ∧ Hid (SeenM wr M k (seenL z0 k)) ∧ Hid (GrS (fun q => q = M) W3 wr)) (fun iv _ => len0 - (intOf iv).toNat)
        case atStart => exact ⟨0, Nat.zero_le _, rfl, hS0, hG0⟩
        case round =>
          obtain ⟨k, hkn, rfl, hS, hG⟩ := hrel
          by_cases hlt : k < len0
          · have hBw := below_grs gW3.out hG.out gW3.out.size (fun q e => by rw [e]; exact hMw)
            obtain ⟨o, x, B, oo, ho, hok, rfl, d0, d1, d2, d3⟩ := isOps_at (isOps_below i0.out hBw) hlt
            have hLo := hL0.out o (List.mem_of_getElem? ho)
            obtain ⟨q1, q2, q3, q4⟩ := op_args hok hLo
            have cT := fun W (g : Gr wr W) => refText_any x.A x.n x.c o.l W hLo (row_gr q3 g)
            have hTl := text_len hLo
            obtain ⟨T, hT⟩ : ∃ T, T = textL o.l := ⟨_, rfl⟩
            rw [← hT] at cT hTl
            have hki : (k : Int) < (len0 : Int) := by omega
            have hk0 : (0 : Int) ≤ (k : Int) := by omega
            have hstep : seenL z0 (k + 1) = seenL z0 k ++ [T] := by rw [hT]; exact seenL_succ ho
            replace hstep := Lib.hid hstep
            replace cT := Lib.hid cT
            clear hok q1 q2 q3 q4 ho hT hBw hLo
            go_wp2_with fail
            refine (cT.out _ (gr_refl _ _)).mono ?_
            rintro e w5 ⟨rfl, g5⟩
            have hS5 := seen_gr hS.out g5
            have hG5 := grs_then hG.out g5 (by simp)
            replace hS5 := Lib.hid hS5
            replace hG5 := Lib.hid hG5
            clear g5 cT
            go_wp2_with (at_mapUpdate; refine wpList_seen rfl _ _ _ rfl M k _ rfl hS5.out T rfl rfl (by omega) (by omega) ?_; intro w6 hS6 g6)
            go_roundw
            case rel => exact ⟨k + 1, by omega, by go_num, Lib.hid (by rw [hstep.out]; exact hS6), Lib.hid (grs_then hG5.out g6 (fun q e _ => by cases e; rfl))⟩
            case measure => simp [intOf]; omega
          · have hki : ((k : Int) < (len0 : Int)) = False := eq_false (by omega)
            obtain rfl : len0 = k := by omega
            have hS1 := hS
            have hG1 := hG
            clear hS hG
            go_wp2_with fail
            go_loopw [9] (fun iv wr => ∃ k : Nat, k ≤ len1 ∧ iv = .int .i64 k ∧ Hid (SeenM wr M len0 (seenL z0 len0)) ∧ Hid (GrS (fun q => q = M) W3 wr) ∧ Hid (∀ y ∈ z1.take k, ∀ x ∈ z0, x.l ≠ y.l)) (fun iv _ => len1 - (intOf iv).toNat)
            case atStart => exact ⟨0, Nat.zero_le _, rfl, hS1, hG1, Lib.hid (by intro y hy; simp at hy)⟩
            case round =>
              obtain ⟨k, hkn, rfl, hS, hG, hD⟩ := hrel
              by_cases hlt : k < len1
              · have hBw := below_grs gW3.out hG.out gW3.out.size (fun q e => by rw [e]; exact hMw)
                obtain ⟨o, x, B, oo, ho, hok, rfl, d0, d1, d2, d3⟩ := isOps_at (isOps_below i1.out hBw) hlt
                have hLo := hL1.out o (List.mem_of_getElem? ho)
                obtain ⟨q1, q2, q3, q4⟩ := op_args hok hLo
                have cT := fun W (g : Gr wr W) => refText_any x.A x.n x.c o.l W hLo (row_gr q3 g)
                have hTl := text_len hLo
                obtain ⟨T, hT⟩ : ∃ T, T = textL o.l := ⟨_, rfl⟩
                rw [← hT] at cT hTl
                have hki : (k : Int) < (len1 : Int) := by omega
                have hk0 : (0 : Int) ≤ (k : Int) := by omega
                have hne : T ∉ seenL z0 len0 → ∀ y ∈ z1.take (k + 1), ∀ x ∈ z0, x.l ≠ y.l := fun hn => seen_next hl0.out hD.out ho (by rw [← hT]; exact hn)
                have hlook := fun W (g : Gr wr W) => seen_look (seen_gr hS.out g) T (by omega)
                replace hlook := Lib.hid hlook
                replace hne := Lib.hid hne
                replace cT := Lib.hid cT
                replace hBw := Lib.hid hBw
                clear hok q1 q2 q3 q4 ho hT hLo
                go_wp2_with fail
                refine (cT.out _ (gr_refl _ _)).mono ?_
                rintro e w5 ⟨rfl, g5⟩
                obtain ⟨b, hlk, hb⟩ := hlook.out w5 g5
                have hS5 := seen_gr hS.out g5
                have hG5 := grs_then hG.out g5 (by simp)
                have hB5 := hBw.out.grown g5 hBw.out.size (by simp)
                replace hS5 := Lib.hid hS5
                replace hG5 := Lib.hid hG5
                replace hB5 := Lib.hid hB5
                clear g5 cT hlook
                cases b with
                | true =>
                  clear hb
                  go_wp2
                  go_ret
                  exact ⟨rfl, hB5.out⟩
                | false =>
                  have hne2 := hne.out (fun h => by have := hb h; cases this)
                  replace hne2 := Lib.hid hne2
                  clear hb hne
                  go_wp2
                  go_roundw
                  case rel => exact ⟨k + 1, by omega, by go_num, hS5, hG5, hne2⟩
                  case measure => simp [intOf]; omega
              · have hki : ((k : Int) < (len1 : Int)) = False := eq_false (by omega)
                obtain rfl : len1 = k := by omega
                have hG2 := hG
                have hDis := hD.out
                rw [List.take_of_length_le (by rw [i1.out.1]; exact Nat.le_refl _)] at hDis
                replace hDis := Lib.hid hDis
                clear hS hG hD
                go_wp2_with fail
                go_loopw [10] (fun iv wr => ∃ k : Nat, k ≤ len0 ∧ iv = .int .i64 k ∧ Hid (Two base wr base (pl (z0.take k) []) (base + 1) ([])) ∧ Hid (Below w.heap.size w wr)) (fun iv _ => len0 - (intOf iv).toNat)
                case atStart => exact ⟨0, Nat.zero_le _, rfl, Lib.hid (two_keep hTw.out (Nat.le_of_eq hMB.out) (grs_trans hAB.out hG2.out)), Lib.hid (below_grs gW3.out hG2.out gW3.out.size (fun q e => by rw [e]; exact hMw))⟩
                case round =>
                  obtain ⟨k, hkn, rfl, hS, hB⟩ := hrel
                  by_cases hlt : k < len0
                  · have hki : (k : Int) < (len0 : Int) := by omega
                    have hk0 : (0 : Int) ≤ (k : Int) := by omega
                    obtain ⟨o, x, B, oo, ho, hok, rfl, d0, d1, d2, d3⟩ := isOps_at (isOps_below i0.out hB.out) hlt
                    obtain ⟨q1, q2, q3, q4⟩ := op_args hok (hL0.out o (List.mem_of_getElem? ho))
                    have hstep := pl_take ho ([])
                    rw [hok.t] at d2
                    rw [hok.v] at d3
                    have cP := fun W (g : Gr wr W) => two_put (two_gr hS.out g) o.t o.v q1 q2 (row_gr q3 g) q4
                    have hnb : ∀ W, Below base wr.drew W → Below w.heap.size w W := fun W b => (hB.out.grown (gr_drew wr none) hB.out.size (by simp)).trans ⟨b.os, b.tape, b.output, b.size, fun i hi => b.block i (Nat.lt_of_lt_of_le hi hK)⟩
                    rw [← hstep] at cP
                    obtain ⟨C, hC⟩ : ∃ C, C = (putS (pl (z0.take k) ([])) o.l o.t o.v).1 := ⟨_, rfl⟩
                    simp only [← hC] at cP
                    replace cP := Lib.hid cP
                    replace hnb := Lib.hid hnb
                    clear hok q1 q2 q3 q4 ho hstep hC
                    go_upto_region 17 with fail
                    go_region_law ((go_simp; go_at_call 12; refine (cP.out _ (by first | exact gr_drew _ _ | exact gr_refl _ _)).mono ?_; rintro e W5 ⟨rfl, hS5, B5⟩; replace hS5 := Lib.hid hS5; replace B5 := Lib.hid B5))
                    all_goals
                      have hB5 := Lib.hid (hnb.out W5 B5.out)
                      clear cP hnb B5 d0 d1 d2 d3
                      go_wp2
                      go_roundw
                      case rel => exact ⟨k + 1, by omega, by go_num, hS5, hB5⟩
                      case measure => simp [intOf]; omega
                  · have hki : ((k : Int) < (len0 : Int)) = False := eq_false (by omega)
                    obtain rfl : len0 = k := by omega
                    have hfull : z0.take len0 = z0 := List.take_of_length_le (by rw [i0.out.1]; exact Nat.le_refl _)
                    have hSf := hS.out
                    rw [hfull] at hSf
                    replace hSf := Lib.hid hSf
                    have hBf := hB
                    clear hS hB hfull
                    go_wp2_with fail
                    go_loopw [11] (fun iv wr => ∃ k : Nat, k ≤ len1 ∧ iv = .int .i64 k ∧ Hid (Two base wr base (pl (z1.take k) (pl z0 [])) (base + 1) (pl (z1.take k) [])) ∧ Hid (Below w.heap.size w wr)) (fun iv _ => len1 - (intOf iv).toNat)
                    case atStart => exact ⟨0, Nat.zero_le _, rfl, hSf, hBf⟩
                    case round =>
                      obtain ⟨k, hkn, rfl, hS, hB⟩ := hrel
                      by_cases hlt : k < len1
                      · have hki : (k : Int) < (len1 : Int) := by omega
                        have hk0 : (0 : Int) ≤ (k : Int) := by omega
                        obtain ⟨o, x, B, oo, ho, hok, rfl, d0, d1, d2, d3⟩ := isOps_at (isOps_below i1.out hB.out) hlt
                        obtain ⟨q1, q2, q3, q4⟩ := op_args hok (hL1.out o (List.mem_of_getElem? ho))
                        have hstep := pl_take ho (pl z0 [])
                        rw [hok.t] at d2
                        rw [hok.v] at d3
                        have cP := fun W (g : Gr wr W) => two_put (two_gr hS.out g) o.t o.v q1 q2 (row_gr q3 g) q4
                        have hnb : ∀ W, Below base wr.drew W → Below w.heap.size w W := fun W b => (hB.out.grown (gr_drew wr none) hB.out.size (by simp)).trans ⟨b.os, b.tape, b.output, b.size, fun i hi => b.block i (Nat.lt_of_lt_of_le hi hK)⟩
                        rw [← hstep] at cP
                        obtain ⟨C, hC⟩ : ∃ C, C = (putS (pl (z1.take k) (pl z0 [])) o.l o.t o.v).1 := ⟨_, rfl⟩
                        simp only [← hC] at cP
                        replace cP := Lib.hid cP
                        replace hnb := Lib.hid hnb
                        clear hok q1 q2 q3 q4 ho hstep hC
                        go_upto_region 21 with fail
                        go_region_law ((go_simp; go_at_call 12; refine (cP.out _ (by first | exact gr_drew _ _ | exact gr_refl _ _)).mono ?_; rintro e W5 ⟨rfl, hS5, B5⟩; replace hS5 := Lib.hid hS5; replace B5 := Lib.hid B5))
                        all_goals
                          have hB5 := Lib.hid (hnb.out W5 B5.out)
                          clear cP hnb B5 d0 d1 d2 d3
                          obtain ⟨o, x, B', oo', ho, hok, hA', d0, d1, d2, d3⟩ := isOps_at (isOps_below i1.out hB5.out) hlt
                          have e9 := Option.some.inj hA'
                          injection e9 with e10 e11
                          subst e10 e11
                          clear hA'
                          obtain ⟨q1, q2, q3, q4⟩ := op_args hok (hL1.out o (List.mem_of_getElem? ho))
                          have hstep := pl_take ho ([])
                          rw [hok.t] at d2
                          rw [hok.v] at d3
                          have cP := fun W (g : Gr W5 W) => two_put2 (two_gr hS5.out g) o.t o.v q1 q2 (row_gr q3 g) q4
                          have hnb : ∀ W, Below base W5.drew W → Below w.heap.size w W := fun W b => (hB5.out.grown (gr_drew W5 none) hB5.out.size (by simp)).trans ⟨b.os, b.tape, b.output, b.size, fun i hi => b.block i (Nat.lt_of_lt_of_le hi hK)⟩
                          rw [← hstep] at cP
                          obtain ⟨C, hC⟩ : ∃ C, C = (putS (pl (z1.take k) ([])) o.l o.t o.v).1 := ⟨_, rfl⟩
                          simp only [← hC] at cP
                          replace cP := Lib.hid cP
                          replace hnb := Lib.hid hnb
                          clear hok q1 q2 q3 q4 ho hstep hC
                          go_upto_region 22 with fail
                          go_region_law ((go_simp; go_at_call 12; refine (cP.out _ (by first | exact gr_drew _ _ | exact gr_refl _ _)).mono ?_; rintro e W6 ⟨rfl, hS6, B6⟩; replace hS6 := Lib.hid hS6; replace B6 := Lib.hid B6))
                          all_goals
                            have hB6 := Lib.hid (hnb.out W6 B6.out)
                            clear cP hnb B6 d0 d1 d2 d3
                            go_wp2
                            go_roundw
                            case rel => exact ⟨k + 1, by omega, by go_num, hS6, hB6⟩
                            case measure => simp [intOf]; omega
                      · have hki : ((k : Int) < (len1 : Int)) = False := eq_false (by omega)
                        obtain rfl : len1 = k := by omega
                        have hfull : z1.take len1 = z1 := List.take_of_length_le (by rw [i1.out.1]; exact Nat.le_refl _)
                        have hSm := hS.out
                        rw [hfull] at hSm
                        replace hSm := Lib.hid hSm
                        have hBm := hB
                        clear hS hB hfull
                        go_wp2_with fail
                        go_loopw [12] (fun iv wr => ∃ k : Nat, k ≤ len0 ∧ iv = .int .i64 k ∧ Hid (Two base wr base (pl z1 (pl z0 [])) (base + 1) (pl (z0.take k) (pl z1 []))) ∧ Hid (Below w.heap.size w wr)) (fun iv _ => len0 - (intOf iv).toNat)
                        case atStart => exact ⟨0, Nat.zero_le _, rfl, hSm, hBm⟩
                        case round =>
                          obtain ⟨k, hkn, rfl, hS, hB⟩ := hrel
                          by_cases hlt : k < len0
                          · have hki : (k : Int) < (len0 : Int) := by omega
                            have hk0 : (0 : Int) ≤ (k : Int) := by omega
                            obtain ⟨o, x, B, oo, ho, hok, rfl, d0, d1, d2, d3⟩ := isOps_at (isOps_below i0.out hB.out) hlt
                            obtain ⟨q1, q2, q3, q4⟩ := op_args hok (hL0.out o (List.mem_of_getElem? ho))
                            have hstep := pl_take ho (pl z1 [])
                            rw [hok.t] at d2
                            rw [hok.v] at d3
                            have cP := fun W (g : Gr wr W) => two_put2 (two_gr hS.out g) o.t o.v q1 q2 (row_gr q3 g) q4
                            have hnb : ∀ W, Below base wr.drew W → Below w.heap.size w W := fun W b => (hB.out.grown (gr_drew wr none) hB.out.size (by simp)).trans ⟨b.os, b.tape, b.output, b.size, fun i hi => b.block i (Nat.lt_of_lt_of_le hi hK)⟩
                            rw [← hstep] at cP
                            obtain ⟨C, hC⟩ : ∃ C, C = (putS (pl (z0.take k) (pl z1 [])) o.l o.t o.v).1 := ⟨_, rfl⟩
                            simp only [← hC] at cP
                            replace cP := Lib.hid cP
                            replace hnb := Lib.hid hnb
                            clear hok q1 q2 q3 q4 ho hstep hC
                            go_upto_region 26 with fail
                            go_region_law ((go_simp; go_at_call 12; refine (cP.out _ (by first | exact gr_drew _ _ | exact gr_refl _ _)).mono ?_; rintro e W5 ⟨rfl, hS5, B5⟩; replace hS5 := Lib.hid hS5; replace B5 := Lib.hid B5))
                            all_goals
                              have hB5 := Lib.hid (hnb.out W5 B5.out)
                              clear cP hnb B5 d0 d1 d2 d3
                              go_wp2
                              go_roundw
                              case rel => exact ⟨k + 1, by omega, by go_num, hS5, hB5⟩
                              case measure => simp [intOf]; omega
                          · have hki : ((k : Int) < (len0 : Int)) = False := eq_false (by omega)
                            obtain rfl : len0 = k := by omega
                            have hfull : z0.take len0 = z0 := List.take_of_length_le (by rw [i0.out.1]; exact Nat.le_refl _)
                            have hSe0 := hS.out
                            rw [hfull] at hSe0
                            replace hSe0 := Lib.hid hSe0
                            have hBe0 := hB
                            clear hS hB hfull
                            obtain ⟨m1, m2, e1, e2, h1, h2, _⟩ := hSe0.out.ex
                            have hord := order_law z0 z1 (fun x hx y hy => hDis.out y hy x hx)
                            rw [pl_append, pl_append] at hord
                            obtain ⟨A, hA⟩ : ∃ A, A = pl z1 (pl z0 []) := ⟨_, rfl⟩
                            obtain ⟨B, hBe⟩ : ∃ B, B = pl z0 (pl z1 []) := ⟨_, rfl⟩
                            rw [← hA] at h1 hord
                            rw [← hBe] at h2 hord
                            have hlen40 := h1.inv.len
                            have hsm := ser_small h1.inv
                            have cA := fun W (g : Gr wr W) => sall_any base m1 A W (stoAt_gr h1.sat g) h1.inv
                            have cB := fun W (g : Gr wr W) => sall_any base m2 B W (stoAt_gr h2.sat g) h2.inv
                            unfold CopyPost at cA cB
                            rw [e1] at cA
                            rw [e2] at cB
                            have fB : ∀ W, Gr wr W → Below w.heap.size w W := fun W g => hBe0.out.grown g hBe0.out.size (by simp)
                            replace fB := Lib.hid fB
                            obtain ⟨N, hN⟩ : ∃ N, N = A.length := ⟨_, rfl⟩
                            rw [← hN] at cA hlen40 hord
                            replace cA := Lib.hid cA
                            replace cB := Lib.hid cB
                            replace hN := Lib.hid hN
                            replace hsm := Lib.hid hsm
                            replace hA := Lib.hid hA
                            replace hBe := Lib.hid hBe
                            clear h1 h2 hSe0 e1 e2 hBe0
                            by_cases h40 : 40 ≤ N
                            · have hI : (40 : Int) ≤ (N : Int) := by omega
                              clear hord
                              go_wp2_with fail
                              refine (cA.out _ (gr_refl _ _)).mono ?_
                              rintro e w2 ⟨A2, c2, k2, rfl, F2, g2⟩
                              have hfin := Lib.hid (fB.out w2 g2)
                              clear F2 g2
                              go_wp2
                              go_ret
                              exact ⟨rfl, hfin.out⟩
                            · have hI : ¬ (40 : Int) ≤ (N : Int) := by omega
                              have hAB : A = B := by
                                rcases hord with h | h
                                · omega
                                · exact h
                              subst hAB
                              rw [← hN.out] at cB
                              clear hord
                              go_wp2_with fail
                              refine (cA.out _ (gr_refl _ _)).mono ?_
                              rintro e w2 ⟨A2, c2, k2, rfl, F2, g2⟩
                              go_wp2_with fail
                              refine (cA.out _ g2).mono ?_
                              rintro e w3 ⟨A3, c3, k3, rfl, F3, g3⟩
                              have G3 := gr_trans g2 g3
                              go_wp2_with fail
                              refine (cB.out _ G3).mono ?_
                              rintro e w4 ⟨A4, c4, k4, rfl, F4, g4⟩
                              have G4 := gr_trans G3 g4
                              have cS := fun W (g : Gr w4 W) => sameSer_yes A3 A4 N c3 c4 k3 k4 A W (by omega) (sersOf_gr (sersIn_rd F3) (gr_trans g4 g)) (sersOf_gr (sersIn_rd F4) g) hsm.out
                              replace cS := Lib.hid cS
                              clear F2 F3 F4 g2 g3 g4 G3
                              go_wp2_with fail
                              refine (cS.out _ (gr_refl _ _)).mono ?_
                              rintro e w5 ⟨rfl, g5⟩
                              have hfin := Lib.hid (fB.out w5 (gr_trans G4 g5))
                              go_wp2
                              go_ret
                              exact ⟨rfl, hfin.out⟩


set_option maxRecDepth 100000 in
theorem lifted (os : Os) (started : os.Started) (H : Type) (enc : TypeId × Value → H) :
    ReturnsInHanded {} Try.checked os 4 .any (Rows.storeOrderSpec.pre6 enc Try.prog Try.f4 Rows.storeOrderRow.domain false) (Rows.storeOrderSpec.post enc Try.prog Try.f4 false true false false) := by
  refine returnsInHanded_of_change (C := Try.checked) own started (by kernel_rfl) Try.func4
    (ChangeSpec.witness6 (enc := enc) (C := Try.checked) false ⟨#[], #[.slice none 0 0, .slice none 0 0], []⟩ 8 (by kernel_rfl) (by kernel_rfl) (by kernel_rfl) (by kernel_rfl)) ?_
  intro W base args ds gs before hval0 hW hcnd _
  have hval : ∀ (j : Nat) t v, Try.f4.params[j]? = some t → args[j]? = some v → Value.okWide Try.prog W .any base t v := hval0
  have hW' := hW
  obtain ⟨p, q, hA0, hV, rfl, hfz, hnd⟩ := hW
  have hA : DataW.TrodAll enc Try.prog W 0 (fun _ => true) true Try.f4.params.toList args.toList ds p := hA0
  rw [Try.params4] at hA hval
  obtain ⟨v0, vs0, d0, ds0, p0, q0, hargs, rfl, rfl, h0, r0⟩ := trodAll_cons hA
  obtain ⟨v1, vs1, d1, ds1, p1, q1, rfl, rfl, rfl, h1, r1⟩ := trodAll_cons r0
  obtain ⟨rfl, rfl, rfl⟩ := trodAll_nil r1
  obtain rfl : args = #[v0, v1] := by cases args; simp_all
  obtain ⟨rfl, rfl⟩ := trodVars_none hV
  obtain ⟨a0, len0, cap0, rfl⟩ := okWide_slice Try.underlying22 (hval 0 22 v0 rfl rfl)
  have k0 := h0
  have lt0 : ∀ x ∈ p0, x.block < W.heap.size := by obtain ⟨m, hm⟩ := k0; exact DataW.trod_lt m _ _ _ hm
  obtain ⟨z0, w0⟩ := ops_open h0
  obtain ⟨a1, len1, cap1, rfl⟩ := okWide_slice Try.underlying22 (hval 1 22 v1 rfl rfl)
  have k1 := h1
  have lt1 : ∀ x ∈ p1, x.block < W.heap.size := by obtain ⟨m, hm⟩ := k1; exact DataW.trod_lt m _ _ _ hm
  obtain ⟨z1, w1⟩ := ops_open h1
  clear hA0 hval0
  refine (walk W a0 len0 cap0 z0 w0 a1 len1 cap1 z1 w1).mono fun e W' ⟨he, bel⟩ => ?_
  subst he
  exact ⟨_, rfl, _, _, _, [], _, [], hW', trodAll_mk1 (shut_bool Try.underlying4 _), (trodAll_cons_mk (Below.trod laidOut (by kernel_rfl) (of_decide_eq_true (by kernel_rfl)) k0 bel lt0) (trodAll_cons_mk (Below.trod laidOut (by kernel_rfl) (of_decide_eq_true (by kernel_rfl)) k1 bel lt1) trodAll_mk0)), rfl, bel.frame _, fun h => by cases h⟩

theorem over : Rows.storeOrderRow.holds Try.pinned (OpenSpec.ofChange Rows.storeOrderSpec) :=
  OpenClaim.holds_of_wide 4 Try.f4 rfl rfl rfl rfl rfl rfl rfl ⟨rfl, rfl, rfl, rfl, rfl⟩ rfl rfl rfl rfl rfl (by kernel_rfl) Try.func4 (by kernel_rfl)
    (of_decide_eq_true (by kernel_rfl)) (by unfold Func.isWrapper; first | (rw [if_pos (by decide +kernel)]; kernel_rfl) | (rw [if_neg (by decide +kernel)]; exact ⟨rfl, rfl⟩))
    (fun os started H enc _ => lifted os started H enc)

/-- THE STATEMENT -/
theorem proved : Rows.StoreOrderSaid := over
#print axioms proved
end Go.Proofs.Ythlkcoiaahpmoaa.storeOrder

