/-
  StoreCopies holds of the program: for every input the call returns true and leaves what came in as it was. No condition.
-/
import Derived.Test.YthlkcoiaahpmoaaRows
import Derived.Test.YthlkcoiaahpmoaaStoPlay
import Derived.WalkKit
import Derived.ProofKit
import Derived.OpenShut
import Derived.ShutString
import Derived.ChangeOld
import Derived.Below
namespace Go.Proofs.Ythlkcoiaahpmoaa.storeCopies
open Go.ChangeShapes Go.WideShapes Go.ChangeAt Go.RowKit
open Go.ChangeMaps (open_string shut_string)
set_option linter.unusedVariables false

theorem own : ownKnob Try.prog.godebug = none := by kernel_rfl
theorem laidOut : laidOutB Try.prog = true := by kernel_rfl
set_option maxHeartbeats 64000000 in
set_option maxRecDepth 100000 in
theorem walk (w : World) (a0 : Option Addr) (len0 cap0 : Nat) (z0 : List Opx) (i0 : IsOps w a0 len0 cap0 z0) (a1 : Option Addr) (len1 cap1 : Nat) (z1 : List Opx) (i1 : IsOps w a1 len1 cap1 z1) :
    Calls Try.prog 7 #[.slice a0 len0 cap0, .slice a1 len1 cap1] w fun e w' => e = .returned (.bool true) ∧ Below w.heap.size w w' := by
  have cL0 := olight_any a0 len0 cap0 z0 w i0
  unfold OLPost at cL0
  replace cL0 := Lib.hid cL0
  replace i0 := Lib.hid i0
  have cL1 := olight_any a1 len1 cap1 z1 w i1
  unfold OLPost at cL1
  replace cL1 := Lib.hid cL1
  replace i1 := Lib.hid i1
  go_enter Try.func7, Try.ntmps7
  go_wp2_with fail
  refine cL0.out.mono ?_
  rintro e wL ⟨⟨b0, rfl, hb0⟩, rfl⟩
  cases b0 with
  | false =>
    go_wp2_with fail
    refine (alive_any _).mono ?_
    rintro e wA ⟨rfl, gA⟩
    go_wp2
    go_ret
    exact ⟨rfl, gr_below gA⟩
  | true =>
    obtain ⟨hN0, hL0⟩ := hb0 rfl
    rw [i0.out.1] at hN0
    replace hL0 := Lib.hid hL0
    clear hb0 cL0
    go_wp2_with fail
    refine cL1.out.mono ?_
    rintro e wL ⟨⟨b1, rfl, hb1⟩, rfl⟩
    cases b1 with
    | false =>
      go_wp2_with fail
      refine (alive_any _).mono ?_
      rintro e wA ⟨rfl, gA⟩
      go_wp2
      go_ret
      exact ⟨rfl, gr_below gA⟩
    | true =>
      obtain ⟨hN1, hL1⟩ := hb1 rfl
      rw [i1.out.1] at hN1
      replace hL1 := Lib.hid hL1
      clear hb1 cL1
      by_cases h120 : len0 + len1 > 120
      · have hI : (120 : Int) < (len0 : Int) + (len1 : Int) := by omega
        go_wp2_with fail
        refine (alive_any _).mono ?_
        rintro e wA ⟨rfl, gA⟩
        go_wp2
        go_ret
        exact ⟨rfl, gr_below gA⟩
      · have hI : ¬ (120 : Int) < (len0 : Int) + (len1 : Int) := by omega
        go_wp2_with fail
        refine (alive_any _).mono ?_
        rintro e w2 ⟨rfl, g2⟩
        go_upto_region 4 with fail
        obtain ⟨W3, hW3⟩ : ∃ W3, W3 = w2.alloc (.cells #[.slice none 0 0] 31) := ⟨_, rfl⟩
        have hS3 := stoHas_new w2
        rw [← hW3] at hS3 ⊢
        have gW3 : Gr w W3 := by rw [hW3]; exact gr_trans g2 (gr_alloc _ _ _)
        have hK : w.heap.size ≤ w2.heap.size := (g2).size
        obtain ⟨base, hbase⟩ : ∃ base, base = w2.heap.size := ⟨_, rfl⟩
        rw [← hbase] at hS3 hK ⊢
        have lS3 := lasts_start hS3
        have bS3 := gr_below gW3
        have sbS3 : base < W3.heap.size := by rw [hbase, hW3]; simp
        replace lS3 := Lib.hid lS3
        replace bS3 := Lib.hid bS3
        replace hbase := Lib.hid hbase
        clear hW3 hS3 gW3 g2
        go_wp2_with fail

        go_loopw [6] (fun iv wr => ∃ k : Nat, k ≤ len0 ∧ iv = .int .i64 k ∧ Hid (Lasts W3 base (BlkS ⟨base, none, 0, []⟩) wr base (pl (z0.take k) ([]))) ∧ Hid (Below w.heap.size w wr)) (fun iv _ => len0 - (intOf iv).toNat)
        case atStart => exact ⟨0, Nat.zero_le _, rfl, lS3, bS3⟩
        case round =>
          obtain ⟨k, hkn, rfl, hS, hB⟩ := hrel
          by_cases hlt : k < len0
          · obtain ⟨o, x, B, oo, ho, hok, rfl, d0, d1, d2, d3⟩ := isOps_at (isOps_below i0.out hB.out) hlt
            obtain ⟨q1, q2, q3, q4⟩ := op_args hok (hL0.out o (List.mem_of_getElem? ho))
            have hstep := pl_take ho ([])
            rw [hok.t] at d2
            rw [hok.v] at d3
            have cP := fun W (g : Gr wr W) => lasts_put (lasts_gr hS.out g) o.t o.v q1 q2 (row_gr q3 g) q4
            have hki : (k : Int) < (len0 : Int) := by omega
            have hk0 : (0 : Int) ≤ (k : Int) := by omega
            have hnb : ∀ W, Below base wr.drew W → Below w.heap.size w W := fun W b => (hB.out.grown (gr_drew wr none) hB.out.size (by simp)).trans ⟨b.os, b.tape, b.output, b.size, fun i hi => b.block i (Nat.lt_of_lt_of_le hi hK)⟩
            rw [← hstep] at cP
            obtain ⟨C, hC⟩ : ∃ C, C = (putS (pl (z0.take k) ([])) o.l o.t o.v).1 := ⟨_, rfl⟩
            simp only [← hC] at cP
            replace cP := Lib.hid cP
            replace hnb := Lib.hid hnb
            clear hok q1 q2 q3 q4 ho hstep hC
            go_upto_region 7 with fail
            go_region_law ((go_simp; go_at_call 12; refine (cP.out _ (by first | exact gr_drew _ _ | exact gr_refl _ _)).mono ?_; rintro e W5 ⟨rfl, hS5, B5⟩; replace hS5 := Lib.hid hS5; replace B5 := Lib.hid B5))
            all_goals
              have hB5 := Lib.hid (hnb.out W5 B5.out)
              clear cP hnb B5
              go_wp2
              go_roundw
              case rel => exact ⟨k + 1, by omega, by go_num, hS5, hB5⟩
              case measure => simp [intOf]; omega
          · have hki : ((k : Int) < (len0 : Int)) = False := eq_false (by omega)
            obtain rfl : k = len0 := by omega
            have hfull : z0.take k = z0 := List.take_of_length_le (by rw [i0.out.1]; exact Nat.le_refl _)
            have hSs := hS.out
            rw [hfull] at hSs
            replace hSs := Lib.hid hSs
            have hBs := hB
            clear hS hfull
            obtain ⟨⟨ms, ems, hms, hbs⟩, gms⟩ := hSs.out
            obtain ⟨ss, hss⟩ : ∃ ss, ss = pl z0 [] := ⟨_, rfl⟩
            rw [← hss] at hms
            have hlen40 := hms.inv.len
            have hsm := ser_small hms.inv
            have hsb := sumP_bound hms.inv
            have cC := scopy_any base ms ss wr hms.sat hms.inv
            rw [ems] at cC
            replace cC := Lib.hid cC
            replace hss := Lib.hid hss
            go_wp2_with fail
            refine cC.out.mono ?_
            rintro e w1 ⟨mc, rfl, hc, g1, hcl⟩
            have hmc : StoHas w1 wr.heap.size mc ss := ⟨hc, hms.inv, hcl, g1.size⟩
            clear cC hc
            have cA1 := fun W (g : Gr w1 W) => sall_any wr.heap.size mc ss W (stoAt_gr hmc.sat g) hmc.inv
            have cA2 := fun W (g : Gr w1 W) => sall_any base ms ss W (stoAt_gr hms.sat (gr_trans g1 g)) hms.inv
            have cN1 := fun W (g : Gr w1 W) => spoints_any wr.heap.size mc ss W (stoAt_gr hmc.sat g) hmc.inv
            have cN2 := fun W (g : Gr w1 W) => spoints_any base ms ss W (stoAt_gr hms.sat (gr_trans g1 g)) hms.inv
            unfold CopyPost at cA1 cA2
            rw [ems] at cA2 cN2
            obtain ⟨N, hN⟩ : ∃ N, N = ss.length := ⟨_, rfl⟩
            obtain ⟨P, hP⟩ : ∃ P, P = sumP ss := ⟨_, rfl⟩
            rw [← hN] at cA1 cA2 hlen40
            rw [← hP] at cN1 cN2 hsb
            replace cA1 := Lib.hid cA1
            replace cA2 := Lib.hid cA2
            replace cN1 := Lib.hid cN1
            replace cN2 := Lib.hid cN2
            replace hN := Lib.hid hN
            replace hP := Lib.hid hP
            replace hmc := Lib.hid hmc
            replace hms := Lib.hid hms
            replace hsm := Lib.hid hsm
            replace hcl := Lib.hid hcl
            replace hbs := Lib.hid hbs
            have Bw1 := Lib.hid (hBs.out.grown g1 hBs.out.size (by simp))
            replace gms := Lib.hid gms
            replace g1 := Lib.hid g1
            go_wp2_with fail
            refine (cA1.out _ (gr_refl _ _)).mono ?_
            rintro e w2 ⟨A2, c2, h2, rfl, F2, g2⟩
            go_wp2_with fail
            refine (cA2.out _ g2).mono ?_
            rintro e w3 ⟨A3, c3, h3, rfl, F3, g3⟩
            have cS := fun W (g : Gr w3 W) => sameSer_yes A2 A3 N c2 c3 h2 h3 ss W (by omega) (sersOf_gr (sersIn_rd F2) (gr_trans g3 g)) (sersOf_gr (sersIn_rd F3) g) hsm.out
            have G3 := gr_trans g2 g3
            replace cS := Lib.hid cS
            replace G3 := Lib.hid G3
            clear F2 F3 g2 g3
            go_wp2_with fail
            refine (cS.out _ (gr_refl _ _)).mono ?_
            rintro e w4 ⟨rfl, g4⟩
            have G4 := gr_trans G3.out g4
            clear cS g4
            go_wp2_with fail
            refine (cN1.out _ G4).mono ?_
            rintro e w5 ⟨rfl, g5⟩
            have G5 := gr_trans G4 g5
            clear g5 G4 G3
            go_wp2_with fail
            refine (cN2.out _ G5).mono ?_
            rintro e w6 ⟨rfl, g6⟩
            have G6 := gr_trans G5 g6
            replace G6 := Lib.hid G6
            clear g6 G5 cN1 cA1
            go_wp2_with fail
            refine (cA2.out _ G6.out).mono ?_
            rintro e w7 ⟨A7, c7, h7, rfl, F7, g7⟩
            have G7 := gr_trans G6.out g7
            go_wp2_with fail
            refine (cN2.out _ G7).mono ?_
            rintro e w8 ⟨rfl, g8⟩
            have F8 := sersIn_gr F7 g8
            have G8 := gr_trans G7 g8
            have hmc8 := stoHas_gr hmc.out G8
            have lC := lasts_start hmc8
            have hms8 := stoHas_gr hms.out (gr_trans g1.out G8)
            have Bw8 := Lib.hid (Bw1.out.grown G8 Bw1.out.size (by simp))
            have hcw6 : ∀ k, BlkS mc k → k < w6.heap.size := fun k hk => Nat.lt_of_lt_of_le (stoAt_lt hmc.out.sat k hk) G6.out.size
            have hsep : ∀ k, BlkS ms k → ¬ BlkS mc k := fun k hk hk2 => by
              have q1 := stoAt_lt (stoAt_gr hms.out.sat (gr_refl wr none)) k hk
              have q2 := hcl.out k hk2
              omega
            have hK0 := hK
            obtain ⟨K2, hK2⟩ : ∃ K2, K2 = wr.heap.size := ⟨_, rfl⟩
            have hK : w.heap.size ≤ wr.heap.size := hBs.out.size
            rw [← hK2] at lC hmc8 hK
            replace lC := Lib.hid lC
            replace F8 := Lib.hid F8
            replace hms8 := Lib.hid hms8
            replace hmc8 := Lib.hid hmc8
            replace hcw6 := Lib.hid hcw6
            replace hsep := Lib.hid hsep
            replace hK2 := Lib.hid hK2
            obtain ⟨cSt, hcSt⟩ : ∃ cSt, cSt = mc.St := ⟨_, rfl⟩
            rw [← hcSt] at lC ⊢
            replace hcSt := Lib.hid hcSt
            clear F7 g7 g8 G7 G8 cA2 cN2 G6 hmc hms g1 Bw1 hbs gms hcl hBs hSs
            go_wp2_with fail
            go_loopw [10, 11] (fun cv iv wr => ∃ k : Nat, k ≤ len1 ∧ iv = .int .i64 k ∧ Hid (Lasts w8 K2 (BlkS mc) wr cSt (pl (z1.take k) (ss))) ∧ Hid (Below w.heap.size w wr) ∧ ∃ ad : Nat, cv = .int .i64 ad ∧ ad ≤ k ∧ Hid (ad + sumP (ss) = sumP (pl (z1.take k) (ss)))) (fun _ iv _ => len1 - (intOf iv).toNat)
            case atStart => exact ⟨0, Nat.zero_le _, rfl, lC, Bw8, 0, rfl, Nat.zero_le _, Lib.hid (by rw [List.take_zero, pl_nil, Nat.zero_add])⟩
            case round =>
              obtain ⟨k, hkn, rfl, hS, hB, ad, rfl, hadk, had⟩ := hrel
              by_cases hlt : k < len1
              · obtain ⟨o, x, B, oo, ho, hok, rfl, d0, d1, d2, d3⟩ := isOps_at (isOps_below i1.out hB.out) hlt
                obtain ⟨q1, q2, q3, q4⟩ := op_args hok (hL1.out o (List.mem_of_getElem? ho))
                have hstep := pl_take ho (ss)
                rw [hok.t] at d2
                rw [hok.v] at d3
                have cP := fun W (g : Gr wr W) => lasts_put (lasts_gr hS.out g) o.t o.v q1 q2 (row_gr q3 g) q4
                have hki : (k : Int) < (len1 : Int) := by omega
                have hk0 : (0 : Int) ≤ (k : Int) := by omega
                have hnb : ∀ W, Below K2 wr.drew W → Below w.heap.size w W := fun W b => (hB.out.grown (gr_drew wr none) hB.out.size (by simp)).trans ⟨b.os, b.tape, b.output, b.size, fun i hi => b.block i (Nat.lt_of_lt_of_le hi hK)⟩
                have hsum := sumP_put (pl (z1.take k) (ss)) o.l o.t o.v
                rw [← hstep, ← had.out] at hsum
                rw [← hstep] at cP
                obtain ⟨C, hC⟩ : ∃ C, C = (putS (pl (z1.take k) (ss)) o.l o.t o.v).1 := ⟨_, rfl⟩
                simp only [← hC] at cP hsum
                replace cP := Lib.hid cP
                replace hnb := Lib.hid hnb
                clear hok q1 q2 q3 q4 ho hstep hC
                by_cases hc0 : C = 0
                · have hcq : (C == 0) = true := by rw [hc0]; rfl
                  rw [if_pos hc0] at hsum
                  replace hsum := Lib.hid hsum
                  replace hc0 := Lib.hid hc0
                  go_upto_region 16 with fail
                  go_region_law ((go_simp; go_at_call 12; refine (cP.out _ (by first | exact gr_drew _ _ | exact gr_refl _ _)).mono ?_; rintro e W5 ⟨rfl, hS5, B5⟩; replace hS5 := Lib.hid hS5; replace B5 := Lib.hid B5))
                  all_goals
                    have hB5 := Lib.hid (hnb.out W5 B5.out)
                    clear cP hnb B5
                    go_wp2
                    go_roundw
                    case rel => exact ⟨k + 1, by omega, by go_num, hS5, hB5, ad + 1, by go_num, by omega, Lib.hid (by rw [hsum.out]; omega)⟩
                    case measure => simp [intOf]; omega
                · have hcq : (C == 0) = false := eqF hc0
                  rw [if_neg hc0, Nat.add_zero] at hsum
                  replace hsum := Lib.hid hsum
                  replace hc0 := Lib.hid hc0
                  go_upto_region 16 with fail
                  go_region_law ((go_simp; go_at_call 12; refine (cP.out _ (by first | exact gr_drew _ _ | exact gr_refl _ _)).mono ?_; rintro e W5 ⟨rfl, hS5, B5⟩; replace hS5 := Lib.hid hS5; replace B5 := Lib.hid B5))
                  all_goals
                    have hB5 := Lib.hid (hnb.out W5 B5.out)
                    clear cP hnb B5
                    go_wp2
                    go_roundw
                    case rel => exact ⟨k + 1, by omega, by go_num, hS5, hB5, ad, rfl, by omega, Lib.hid hsum.out.symm⟩
                    case measure => simp [intOf]; omega
              · have hki : ((k : Int) < (len1 : Int)) = False := eq_false (by omega)
                obtain rfl : k = len1 := by omega
                have hfull : z1.take k = z1 := List.take_of_length_le (by rw [i1.out.1]; exact Nat.le_refl _)
                have hSc := hS.out
                rw [hfull] at hSc
                have had2 := had.out
                rw [hfull] at had2
                replace had2 := Lib.hid had2
                replace hSc := Lib.hid hSc
                have hBc := hB
                clear hS hfull
                obtain ⟨⟨mf, emf, hmf, _⟩, gmf⟩ := hSc.out
                have hsumf := sumP_bound hmf.inv
                have hms9 := stoAt_grs hms8.out.sat gmf hsep.out
                have F9 := sersIn_grs F8.out gmf hcw6.out
                have cA := fun W (g : Gr wr W) => sall_any base ms ss W (stoAt_gr hms9 g) hms8.out.inv
                have cN := fun W (g : Gr wr W) => spoints_any base ms ss W (stoAt_gr hms9 g) hms8.out.inv
                have cM := fun W (g : Gr wr W) => spoints_any K2 mf _ W (stoAt_gr hmf.sat g) hmf.inv
                unfold CopyPost at cA
                rw [ems, ← hN.out] at cA
                rw [ems, ← hP.out] at cN
                rw [emf, ← had2.out, ← hP.out] at cM
                rw [← had2.out, ← hP.out] at hsumf
                replace cA := Lib.hid cA
                replace cN := Lib.hid cN
                replace cM := Lib.hid cM
                replace F9 := Lib.hid F9
                have fB : ∀ W, Gr wr W → Below w.heap.size w W := fun W g => hBc.out.grown g hBc.out.size (by simp)
                replace fB := Lib.hid fB
                have hsumI : (P : Int) + (ad : Int) = ((ad + P : Nat) : Int) := by omega
                generalize hap : ad + P = AP at *
                replace hap := Lib.hid hap
                clear hms9 hmf gmf hms8 F8 hmc8 lC hSc hBc had had2
                go_wp2_with fail
                refine (cA.out _ (gr_refl _ _)).mono ?_
                rintro e v2 ⟨A2, c2, k2, rfl, F2, g2⟩
                have cS := fun W (g : Gr v2 W) => sameSer_yes A2 A7 N c2 c7 k2 h7 ss W (by omega) (sersOf_gr (sersIn_rd F2) g) (sersOf_gr (sersIn_rd F9.out) (gr_trans g2 g)) hsm.out
                replace cS := Lib.hid cS
                clear F2
                go_wp2_with fail
                refine (cS.out _ (gr_refl _ _)).mono ?_
                rintro e v3 ⟨rfl, g3⟩
                have G3 := gr_trans g2 g3
                clear cS g2 g3
                go_wp2_with fail
                refine (cN.out _ G3).mono ?_
                rintro e v4 ⟨rfl, g4⟩
                have G4 := gr_trans G3 g4
                clear G3 g4
                go_wp2_with fail
                refine (cM.out _ G4).mono ?_
                rintro e v5 ⟨rfl, g5⟩
                have hfin := Lib.hid (fB.out v5 (gr_trans G4 g5))
                go_wp2
                go_ret
                exact ⟨rfl, hfin.out⟩


set_option maxRecDepth 100000 in
theorem lifted (os : Os) (started : os.Started) (H : Type) (enc : TypeId × Value → H) :
    ReturnsInHanded {} Try.checked os 7 .any (Rows.storeCopiesSpec.pre6 enc Try.prog Try.f7 Rows.storeCopiesRow.domain false) (Rows.storeCopiesSpec.post enc Try.prog Try.f7 false true false false) := by
  refine returnsInHanded_of_change (C := Try.checked) own started (by kernel_rfl) Try.func7
    (ChangeSpec.witness6 (enc := enc) (C := Try.checked) false ⟨#[], #[.slice none 0 0, .slice none 0 0], []⟩ 8 (by kernel_rfl) (by kernel_rfl) (by kernel_rfl) (by kernel_rfl)) ?_
  intro W base args ds gs before hval0 hW hcnd _
  have hval : ∀ (j : Nat) t v, Try.f7.params[j]? = some t → args[j]? = some v → Value.okWide Try.prog W .any base t v := hval0
  have hW' := hW
  obtain ⟨p, q, hA0, hV, rfl, hfz, hnd⟩ := hW
  have hA : DataW.TrodAll enc Try.prog W 0 (fun _ => true) true Try.f7.params.toList args.toList ds p := hA0
  rw [Try.params7] at hA hval
  obtain ⟨v0, vs0, d0, ds0, p0, q0, hargs, rfl, rfl, h0, r0⟩ := trodAll_cons hA
  obtain ⟨v1, vs1, d1, ds1, p1, q1, rfl, rfl, rfl, h1, r1⟩ := trodAll_cons r0
  obtain ⟨rfl, rfl, rfl⟩ := trodAll_nil r1
  obtain rfl : args = #[v0, v1] := by cases args; simp_all
  obtain ⟨rfl, rfl⟩ := trodVars_none hV
  obtain ⟨a0, len0, cap0, rfl⟩ := okWide_slice Try.underlying22 (hval 0 22 v0 rfl rfl)
  have k0 := h0
  have lt0 : ∀ x ∈ p0, x.block < W.heap.size := by obtain ⟨m, hm⟩ := k0; exact DataW.trod_lt m _ _ _ hm
  obtain ⟨z0, w0⟩ := ops_open h0
  obtain ⟨a1, len1, cap1, rfl⟩ := okWide_slice Try.underlying22 (hval 1 22 v1 rfl rfl)
  have k1 := h1
  have lt1 : ∀ x ∈ p1, x.block < W.heap.size := by obtain ⟨m, hm⟩ := k1; exact DataW.trod_lt m _ _ _ hm
  obtain ⟨z1, w1⟩ := ops_open h1
  clear hA0 hval0
  refine (walk W a0 len0 cap0 z0 w0 a1 len1 cap1 z1 w1).mono fun e W' ⟨he, bel⟩ => ?_
  subst he
  exact ⟨_, rfl, _, _, _, [], _, [], hW', trodAll_mk1 (shut_bool Try.underlying4 _), (trodAll_cons_mk (Below.trod laidOut (by kernel_rfl) (of_decide_eq_true (by kernel_rfl)) k0 bel lt0) (trodAll_cons_mk (Below.trod laidOut (by kernel_rfl) (of_decide_eq_true (by kernel_rfl)) k1 bel lt1) trodAll_mk0)), rfl, bel.frame _, fun h => by cases h⟩

theorem over : Rows.storeCopiesRow.holds Try.pinned (OpenSpec.ofChange Rows.storeCopiesSpec) :=
  OpenClaim.holds_of_wide 7 Try.f7 rfl rfl rfl rfl rfl rfl rfl ⟨rfl, rfl, rfl, rfl, rfl⟩ rfl rfl rfl rfl rfl (by kernel_rfl) Try.func7 (by kernel_rfl)
    (of_decide_eq_true (by kernel_rfl)) (by unfold Func.isWrapper; first | (rw [if_pos (by decide +kernel)]; kernel_rfl) | (rw [if_neg (by decide +kernel)]; exact ⟨rfl, rfl⟩))
    (fun os started H enc _ => lifted os started H enc)

/-- THE STATEMENT -/
theorem proved : Rows.StoreCopiesSaid := over
#print axioms proved
end Go.Proofs.Ythlkcoiaahpmoaa.storeCopies

