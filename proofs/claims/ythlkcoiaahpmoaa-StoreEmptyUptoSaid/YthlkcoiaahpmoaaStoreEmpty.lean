/-
  StoreEmpty holds of the program: for every input the call returns true and leaves what came in as it was. No condition.
-/
import Derived.Test.YthlkcoiaahpmoaaRows
import Derived.Test.YthlkcoiaahpmoaaEmpMath
import Derived.Test.YthlkcoiaahpmoaaOpOpen
import Derived.Test.YthlkcoiaahpmoaaGlyphRefName
import Derived.Test.YthlkcoiaahpmoaaStoOfX
import Derived.WalkKit
import Derived.ProofKit
import Derived.OpenShut
import Derived.ShutString
import Derived.ChangeOld
import Derived.Below
import Derived.JoinedCond
namespace Go.Proofs.Ythlkcoiaahpmoaa.storeEmpty
open Go.ChangeShapes Go.WideShapes Go.ChangeAt Go.RowKit
open Go.ChangeMaps (open_string shut_string)
set_option linter.unusedVariables false

theorem own : ownKnob Try.prog.godebug = none := by kernel_rfl
theorem laidOut : laidOutB Try.prog = true := by kernel_rfl
set_option maxHeartbeats 64000000 in
set_option maxRecDepth 100000 in
theorem walk (w : World) (a0 : Option Addr) (len0 cap0 : Nat) (z0 : List Opx) (i0 : IsOps w a0 len0 cap0 z0) (a1 : ByteArray) (w1 : a1.size ≤ 1048576) :
    Calls Try.prog 6 #[.slice a0 len0 cap0, .string a1] w fun e w' => e = .returned (.bool true) ∧ Below w.heap.size w w' := by
  obtain ⟨H, hH⟩ := holds_ex
  obtain ⟨nm, rfl⟩ : ∃ nm, a1 = txt nm := ⟨a1.data.toList, (txt_of a1).symm⟩
  rw [txt_size] at w1
  have cN := fun W => refName_any nm W (by omega)
  obtain ⟨bn, hbn⟩ : ∃ b, b = isName nm := ⟨_, rfl⟩
  rw [← hbn] at cN
  replace cN := Lib.hid cN
  replace hbn := Lib.hid hbn
  have cL0 := olight_any a0 len0 cap0 z0 w i0
  unfold OLPost at cL0
  replace cL0 := Lib.hid cL0
  replace i0 := Lib.hid i0
  go_enter Try.func6, Try.ntmps6
  go_wp2_with fail
  refine cL0.out.mono ?_
  rintro e wL ⟨⟨b0, rfl, hb0⟩, rfl⟩
  cases b0 with
  | false =>
    go_wp2_with fail
    refine (alive_any _).mono ?_
    rintro e wA ⟨rfl, gA⟩
    go_wp2
    go_ret
    exact ⟨rfl, gr_below gA⟩
  | true =>
    obtain ⟨hN0, hL0⟩ := hb0 rfl
    rw [i0.out.1] at hN0
    replace hL0 := Lib.hid hL0
    clear hb0 cL0
    go_wp2_with fail
    refine (cN.out _).mono ?_
    rintro e wN ⟨rfl, gN⟩
    cases bn with
    | false =>
      go_wp2_with fail
      refine (alive_any _).mono ?_
      rintro e wA ⟨rfl, gA⟩
      go_wp2
      go_ret
      exact ⟨rfl, gr_below (gr_trans gN gA)⟩
    | true =>
      have hnm : isName nm = true := hbn.out.symm
      go_wp2_with fail
      refine (alive_any _).mono ?_
      rintro e w2 ⟨rfl, gg2⟩
      have g2 := gr_trans gN gg2
      clear gN gg2
      go_upto_region 4 with fail
      obtain ⟨W3, hW3⟩ : ∃ W3, W3 = w2.alloc (.cells #[.slice none 0 0] 31) := ⟨_, rfl⟩
      have hS3 := stoHas_new w2
      rw [← hW3] at hS3 ⊢
      have gW3 : Gr w W3 := by rw [hW3]; exact gr_trans g2 (gr_alloc _ _ _)
      have hK : w.heap.size ≤ w2.heap.size := (g2).size
      obtain ⟨base, hbase⟩ : ∃ base, base = w2.heap.size := ⟨_, rfl⟩
      rw [← hbase] at hS3 hK ⊢
      have lS3 := lasts_start hS3
      have bS3 := gr_below gW3
      have sbS3 : base < W3.heap.size := by rw [hbase, hW3]; simp
      replace lS3 := Lib.hid lS3
      replace bS3 := Lib.hid bS3
      replace hbase := Lib.hid hbase
      clear hW3 hS3 gW3 g2
      go_wp2_with fail

      go_loopw [6] (fun iv wr => ∃ k : Nat, k ≤ len0 ∧ iv = .int .i64 k ∧ Hid (Lasts W3 base (BlkS ⟨base, none, 0, []⟩) wr base (pl (z0.take k) ([]))) ∧ Hid (Below w.heap.size w wr)) (fun iv _ => len0 - (intOf iv).toNat)
      case atStart => exact ⟨0, Nat.zero_le _, rfl, lS3, bS3⟩
      case round =>
        obtain ⟨k, hkn, rfl, hS, hB⟩ := hrel
        by_cases hlt : k < len0
        · obtain ⟨o, x, B, oo, ho, hok, rfl, d0, d1, d2, d3⟩ := isOps_at (isOps_below i0.out hB.out) hlt
          obtain ⟨q1, q2, q3, q4⟩ := op_args hok (hL0.out o (List.mem_of_getElem? ho))
          have hstep := pl_take ho ([])
          rw [hok.t] at d2
          rw [hok.v] at d3
          have cP := fun W (g : Gr wr W) => lasts_put (lasts_gr hS.out g) o.t o.v q1 q2 (row_gr q3 g) q4
          have hki : (k : Int) < (len0 : Int) := by omega
          have hk0 : (0 : Int) ≤ (k : Int) := by omega
          have hnb : ∀ W, Below base wr.drew W → Below w.heap.size w W := fun W b => (hB.out.grown (gr_drew wr none) hB.out.size (by simp)).trans ⟨b.os, b.tape, b.output, b.size, fun i hi => b.block i (Nat.lt_of_lt_of_le hi hK)⟩
          rw [← hstep] at cP
          obtain ⟨C, hC⟩ : ∃ C, C = (putS (pl (z0.take k) ([])) o.l o.t o.v).1 := ⟨_, rfl⟩
          simp only [← hC] at cP
          replace cP := Lib.hid cP
          replace hnb := Lib.hid hnb
          clear hok q1 q2 q3 q4 ho hstep hC
          go_upto_region 7 with fail
          go_region_law ((go_simp; go_at_call 12; refine (cP.out _ (by first | exact gr_drew _ _ | exact gr_refl _ _)).mono ?_; rintro e W5 ⟨rfl, hS5, B5⟩; replace hS5 := Lib.hid hS5; replace B5 := Lib.hid B5))
          all_goals
            have hB5 := Lib.hid (hnb.out W5 B5.out)
            clear cP hnb B5
            go_wp2
            go_roundw
            case rel => exact ⟨k + 1, by omega, by go_num, hS5, hB5⟩
            case measure => simp [intOf]; omega
        · have hki : ((k : Int) < (len0 : Int)) = False := eq_false (by omega)
          obtain rfl : k = len0 := by omega
          have hfull : z0.take k = z0 := List.take_of_length_le (by rw [i0.out.1]; exact Nat.le_refl _)
          have hSs := hS.out
          rw [hfull] at hSs
          replace hSs := Lib.hid hSs
          have hBs := hB
          clear hS hfull
          obtain ⟨⟨ms, ems, hms, _⟩, _⟩ := hSs.out
          obtain ⟨ss, hss⟩ : ∃ ss, ss = pl z0 [] := ⟨_, rfl⟩
          rw [← hss] at hms
          have hsm := ser_small hms.inv
          have hlen40 := hms.inv.len
          obtain ⟨v0, hv0⟩ : ∃ v0, v0 = wr := ⟨_, rfl⟩
          rw [← hv0] at hms ⊢
          have c1 := fun W (g : Gr v0 W) => sel_one H hH base ms ss nm [] ⟨#[]⟩ rfl 1 W (stoHas_gr hms g) hnm (.inl rfl) (fun e => by cases e) (by decide)
          have c2 := fun W (g : Gr v0 W) => sel_one H hH base ms ss nm [] ⟨#[]⟩ rfl 3 W (stoHas_gr hms g) hnm (.inr rfl) (fun _ => by rw [pat_e2]; rfl) (by decide)
          have c3 := fun W (g : Gr v0 W) => sel_one H hH base ms ss nm [46, 43] ⟨#[46, 43]⟩ rfl 3 W (stoHas_gr hms g) hnm (.inr rfl) (fun _ => by rw [pat_e3]; rfl) (by decide)
          have cA := fun W (g : Gr v0 W) => sall_any base ms ss W (stoAt_gr hms.sat g) hms.inv
          unfold CopyPost at cA
          rw [sel_e1] at c1
          rw [sel_e2 hH] at c2
          rw [sel_e3 hH] at c3
          rw [ems] at c1 c2 c3 cA
          have hsum := filter_two (fun s : Ser => decide (getL s.l nm = [])) ss
          have hget : ∀ s ∈ ss.filter (fun s => decide (getL s.l nm = [])), getL s.l nm = [] := fun s hs => of_decide_eq_true (List.mem_filter.1 hs).2
          have hsm1 : ∀ s ∈ ss.filter (fun s => decide (getL s.l nm = [])), s.l.length ≤ 1000000 ∧ s.p.length ≤ 1000000 := fun s hs => hsm s (List.mem_filter.1 hs).1
          obtain ⟨s1, hs1⟩ : ∃ s1, s1 = ss.filter (fun s => decide (getL s.l nm = [])) := ⟨_, rfl⟩
          obtain ⟨s3, hs3⟩ : ∃ s3, s3 = ss.filter (fun s => !decide (getL s.l nm = [])) := ⟨_, rfl⟩
          rw [← hs1] at c1 c2 hsum hget hsm1
          rw [← hs3] at c3 hsum
          obtain ⟨N1, hN1⟩ : ∃ N1, N1 = s1.length := ⟨_, rfl⟩
          obtain ⟨N3, hN3⟩ : ∃ N3, N3 = s3.length := ⟨_, rfl⟩
          obtain ⟨N, hN⟩ : ∃ N, N = ss.length := ⟨_, rfl⟩
          rw [← hN1] at c1 c2 hsum
          rw [← hN3] at c3 hsum
          rw [← hN] at cA hsum hlen40
          have hsumI : (N1 : Int) + (N3 : Int) = (N : Int) := by omega
          have hN40 : N1 ≤ 40 := by omega
          have fB : ∀ W, Gr v0 W → Below w.heap.size w W := fun W g => by rw [hv0] at g; exact hBs.out.grown g hBs.out.size (by simp)
          replace fB := Lib.hid fB
          replace c1 := Lib.hid c1
          replace c2 := Lib.hid c2
          replace c3 := Lib.hid c3
          replace cA := Lib.hid cA
          replace hget := Lib.hid hget
          replace hsm1 := Lib.hid hsm1
          replace hs1 := Lib.hid hs1
          replace hs3 := Lib.hid hs3
          replace hN1 := Lib.hid hN1
          replace hN3 := Lib.hid hN3
          replace hN := Lib.hid hN
          replace hsum := Lib.hid hsum
          clear hss hms hsm hSs hBs ems hv0
          go_wp2_with fail
          refine (c1.out _ (gr_refl _ _)).mono ?_
          rintro e v1 ⟨A1, k1, h1, rfl, F1, g1⟩
          go_wp2_with fail
          refine (c2.out _ g1).mono ?_
          rintro e v2 ⟨A2, k2, h2, rfl, F2, g2⟩
          have G2 := gr_trans g1 g2
          have F1b := sersOf_gr F1 g2
          clear F1 g1 g2
          go_wp2_with fail
          refine (c3.out _ G2).mono ?_
          rintro e v3 ⟨A3, k3, h3, rfl, F3, g3⟩
          have G3 := gr_trans G2 g3
          have F1c := sersOf_gr F1b g3
          have F2c := sersOf_gr F2 g3
          have cS := fun W (g : Gr v3 W) => sameSer_yes A1 A2 N1 k1 k2 h1 h2 s1 W (by omega) (sersOf_gr F1c g) (sersOf_gr F2c g) hsm1.out
          replace cS := Lib.hid cS
          replace F1c := Lib.hid F1c
          replace G3 := Lib.hid G3
          clear F1b F2 F3 F2c g3 G2
          go_wp2_with fail
          refine (cS.out _ (gr_refl _ _)).mono ?_
          rintro e v4 ⟨rfl, g4⟩
          go_wp2_with fail
          refine (cA.out _ (gr_trans G3.out g4)).mono ?_
          rintro e v5 ⟨A5, k5, h5, rfl, F5, g5⟩
          have G5 := Lib.hid (gr_trans G3.out (gr_trans g4 g5))
          have F1d := Lib.hid (sersOf_gr F1c.out (gr_trans g4 g5))
          clear F5 g4 g5 cS cA c1 c2 c3 F1c G3
          go_wp2_with fail
          go_loopw [13] (fun iv wr => ∃ k : Nat, k ≤ N1 ∧ iv = .int .i64 k ∧ Hid (Gr v5 wr)) (fun iv _ => N1 - (intOf iv).toNat)
          case atStart => exact ⟨0, Nat.zero_le _, rfl, Lib.hid (gr_refl _ _)⟩
          case round =>
            obtain ⟨k, hk, rfl, hg⟩ := hrel
            by_cases hlt : k < N1
            · obtain ⟨x, s, B, o, hx, hsx, rfl, d0, d1, hrd, hxl, hxp⟩ := sersOf_at (sersOf_gr F1d.out hg.out) hlt
              have hmem := List.mem_of_getElem? hsx
              have cG := rget1_any x.la x.ln x.lc s.l nm wr (by have := hsm1.out s hmem; omega) hrd.1
              rw [hget.out s hmem] at cG
              have hki : (k : Int) < (N1 : Int) := by omega
              have hk0 : (0 : Int) ≤ (k : Int) := by omega
              replace cG := Lib.hid cG
              clear hx hsx hrd hxl hxp hmem
              go_wp2_with fail
              refine cG.out.mono ?_
              rintro e w9 ⟨rfl, g9⟩
              have Gf := Lib.hid (gr_trans hg.out g9)
              clear cG g9
              go_wp2
              go_roundw
              case rel => exact ⟨k + 1, by omega, by go_num, Gf⟩
              case measure => simp [intOf]; omega
            · have hki : ((k : Int) < (N1 : Int)) = False := eq_false (by omega)
              obtain rfl : k = N1 := by omega
              have hfin := Lib.hid (fB.out _ (gr_trans G5.out hg.out))
              go_wp2
              go_ret
              exact ⟨rfl, hfin.out⟩


set_option maxRecDepth 100000 in
theorem contract (H : Type) (enc : TypeId × Value → H) (W : World) (base : Nat) (args : Array Value) (ds gs : List (DataW H)) (before : List MemPlace)
    (hval0 : ∀ (j : Nat) t v, Try.f6.params[j]? = some t → args[j]? = some v → Value.okWide Try.prog W .any base t v)
    (hW : DataW.Whole enc Try.prog Try.f6.params.toList Rows.storeEmptySpec.vars false W args.toList ds gs before) (hk : Rows.uptoSmall H (ds ++ gs) = true) :
    Calls Try.prog 6 args W fun e W' => ∃ v, e = .returned v ∧ Rows.storeEmptySpec.post enc Try.prog Try.f6 false true false false W args v W' := by
  have hval : ∀ (j : Nat) t v, Try.f6.params[j]? = some t → args[j]? = some v → Value.okWide Try.prog W .any base t v := hval0
  have hW' := hW
  obtain ⟨p, q, hA0, hV, rfl, hfz, hnd⟩ := hW
  have hA : DataW.TrodAll enc Try.prog W 0 (fun _ => true) true Try.f6.params.toList args.toList ds p := hA0
  rw [Try.params6] at hA hval
  obtain ⟨v0, vs0, d0, ds0, p0, q0, hargs, rfl, rfl, h0, r0⟩ := trodAll_cons hA
  obtain ⟨v1, vs1, d1, ds1, p1, q1, rfl, rfl, rfl, h1, r1⟩ := trodAll_cons r0
  obtain ⟨rfl, rfl, rfl⟩ := trodAll_nil r1
  obtain rfl : args = #[v0, v1] := by cases args; simp_all
  obtain ⟨rfl, rfl⟩ := trodVars_none hV
  obtain ⟨a0, len0, cap0, rfl⟩ := okWide_slice Try.underlying22 (hval 0 22 v0 rfl rfl)
  have k0 := h0
  have lt0 : ∀ x ∈ p0, x.block < W.heap.size := by obtain ⟨m, hm⟩ := k0; exact DataW.trod_lt m _ _ _ hm
  obtain ⟨z0, w0⟩ := ops_open h0
  obtain ⟨a1, rfl, rfl, rfl, w1⟩ := open_string Try.underlying9 (hval 1 9 v1 rfl rfl) h1
  have hsize : a1.size ≤ 1048576 := by
    have h : Rows.uptoBulkAll _ ≤ 1048576 := of_decide_eq_true hk
    simp only [List.cons_append, List.nil_append, List.append_nil, Rows.uptoBulkAll, Rows.uptoBulk] at h
    have e : a1.data.toList.length = a1.size := by rw [Array.length_toList]; rfl
    omega
  clear hA0 hval0
  refine (walk W a0 len0 cap0 z0 w0 a1 hsize).mono fun e W' ⟨he, bel⟩ => ?_
  subst he
  exact ⟨_, rfl, _, _, _, [], _, [], hW', trodAll_mk1 (shut_bool Try.underlying4 _), (trodAll_cons_mk (Below.trod laidOut (by kernel_rfl) (of_decide_eq_true (by kernel_rfl)) k0 bel lt0) (trodAll_cons_mk (shut_string Try.underlying9 w1) trodAll_mk0)), rfl, bel.frame _, fun h => by cases h⟩

set_option maxRecDepth 100000 in
theorem lifted (os : Os) (started : os.Started) (H : Type) (enc : TypeId × Value → H) (F : Stop.Interp) :
    ReturnsInHanded {} Try.checked os 6 .any ((Rows.OpenSpec.upto Rows.storeEmptySpec).pre6 enc Try.prog Try.f6 Rows.storeEmptyUptoRow.domain false) (((Rows.OpenSpec.upto Rows.storeEmptySpec).at F).post enc Try.prog Try.f6 false true false false) := by
  refine returnsInHanded_of_cond (C := Try.checked) (s := Rows.OpenSpec.upto Rows.storeEmptySpec) (k := Rows.uptoSmall) rfl own started (by kernel_rfl) Try.func6
    (OpenSpec.witness (enc := enc) (C := Try.checked) (s := Rows.OpenSpec.upto Rows.storeEmptySpec) (k := Rows.uptoSmall) rfl false ⟨#[], #[.slice none 0 0, .string .empty], []⟩ 8 (by kernel_rfl) (by kernel_rfl) (by kernel_rfl)
      (x := ([.nil, .lit (.string [])], [], [])) (by kernel_rfl) rfl (by kernel_rfl)) ?_
  intro W base args ds gs before hval hW _ hk _
  exact contract H enc W base args ds gs before hval hW hk

/-- THE STATEMENT -/
theorem proved : Rows.StoreEmptyUptoSaid :=
  OpenClaim.holds_of_cond 6 Try.f6 rfl rfl rfl rfl rfl rfl rfl ⟨rfl, rfl, rfl, rfl, rfl⟩ rfl rfl rfl rfl rfl (by kernel_rfl) Try.func6 (by kernel_rfl)
    (of_decide_eq_true (by kernel_rfl)) (by unfold Func.isWrapper; first | (rw [if_pos (by decide +kernel)]; kernel_rfl) | (rw [if_neg (by decide +kernel)]; exact ⟨rfl, rfl⟩))
    (fun os started H enc _ F => lifted os started H enc F)
#print axioms proved
end Go.Proofs.Ythlkcoiaahpmoaa.storeEmpty
