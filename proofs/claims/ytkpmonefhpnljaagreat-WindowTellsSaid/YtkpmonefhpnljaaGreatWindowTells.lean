/-
  WindowTells holds of the program: for every input the call returns true and leaves what came in as it was. No condition.
-/
import Derived.Test.YtkpmonefhpnljaaGreatRows
import Derived.Test.YtkpmonefhpnljaaGreatWinTellDo
import Derived.Test.YtkpmonefhpnljaaGreatApartPoints
import Derived.Test.YtkpmonefhpnljaaGreatLentPoints
import Derived.Test.YtkpmonefhpnljaaGreatWinAlive
import Derived.WalkKit
import Derived.ProofKit
import Derived.OpenShut
import Derived.ShutString
import Derived.ChangeOld
import Derived.Below
namespace Go.Proofs.YtkpmonefhpnljaaGreat.windowTells
open Go.ChangeShapes Go.WideShapes Go.ChangeAt Go.RowKit
open Go.ChangeMaps (open_string shut_string)
set_option linter.unusedVariables false

theorem own : ownKnob Tryz.prog.godebug = none := by kernel_rfl
theorem laidOut : laidOutB Tryz.prog = true := by kernel_rfl
theorem below_le {B B' : Nat} {w w' : World} (h : Below B w w') (hB : B' ≤ B) : Below B' w w' := ⟨h.os, h.tape, h.output, h.size, fun k hk => h.block k (Nat.lt_of_lt_of_le hk hB)⟩
theorem kept_new (w : World) : Kept (w.alloc (.cells (bkCells (.slice none 0 0) (.slice none 0 0)) 38)) w.heap.size ⟨none, 0, 0⟩ ⟨none, 0, 0⟩ [] [] :=
  ⟨blk_new w _, World.ownsRow_nil _ _ _ _, World.ownsRow_nil _ _ _ _, rfl, rfl, fun k h => by simp [Value.ownBlock] at h⟩
theorem kept_gr {w w' : World} {K : Nat} {T V : Lst} {ls cs : List Lst} (h : Kept w K T V ls cs) (g : Gr w w') : Kept w' K T V ls cs :=
  ⟨gr_blk g h.blk (by simp), h.hT.kept g (by cases T.v.ownBlock <;> simp), h.hV.kept g (by cases V.v.ownBlock <;> simp), h.nT, h.nV, h.ne⟩
theorem kept0 {w w' : World} {base size : Nat} {e : TypeId} {v : Value} {n : Nat} {xs : List Value} (h : w.ownsRow base e size v n xs) (g : Gr w w') : w'.ownsRow base e size v n xs := h.kept g (by cases v.ownBlock <;> simp)
theorem parted2 {a b : Lst} (h : ∀ k, a.v.ownBlock = some k → b.v.ownBlock = some k → False) : Parted [a, b] := by
  intro i j l m k hi hj hl hm
  match i, j, hi, hj with
  | 0, 0, _, _ => rfl
  | 1, 1, _, _ => rfl
  | 0, 1, hi, hj =>
    obtain rfl : a = l := by simpa using hi
    obtain rfl : b = m := by simpa using hj
    exact absurd hm (fun hm => h k hl hm)
  | 1, 0, hi, hj =>
    obtain rfl : a = m := by simpa using hj
    obtain rfl : b = l := by simpa using hi
    exact absurd hl (fun hl => h k hm hl)
  | i + 2, _, hi, _ => simp at hi
  | _, j + 2, _, hj => simp at hj
theorem lent_below {w w' : World} {A : Option Addr} {n c : Nat} {zs : List (Int × Int)} (h : LentPoints w A n c zs) (g : Below w.heap.size w w') : LentPoints w' A n c zs := lentS_gr h (gr_of_below g (Nat.le_refl _))
theorem fns_any (s : List UInt8) : ∃ b, (∀ w, Calls Tryz.prog 15 #[.string (txt s)] w fun e w' => e = .returned (.bool b) ∧ Gr w w') ∧ ∀ w, Calls Tryz.prog 16 #[.string (txt s)] w fun e w' => e = .returned (.bool b) ∧ w = w' := by
  by_cases hs : IsFn s
  · obtain ⟨t, v, cF⟩ := fn_of hs
    exact ⟨true, winFn_yes s t v cF, refFn_yes s hs⟩
  · unfold IsFn at hs
    exact ⟨false, winFn_no s (fun h => hs (by simp [h])) (fun h => hs (by simp [h])) (fun h => hs (by simp [h])) (fun h => hs (by simp [h])) (fun h => hs (by simp [h])) (fun h => hs (by simp [h])) (fun h => hs (by simp [h])) (fun h => hs (by simp [h])), refFn_no s (fun h => hs (by simp [h])) (fun h => hs (by simp [h])) (fun h => hs (by simp [h])) (fun h => hs (by simp [h])) (fun h => hs (by simp [h])) (fun h => hs (by simp [h])) (fun h => hs (by simp [h])) (fun h => hs (by simp [h]))⟩
set_option maxHeartbeats 40000000 in
set_option maxRecDepth 100000 in
theorem walk (w : World) (a0 : Option Addr) (len0 cap0 : Nat) (z0 : List (Int × Int)) (w0 : IsPts w a0 len0 cap0 z0) (a1 : Int) (w1 : (Lit.int .i64 a1).wf = true) (a2 : Int) (w2 : (Lit.int .i64 a2).wf = true) (a3 : ByteArray) (w3 : a3.size ≤ maxLen) :
    Calls Tryz.prog 3 #[.slice a0 len0 cap0, .int .i64 a1, .int .i64 a2, .string a3] w fun e w' => e = .returned (.bool true) ∧ Below w.heap.size w w' := by
  have x1 := rng_i64 w1
  have x2 := rng_i64 w2
  clear w1 w2
  obtain ⟨hr, hcap, hcap2, _⟩ := w0
  obtain ⟨s, rfl⟩ : ∃ s, a3 = txt s := ⟨_, (txt_of a3).symm⟩
  rw [txt_size] at w3
  unfold maxLen at w3
  by_cases c0 : 80 < len0
  · have ci : (80 : Int) < (len0 : Int) := by omega
    clear hr
    go_enter Tryz.func3, Tryz.ntmps3
    go_wp2_with fail
    refine (alive_any _).mono ?_
    rintro e W1 ⟨rfl, g1⟩
    go_wp2
    go_ret
    exact ⟨rfl, gr_below g1⟩
  have ci : (len0 : Int) ≤ 80 := by omega
  have ci' : ((80 : Int) < (len0 : Int)) = False := by simp; omega
  by_cases c1 : 40 < s.length
  · have cj : (40 : Int) < (s.length : Int) := by omega
    clear hr
    go_enter Tryz.func3, Tryz.ntmps3
    go_wp2_with fail
    refine (alive_any _).mono ?_
    rintro e W1 ⟨rfl, g1⟩
    go_wp2
    go_ret
    exact ⟨rfl, gr_below g1⟩
  have cj : (s.length : Int) ≤ 40 := by omega
  have cj' : ((40 : Int) < (s.length : Int)) = False := by simp; omega
  have hl := pt_len hr
  have cL := fun W (g : Gr w W) => lentPoints_any a0 len0 cap0 z0 W (by omega) (pt_gr hr g)
  have cW := fun W (g : Gr w W) => refWin_any a0 len0 cap0 z0 a1 a2 W (by omega) (pt_gr hr g) x1 x2
  have cO := fun (A : Option Addr) (c : Nat) W (h : PtRow W A len0 z0) => winOf_any A len0 c z0 a1 a2 W (by omega) h x1 x2
  have cLa := fun (A : Option Addr) (c : Nat) W (h : PtRow W A len0 z0) => last_any A len0 c z0 a1 a2 W (by omega) h x1 x2
  have cDo := fun (A : Option Addr) (c : Nat) W (h : PtRow W A len0 z0) => do_all s A len0 c z0 W (by omega) h
  have cOv := fun W (h : PtRow W a0 len0 z0) => over_any s a0 len0 cap0 z0 W (by omega) h
  have cR := fun (A : Option Addr) (c : Nat) W (h : PtRow W A len0 z0) => winRight_any A len0 c z0 W (by omega) h
  have cP := fun W (h : PtRow W a0 len0 z0) => refPoints_any a0 len0 cap0 z0 W (by omega) h
  obtain ⟨fb, cF, cG⟩ := fns_any s
  obtain ⟨v, b, e, hov⟩ : ∃ v b e, overV s z0 = (v, b, e) := ⟨_, _, _, rfl⟩
  have h25 := ofP_25 z0 a1 a2
  unfold OfPost at cO cW
  unfold LastPost at cLa
  unfold OverPost ret3 at cDo cOv
  rw [hov] at cDo cOv
  generalize rightB z0 = rb at *
  generalize ofP z0 a1 a2 = P at *
  have hlv : lastV P = if P.length = 0 then (0, false) else (pV P (P.length - 1), true) := rfl
  obtain ⟨lv, lb, hlast⟩ : ∃ lv lb, lastV P = (lv, lb) := ⟨_, _, rfl⟩
  rw [hlast] at cLa hlv
  have hvv : (v == v) = true := by simp
  have hee : (e == e) = true := by simp
  have hll : (lv == lv) = true := by simp
  replace hr := Lib.hid hr
  replace hl := Lib.hid hl
  replace cL := Lib.hid cL
  replace cW := Lib.hid cW
  replace cO := Lib.hid cO
  replace cLa := Lib.hid cLa
  replace cDo := Lib.hid cDo
  replace cOv := Lib.hid cOv
  replace cR := Lib.hid cR
  replace cP := Lib.hid cP
  replace cF := Lib.hid cF
  replace cG := Lib.hid cG
  replace hov := Lib.hid hov
  replace hlv := Lib.hid hlv
  replace hlast := Lib.hid hlast
  go_enter Tryz.func3, Tryz.ntmps3
  go_wp2_with fail
  refine (alive_any _).mono ?_
  rintro e W1 ⟨rfl, g1⟩
  go_wp2_with fail
  refine (cL.out _ g1).mono ?_
  rintro e W2 ⟨mA, mc, rfl, hm2, g2⟩
  replace hm2 := Lib.hid hm2
  have G2 := gr_trans g1 g2
  clear g1 g2
  go_wp2_with fail
  refine (cW.out _ G2).mono ?_
  rintro e W3 ⟨pv, rfl, hp3, g3⟩
  obtain ⟨pA, pc, rfl, _, _, hpr3⟩ := own_slice2 hp3
  have G3 := Lib.hid (gr_trans G2 g3)
  have hm3 := Lib.hid (lentS_gr hm2.out g3)
  have hr3 := Lib.hid (pt_gr hr.out G3.out)
  replace hpr3 := Lib.hid (show PtRow W3 pA P.length P from hpr3)
  clear hm2 hp3 g3 hr G2 cL cW
  go_upto_region 6 with fail
  obtain ⟨W4, hW4⟩ : ∃ W4, W4 = W3.alloc (.cells (bkCells (.slice none 0 0) (.slice none 0 0)) 38) := ⟨_, rfl⟩
  have hk4 := kept_new W3
  have hbel4 : Below W3.heap.size W3 W4 := by rw [hW4]; exact gr_below (gr_alloc W3 (.cells (bkCells (.slice none 0 0) (.slice none 0 0)) 38) none)
  rw [← hW4] at hk4
  have hW4s : W3.heap.size < W4.heap.size := by rw [hW4]; simp
  have hm4 := lent_below hm3.out hbel4
  have cO1 := cO.out mA mc W4 (lent_rowPoints hm4)
  have hchg : ∀ (Q : Ending → World → Prop), Calls Tryz.prog 7 #[.slice mA len0 mc, .int .i64 a1, .int .i64 a2] W4 Q → Calls Tryz.prog 7 #[.slice mA len0 mc, .int .i64 a1, .int .i64 a2] (W3.alloc (.cells (bkCells (.slice none 0 0) (.slice none 0 0)) 38)) Q := fun Q h => by rw [← hW4]; exact h
  replace hk4 := Lib.hid hk4
  replace hbel4 := Lib.hid hbel4
  replace hW4 := Lib.hid hW4
  replace cO1 := Lib.hid cO1
  replace hchg := Lib.hid hchg
  clear hm4
  go_wp2_with fail
  refine hchg.out _ ?_
  refine cO1.out.mono ?_
  rintro e W5 ⟨va, rfl, ha5, g5⟩
  obtain ⟨aA, ac, rfl, _, _, _⟩ := own_slice2 ha5
  have hk5 := kept_gr hk4.out g5
  have hbel5 := below_gr hbel4.out g5 hbel4.out.size (by simp)
  have cO2 := cO.out mA mc W5 (lent_rowPoints (lent_below hm3.out hbel5))
  replace ha5 := Lib.hid ha5
  replace hk5 := Lib.hid hk5
  replace hbel5 := Lib.hid hbel5
  replace cO2 := Lib.hid cO2
  replace g5 := Lib.hid g5
  clear hk4 hbel4 cO1 hchg cO
  go_wp2_with fail
  refine cO2.out.mono ?_
  rintro e W6 ⟨vb, rfl, hb6, g6⟩
  obtain ⟨bA, bc, rfl, _, _, _⟩ := own_slice2 hb6
  have hk6 := kept_gr hk5.out g6
  have hbel6 := below_gr hbel5.out g6 hbel5.out.size (by simp)
  have ha6 := kept0 ha5.out g6
  have hpart : ∀ k, (Value.slice aA P.length ac).ownBlock = some k → (Value.slice bA P.length bc).ownBlock = some k → False := by
    intro k h1 h2
    have e1 := (ha5.out.lt k h1).2
    have e2 := (hb6.lt k h2).1
    omega
  have hkeep1 := keep_any W3.heap.size ⟨none, 0, 0⟩ ⟨none, 0, 0⟩ [] [] ⟨aA, P.length, ac⟩ P W6 (by simp) rfl hk6 (by simp only; omega) (own_mono ha6 (Nat.zero_le _))
  have hbase : W3.heap.size ≤ W5.heap.size := by have := hbel5.out.size; exact this
  have hlta : ∀ k, (Value.slice aA P.length ac).ownBlock = some k → W3.heap.size ≤ k := fun k h => by have := (ha5.out.lt k h).1; omega
  have hltb : ∀ k, (Value.slice bA P.length bc).ownBlock = some k → W3.heap.size ≤ k := fun k h => by have := (hb6.lt k h).1; omega
  replace hk6 := Lib.hid hk6
  replace hbel6 := Lib.hid hbel6
  replace ha6 := Lib.hid ha6
  replace hb6 := Lib.hid hb6
  replace hpart := Lib.hid hpart
  replace hkeep1 := Lib.hid hkeep1
  replace hlta := Lib.hid hlta
  replace hltb := Lib.hid hltb
  clear hk5 hbel5 cO2 ha5 g5 g6
  go_wp2_with fail
  refine hkeep1.out.mono ?_
  rintro e W7 ⟨rfl, T1, V1, c1, hk7, hc1n, hc1o, hb7, ty7⟩
  have ha7 := ty7 _ _ _ _ _ _ (by decide) (by decide) ha6.out
  have hb7' := ty7 _ _ _ _ _ _ (by decide) (by decide) hb6.out
  have hbel7 := hbel6.out.trans hb7
  have hkeep2 := keep_any W3.heap.size T1 V1 _ _ ⟨bA, P.length, bc⟩ P W7 (by simp) (by simp) hk7 (by simp only; omega) (own_mono hb7' (Nat.zero_le _))
  replace hk7 := Lib.hid hk7
  replace ha7 := Lib.hid ha7
  replace hb7' := Lib.hid hb7'
  replace hbel7 := Lib.hid hbel7
  replace hkeep2 := Lib.hid hkeep2
  replace hc1n := Lib.hid hc1n
  replace hc1o := Lib.hid hc1o
  clear ty7 hb7 hkeep1 hk6 ha6 hb6 hbel6
  go_wp2_with fail
  refine hkeep2.out.mono ?_
  rintro e W8 ⟨rfl, T2, V2, c2, hk8, hc2n, hc2o, hb8, ty8⟩
  have ha8 := ty8 _ _ _ _ _ _ (by decide) (by decide) ha7.out
  have hb8' := ty8 _ _ _ _ _ _ (by decide) (by decide) hb7'.out
  have hc18 := ty8 _ _ _ _ _ _ (by decide) (by decide) hc1o.out
  have hbel8 := hbel7.out.trans hb8
  have hm8 := lent_below hm3.out hbel8
  have cL8 := cLa.out mA mc W8 (lent_rowPoints hm8)
  replace hk8 := Lib.hid hk8
  replace ha8 := Lib.hid ha8
  replace hb8' := Lib.hid hb8'
  replace hbel8 := Lib.hid hbel8
  replace hc18 := Lib.hid hc18
  replace hc2n := Lib.hid hc2n
  replace hc2o := Lib.hid hc2o
  replace cL8 := Lib.hid cL8
  clear ty8 hb8 hkeep2 hk7 ha7 hb7' hbel7 hc1o hm8 cLa
  go_wp2_with fail
  refine cL8.out.mono ?_
  rintro e W9 ⟨rfl, g9⟩
  have hbel9 := below_gr hbel8.out g9 hbel8.out.size (by simp)
  have hp9 := row_below hpr3.out hbel9
  have hm9 := lent_below hm3.out hbel9
  have hr9 := row_below hr3.out hbel9
  have cD9 := cDo.out mA mc W9 (lent_rowPoints hm9)
  replace g9 := Lib.hid g9
  replace hbel9 := Lib.hid hbel9
  replace cD9 := Lib.hid cD9
  clear cL8 hm9 hr9 cDo
  go_upto_region 11 with fail
  by_cases h0 : P.length = 0
  · have he := hlv.out
    rw [if_pos h0] at he
    injection he with e1 e2
    subst e1 e2
    have hpos : ((0 : Int) < (P.length : Int)) = False := eq_false (by omega)
    have hpos2 : (0 < P.length) = False := eq_false (by omega)
    clear hp9
    replace h0 := Lib.hid h0
    go_wp2_with fail
    refine cD9.out.mono ?_
    rintro e W10 ⟨rfl, g10⟩
    have G10 := gr_trans g9.out g10
    have hbel10 := below_gr hbel8.out G10 hbel8.out.size (by simp)
    have cO10 := cOv.out W10 (row_below hr3.out hbel10)
    replace G10 := Lib.hid G10
    replace cO10 := Lib.hid cO10
    clear hbel10 g10 cD9
    go_wp2_with fail
    refine cO10.out.mono ?_
    rintro e W11 ⟨rfl, g11⟩
    have G11 := gr_trans G10.out g11
    have hbel11 := below_gr hbel8.out G11 hbel8.out.size (by simp)
    have cR11 := cR.out mA mc W11 (lent_rowPoints (lent_below hm3.out hbel11))
    replace G11 := Lib.hid G11
    replace cR11 := Lib.hid cR11
    clear hbel11 g11 cO10 G10
    go_wp2_with fail
    refine cR11.out.mono ?_
    rintro e W12 ⟨rfl, g12⟩
    have G12 := gr_trans G11.out g12
    have hbel12 := below_gr hbel8.out G12 hbel8.out.size (by simp)
    have cP12 := cP.out W12 (row_below hr3.out hbel12)
    replace G12 := Lib.hid G12
    replace cP12 := Lib.hid cP12
    clear hbel12 g12 cR11 G11
    go_wp2_with fail
    refine cP12.out.mono ?_
    rintro e W13 ⟨rfl, g13⟩
    have G13 := gr_trans G12.out g13
    have hbel13 := below_gr hbel8.out G13 hbel8.out.size (by simp)
    have hsm := same_yes aA pA P.length ac pc P W13 (by omega) (row_own (kept0 ha8.out G13)) (row_below hpr3.out hbel13)
    replace G13 := Lib.hid G13
    replace hsm := Lib.hid hsm
    clear hbel13 g13 cP12 G12
    go_wp2_with fail
    refine hsm.out.mono ?_
    rintro e W14 ⟨rfl, g14⟩
    have G14 := gr_trans G13.out g14
    replace G14 := Lib.hid G14
    clear g14 hsm G13
    go_wp2_with fail
    refine (cF.out _).mono ?_
    rintro e W15 ⟨rfl, g15⟩
    have G15 := gr_trans G14.out g15
    replace G15 := Lib.hid G15
    clear g15 G14
    go_wp2_with fail
    refine (cG.out _).mono ?_
    rintro e W16 ⟨rfl, hW16⟩
    subst hW16
    have hbel15 := below_gr hbel8.out G15.out hbel8.out.size (by simp)
    have cSt := staysPoints_any mA a0 len0 mc cap0 z0 W15 (by omega) (lent_below hm3.out hbel15) (row_below hr3.out hbel15)
    replace cSt := Lib.hid cSt
    clear hbel15
    go_wp2_with fail
    refine cSt.out.mono ?_
    rintro e W17 ⟨rfl, g17⟩
    have G17 := gr_trans G15.out g17
    have hk17 := kept_gr hk8.out G17
    have ha17 := kept0 ha8.out G17
    have hb17 := kept0 hb8'.out G17
    have hc117 := kept0 hc18.out G17
    have hc217 := kept0 hc2o.out G17
    have hbel17 := below_gr hbel8.out G17 hbel8.out.size (by simp)
    have hap := apart_any W3.heap.size T2 V2 [⟨aA, P.length, ac⟩, ⟨bA, P.length, bc⟩] [c1, c2] W17 (by simp) rfl hk17 (parted2 hpart.out) (fun j l c hl hc => by
      match j, hl, hc with
      | 0, hl, hc =>
        obtain rfl : (⟨aA, P.length, ac⟩ : Lst) = l := by simpa using hl
        obtain rfl : c1 = c := by simpa using hc
        exact ⟨by simp only; omega, hc1n.out, P, own_mono ha17 (Nat.zero_le _), own_mono hc117 (Nat.zero_le _)⟩
      | 1, hl, hc =>
        obtain rfl : (⟨bA, P.length, bc⟩ : Lst) = l := by simpa using hl
        obtain rfl : c2 = c := by simpa using hc
        exact ⟨by simp only; omega, hc2n.out, P, own_mono hb17 (Nat.zero_le _), own_mono hc217 (Nat.zero_le _)⟩
      | j + 2, hl, _ => simp at hl)
    have hin : ∀ k, InL [⟨aA, P.length, ac⟩, ⟨bA, P.length, bc⟩] k → W3.heap.size ≤ k := by
      rintro k ⟨l, hm, hb⟩
      simp only [List.mem_cons, List.not_mem_nil, or_false] at hm
      rcases hm with rfl | rfl
      · exact hlta.out k hb
      · exact hltb.out k hb
    replace hap := Lib.hid hap
    replace hin := Lib.hid hin
    replace hbel17 := Lib.hid hbel17
    clear hk17 ha17 hb17 hc117 hc217 g17 G17 G15 cSt
    go_wp2_with fail
    refine hap.out.mono ?_
    rintro e W18 ⟨rfl, gs18⟩
    go_wp2
    go_ret
    exact ⟨rfl, (gr_below G3.out).trans (below_le (below_grs hbel17.out gs18 hbel17.out.size hin.out) (gr_below G3.out).size)⟩
  · have he := hlv.out
    rw [if_neg h0] at he
    injection he with e1 e2
    subst e2
    obtain ⟨B, o, rfl, _, _, hc2⟩ := pt_cell (show PtRow W9 pA P.length P from hp9) (k := P.length - 1) (by omega)
    rw [← e1] at hc2
    have hpos : (0 : Int) < (P.length : Int) := by omega
    have hpos2 : 0 < P.length := by omega
    have y0 : (0 : Int) ≤ (P.length : Int) - 1 := by omega
    have y0' : (1 : Int) ≤ (P.length : Int) := by omega
    have y1 : (P.length : Int) - 1 < (P.length : Int) := by omega
    have y2 : ((P.length : Int) - 1).toNat = P.length - 1 := by omega
    have y3 : IntKind.i64.wrap ((P.length : Int) - 1) = (P.length : Int) - 1 := IntWalk.i64_in _ (by omega)
    clear hp9 e1
    replace h0 := Lib.hid h0
    go_wp2_with fail
    refine cD9.out.mono ?_
    rintro e W10 ⟨rfl, g10⟩
    have G10 := gr_trans g9.out g10
    have hbel10 := below_gr hbel8.out G10 hbel8.out.size (by simp)
    have cO10 := cOv.out W10 (row_below hr3.out hbel10)
    replace G10 := Lib.hid G10
    replace cO10 := Lib.hid cO10
    clear hbel10 g10 cD9
    go_wp2_with fail
    refine cO10.out.mono ?_
    rintro e W11 ⟨rfl, g11⟩
    have G11 := gr_trans G10.out g11
    have hbel11 := below_gr hbel8.out G11 hbel8.out.size (by simp)
    have cR11 := cR.out mA mc W11 (lent_rowPoints (lent_below hm3.out hbel11))
    replace G11 := Lib.hid G11
    replace cR11 := Lib.hid cR11
    clear hbel11 g11 cO10 G10
    go_wp2_with fail
    refine cR11.out.mono ?_
    rintro e W12 ⟨rfl, g12⟩
    have G12 := gr_trans G11.out g12
    have hbel12 := below_gr hbel8.out G12 hbel8.out.size (by simp)
    have cP12 := cP.out W12 (row_below hr3.out hbel12)
    replace G12 := Lib.hid G12
    replace cP12 := Lib.hid cP12
    clear hbel12 g12 cR11 G11
    go_wp2_with fail
    refine cP12.out.mono ?_
    rintro e W13 ⟨rfl, g13⟩
    have G13 := gr_trans G12.out g13
    have hbel13 := below_gr hbel8.out G13 hbel8.out.size (by simp)
    have hsm := same_yes aA (some ⟨B, o, none⟩) P.length ac pc P W13 (by omega) (row_own (kept0 ha8.out G13)) (row_below hpr3.out hbel13)
    replace G13 := Lib.hid G13
    replace hsm := Lib.hid hsm
    clear hbel13 g13 cP12 G12
    go_wp2_with fail
    refine hsm.out.mono ?_
    rintro e W14 ⟨rfl, g14⟩
    have G14 := gr_trans G13.out g14
    replace G14 := Lib.hid G14
    clear g14 hsm G13
    go_wp2_with fail
    refine (cF.out _).mono ?_
    rintro e W15 ⟨rfl, g15⟩
    have G15 := gr_trans G14.out g15
    replace G15 := Lib.hid G15
    clear g15 G14
    go_wp2_with fail
    refine (cG.out _).mono ?_
    rintro e W16 ⟨rfl, hW16⟩
    subst hW16
    have hbel15 := below_gr hbel8.out G15.out hbel8.out.size (by simp)
    have cSt := staysPoints_any mA a0 len0 mc cap0 z0 W15 (by omega) (lent_below hm3.out hbel15) (row_below hr3.out hbel15)
    replace cSt := Lib.hid cSt
    clear hbel15
    go_wp2_with fail
    refine cSt.out.mono ?_
    rintro e W17 ⟨rfl, g17⟩
    have G17 := gr_trans G15.out g17
    have hk17 := kept_gr hk8.out G17
    have ha17 := kept0 ha8.out G17
    have hb17 := kept0 hb8'.out G17
    have hc117 := kept0 hc18.out G17
    have hc217 := kept0 hc2o.out G17
    have hbel17 := below_gr hbel8.out G17 hbel8.out.size (by simp)
    have hap := apart_any W3.heap.size T2 V2 [⟨aA, P.length, ac⟩, ⟨bA, P.length, bc⟩] [c1, c2] W17 (by simp) rfl hk17 (parted2 hpart.out) (fun j l c hl hc => by
      match j, hl, hc with
      | 0, hl, hc =>
        obtain rfl : (⟨aA, P.length, ac⟩ : Lst) = l := by simpa using hl
        obtain rfl : c1 = c := by simpa using hc
        exact ⟨by simp only; omega, hc1n.out, P, own_mono ha17 (Nat.zero_le _), own_mono hc117 (Nat.zero_le _)⟩
      | 1, hl, hc =>
        obtain rfl : (⟨bA, P.length, bc⟩ : Lst) = l := by simpa using hl
        obtain rfl : c2 = c := by simpa using hc
        exact ⟨by simp only; omega, hc2n.out, P, own_mono hb17 (Nat.zero_le _), own_mono hc217 (Nat.zero_le _)⟩
      | j + 2, hl, _ => simp at hl)
    have hin : ∀ k, InL [⟨aA, P.length, ac⟩, ⟨bA, P.length, bc⟩] k → W3.heap.size ≤ k := by
      rintro k ⟨l, hm, hb⟩
      simp only [List.mem_cons, List.not_mem_nil, or_false] at hm
      rcases hm with rfl | rfl
      · exact hlta.out k hb
      · exact hltb.out k hb
    replace hap := Lib.hid hap
    replace hin := Lib.hid hin
    replace hbel17 := Lib.hid hbel17
    clear hk17 ha17 hb17 hc117 hc217 g17 G17 G15 cSt
    go_wp2_with fail
    refine hap.out.mono ?_
    rintro e W18 ⟨rfl, gs18⟩
    go_wp2
    go_ret
    exact ⟨rfl, (gr_below G3.out).trans (below_le (below_grs hbel17.out gs18 hbel17.out.size hin.out) (gr_below G3.out).size)⟩



set_option maxRecDepth 100000 in
theorem lifted (os : Os) (started : os.Started) (H : Type) (enc : TypeId × Value → H) :
    ReturnsInHanded {} Tryz.checked os 3 .any (Rows.windowTellsSpec.pre6 enc Tryz.prog Tryz.f3 Rows.windowTellsRow.domain false) (Rows.windowTellsSpec.post enc Tryz.prog Tryz.f3 false true false false) := by
  refine returnsInHanded_of_change (C := Tryz.checked) own started (by kernel_rfl) Tryz.func3
    (ChangeSpec.witness6 (enc := enc) (C := Tryz.checked) false ⟨#[], #[.slice none 0 0, .int .i64 0, .int .i64 0, .string ByteArray.empty], []⟩ 8 (by kernel_rfl) (by kernel_rfl) (by kernel_rfl) (by kernel_rfl)) ?_
  intro W base args ds gs before hval0 hW hcnd _
  have hval : ∀ (j : Nat) t v, Tryz.f3.params[j]? = some t → args[j]? = some v → Value.okWide Tryz.prog W .any base t v := hval0
  have hW' := hW
  obtain ⟨p, q, hA0, hV, rfl, hfz, hnd⟩ := hW
  have hA : DataW.TrodAll enc Tryz.prog W 0 (fun _ => true) true Tryz.f3.params.toList args.toList ds p := hA0
  rw [Tryz.params3] at hA hval
  obtain ⟨v0, vs0, d0, ds0, p0, q0, hargs, rfl, rfl, h0, r0⟩ := trodAll_cons hA
  obtain ⟨v1, vs1, d1, ds1, p1, q1, rfl, rfl, rfl, h1, r1⟩ := trodAll_cons r0
  obtain ⟨v2, vs2, d2, ds2, p2, q2, rfl, rfl, rfl, h2, r2⟩ := trodAll_cons r1
  obtain ⟨v3, vs3, d3, ds3, p3, q3, rfl, rfl, rfl, h3, r3⟩ := trodAll_cons r2
  obtain ⟨rfl, rfl, rfl⟩ := trodAll_nil r3
  obtain rfl : args = #[v0, v1, v2, v3] := by cases args; simp_all
  obtain ⟨rfl, rfl⟩ := trodVars_none hV
  obtain ⟨a0, len0, cap0, rfl⟩ := okWide_slice Tryz.underlying22 (hval 0 22 v0 rfl rfl)
  have k0 := h0
  have lt0 : ∀ x ∈ p0, x.block < W.heap.size := by obtain ⟨m, hm⟩ := k0; exact DataW.trod_lt m _ _ _ hm
  obtain ⟨z0, w0⟩ := pts_open h0
  obtain ⟨a1, rfl, rfl, rfl, w1⟩ := open_int Tryz.underlying3 (hval 1 3 v1 rfl rfl) h1
  obtain ⟨a2, rfl, rfl, rfl, w2⟩ := open_int Tryz.underlying3 (hval 2 3 v2 rfl rfl) h2
  obtain ⟨a3, rfl, rfl, rfl, w3⟩ := open_string Tryz.underlying9 (hval 3 9 v3 rfl rfl) h3
  clear hA0 hval0
  refine (walk W a0 len0 cap0 z0 w0 a1 w1 a2 w2 a3 w3).mono fun e W' ⟨he, bel⟩ => ?_
  subst he
  exact ⟨_, rfl, _, _, _, [], _, [], hW', trodAll_mk1 (shut_bool Tryz.underlying4 _), (trodAll_cons_mk (Below.trod laidOut (by kernel_rfl) (of_decide_eq_true (by kernel_rfl)) k0 bel lt0) (trodAll_cons_mk (shut_int Tryz.underlying3 w1) (trodAll_cons_mk (shut_int Tryz.underlying3 w2) (trodAll_cons_mk (shut_string Tryz.underlying9 w3) trodAll_mk0)))), rfl, bel.frame _, fun h => by cases h⟩

theorem over : Rows.windowTellsRow.holds Tryz.pinned (OpenSpec.ofChange Rows.windowTellsSpec) :=
  OpenClaim.holds_of_wide 3 Tryz.f3 rfl rfl rfl rfl rfl rfl rfl ⟨rfl, rfl, rfl, rfl, rfl⟩ rfl rfl rfl rfl rfl (by kernel_rfl) Tryz.func3 (by kernel_rfl)
    (of_decide_eq_true (by kernel_rfl)) (by unfold Func.isWrapper; first | (rw [if_pos (by decide +kernel)]; kernel_rfl) | (rw [if_neg (by decide +kernel)]; exact ⟨rfl, rfl⟩))
    (fun os started H enc _ => lifted os started H enc)

/-- THE STATEMENT -/
theorem proved : Rows.WindowTellsSaid := over
#print axioms proved
end Go.Proofs.YtkpmonefhpnljaaGreat.windowTells

