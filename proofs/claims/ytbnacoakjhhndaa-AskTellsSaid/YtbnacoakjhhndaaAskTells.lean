/-
  AskTells holds of the program: for every input the call returns true and leaves what came in as it was. No condition.
-/
import Derived.Test.YtbnacoakjhhndaaRows
import Derived.Test.YtbnacoakjhhndaaAskAlive
import Derived.Test.YtbnacoakjhhndaaAskMa
import Derived.Test.YtbnacoakjhhndaaAskMb
import Derived.Test.YtbnacoakjhhndaaAskMc
import Derived.Test.YtbnacoakjhhndaaAskMd
import Derived.WalkKit
import Derived.ProofKit
import Derived.OpenShut
import Derived.ShutString
import Derived.ChangeOld
import Derived.Below
namespace Go.Proofs.Ytbnacoakjhhndaa.askTells
open Go.ChangeShapes Go.WideShapes Go.ChangeAt Go.RowKit
open Go.ChangeMaps (open_string shut_string)
set_option linter.unusedVariables false

theorem own : ownKnob Try.prog.godebug = none := by kernel_rfl
theorem laidOut : laidOutB Try.prog = true := by kernel_rfl

set_option maxHeartbeats 32000000 in
set_option maxRecDepth 100000 in
theorem walk (w : World) (v0 : Value) (z0 : Aq) (w0 : IsAskV w v0 z0) :
    Calls Try.prog 3 #[v0] w fun e w' => e = .returned (.bool true) ∧ Below w.heap.size w w' := by
  obtain ⟨A, n, c, rfl, hin⟩ := w0
  obtain ⟨k, zs, t, a, y, d⟩ := z0
  unfold aqV
  simp only
  obtain ⟨W1, hW1⟩ : ∃ W1, W1 = w.alloc (.cells #[.int .i64 k, .slice A n c, .string (txt t), .int .i64 a, .int .i64 y, .int .i64 d] 24) := ⟨_, rfl⟩
  have g1 : Gr w W1 := by rw [hW1]; exact gr_alloc _ _ _
  have hx : AqB W1 w.heap.size k A n c t a y d := by rw [hW1]; exact blk_new w _
  have hnn : n ≤ 9223372036854775807 := Nat.le_trans hin.l.2.1 hin.l.2.2.1
  have hl0 := llight_any A n c zs W1 hnn (row_gr hin.l.1 g1)
  have htl : t.length ≤ 9223372036854775807 := hin.t
  have hC : ∀ W, Gr W1 W → AqB W w.heap.size k A n c t a y d := fun W g => gr_blk g hx (by simp)
  obtain ⟨b0, b1, b2, b3, b4, b5⟩ := aqb_cells hx
  replace hC := Lib.hid hC
  replace hl0 := Lib.hid hl0
  replace hin := Lib.hid hin
  replace g1 := Lib.hid g1
  clear hx
  go_enter Try.func3, Try.ntmps3
  go_upto_region 1 with fail
  rw [← hW1]
  clear hW1
  go_wp2_with fail
  refine hl0.out.mono ?_
  rintro e W2 ⟨⟨bl, rfl, hbl⟩, rfl⟩
  cases bl with
  | false =>
    go_wp2_with fail
    refine (alive_any _).mono ?_
    rintro e w9 ⟨rfl, g9⟩
    go_wp2
    go_ret
    exact ⟨rfl, gr_below (gr_trans g1.out g9)⟩
  | true =>
    have hL0 := hbl rfl
    clear hbl
    by_cases ht : 1000 < t.length
    · have hti : (1000 : Int) < (t.length : Int) := by omega
      go_wp2_with fail
      refine (alive_any _).mono ?_
      rintro e w9 ⟨rfl, g9⟩
      go_wp2
      go_ret
      exact ⟨rfl, gr_below (gr_trans g1.out g9)⟩
    · have hti : ((1000 : Int) < (t.length : Int)) = False := eq_false (by omega)
      have hAq := fun W (g : Gr W1 W) => aqIn_ok hin.out hL0 (by simp only; omega) (gr_trans g1.out g)
      have hn20 : n ≤ 1000 := by have h1 := (hAq W1 (gr_refl _ _)).len; have h2 := hL0.1; simp only at h1 h2; omega
      have hsh6 : ∀ x ∈ zs, x.n.length ≤ 1000000 ∧ x.v.length ≤ 1000000 := fun x hx => by have := hL0.2 x hx; omega
      replace hAq := Lib.hid hAq
      replace hsh6 := Lib.hid hsh6
      clear hL0 hl0 hin
      go_wp2_with fail
      refine (alive_any _).mono ?_
      rintro e W2 ⟨rfl, g2⟩
      clear b0 b1 b2 b3 b4 b5
      obtain ⟨b0, b1, b2, b3, b4, b5⟩ := aqb_cells (hC.out W2 g2)
      obtain ⟨W3, hW3⟩ : ∃ W3, W3 = W2.alloc (.cells #[.int .i64 k, .slice A n c, .string (txt t), .int .i64 a, .int .i64 y, .int .i64 d] 24) := ⟨_, rfl⟩
      have g3 : Gr W2 W3 := by rw [hW3]; exact gr_alloc _ _ _
      have hm3 : AqB W3 W2.heap.size k A n c t a y d := by rw [hW3]; exact blk_new W2 _
      have G3 := gr_trans g2 g3
      have hlt := BkL.lentLabels_new A n c zs W3 (by omega) (hAq.out W3 G3).row
      have hM : W1.heap.size ≤ W2.heap.size := g2.size
      have hM1 : W2.heap.size < W3.heap.size := lt_of_blk hm3
      obtain ⟨M, hMM⟩ : ∃ M, M = W2.heap.size := ⟨_, rfl⟩
      rw [← hMM] at hm3 hM hM1
      replace hm3 := Lib.hid hm3
      replace G3 := Lib.hid G3
      replace hlt := Lib.hid hlt
      replace hMM := Lib.hid hMM
      clear g2 g3
      go_upto_region 4 with fail
      rw [← hW3, ← hMM.out]
      clear hW3 hMM b0 b1 b2 b3 b4 b5
      obtain ⟨b0, b1, b2, b3, b4, b5⟩ := aqb_cells (hC.out W3 G3.out)
      go_wp2_with fail
      refine hlt.out.mono ?_
      rintro e W4 ⟨gA, c4, rfl, hl4, g4, hgA⟩
      have hm4 : AqB W4 M k A n c t a y d := gr_blk g4 hm3.out (by simp)
      obtain ⟨m0, m1, m2, m3, m4, m5⟩ := aqb_cells hm4
      have f1 := aqb_free hm4 1
      obtain ⟨W5, hW5⟩ : ∃ W5, W5 = W4.setCell ⟨M, 1, none⟩ (.slice (some ⟨gA, 0, none⟩) n c4) := ⟨_, rfl⟩
      have hm5 : AqB W5 M k (some ⟨gA, 0, none⟩) n c4 t a y d := by rw [hW5]; exact blk_set hm4 1 _
      have g5 : GrB M W4 W5 := by rw [hW5]; exact gr_set W4 ⟨M, 1, none⟩ _
      have hl5 : BkL.LentLabels W5 (some ⟨gA, 0, none⟩) n c4 zs := ⟨hl4.1, hl4.2.1, row_keep hl4.2.2.1 g5 (fun a ha e => by cases ha; have := Option.some.inj e; simp only at this; omega), hl4.2.2.2⟩
      have G5 : Gr W1 W5 := gr_of_below (below_gr (gr_below (gr_trans G3.out g4)) g5 (by have := (gr_trans G3.out g4).size; exact this) (by intro k hk; cases hk; omega)) (Nat.le_refl _)
      have hAm : AqOk W5 (some ⟨gA, 0, none⟩) n c4 ⟨k, zs, t, a, y, d⟩ := by
        have h1 := hAq.out W5 G5
        exact ⟨h1.len, h1.n9, h1.t9, fun e => by (cases e), BkL.lent_rowLabels hl5, h1.short, h1.b64⟩
      have cA := ask_any _ n c4 ⟨k, zs, t, a, y, d⟩ W5 hAm
      have cL := fun W (g : Gr W5 W) => lawRight_any A n c ⟨k, zs, t, a, y, d⟩ W (hAq.out W (gr_trans G5 g)) hsh6.out
      have cR := fun W (g : Gr W5 W) => aright_any _ n c4 ⟨k, zs, t, a, y, d⟩ W (aqOk_gr hAm g)
      have cS := fun W (g : Gr W5 W) => BkL.staysLabels_any _ A n c4 c zs W (by omega) (lentS_gr hl5 g) (hAq.out W (gr_trans G5 g)).row
      have hCm : ∀ W, Gr W5 W → AqB W M k (some ⟨gA, 0, none⟩) n c4 t a y d := fun W g => gr_blk g hm5 (by simp)
      unfold AskPost at cA
      unfold aqV at cA cL cR
      simp only at cA cL cR
      replace cA := Lib.hid cA
      replace cL := Lib.hid cL
      replace cR := Lib.hid cR
      replace cS := Lib.hid cS
      replace hCm := Lib.hid hCm
      replace G5 := Lib.hid G5
      clear hm4 hm5 g5 g4 hl4 hl5 hAm hlt hm3 G3 hsh6
      go_upto_region 5 with fail
      rw [← hW5]
      clear hW5 m0 m1 m2 m3 m4 m5 f1 b0 b1 b2 b3 b4 b5
      obtain ⟨m0, m1, m2, m3, m4, m5⟩ := aqb_cells (hCm.out W5 (gr_refl _ _))
      by_cases ok : okA ⟨k, zs, t, a, y, d⟩
      · have cA2 := cA.out
        rw [if_pos ok] at cA2
        have cL2 := cL.out
        rw [decide_eq_true ok] at cL2
        have cR2 := cR.out
        rw [decide_eq_true ok] at cR2
        obtain ⟨F, hF⟩ : ∃ F, F = askL ⟨k, zs, t, a, y, d⟩ := ⟨_, rfl⟩
        have hFl : F.length ≤ 10000 := by rw [hF]; unfold askL; rw [Crc.frm_length]; have := bodyL_len ok; omega
        rw [← hF] at cA2
        obtain ⟨his, hq⟩ := isAsk_inj ok hF
        have hmore : ¬ IsAskL (F ++ [120]) := by rw [hF]; exact ask_more ok 120 []
        have cF1 : ∀ W, Calls Try.prog 13 #[.string (txt F)] W fun e w' => (∃ A c, e = .returned (.tuple #[.agg #[.int .i64 k, .slice A zs.length c, .string (txt t), .int .i64 a, .int .i64 y, .int .i64 d], .int .i64 0]) ∧ w'.ownsRow W.heap.size 41 2 (.slice A zs.length c) zs.length (sR lblC zs)) ∧ Gr W w' := fun W => (readAsk_any F W (by omega)).mono (by
          rintro e w' ⟨⟨_, A, c, rfl, ho⟩ | ⟨hno, _⟩, g⟩
          · rw [hq] at ho ⊢
            exact ⟨⟨A, c, rfl, ho⟩, g⟩
          · exact absurd his hno)
        have cF2 : ∀ W, Calls Try.prog 13 #[.string (txt (F ++ [120]))] W fun e w' => e = .returned (.tuple #[.agg #[.int .i64 0, .slice none 0 0, .string ⟨#[]⟩, .int .i64 0, .int .i64 0, .int .i64 0], .int .i64 2]) ∧ Gr W w' := fun W => (readAsk_any (F ++ [120]) W (by rw [List.length_append]; simp only [List.length_cons, List.length_nil]; omega)).mono (by
          rintro e w' ⟨⟨hyes, _⟩ | ⟨_, rfl⟩, g⟩
          · exact absurd hyes hmore
          · exact ⟨rfl, g⟩)
        replace hF := Lib.hid hF
        replace cF1 := Lib.hid cF1
        replace cF2 := Lib.hid cF2
        clear his hq hmore
        replace cA2 := Lib.hid cA2
        replace cL2 := Lib.hid cL2
        replace cR2 := Lib.hid cR2
        replace ok := Lib.hid ok
        clear cA cL cR
        go_wp2_with fail
        refine cA2.out.mono ?_
        rintro e W6 ⟨rfl, g6⟩
        clear m0 m1 m2 m3 m4 m5
        obtain ⟨b0, b1, b2, b3, b4, b5⟩ := aqb_cells (hC.out W6 (gr_trans G5.out g6))
        have cL3 := cL2.out W6 g6
        replace cL3 := Lib.hid cL3
        replace g6 := Lib.hid g6
        clear cL2 cA2
        go_wp2_with fail
        refine cL3.out.mono ?_
        rintro e W7 ⟨rfl, g7⟩
        have G7 := gr_trans g6.out g7
        clear b0 b1 b2 b3 b4 b5
        obtain ⟨m0, m1, m2, m3, m4, m5⟩ := aqb_cells (hCm.out W7 G7)
        have cR3 := cR2.out W7 G7
        replace cR3 := Lib.hid cR3
        replace G7 := Lib.hid G7
        clear cL3 cR2 g6 g7
        go_wp2_with fail
        refine cR3.out.mono ?_
        rintro e W8 ⟨rfl, g8⟩
        have G8 := gr_trans G7.out g8
        clear m0 m1 m2 m3 m4 m5
        obtain ⟨m0, m1, m2, m3, m4, m5⟩ := aqb_cells (hCm.out W8 G8)
        obtain ⟨b0, b1, b2, b3, b4, b5⟩ := aqb_cells (hC.out W8 (gr_trans G5.out G8))
        have cS2 := cS.out W8 G8
        replace cS2 := Lib.hid cS2
        replace G8 := Lib.hid G8
        clear cR3 G7 g8 cS
        go_wp2_with fail
        refine cS2.out.mono ?_
        rintro e W9 ⟨rfl, g9⟩
        have G9 := gr_trans G8.out g9
        replace G9 := Lib.hid G9
        clear m0 m1 m2 m3 m4 m5 b0 b1 b2 b3 b4 b5 g9 G8 cS2
        go_wp2_with fail
        refine (cF1.out _).mono ?_
        rintro e W10 ⟨⟨A2, c2, rfl, hown⟩, g10⟩
        obtain ⟨W11, hW11⟩ : ∃ W11, W11 = W10.alloc (.cells #[.int .i64 k, .slice A2 zs.length c2, .string (txt t), .int .i64 a, .int .i64 y, .int .i64 d] 24) := ⟨_, rfl⟩
        have g11 : Gr W10 W11 := by rw [hW11]; exact gr_alloc _ _ _
        have hx11 : AqB W11 W10.heap.size k A2 zs.length c2 t a y d := by rw [hW11]; exact blk_new W10 _
        have G11 := gr_trans G9.out (gr_trans g10 g11)
        have hrow11 := row_own (hown.kept g11 (Classical.em _))
        have hcat : (9223372036854775807 < F.length + 1) = False := eq_false (by omega)
        have hap : txt F ++ txt [120] = txt (F ++ [120]) := txt_append _ _
        replace hx11 := Lib.hid hx11
        replace G11 := Lib.hid G11
        replace hrow11 := Lib.hid hrow11
        clear hown g10 g11 G9 cF1
        go_upto_region 12 with fail
        rw [← hW11]
        clear hW11
        go_wp2_with fail
        refine (cF2.out _).mono ?_
        rintro e W12 ⟨rfl, g12⟩
        obtain ⟨W13, hW13⟩ : ∃ W13, W13 = W12.alloc (.cells #[.int .i64 0, .slice none 0 0, .string ⟨#[]⟩, .int .i64 0, .int .i64 0, .int .i64 0] 24) := ⟨_, rfl⟩
        have g13 : Gr W12 W13 := by rw [hW13]; exact gr_alloc _ _ _
        have gg := gr_trans g12 g13
        have G13 := gr_trans G11.out gg
        have hx13 : AqB W13 W10.heap.size k A2 zs.length c2 t a y d := gr_blk gg hx11.out (by simp)
        have hrow13 := row_gr hrow11.out gg
        obtain ⟨b0, b1, b2, b3, b4, b5⟩ := aqb_cells (hC.out W13 (gr_trans G5.out G13))
        have cB := lawBytes_any A n c ⟨k, zs, t, a, y, d⟩ W13 (hAq.out W13 (gr_trans G5.out G13)) ok.out
        unfold aqV at cB
        rw [← hF.out] at cB
        simp only at cB
        have hlen := (hAq.out W13 (gr_trans G5.out G13)).len
        simp only at hlen
        have cE := fun W (g : Gr W13 W) => sameAq_yes A2 A n c2 c ⟨k, zs, t, a, y, d⟩ W (by omega) (by rw [← hlen]; exact row_gr hrow13 g) (hAq.out W (gr_trans G5.out (gr_trans G13 g))).row
        unfold aqV at cE
        simp only at cE
        rw [← hlen] at cE
        have hFF : (F == F) = true := beq_self_eq_true F
        replace hx13 := Lib.hid hx13
        replace cB := Lib.hid cB
        replace cE := Lib.hid cE
        replace G13 := Lib.hid G13
        replace hlen := Lib.hid hlen
        clear hrow13 hrow11 hx11 G11 g12 g13 gg cF2
        go_upto_region 13 with fail
        rw [← hW13]
        clear hW13
        go_wp2_with fail
        refine cB.out.mono ?_
        rintro e W14 ⟨rfl, g14⟩
        have hx14 : AqB W14 W10.heap.size k A2 zs.length c2 t a y d := gr_blk g14 hx13.out (by simp)
        clear b0 b1 b2 b3 b4 b5
        obtain ⟨b0, b1, b2, b3, b4, b5⟩ := aqb_cells (hC.out W14 (gr_trans G5.out (gr_trans G13.out g14)))
        rw [← hlen.out] at b1
        obtain ⟨q0, q1, q2, q3, q4, q5⟩ := aqb_cells hx14
        have cE2 := cE.out W14 g14
        replace cE2 := Lib.hid cE2
        replace g14 := Lib.hid g14
        clear hx14 hx13 cE cB
        go_wp2_with fail
        refine cE2.out.mono ?_
        rintro e W15 ⟨rfl, g15⟩
        go_wp2
        go_ret
        exact ⟨rfl, gr_below (gr_trans g1.out (gr_trans G5.out (gr_trans G13.out (gr_trans g14.out g15))))⟩
      · have cA2 := cA.out
        rw [if_neg ok] at cA2
        have cL2 := cL.out
        rw [decide_eq_false ok] at cL2
        have cR2 := cR.out
        rw [decide_eq_false ok] at cR2
        replace cA2 := Lib.hid cA2
        replace cL2 := Lib.hid cL2
        replace cR2 := Lib.hid cR2
        replace ok := Lib.hid ok
        clear cA cL cR
        go_wp2_with fail
        refine cA2.out.mono ?_
        rintro e W6 ⟨rfl, g6⟩
        clear m0 m1 m2 m3 m4 m5
        obtain ⟨b0, b1, b2, b3, b4, b5⟩ := aqb_cells (hC.out W6 (gr_trans G5.out g6))
        have cL3 := cL2.out W6 g6
        replace cL3 := Lib.hid cL3
        replace g6 := Lib.hid g6
        clear cL2 cA2
        go_wp2_with fail
        refine cL3.out.mono ?_
        rintro e W7 ⟨rfl, g7⟩
        have G7 := gr_trans g6.out g7
        clear b0 b1 b2 b3 b4 b5
        obtain ⟨m0, m1, m2, m3, m4, m5⟩ := aqb_cells (hCm.out W7 G7)
        have cR3 := cR2.out W7 G7
        replace cR3 := Lib.hid cR3
        replace G7 := Lib.hid G7
        clear cL3 cR2 g6 g7
        go_wp2_with fail
        refine cR3.out.mono ?_
        rintro e W8 ⟨rfl, g8⟩
        have G8 := gr_trans G7.out g8
        clear m0 m1 m2 m3 m4 m5
        obtain ⟨m0, m1, m2, m3, m4, m5⟩ := aqb_cells (hCm.out W8 G8)
        obtain ⟨b0, b1, b2, b3, b4, b5⟩ := aqb_cells (hC.out W8 (gr_trans G5.out G8))
        have cS2 := cS.out W8 G8
        replace cS2 := Lib.hid cS2
        replace G8 := Lib.hid G8
        clear cR3 G7 g8 cS
        go_wp2_with fail
        refine cS2.out.mono ?_
        rintro e W9 ⟨rfl, g9⟩
        have G9 := gr_trans G8.out g9
        replace G9 := Lib.hid G9
        clear m0 m1 m2 m3 m4 m5 b0 b1 b2 b3 b4 b5 g9 G8 cS2
        go_wp2
        go_ret
        exact ⟨rfl, gr_below (gr_trans g1.out (gr_trans G5.out G9.out))⟩


set_option maxRecDepth 100000 in
theorem lifted (os : Os) (started : os.Started) (H : Type) (enc : TypeId × Value → H) :
    ReturnsInHanded {} Try.checked os 3 .any (Rows.askTellsSpec.pre6 enc Try.prog Try.f3 Rows.askTellsRow.domain false) (Rows.askTellsSpec.post enc Try.prog Try.f3 false true false false) := by
  refine returnsInHanded_of_change (C := Try.checked) own started (by kernel_rfl) Try.func3
    (ChangeSpec.witness6 (enc := enc) (C := Try.checked) false ⟨#[], #[.agg #[.int .i64 0, .slice none 0 0, .string ByteArray.empty, .int .i64 0, .int .i64 0, .int .i64 0]], []⟩ 8 (by kernel_rfl) (by kernel_rfl) (by kernel_rfl) (by kernel_rfl)) ?_
  intro W base args ds gs before hval0 hW hcnd _
  have hval : ∀ (j : Nat) t v, Try.f3.params[j]? = some t → args[j]? = some v → Value.okWide Try.prog W .any base t v := hval0
  have hW' := hW
  obtain ⟨p, q, hA0, hV, rfl, hfz, hnd⟩ := hW
  have hA : DataW.TrodAll enc Try.prog W 0 (fun _ => true) true Try.f3.params.toList args.toList ds p := hA0
  rw [Try.params3] at hA hval
  obtain ⟨v0, vs0, d0, ds0, p0, q0, hargs, rfl, rfl, h0, r0⟩ := trodAll_cons hA
  obtain ⟨rfl, rfl, rfl⟩ := trodAll_nil r0
  obtain rfl : args = #[v0] := by cases args; simp_all
  obtain ⟨rfl, rfl⟩ := trodVars_none hV
  have k0 := h0
  have lt0 : ∀ x ∈ p0, x.block < W.heap.size := by obtain ⟨m, hm⟩ := k0; exact DataW.trod_lt m _ _ _ hm
  obtain ⟨z0, w0⟩ := aq_open (hval 0 24 v0 rfl rfl) h0
  clear hA0 hval0
  refine (walk W v0 z0 w0).mono fun e W' ⟨he, bel⟩ => ?_
  subst he
  exact ⟨_, rfl, _, _, _, [], _, [], hW', trodAll_mk1 (shut_bool Try.underlying4 _), (trodAll_cons_mk (Below.trod laidOut (by kernel_rfl) (of_decide_eq_true (by kernel_rfl)) k0 bel lt0) trodAll_mk0), rfl, bel.frame _, fun h => by cases h⟩

theorem over : Rows.askTellsRow.holds Try.pinned (OpenSpec.ofChange Rows.askTellsSpec) :=
  OpenClaim.holds_of_wide 3 Try.f3 rfl rfl rfl rfl rfl rfl rfl ⟨rfl, rfl, rfl, rfl, rfl⟩ rfl rfl rfl rfl rfl (by kernel_rfl) Try.func3 (by kernel_rfl)
    (of_decide_eq_true (by kernel_rfl)) (by unfold Func.isWrapper; first | (rw [if_pos (by decide +kernel)]; kernel_rfl) | (rw [if_neg (by decide +kernel)]; exact ⟨rfl, rfl⟩))
    (fun os started H enc _ => lifted os started H enc)

/-- THE STATEMENT -/
theorem proved : Rows.AskTellsSaid := over
#print axioms proved
end Go.Proofs.Ytbnacoakjhhndaa.askTells

