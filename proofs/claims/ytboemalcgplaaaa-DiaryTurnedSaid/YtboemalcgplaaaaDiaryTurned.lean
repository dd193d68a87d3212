/-
  DiaryTurned holds of the program: for every input the call returns true and leaves what came in as it was. No condition.
-/
import Derived.Test.YtboemalcgplaaaaRows
import Derived.Test.YtboemalcgplaaaaDiaryAlive
import Derived.Test.YtboemalcgplaaaaDiaryLight
import Derived.Test.YtboemalcgplaaaaDiaryOpen
import Derived.Test.YtboemalcgplaaaaDiaryCutMath
import Derived.Test.YtboemalcgplaaaaDiaryTurnMath
import Derived.Test.YtboemalcgplaaaaSameNtes
import Derived.WalkKit
import Derived.ProofKit
import Derived.OpenShut
import Derived.ShutString
import Derived.ChangeOld
import Derived.Below
namespace Go.Proofs.Ytboemalcgplaaaa.diaryTurned
open Go.ChangeShapes Go.WideShapes Go.ChangeAt Go.RowKit
open Go.ChangeMaps (open_string shut_string)
set_option linter.unusedVariables false

theorem own : ownKnob Try.prog.godebug = none := by kernel_rfl
theorem laidOut : laidOutB Try.prog = true := by kernel_rfl
theorem infoInt : (Try.prog.info? 3).map (fun i => (i.zero, i.size, i.bytes)) = some (some (.int .i64 0), 1, 8) := by kernel_rfl
def foV : Option Nat → Int
  | none => -1
  | some p => ((p / 8 : Nat) : Int)
def TRel (wo : World) (b : Nat) (L : List UInt8) (K : Nat) (fv iv : Value) (wr : World) : Prop :=
  ∃ (j : Nat) (l' : List UInt8) (fo : Option Nat), j ≤ 32 ∧ iv = .int .i64 j ∧ fv = .int .i64 (foV fo) ∧ Hid (Bts 5 wr b l') ∧ Hid (Crc.Fst L l' K j fo) ∧ Hid (Below b wo wr)
set_option maxHeartbeats 40000000 in
set_option maxRecDepth 100000 in
theorem walk (w : World) (a0 : Option Addr) (len0 cap0 : Nat) (z0 : List Nte) (w0 : IsNtes w a0 len0 cap0 z0) (a1 : Int) (w1 : (Lit.int .i64 a1).wf = true) (a2 : Int) (w2 : (Lit.int .u32 a2).wf = true) :
    Calls Try.prog 4 #[.slice a0 len0 cap0, .int .i64 a1, .int .u32 a2] w fun e w' => e = .returned (.bool true) ∧ Below w.heap.size w w' := by
  have x1 := rng_i64 w1
  have x2 : 0 ≤ a2 ∧ a2 ≤ 4294967295 := by simpa [Lit.wf, IntKind.min, IntKind.max, IntKind.signed, IntKind.bits] using w2
  clear w1 w2
  obtain ⟨hr0, hcap0, hcm0, _⟩ := w0
  obtain ⟨ii, hi, hz0, hz1, hz2⟩ := info_parts infoNote
  obtain ⟨kk, hk, kz0, kz1, kz2⟩ := info_parts infoInt
  have hl0 : z0.length = len0 := by have := hr0.1; rw [sR_len nteC 6 nteC_len] at this; omega
  have cT0 := light_any a0 len0 cap0 z0 w (by omega) hr0
  replace hr0 := Lib.hid hr0
  replace hl0 := Lib.hid hl0
  replace cT0 := Lib.hid cT0
  obtain ⟨tn, ht⟩ : ∃ t : Nat, a2 = t := ⟨a2.toNat, by omega⟩
  subst ht
  have htl : tn < 4294967296 := by omega
  by_cases ct : tn = 0
  · subst ct
    go_enter Try.func4, Try.ntmps4
    go_wp2_with fail
    refine cT0.out.mono ?_
    rintro e W ⟨⟨bb0, rfl, hb0⟩, rfl⟩
    cases bb0 with
    | false =>
      go_wp2_with fail
      refine (alive_any _).mono ?_
      rintro e W1 ⟨rfl, g1⟩
      go_wp2
      go_ret
      exact ⟨rfl, gr_below g1⟩
    | true =>
      go_wp2_with fail
      refine (alive_any _).mono ?_
      rintro e W1 ⟨rfl, g1⟩
      go_wp2
      go_ret
      exact ⟨rfl, gr_below g1⟩
  have cz : ((tn : Int) == 0) = false := eqF (by omega)
  replace ct := Lib.hid ct
  go_enter Try.func4, Try.ntmps4
  go_wp2_with fail
  refine cT0.out.mono ?_
  rintro e W ⟨⟨bb0, rfl, hb0⟩, rfl⟩
  cases bb0 with
  | false =>
    go_wp2_with fail
    refine (alive_any _).mono ?_
    rintro e W1 ⟨rfl, g1⟩
    go_wp2
    go_ret
    exact ⟨rfl, gr_below g1⟩
  | true =>
  have h60 := hb0 rfl
  clear hb0 cT0
  go_wp2_with fail
  refine (alive_any _).mono ?_
  rintro e W1 ⟨rfl, g1⟩
  replace g1 := Lib.hid g1
  go_wp2_with fail
  go_loopw [7, 8, 9, 10] (fun bv ev gv iv wr => ∃ (j : Nat) (gj : List Nte), j ≤ len0 ∧ iv = .int .i64 j ∧ Hid (gj = gd z0 j) ∧ bv = .string (txt (catN gj)) ∧ Hid (wr.ownsRow w.heap.size 3 1 ev gj.length ((endsN gj).map (.int .i64))) ∧ Hid (wr.ownsRow w.heap.size 32 6 gv gj.length (sR nteC gj)) ∧ Hid (Below w.heap.size w wr)) (fun _ _ _ iv _ => len0 - (intOf iv).toNat)
  case atStart => exact ⟨0, [], Nat.zero_le _, rfl, rfl, rfl, World.ownsRow_nil _ _ _ _, World.ownsRow_nil _ _ _ _, gr_below g1.out⟩
  case round =>
    obtain ⟨j, gj, hj, rfl, hgj, rfl, hown, hogd, hbel⟩ := hrel
    have hbs := hbel.out.size
    have hgl : gj.length ≤ 60 := by have := gd_len z0 j; rw [← hgj.out] at this; omega
    have hgok : ∀ x ∈ gj, okN x := by rw [hgj.out]; exact gd_ok
    have hcl := catN_le hgok
    have hcl2 : (catN gj).length ≤ 5220 := by omega
    clear hcl
    replace hgok := Lib.hid hgok
    by_cases hlt : j < len0
    · skip
      obtain ⟨x, B, o, hx, rfl, _, hc⟩ := rowS_elem nteC_len hr0.out (by decide) hlt
      have hCC : ∀ W', Below w.heap.size w W' → (W'.cell? ⟨B, o + j * 6, none⟩ = some (.int .i64 x.kind) ∧ W'.cell? ⟨B, o + j * 6 + 1, none⟩ = some (.int .i64 x.c.id) ∧ W'.cell? ⟨B, o + j * 6 + 2, none⟩ = some (.int .i64 x.c.rows) ∧ W'.cell? ⟨B, o + j * 6 + 3, none⟩ = some (.int .i64 x.c.size) ∧ W'.cell? ⟨B, o + j * 6 + 4, none⟩ = some (.int .i64 x.c.tl) ∧ W'.cell? ⟨B, o + j * 6 + 5, none⟩ = some (.string (txt x.c.file))) := fun W' hb => ⟨gr_cell (gr_of_below hb (Nat.le_refl _)) (hc 0 (by decide)), gr_cell (gr_of_below hb (Nat.le_refl _)) (hc 1 (by decide)), gr_cell (gr_of_below hb (Nat.le_refl _)) (hc 2 (by decide)), gr_cell (gr_of_below hb (Nat.le_refl _)) (hc 3 (by decide)), gr_cell (gr_of_below hb (Nat.le_refl _)) (hc 4 (by decide)), gr_cell (gr_of_below hb (Nat.le_refl _)) (hc 5 (by decide))⟩
      obtain ⟨d0, d1, d2, d3, d4, d5⟩ := hCC _ hbel.out
      clear hc
      have hnx := gd_next hx
      rw [← hgj.out] at hnx
      have hji : (j : Int) < (len0 : Int) := by omega
      have hj0 : (0 : Int) ≤ (j : Int) := by omega
      by_cases hok : okN x
      · skip
        rw [if_pos hok] at hnx
        have cL := fun W => dlay_ok x W hok
        have hfl : (Crc.frm (noteL x)).length ≤ 87 := by rw [frm_note_len]; have := (ok_bounds hok).2.2.2.2.2; omega
        have hsn := catN_snoc gj x
        have hbig : (9223372036854775807 < (catN gj).length + (Crc.frm (noteL x)).length) = False := eq_false (by omega)
        have hxc : nteC x = [.int .i64 x.kind, .int .i64 x.c.id, .int .i64 x.c.rows, .int .i64 x.c.size, .int .i64 x.c.tl, .string (txt x.c.file)] := rfl
        have hse := endsN_snoc gj x
        rw [hsn, List.length_append] at hse
        generalize Crc.frm (noteL x) = FF at *
        unfold nteV at cL
        generalize x.kind = x0 at *
        generalize x.c.id = x1 at *
        generalize x.c.rows = x2 at *
        generalize x.c.size = x3 at *
        generalize x.c.tl = x4 at *
        generalize x.c.file = x5 at *
        replace cL := Lib.hid cL
        replace hnx := Lib.hid hnx
        replace hsn := Lib.hid hsn
        replace hse := Lib.hid hse
        replace hok := Lib.hid hok
        replace hx := Lib.hid hx
        replace hxc := Lib.hid hxc
        replace hCC := Lib.hid hCC
        go_wp2_with fail
        refine (cL.out _).mono ?_
        rintro e W2 ⟨rfl, g2⟩
        have hown2 := hown.out.kept g2 (by cases u8.ownBlock <;> simp)
        have hogd2 := hogd.out.kept g2 (by cases u9.ownBlock <;> simp)
        have hbel2 := below_gr hbel.out g2 hbs (by simp)
        have hs2 := hbel2.size
        replace hown2 := Lib.hid hown2
        replace hogd2 := Lib.hid hogd2
        replace hbel2 := Lib.hid hbel2
        clear d0 d1 d2 d3 d4 d5 g2 cL
        go_upto_region 13 with (at_builtin; refine wpList_append_own _ rfl _ _ 25 rfl w.heap.size 3 kk (.int .i64 0) 1 8 Try.underlying25 hk kz0 kz1 kz2 rfl (by decide) u8 _ _ rfl (hown2.out.alloc _) ⟨W2.heap.size, 0, none⟩ 1 1 [.int .i64 (((catN gj).length : Int) + (FF.length : Int))] rfl rfl (cell_one_new _ _ _) (by simp [Value.oneCell']) (by unfold maxLen; omega) (by omega) (by simp; omega) ?_; intro vE WE hownE hgrE _nl; clear _nl; have hbE := hbel2.out.trans (below_append hown2.out hgrE hbel2.out.size); have hogdE := (hogd2.out.alloc (.cells #[.int .i64 (((catN gj).length : Int) + (FF.length : Int))] 3)).kept hgrE (own_types hogd2.out hown2.out (by decide)); clear hgrE; replace hownE := Lib.hid hownE; replace hbE := Lib.hid hbE; replace hogdE := Lib.hid hogdE)
        obtain ⟨d0, d1, d2, d3, d4, d5⟩ := hCC.out _ hbE.out
        have hsE := hbE.out.size
        go_wp2_with (at_builtin; refine wpList_append_own _ rfl _ _ 22 rfl w.heap.size 32 ii (.agg #[.int .i64 0, .int .i64 0, .int .i64 0, .int .i64 0, .int .i64 0, .string ⟨#[]⟩]) 6 56 Try.underlying22 hi hz0 hz1 hz2 rfl (by decide) u9 _ _ rfl (hogdE.out.alloc _) ⟨WE.heap.size, 0, none⟩ 1 1 [.int .i64 x0, .int .i64 x1, .int .i64 x2, .int .i64 x3, .int .i64 x4, .string (txt x5)] rfl rfl ?p1 ?p2 ?p3 ?p4 ?p5 ?_; rotate_right; intro vN WN hownN hgrN _nl; clear _nl; have hbN := hbE.out.trans (below_append hogdE.out hgrN hbE.out.size); have hownN2 := (hownE.out.alloc (.cells #[.int .i64 x0, .int .i64 x1, .int .i64 x2, .int .i64 x3, .int .i64 x4, .string (txt x5)] 32)).kept hgrN (own_types hownE.out hogdE.out (by decide)); replace hownN2 := Lib.hid hownN2; clear hgrN; replace hownN := Lib.hid hownN; replace hbN := Lib.hid hbN)
        try (case p1 =>
          intro j u hj
          have hjl := (List.getElem?_eq_some_iff.1 hj).1
          rw [add_plain, Nat.zero_add, World.cell?_alloc_new]
          simpa using hj)
        case p2 => rw [← hxc.out]; exact nteC_ones _
        case p3 => unfold maxLen; omega
        case p4 => omega
        case p5 => first | omega | (simp; omega)
        go_roundw
        case rel =>
          refine ⟨j + 1, gj ++ [x], by omega, by go_num, Lib.hid hnx.out.symm, by rw [hsn.out], ?_, ?_, hbN.out⟩
          · rw [hse.out, List.map_append, List.length_append, List.length_singleton]
            exact hownN2.out
          · rw [sR_append, sR_one, hxc.out, List.length_append, List.length_singleton]
            exact hownN.out
        case measure => simp [intOf]; omega
      · rw [if_neg hok, List.append_nil] at hnx
        have cL := fun W => dlay_bad x W hok
        unfold nteV at cL
        generalize x.kind = x0 at *
        generalize x.c.id = x1 at *
        generalize x.c.rows = x2 at *
        generalize x.c.size = x3 at *
        generalize x.c.tl = x4 at *
        generalize x.c.file = x5 at *
        replace cL := Lib.hid cL
        replace hnx := Lib.hid hnx
        replace hok := Lib.hid hok
        replace hx := Lib.hid hx
        clear hCC
        go_wp2_with fail
        refine (cL.out _).mono ?_
        rintro e W2 ⟨rfl, g2⟩
        have hown2 := hown.out.kept g2 (by cases u8.ownBlock <;> simp)
        have hogd2 := hogd.out.kept g2 (by cases u9.ownBlock <;> simp)
        have hbel2 := below_gr hbel.out g2 hbs (by simp)
        replace hown2 := Lib.hid hown2
        replace hogd2 := Lib.hid hogd2
        replace hbel2 := Lib.hid hbel2
        clear d0 d1 d2 d3 d4 d5 g2 cL
        go_wp2
        go_roundw
        case rel => exact ⟨j + 1, gj, by omega, by go_num, Lib.hid hnx.out.symm, rfl, hown2.out, hogd2.out, hbel2.out⟩
        case measure => simp [intOf]; omega
    · obtain rfl : j = len0 := by omega
      clear hgj
      obtain ⟨eA, ec, rfl, hec, hxs⟩ := own_open hown.out
      obtain ⟨gA, gc, rfl, hgc1, hgc2, hgc3⟩ := own_open3 hogd.out
      have hgrow := row_own hogd.out
      obtain ⟨wo, rfl⟩ : ∃ wo : World, wo = wr := ⟨_, rfl⟩
      replace hxs := Lib.hid hxs
      replace hec := Lib.hid hec
      replace hgrow := Lib.hid hgrow
      clear hgc3
      obtain ⟨L, hL⟩ : ∃ L, L = catN gj := ⟨_, rfl⟩
      rw [← hL] at hcl2 ⊢
      replace hL := Lib.hid hL
      clear hown hogd
      by_cases hL0 : L = []
      · subst hL0
        go_wp2
        go_ret
        exact ⟨rfl, hbel.out⟩
      have hLe : (L == []) = false := by rw [beq_eq_false_iff_ne]; exact hL0
      have hLp : 0 < L.length := List.length_pos_iff.2 hL0
      have hLi : (L.length : Int) ≤ 5220 := by omega
      have hLj : (0 : Int) < (L.length : Int) := by omega
      have hLz : ((8 * (L.length : Int)) == 0) = false := eqF (by omega)
      replace hL0 := Lib.hid hL0
      go_upto_region 16 with fail
      go_cut [13] (fun s13 wx => ∃ K : Nat, s13 = .int .i64 K ∧ K < 8 * L.length ∧ wo = wx)
      case first =>
        go_wp2_with fail
        go_meet
        obtain ⟨K, hK, hl⟩ := cut_place a1 (8 * L.length) (by omega) (by omega)
        refine ⟨K, ?_, hl, rfl⟩
        rw [← hK]
        simp
      case rest =>
      obtain ⟨K, rfl, hK, rfl⟩ := hcut
      have hcv := run_to_bytes (P := Try.prog) 9 38 5 (txt L) Try.underlying9 Try.underlying38 Try.underlying5 wo
      have hg2 := bW_gr 5 wo (txt L)
      have hbt := bW_bts 5 wo (txt L)
      obtain ⟨b, hb⟩ : ∃ b, b = wo.heap.size := ⟨_, rfl⟩
      rw [← hb, txt_size] at hcv
      rw [← hb, txt_data] at hbt
      generalize bW 5 wo (txt L) = W3 at *
      generalize bC 5 wo (txt L) = cc at *
      have hbel3 : Below b wo W3 := by rw [hb]; exact gr_below hg2
      have hbo : wo.heap.size ≤ b := by omega
      replace hbel3 := Lib.hid hbel3
      replace hb := Lib.hid hb
      replace hbt := Lib.hid hbt
      clear hg2
      go_upto_region 18 with fail
      clear hcv
      go_wp2_with fail
      go_loopw [15, 16] (TRel wo b L K) (fun _ i _ => 32 - (intOf i).toNat)
      case atStart => exact ⟨0, L, none, by decide, rfl, rfl, hbt.out, Crc.fst_start _ _, hbel3.out⟩
      case round =>
      clear hbt hbel3
      obtain ⟨j, l', fo, hj, rfl, rfl, hbt, htu, hbl⟩ := hrel
      have hll : l'.length = L.length := htu.out.len
      by_cases hlt : j < 32 ∧ K + j < 8 * L.length
      · obtain ⟨hlt, hkj⟩ := hlt
        obtain ⟨x, hx⟩ : ∃ x, l'[(K + j) / 8]? = some x := ⟨_, List.getElem?_eq_getElem (by omega)⟩
        have hc := bts_cell hbt.out hx
        have hf := bts_free hbt.out (j := (K + j) / 8) (by omega)
        unfold byteV at hc
        replace hx := Lib.hid hx
        replace hll := Lib.hid hll
        have hv1 := Crc.flip_walk8 x ((K + j) % 8)
        have hq1 : (((K : Int) + (j : Int)) / 8).toNat = (K + j) / 8 := by omega
        have hq2 : (((K : Int) + (j : Int)) % 8).toNat = (K + j) % 8 := by omega
        have hq0 : IntKind.i64.wrap ((K : Int) + (j : Int)) = (K : Int) + (j : Int) := IntWalk.i64_in _ (by omega)
        have hsetB : ∀ v, Below b wo ((wr.setCell ⟨b, (K + j) / 8, none⟩ v).drew) := fun v => (hbl.out.setCell (p := ⟨b, (K + j) / 8, none⟩) (Nat.le_refl _) v).drew
        replace hsetB := Lib.hid hsetB
        cases fo with
        | none =>
          have hfo : foV none = -1 := rfl
          rw [hfo]
          go_wp2_with fail
          · go_region
            go_wp2_with fail
            go_roundw
            case rel => exact ⟨j + 1, _, some (K + j), by omega, by go_num, by show Value.int _ _ = Value.int _ (((K + j) / 8 : Nat) : Int); congr 1 <;> omega, bts_keep (bts_set hbt.out _ _) (gr_drew _ none) (by simp), Crc.fst_flip0 htu.out hx.out, hsetB.out _⟩
            case measure => simp [intOf]; omega
          · go_roundw
            case rel => exact ⟨j + 1, l', none, by omega, by go_num, rfl, hbt.out, Crc.fst_skip htu.out, hbl.out⟩
            case measure => simp [intOf]; omega
        | some p0 =>
          obtain ⟨FF, hFF⟩ : ∃ FF : Nat, FF = p0 / 8 := ⟨_, rfl⟩
          have hfo : foV (some p0) = (FF : Int) := by rw [hFF]; rfl
          rw [hfo]
          have hfn : ((FF : Int) < 0) = False := eq_false (by omega)
          have hfo2 : Hid (Value.int .i64 (FF : Int) = .int .i64 (foV (some p0))) := by rw [hfo]; exact Lib.hid rfl
          clear hfo hFF
          go_wp2_with fail
          · go_region
            go_wp2_with fail
            go_roundw
            case rel => exact ⟨j + 1, _, some p0, by omega, by go_num, hfo2.out, bts_keep (bts_set hbt.out _ _) (gr_drew _ none) (by simp), Crc.fst_flip1 htu.out hx.out, hsetB.out _⟩
            case measure => simp [intOf]; omega
          · go_roundw
            case rel => exact ⟨j + 1, l', some p0, by omega, by go_num, hfo2.out, hbt.out, Crc.fst_skip htu.out, hbl.out⟩
            case measure => simp [intOf]; omega
      · have hend : 32 ≤ j ∨ (j < 32 ∧ 8 * L.length ≤ K + j) := by omega
        have hq0 : IntKind.i64.wrap ((K : Int) + (j : Int)) = (K : Int) + (j : Int) := IntWalk.i64_in _ (by omega)
        have hbw : Below w.heap.size w wr := hbel.out.trans ⟨hbl.out.os, hbl.out.tape, hbl.out.output, hbl.out.size, fun k hk => hbl.out.block k (by omega)⟩
        clear hlt
        cases fo with
        | none =>
          have hfo : foV none = -1 := rfl
          rw [hfo]
          replace hbw := Lib.hid hbw
          rcases hend with hend | ⟨hend1, hend⟩
          all_goals
            go_wp2
            go_ret
            exact ⟨rfl, hbw.out⟩
        | some p0 =>
          obtain ⟨FF, hFF⟩ : ∃ FF : Nat, FF = p0 / 8 := ⟨_, rfl⟩
          have hfo : foV (some p0) = (FF : Int) := by rw [hFF]; rfl
          rw [hfo]
          have hfn : ((FF : Int) < 0) = False := eq_false (by omega)
          replace hFF := Lib.hid hFF
          clear hfo
          have hcv := run_of_bytes (P := Try.prog) 38 9 5 Try.underlying38 Try.underlying5 Try.underlying9 hbt.out cc L.length hll.symm
          have cR := fun W => dread_any l' W (by omega)
          unfold ReadPost at cR
          generalize hQ : notesOf l' = Q at *
          replace hQ := Lib.hid hQ
          replace cR := Lib.hid cR
          replace hll := Lib.hid hll
          have hgW : Gr wo wr := gr_of_below hbl.out hbo
          have hgrow2 := Lib.hid (row_gr hgrow.out hgW)
          have hcells0 : ∀ q, q < gj.length → ∃ Be oe, eA = some ⟨Be, oe, none⟩ ∧ wr.cell? ⟨Be, oe + q, none⟩ = some (.int .i64 ((catN (gj.take (q + 1))).length : Nat)) := fun q hq => by
            obtain ⟨g, rfl, _, _, hgc⟩ := hxs.out q (.int .i64 ((catN (gj.take (q + 1))).length : Nat)) (by rw [List.getElem?_map, endsN_at hq]; rfl)
            exact ⟨g, 0, rfl, by rw [Nat.zero_add]; exact gr_cell hgW hgc⟩
          have hend0 : 32 ≤ j ∨ 8 * L.length ≤ K + j := by omega
          replace hend0 := Lib.hid hend0
          replace hcells0 := Lib.hid hcells0
          replace hbw := Lib.hid hbw
          clear hxs hgrow hgW
          rcases hend with hend | ⟨hend1, hend⟩
          all_goals
            go_wp2_with fail
            refine (cR.out _).mono ?_
            rintro e W5 ⟨v, rfl, hv, g5⟩
            obtain ⟨V, vc, rfl, hvc1, hvc2, hvc3⟩ := own_open3 hv
            have hvrow := Lib.hid (row_own hv)
            have hbel5 := Lib.hid (below_gr hbw.out g5 hbw.out.size (by simp))
            have hgrow5 := Lib.hid (row_gr hgrow2.out g5)
            have hcells : ∀ q, q < gj.length → ∃ Be oe, eA = some ⟨Be, oe, none⟩ ∧ W5.cell? ⟨Be, oe + q, none⟩ = some (.int .i64 ((catN (gj.take (q + 1))).length : Nat)) := fun q hq => by
              obtain ⟨Be, oe, h1, h2⟩ := hcells0.out q hq
              exact ⟨Be, oe, h1, gr_cell g5 h2⟩
            replace hcells := Lib.hid hcells
            clear hv cR g5 hcells0 hgrow2 hbw hvc3 hcv
            go_wp2_with fail
            go_loopw [19, 20, 21] (fun wt en i wr => ∃ (q : Nat), q ≤ gj.length ∧ i = .int .i64 q ∧ wt = .int .i64 q ∧ en = .int .i64 ((catN (gj.take q)).length : Nat) ∧ (catN (gj.take q)).length ≤ FF ∧ Hid (Gr W5 wr)) (fun _ _ i _ => gj.length - (intOf i).toNat)
            case atStart => exact ⟨0, Nat.zero_le _, rfl, rfl, by simp [catN, Crc.cat], by simp [catN, Crc.cat], gr_refl _ _⟩
            case round =>
            obtain ⟨q, hq, rfl, rfl, rfl, hle, hg6⟩ := hrel
            have hout : (q = gj.length ∨ FF < (catN (gj.take (q + 1))).length) → Q = gj.take q := fun ho => by
              have hf := htu.out
              rw [hL.out] at hf
              have h3 := turn_notes hgok.out hf (by have := hend0.out; rw [hL.out] at this; exact this) hj hq (by rw [← hFF.out]; exact hle) (by rw [← hFF.out]; exact ho)
              rw [hQ.out] at h3
              exact h3
            replace hout := Lib.hid hout
            by_cases hqt : q < gj.length
            · obtain ⟨Be, oe, rfl, hce⟩ := hcells.out q hqt
              have hce' := gr_cell hg6.out hce
              have hql : (q : Int) < (gj.length : Int) := by omega
              have hq0' : (0 : Int) ≤ (q : Int) := by omega
              have hq1 : IntKind.i64.wrap ((q : Int) + 1) = (q : Int) + 1 := IntWalk.i64_in _ (by omega)
              clear hce
              by_cases hE : (catN (gj.take (q + 1))).length ≤ FF
              · have hEi : ((catN (gj.take (q + 1))).length : Int) ≤ (FF : Int) := by omega
                clear hout
                go_wp2_with fail
                go_quiet (fail)
                go_wp2
                go_roundw
                case rel => exact ⟨q + 1, by omega, by go_num, by go_num, rfl, hE, gr_trans hg6.out (gr_drewN _ _ _)⟩
                case measure => simp [intOf]; omega
              · have hEi : ¬ ((catN (gj.take (q + 1))).length : Int) ≤ (FF : Int) := by omega
                have hQe := hout.out (.inr (by omega))
                subst hQe
                have hPl : (gj.take q).length = q := by rw [List.length_take]; omega
                have hxrow : Row wr V q 6 (sR nteC (gj.take q)) := by
                  have := row_gr hvrow.out hg6.out
                  rwa [hPl] at this
                have hgrow6 : Row wr gA q 6 (sR nteC (gj.take q)) := by
                  have := row_take (row_gr hgrow5.out hg6.out) q hq
                  rwa [← sR_take nteC 6 nteC_len] at this
                have hPok : ∀ x ∈ gj.take q, okN x := fun x hx => hgok.out x (List.mem_of_mem_take hx)
                simp only [hPl]
                generalize gj.take q = P at *
                have hPe : (((catN P).length : Int) == ((catN P).length : Int)) = true := by simp
                have hqe : ((q : Int) == (q : Int)) = true := by simp
                have hbel6 := below_gr hbel5.out hg6.out hbel5.out.size (by simp)
                have hqg : q ≤ gj.length := hq
                have hqgi : (q : Int) ≤ (gj.length : Int) := by omega
                replace hPok := Lib.hid hPok
                replace hxrow := Lib.hid hxrow
                replace hgrow6 := Lib.hid hgrow6
                replace hbel6 := Lib.hid hbel6
                replace hle := Lib.hid hle
                replace hPl := Lib.hid hPl
                clear hout hcells hg6 hgrow5 hvrow hbel5
                go_wp2_with fail
                obtain ⟨wq, rfl⟩ : ∃ wq : World, wq = wr := ⟨_, rfl⟩
                go_loopw [22] (fun iv wr => ∃ r : Nat, r ≤ q ∧ iv = .int .i64 r ∧ Hid (Gr wq wr)) (fun iv _ => q - (intOf iv).toNat)
                case atStart => exact ⟨0, Nat.zero_le _, rfl, gr_refl _ _⟩
                case round =>
                obtain ⟨r, hr, rfl, hg7⟩ := hrel
                by_cases hrt : r < q
                · obtain ⟨x, A1, o1, hx, rfl, _, ha⟩ := rowS_elem nteC_len (row_gr hxrow.out hg7.out) (by decide) hrt
                  obtain ⟨y, A2, o2, hy, rfl, _, hb2⟩ := rowS_elem nteC_len (row_gr hgrow6.out hg7.out) (by decide) hrt
                  obtain rfl : x = y := by rw [hx] at hy; exact Option.some.inj hy
                  have cN := fun W => refNote_yes x W (hPok.out x (List.mem_of_getElem? hx))
                  have hrq : (r : Int) < (q : Int) := by omega
                  have hr0' : (0 : Int) ≤ (r : Int) := by omega
                  have hrg : (r : Int) < (gj.length : Int) := by omega
                  have p0' : wr.cell? ⟨A1, o1 + r * 6, none⟩ = some (.int .i64 x.kind) := ha 0 (by decide)
                  have p1' : wr.cell? ⟨A1, o1 + r * 6 + 1, none⟩ = some (.int .i64 x.c.id) := ha 1 (by decide)
                  have p2' : wr.cell? ⟨A1, o1 + r * 6 + 2, none⟩ = some (.int .i64 x.c.rows) := ha 2 (by decide)
                  have p3' : wr.cell? ⟨A1, o1 + r * 6 + 3, none⟩ = some (.int .i64 x.c.size) := ha 3 (by decide)
                  have p4' : wr.cell? ⟨A1, o1 + r * 6 + 4, none⟩ = some (.int .i64 x.c.tl) := ha 4 (by decide)
                  have p5' : wr.cell? ⟨A1, o1 + r * 6 + 5, none⟩ = some (.string (txt x.c.file)) := ha 5 (by decide)
                  have q0' : wr.cell? ⟨A2, o2 + r * 6, none⟩ = some (.int .i64 x.kind) := hb2 0 (by decide)
                  have q1' : wr.cell? ⟨A2, o2 + r * 6 + 1, none⟩ = some (.int .i64 x.c.id) := hb2 1 (by decide)
                  have q2' : wr.cell? ⟨A2, o2 + r * 6 + 2, none⟩ = some (.int .i64 x.c.rows) := hb2 2 (by decide)
                  have q3' : wr.cell? ⟨A2, o2 + r * 6 + 3, none⟩ = some (.int .i64 x.c.size) := hb2 3 (by decide)
                  have q4' : wr.cell? ⟨A2, o2 + r * 6 + 4, none⟩ = some (.int .i64 x.c.tl) := hb2 4 (by decide)
                  have q5' : wr.cell? ⟨A2, o2 + r * 6 + 5, none⟩ = some (.string (txt x.c.file)) := hb2 5 (by decide)
                  unfold nteV at cN
                  clear ha hb2 hx hy
                  generalize x.kind = x0 at *
                  generalize x.c.id = x1' at *
                  generalize x.c.rows = x2' at *
                  generalize x.c.size = x3 at *
                  generalize x.c.tl = x4 at *
                  generalize x.c.file = x5 at *
                  have st : ∀ w', Gr wr w' → (w'.cell? ⟨A1, o1 + r * 6, none⟩ = some (.int .i64 x0) ∧ w'.cell? ⟨A1, o1 + r * 6 + 1, none⟩ = some (.int .i64 x1') ∧ w'.cell? ⟨A1, o1 + r * 6 + 2, none⟩ = some (.int .i64 x2') ∧ w'.cell? ⟨A1, o1 + r * 6 + 3, none⟩ = some (.int .i64 x3) ∧ w'.cell? ⟨A1, o1 + r * 6 + 4, none⟩ = some (.int .i64 x4) ∧ w'.cell? ⟨A1, o1 + r * 6 + 5, none⟩ = some (.string (txt x5)) ∧ w'.cell? ⟨A2, o2 + r * 6, none⟩ = some (.int .i64 x0) ∧ w'.cell? ⟨A2, o2 + r * 6 + 1, none⟩ = some (.int .i64 x1') ∧ w'.cell? ⟨A2, o2 + r * 6 + 2, none⟩ = some (.int .i64 x2') ∧ w'.cell? ⟨A2, o2 + r * 6 + 3, none⟩ = some (.int .i64 x3) ∧ w'.cell? ⟨A2, o2 + r * 6 + 4, none⟩ = some (.int .i64 x4) ∧ w'.cell? ⟨A2, o2 + r * 6 + 5, none⟩ = some (.string (txt x5))) := fun w' g => ⟨gr_cell g p0', gr_cell g p1', gr_cell g p2', gr_cell g p3', gr_cell g p4', gr_cell g p5', gr_cell g q0', gr_cell g q1', gr_cell g q2', gr_cell g q3', gr_cell g q4', gr_cell g q5'⟩
                  replace st := Lib.hid st
                  replace cN := Lib.hid cN
                  clear p0' p1' p2' p3' p4' p5' q0' q1' q2' q3' q4' q5'
                  go_wp2_with fail
                  go_region_held3 (fun w' => w'.cell? ⟨A1, o1 + r * 6, none⟩ = some (.int .i64 x0) ∧ w'.cell? ⟨A1, o1 + r * 6 + 1, none⟩ = some (.int .i64 x1') ∧ w'.cell? ⟨A1, o1 + r * 6 + 2, none⟩ = some (.int .i64 x2') ∧ w'.cell? ⟨A1, o1 + r * 6 + 3, none⟩ = some (.int .i64 x3) ∧ w'.cell? ⟨A1, o1 + r * 6 + 4, none⟩ = some (.int .i64 x4) ∧ w'.cell? ⟨A1, o1 + r * 6 + 5, none⟩ = some (.string (txt x5)) ∧ w'.cell? ⟨A2, o2 + r * 6, none⟩ = some (.int .i64 x0) ∧ w'.cell? ⟨A2, o2 + r * 6 + 1, none⟩ = some (.int .i64 x1') ∧ w'.cell? ⟨A2, o2 + r * 6 + 2, none⟩ = some (.int .i64 x2') ∧ w'.cell? ⟨A2, o2 + r * 6 + 3, none⟩ = some (.int .i64 x3) ∧ w'.cell? ⟨A2, o2 + r * 6 + 4, none⟩ = some (.int .i64 x4) ∧ w'.cell? ⟨A2, o2 + r * 6 + 5, none⟩ = some (.string (txt x5))) (first | exact st.out _ (gr_drew _ _) | exact st.out _ gN) (first | (go_at_call 11; refine (cN.out _).mono ?_; rintro e wN ⟨rfl, gN0⟩; have gN := gr_trans (gr_drew wr none) gN0))
                  go_wp2
                  go_roundw
                  case rel => exact ⟨r + 1, by omega, by go_num, gr_trans hg7.out gN⟩
                  case measure => simp [intOf]; omega
                · obtain rfl : r = q := by omega
                  go_wp2
                  go_ret
                  exact ⟨rfl, below_gr hbel6.out hg7.out hbel6.out.size (by simp)⟩
            · have hqq : q = gj.length := by omega
              have hqt' : ((q : Int) < (gj.length : Int)) = False := eq_false (by omega)
              have hQe := hout.out (.inl hqq)
              replace hqq := Lib.hid hqq
              subst hQe
              have hPl : (gj.take q).length = q := by rw [List.length_take]; omega
              have hxrow : Row wr V q 6 (sR nteC (gj.take q)) := by
                have := row_gr hvrow.out hg6.out
                rwa [hPl] at this
              have hgrow6 : Row wr gA q 6 (sR nteC (gj.take q)) := by
                have := row_take (row_gr hgrow5.out hg6.out) q hq
                rwa [← sR_take nteC 6 nteC_len] at this
              have hPok : ∀ x ∈ gj.take q, okN x := fun x hx => hgok.out x (List.mem_of_mem_take hx)
              simp only [hPl]
              generalize gj.take q = P at *
              have hPe : (((catN P).length : Int) == ((catN P).length : Int)) = true := by simp
              have hqe : ((q : Int) == (q : Int)) = true := by simp
              have hbel6 := below_gr hbel5.out hg6.out hbel5.out.size (by simp)
              have hqg : q ≤ gj.length := hq
              have hqgi : (q : Int) ≤ (gj.length : Int) := by omega
              replace hPok := Lib.hid hPok
              replace hxrow := Lib.hid hxrow
              replace hgrow6 := Lib.hid hgrow6
              replace hbel6 := Lib.hid hbel6
              replace hle := Lib.hid hle
              replace hPl := Lib.hid hPl
              clear hout hcells hg6 hgrow5 hvrow hbel5
              go_wp2_with fail
              obtain ⟨wq, rfl⟩ : ∃ wq : World, wq = wr := ⟨_, rfl⟩
              go_loopw [22] (fun iv wr => ∃ r : Nat, r ≤ q ∧ iv = .int .i64 r ∧ Hid (Gr wq wr)) (fun iv _ => q - (intOf iv).toNat)
              case atStart => exact ⟨0, Nat.zero_le _, rfl, gr_refl _ _⟩
              case round =>
              obtain ⟨r, hr, rfl, hg7⟩ := hrel
              by_cases hrt : r < q
              · obtain ⟨x, A1, o1, hx, rfl, _, ha⟩ := rowS_elem nteC_len (row_gr hxrow.out hg7.out) (by decide) hrt
                obtain ⟨y, A2, o2, hy, rfl, _, hb2⟩ := rowS_elem nteC_len (row_gr hgrow6.out hg7.out) (by decide) hrt
                obtain rfl : x = y := by rw [hx] at hy; exact Option.some.inj hy
                have cN := fun W => refNote_yes x W (hPok.out x (List.mem_of_getElem? hx))
                have hrq : (r : Int) < (q : Int) := by omega
                have hr0' : (0 : Int) ≤ (r : Int) := by omega
                have hrg : (r : Int) < (gj.length : Int) := by omega
                have p0' : wr.cell? ⟨A1, o1 + r * 6, none⟩ = some (.int .i64 x.kind) := ha 0 (by decide)
                have p1' : wr.cell? ⟨A1, o1 + r * 6 + 1, none⟩ = some (.int .i64 x.c.id) := ha 1 (by decide)
                have p2' : wr.cell? ⟨A1, o1 + r * 6 + 2, none⟩ = some (.int .i64 x.c.rows) := ha 2 (by decide)
                have p3' : wr.cell? ⟨A1, o1 + r * 6 + 3, none⟩ = some (.int .i64 x.c.size) := ha 3 (by decide)
                have p4' : wr.cell? ⟨A1, o1 + r * 6 + 4, none⟩ = some (.int .i64 x.c.tl) := ha 4 (by decide)
                have p5' : wr.cell? ⟨A1, o1 + r * 6 + 5, none⟩ = some (.string (txt x.c.file)) := ha 5 (by decide)
                have q0' : wr.cell? ⟨A2, o2 + r * 6, none⟩ = some (.int .i64 x.kind) := hb2 0 (by decide)
                have q1' : wr.cell? ⟨A2, o2 + r * 6 + 1, none⟩ = some (.int .i64 x.c.id) := hb2 1 (by decide)
                have q2' : wr.cell? ⟨A2, o2 + r * 6 + 2, none⟩ = some (.int .i64 x.c.rows) := hb2 2 (by decide)
                have q3' : wr.cell? ⟨A2, o2 + r * 6 + 3, none⟩ = some (.int .i64 x.c.size) := hb2 3 (by decide)
                have q4' : wr.cell? ⟨A2, o2 + r * 6 + 4, none⟩ = some (.int .i64 x.c.tl) := hb2 4 (by decide)
                have q5' : wr.cell? ⟨A2, o2 + r * 6 + 5, none⟩ = some (.string (txt x.c.file)) := hb2 5 (by decide)
                unfold nteV at cN
                clear ha hb2 hx hy
                generalize x.kind = x0 at *
                generalize x.c.id = x1' at *
                generalize x.c.rows = x2' at *
                generalize x.c.size = x3 at *
                generalize x.c.tl = x4 at *
                generalize x.c.file = x5 at *
                have st : ∀ w', Gr wr w' → (w'.cell? ⟨A1, o1 + r * 6, none⟩ = some (.int .i64 x0) ∧ w'.cell? ⟨A1, o1 + r * 6 + 1, none⟩ = some (.int .i64 x1') ∧ w'.cell? ⟨A1, o1 + r * 6 + 2, none⟩ = some (.int .i64 x2') ∧ w'.cell? ⟨A1, o1 + r * 6 + 3, none⟩ = some (.int .i64 x3) ∧ w'.cell? ⟨A1, o1 + r * 6 + 4, none⟩ = some (.int .i64 x4) ∧ w'.cell? ⟨A1, o1 + r * 6 + 5, none⟩ = some (.string (txt x5)) ∧ w'.cell? ⟨A2, o2 + r * 6, none⟩ = some (.int .i64 x0) ∧ w'.cell? ⟨A2, o2 + r * 6 + 1, none⟩ = some (.int .i64 x1') ∧ w'.cell? ⟨A2, o2 + r * 6 + 2, none⟩ = some (.int .i64 x2') ∧ w'.cell? ⟨A2, o2 + r * 6 + 3, none⟩ = some (.int .i64 x3) ∧ w'.cell? ⟨A2, o2 + r * 6 + 4, none⟩ = some (.int .i64 x4) ∧ w'.cell? ⟨A2, o2 + r * 6 + 5, none⟩ = some (.string (txt x5))) := fun w' g => ⟨gr_cell g p0', gr_cell g p1', gr_cell g p2', gr_cell g p3', gr_cell g p4', gr_cell g p5', gr_cell g q0', gr_cell g q1', gr_cell g q2', gr_cell g q3', gr_cell g q4', gr_cell g q5'⟩
                replace st := Lib.hid st
                replace cN := Lib.hid cN
                clear p0' p1' p2' p3' p4' p5' q0' q1' q2' q3' q4' q5'
                go_wp2_with fail
                go_region_held3 (fun w' => w'.cell? ⟨A1, o1 + r * 6, none⟩ = some (.int .i64 x0) ∧ w'.cell? ⟨A1, o1 + r * 6 + 1, none⟩ = some (.int .i64 x1') ∧ w'.cell? ⟨A1, o1 + r * 6 + 2, none⟩ = some (.int .i64 x2') ∧ w'.cell? ⟨A1, o1 + r * 6 + 3, none⟩ = some (.int .i64 x3) ∧ w'.cell? ⟨A1, o1 + r * 6 + 4, none⟩ = some (.int .i64 x4) ∧ w'.cell? ⟨A1, o1 + r * 6 + 5, none⟩ = some (.string (txt x5)) ∧ w'.cell? ⟨A2, o2 + r * 6, none⟩ = some (.int .i64 x0) ∧ w'.cell? ⟨A2, o2 + r * 6 + 1, none⟩ = some (.int .i64 x1') ∧ w'.cell? ⟨A2, o2 + r * 6 + 2, none⟩ = some (.int .i64 x2') ∧ w'.cell? ⟨A2, o2 + r * 6 + 3, none⟩ = some (.int .i64 x3) ∧ w'.cell? ⟨A2, o2 + r * 6 + 4, none⟩ = some (.int .i64 x4) ∧ w'.cell? ⟨A2, o2 + r * 6 + 5, none⟩ = some (.string (txt x5))) (first | exact st.out _ (gr_drew _ _) | exact st.out _ gN) (first | (go_at_call 11; refine (cN.out _).mono ?_; rintro e wN ⟨rfl, gN0⟩; have gN := gr_trans (gr_drew wr none) gN0))
                go_wp2
                go_roundw
                case rel => exact ⟨r + 1, by omega, by go_num, gr_trans hg7.out gN⟩
                case measure => simp [intOf]; omega
              · obtain rfl : r = q := by omega
                go_wp2
                go_ret
                exact ⟨rfl, below_gr hbel6.out hg7.out hbel6.out.size (by simp)⟩



set_option maxRecDepth 100000 in
theorem lifted (os : Os) (started : os.Started) (H : Type) (enc : TypeId × Value → H) :
    ReturnsInHanded {} Try.checked os 4 .any (Rows.diaryTurnedSpec.pre6 enc Try.prog Try.f4 Rows.diaryTurnedRow.domain false) (Rows.diaryTurnedSpec.post enc Try.prog Try.f4 false true false false) := by
  refine returnsInHanded_of_change (C := Try.checked) own started (by kernel_rfl) Try.func4
    (ChangeSpec.witness6 (enc := enc) (C := Try.checked) false ⟨#[], #[.slice none 0 0, .int .i64 0, .int .u32 0], []⟩ 8 (by kernel_rfl) (by kernel_rfl) (by kernel_rfl) (by kernel_rfl)) ?_
  intro W base args ds gs before hval0 hW hcnd _
  have hval : ∀ (j : Nat) t v, Try.f4.params[j]? = some t → args[j]? = some v → Value.okWide Try.prog W .any base t v := hval0
  have hW' := hW
  obtain ⟨p, q, hA0, hV, rfl, hfz, hnd⟩ := hW
  have hA : DataW.TrodAll enc Try.prog W 0 (fun _ => true) true Try.f4.params.toList args.toList ds p := hA0
  rw [Try.params4] at hA hval
  obtain ⟨v0, vs0, d0, ds0, p0, q0, hargs, rfl, rfl, h0, r0⟩ := trodAll_cons hA
  obtain ⟨v1, vs1, d1, ds1, p1, q1, rfl, rfl, rfl, h1, r1⟩ := trodAll_cons r0
  obtain ⟨v2, vs2, d2, ds2, p2, q2, rfl, rfl, rfl, h2, r2⟩ := trodAll_cons r1
  obtain ⟨rfl, rfl, rfl⟩ := trodAll_nil r2
  obtain rfl : args = #[v0, v1, v2] := by cases args; simp_all
  obtain ⟨rfl, rfl⟩ := trodVars_none hV
  obtain ⟨a0, len0, cap0, rfl⟩ := okWide_slice Try.underlying22 (hval 0 22 v0 rfl rfl)
  have k0 := h0
  have lt0 : ∀ x ∈ p0, x.block < W.heap.size := by obtain ⟨m, hm⟩ := k0; exact DataW.trod_lt m _ _ _ hm
  obtain ⟨z0, w0⟩ := ntes_open h0
  obtain ⟨a1, rfl, rfl, rfl, w1⟩ := open_int Try.underlying3 (hval 1 3 v1 rfl rfl) h1
  obtain ⟨a2, rfl, rfl, rfl, w2⟩ := open_int Try.underlying37 (hval 2 37 v2 rfl rfl) h2
  clear hA0 hval0
  refine (walk W a0 len0 cap0 z0 w0 a1 w1 a2 w2).mono fun e W' ⟨he, bel⟩ => ?_
  subst he
  exact ⟨_, rfl, _, _, _, [], _, [], hW', trodAll_mk1 (shut_bool Try.underlying4 _), (trodAll_cons_mk (Below.trod laidOut (by kernel_rfl) (of_decide_eq_true (by kernel_rfl)) k0 bel lt0) (trodAll_cons_mk (shut_int Try.underlying3 w1) (trodAll_cons_mk (shut_int Try.underlying37 w2) trodAll_mk0))), rfl, bel.frame _, fun h => by cases h⟩

theorem over : Rows.diaryTurnedRow.holds Try.pinned (OpenSpec.ofChange Rows.diaryTurnedSpec) :=
  OpenClaim.holds_of_wide 4 Try.f4 rfl rfl rfl rfl rfl rfl rfl ⟨rfl, rfl, rfl, rfl, rfl⟩ rfl rfl rfl rfl rfl (by kernel_rfl) Try.func4 (by kernel_rfl)
    (of_decide_eq_true (by kernel_rfl)) (by unfold Func.isWrapper; first | (rw [if_pos (by decide +kernel)]; kernel_rfl) | (rw [if_neg (by decide +kernel)]; exact ⟨rfl, rfl⟩))
    (fun os started H enc _ => lifted os started H enc)

/-- THE STATEMENT -/
theorem proved : Rows.DiaryTurnedSaid := over
#print axioms proved
end Go.Proofs.Ytboemalcgplaaaa.diaryTurned

