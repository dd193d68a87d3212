/-
  DiaryCuts holds of the program: for every input the call returns true and leaves what came in as it was. No condition.
-/
import Derived.Test.YtboemalcgplaaaaRows
import Derived.Test.YtboemalcgplaaaaDiaryAlive
import Derived.Test.YtboemalcgplaaaaDiaryLight
import Derived.Test.YtboemalcgplaaaaDiaryOpen
import Derived.Test.YtboemalcgplaaaaDiaryCutMath
import Derived.Test.YtboemalcgplaaaaSameNtes
import Derived.Test.YtboemalcgplaaaaAppendRow
import Derived.WalkKit
import Derived.ProofKit
import Derived.OpenShut
import Derived.ShutString
import Derived.ChangeOld
import Derived.Below
namespace Go.Proofs.Ytboemalcgplaaaa.diaryCuts
open Go.ChangeShapes Go.WideShapes Go.ChangeAt Go.RowKit
open Go.ChangeMaps (open_string shut_string)
set_option linter.unusedVariables false

theorem own : ownKnob Try.prog.godebug = none := by kernel_rfl
theorem laidOut : laidOutB Try.prog = true := by kernel_rfl
theorem infoInt : (Try.prog.info? 3).map (fun i => (i.zero, i.size, i.bytes)) = some (some (.int .i64 0), 1, 8) := by kernel_rfl
set_option maxHeartbeats 40000000 in
set_option maxRecDepth 100000 in
theorem walk (w : World) (a0 : Option Addr) (len0 cap0 : Nat) (z0 : List Nte) (w0 : IsNtes w a0 len0 cap0 z0) (a1 : Option Addr) (len1 cap1 : Nat) (z1 : List Nte) (w1 : IsNtes w a1 len1 cap1 z1) (a2 : Int) (w2 : (Lit.int .i64 a2).wf = true) :
    Calls Try.prog 3 #[.slice a0 len0 cap0, .slice a1 len1 cap1, .int .i64 a2] w fun e w' => e = .returned (.bool true) ∧ Below w.heap.size w w' := by
  have x1 := rng_i64 w2
  clear w2
  obtain ⟨hr0, hcap0, hcm0, _⟩ := w0
  obtain ⟨hr1, hcap1, hcm1, _⟩ := w1
  obtain ⟨ii, hi, hz0, hz1, hz2⟩ := info_parts infoNote
  obtain ⟨kk, hk, kz0, kz1, kz2⟩ := info_parts infoInt
  have hl0 : z0.length = len0 := by have := hr0.1; rw [sR_len nteC 6 nteC_len] at this; omega
  have hl1 : z1.length = len1 := by have := hr1.1; rw [sR_len nteC 6 nteC_len] at this; omega
  have cT0 := light_any a0 len0 cap0 z0 w (by omega) hr0
  have cT1 := light_any a1 len1 cap1 z1 w (by omega) hr1
  replace hr0 := Lib.hid hr0
  replace hr1 := Lib.hid hr1
  replace hl0 := Lib.hid hl0
  replace hl1 := Lib.hid hl1
  replace cT0 := Lib.hid cT0
  replace cT1 := Lib.hid cT1
  go_enter Try.func3, Try.ntmps3
  go_wp2_with fail
  refine cT0.out.mono ?_
  rintro e W ⟨⟨bb0, rfl, hb0⟩, rfl⟩
  cases bb0 with
  | false =>
    go_wp2_with fail
    refine (alive_any _).mono ?_
    rintro e W1 ⟨rfl, g1⟩
    go_wp2
    go_ret
    exact ⟨rfl, gr_below g1⟩
  | true =>
  have h60 := hb0 rfl
  clear hb0
  go_wp2_with fail
  refine cT1.out.mono ?_
  rintro e W ⟨⟨bb1, rfl, hb1⟩, rfl⟩
  cases bb1 with
  | false =>
    go_wp2_with fail
    refine (alive_any _).mono ?_
    rintro e W1 ⟨rfl, g1⟩
    go_wp2
    go_ret
    exact ⟨rfl, gr_below g1⟩
  | true =>
  have h61 := hb1 rfl
  clear hb1 cT0 cT1
  go_wp2_with fail
  refine (alive_any _).mono ?_
  rintro e W1 ⟨rfl, g1⟩
  replace g1 := Lib.hid g1
  go_wp2_with fail
  go_loopw [7, 8, 9, 10] (fun bv ev gv iv wr => ∃ (j : Nat) (gj : List Nte), j ≤ len0 ∧ iv = .int .i64 j ∧ Hid (gj = gd z0 j) ∧ bv = .string (txt (catN gj)) ∧ Hid (wr.ownsRow w.heap.size 3 1 ev gj.length ((endsN gj).map (.int .i64))) ∧ Hid (wr.ownsRow w.heap.size 32 6 gv gj.length (sR nteC gj)) ∧ Hid (Below w.heap.size w wr)) (fun _ _ _ iv _ => len0 - (intOf iv).toNat)
  case atStart => exact ⟨0, [], Nat.zero_le _, rfl, rfl, rfl, World.ownsRow_nil _ _ _ _, World.ownsRow_nil _ _ _ _, gr_below g1.out⟩
  case round =>
    obtain ⟨j, gj, hj, rfl, hgj, rfl, hown, hogd, hbel⟩ := hrel
    have hbs := hbel.out.size
    have hgl : gj.length ≤ 60 := by have := gd_len z0 j; rw [← hgj.out] at this; omega
    have hgok : ∀ x ∈ gj, okN x := by rw [hgj.out]; exact gd_ok
    have hcl := catN_le hgok
    have hcl2 : (catN gj).length ≤ 5220 := by omega
    clear hcl
    replace hgok := Lib.hid hgok
    by_cases hlt : j < len0
    · skip
      obtain ⟨x, B, o, hx, rfl, _, hc⟩ := rowS_elem nteC_len hr0.out (by decide) hlt
      have hCC : ∀ W', Below w.heap.size w W' → (W'.cell? ⟨B, o + j * 6, none⟩ = some (.int .i64 x.kind) ∧ W'.cell? ⟨B, o + j * 6 + 1, none⟩ = some (.int .i64 x.c.id) ∧ W'.cell? ⟨B, o + j * 6 + 2, none⟩ = some (.int .i64 x.c.rows) ∧ W'.cell? ⟨B, o + j * 6 + 3, none⟩ = some (.int .i64 x.c.size) ∧ W'.cell? ⟨B, o + j * 6 + 4, none⟩ = some (.int .i64 x.c.tl) ∧ W'.cell? ⟨B, o + j * 6 + 5, none⟩ = some (.string (txt x.c.file))) := fun W' hb => ⟨gr_cell (gr_of_below hb (Nat.le_refl _)) (hc 0 (by decide)), gr_cell (gr_of_below hb (Nat.le_refl _)) (hc 1 (by decide)), gr_cell (gr_of_below hb (Nat.le_refl _)) (hc 2 (by decide)), gr_cell (gr_of_below hb (Nat.le_refl _)) (hc 3 (by decide)), gr_cell (gr_of_below hb (Nat.le_refl _)) (hc 4 (by decide)), gr_cell (gr_of_below hb (Nat.le_refl _)) (hc 5 (by decide))⟩
      obtain ⟨d0, d1, d2, d3, d4, d5⟩ := hCC _ hbel.out
      clear hc
      have hnx := gd_next hx
      rw [← hgj.out] at hnx
      have hji : (j : Int) < (len0 : Int) := by omega
      have hj0 : (0 : Int) ≤ (j : Int) := by omega
      by_cases hok : okN x
      · skip
        rw [if_pos hok] at hnx
        have cL := fun W => dlay_ok x W hok
        have hfl : (Crc.frm (noteL x)).length ≤ 87 := by rw [frm_note_len]; have := (ok_bounds hok).2.2.2.2.2; omega
        have hsn := catN_snoc gj x
        have hbig : (9223372036854775807 < (catN gj).length + (Crc.frm (noteL x)).length) = False := eq_false (by omega)
        have hxc : nteC x = [.int .i64 x.kind, .int .i64 x.c.id, .int .i64 x.c.rows, .int .i64 x.c.size, .int .i64 x.c.tl, .string (txt x.c.file)] := rfl
        have hse := endsN_snoc gj x
        rw [hsn, List.length_append] at hse
        generalize Crc.frm (noteL x) = FF at *
        unfold nteV at cL
        generalize x.kind = x0 at *
        generalize x.c.id = x1 at *
        generalize x.c.rows = x2 at *
        generalize x.c.size = x3 at *
        generalize x.c.tl = x4 at *
        generalize x.c.file = x5 at *
        replace cL := Lib.hid cL
        replace hnx := Lib.hid hnx
        replace hsn := Lib.hid hsn
        replace hse := Lib.hid hse
        replace hok := Lib.hid hok
        replace hx := Lib.hid hx
        replace hxc := Lib.hid hxc
        replace hCC := Lib.hid hCC
        go_wp2_with fail
        refine (cL.out _).mono ?_
        rintro e W2 ⟨rfl, g2⟩
        have hown2 := hown.out.kept g2 (by cases u8.ownBlock <;> simp)
        have hogd2 := hogd.out.kept g2 (by cases u9.ownBlock <;> simp)
        have hbel2 := below_gr hbel.out g2 hbs (by simp)
        have hs2 := hbel2.size
        replace hown2 := Lib.hid hown2
        replace hogd2 := Lib.hid hogd2
        replace hbel2 := Lib.hid hbel2
        clear d0 d1 d2 d3 d4 d5 g2 cL
        go_upto_region 13 with (at_builtin; refine wpList_append_own _ rfl _ _ 25 rfl w.heap.size 3 kk (.int .i64 0) 1 8 Try.underlying25 hk kz0 kz1 kz2 rfl (by decide) u8 _ _ rfl (hown2.out.alloc _) ⟨W2.heap.size, 0, none⟩ 1 1 [.int .i64 (((catN gj).length : Int) + (FF.length : Int))] rfl rfl (cell_one_new _ _ _) (by simp [Value.oneCell']) (by unfold maxLen; omega) (by omega) (by simp; omega) ?_; intro vE WE hownE hgrE _nl; clear _nl; have hbE := hbel2.out.trans (below_append hown2.out hgrE hbel2.out.size); have hogdE := (hogd2.out.alloc (.cells #[.int .i64 (((catN gj).length : Int) + (FF.length : Int))] 3)).kept hgrE (own_types hogd2.out hown2.out (by decide)); clear hgrE; replace hownE := Lib.hid hownE; replace hbE := Lib.hid hbE; replace hogdE := Lib.hid hogdE)
        obtain ⟨d0, d1, d2, d3, d4, d5⟩ := hCC.out _ hbE.out
        have hsE := hbE.out.size
        go_wp2_with (at_builtin; refine wpList_append_own _ rfl _ _ 22 rfl w.heap.size 32 ii (.agg #[.int .i64 0, .int .i64 0, .int .i64 0, .int .i64 0, .int .i64 0, .string ⟨#[]⟩]) 6 56 Try.underlying22 hi hz0 hz1 hz2 rfl (by decide) u9 _ _ rfl (hogdE.out.alloc _) ⟨WE.heap.size, 0, none⟩ 1 1 [.int .i64 x0, .int .i64 x1, .int .i64 x2, .int .i64 x3, .int .i64 x4, .string (txt x5)] rfl rfl ?p1 ?p2 ?p3 ?p4 ?p5 ?_; rotate_right; intro vN WN hownN hgrN _nl; clear _nl; have hbN := hbE.out.trans (below_append hogdE.out hgrN hbE.out.size); have hownN2 := (hownE.out.alloc (.cells #[.int .i64 x0, .int .i64 x1, .int .i64 x2, .int .i64 x3, .int .i64 x4, .string (txt x5)] 32)).kept hgrN (own_types hownE.out hogdE.out (by decide)); replace hownN2 := Lib.hid hownN2; clear hgrN; replace hownN := Lib.hid hownN; replace hbN := Lib.hid hbN)
        try (case p1 =>
          intro j u hj
          have hjl := (List.getElem?_eq_some_iff.1 hj).1
          rw [add_plain, Nat.zero_add, World.cell?_alloc_new]
          simpa using hj)
        case p2 => rw [← hxc.out]; exact nteC_ones _
        case p3 => unfold maxLen; omega
        case p4 => omega
        case p5 => first | omega | (simp; omega)
        go_roundw
        case rel =>
          refine ⟨j + 1, gj ++ [x], by omega, by go_num, Lib.hid hnx.out.symm, by rw [hsn.out], ?_, ?_, hbN.out⟩
          · rw [hse.out, List.map_append, List.length_append, List.length_singleton]
            exact hownN2.out
          · rw [sR_append, sR_one, hxc.out, List.length_append, List.length_singleton]
            exact hownN.out
        case measure => simp [intOf]; omega
      · rw [if_neg hok, List.append_nil] at hnx
        have cL := fun W => dlay_bad x W hok
        unfold nteV at cL
        generalize x.kind = x0 at *
        generalize x.c.id = x1 at *
        generalize x.c.rows = x2 at *
        generalize x.c.size = x3 at *
        generalize x.c.tl = x4 at *
        generalize x.c.file = x5 at *
        replace cL := Lib.hid cL
        replace hnx := Lib.hid hnx
        replace hok := Lib.hid hok
        replace hx := Lib.hid hx
        clear hCC
        go_wp2_with fail
        refine (cL.out _).mono ?_
        rintro e W2 ⟨rfl, g2⟩
        have hown2 := hown.out.kept g2 (by cases u8.ownBlock <;> simp)
        have hogd2 := hogd.out.kept g2 (by cases u9.ownBlock <;> simp)
        have hbel2 := below_gr hbel.out g2 hbs (by simp)
        replace hown2 := Lib.hid hown2
        replace hogd2 := Lib.hid hogd2
        replace hbel2 := Lib.hid hbel2
        clear d0 d1 d2 d3 d4 d5 g2 cL
        go_wp2
        go_roundw
        case rel => exact ⟨j + 1, gj, by omega, by go_num, Lib.hid hnx.out.symm, rfl, hown2.out, hogd2.out, hbel2.out⟩
        case measure => simp [intOf]; omega
    · obtain rfl : j = len0 := by omega
      have hG : gj = gd z0 j := hgj.out
      clear hgj
      obtain ⟨eA, ec, rfl, hec, hxs⟩ := own_open hown.out
      obtain ⟨gA, gc, rfl, hgc1, hgc2, hgc3⟩ := own_open3 hogd.out
      have hgrow := row_own hogd.out
      obtain ⟨wo, rfl⟩ : ∃ wo : World, wo = wr := ⟨_, rfl⟩
      replace hxs := Lib.hid hxs
      replace hec := Lib.hid hec
      replace hgrow := Lib.hid hgrow
      replace hG := Lib.hid hG
      replace hgc3 := Lib.hid hgc3
      obtain ⟨L, hL⟩ : ∃ L, L = catN gj := ⟨_, rfl⟩
      rw [← hL] at hcl2 ⊢
      replace hL := Lib.hid hL
      clear hown hogd
      go_upto_region 14 with fail
      go_cut [13] (fun s13 wx => ∃ K : Nat, s13 = .int .i64 K ∧ K ≤ L.length ∧ wo = wx)
      case first =>
        go_wp2_with fail
        go_meet
        obtain ⟨K, hK, hl⟩ := cut_place2 a2 L.length (by omega)
        exact ⟨K, by rw [← hK], hl, rfl⟩
      case rest =>
      obtain ⟨K, rfl, hK, rfl⟩ := hcut
      have hKi : (K : Int) ≤ (L.length : Int) := by omega
      have hKs : K ≤ (txt L).size := by rw [txt_size]; exact hK
      have hdat : (txt L).extract 0 K = txt (L.take K) := by
        have := sub_txt L 0 K
        simpa using this
      have cR := fun W => dread_any (L.take K) W (by rw [List.length_take]; omega)
      unfold ReadPost at cR
      have hQd : Hid (notesOf (L.take K) = notesOf (L.take K)) := Lib.hid rfl
      generalize hQ : notesOf (L.take K) = Q at *
      have hMd : Hid ((catN Q).length = (catN Q).length) := Lib.hid rfl
      clear hQd hMd
      replace hQ := Lib.hid hQ
      replace cR := Lib.hid cR
      go_wp2_with fail
      refine (cR.out _).mono ?_
      rintro e W5 ⟨v, rfl, hv, g5⟩
      obtain ⟨V, vc, rfl, hvc1, hvc2, hvc3⟩ := own_open3 hv
      have hvrow := Lib.hid (row_own hv)
      have hbel5 := Lib.hid (below_gr hbel.out g5 hbs (by simp))
      have hgrow5 := Lib.hid (row_gr hgrow.out g5)
      have hcells : ∀ q, q < gj.length → ∃ Be oe, eA = some ⟨Be, oe, none⟩ ∧ W5.cell? ⟨Be, oe + q, none⟩ = some (.int .i64 ((catN (gj.take (q + 1))).length : Nat)) := fun q hq => by
        obtain ⟨g, rfl, _, _, hgc⟩ := hxs.out q (.int .i64 ((catN (gj.take (q + 1))).length : Nat)) (by rw [List.getElem?_map, endsN_at hq]; rfl)
        exact ⟨g, 0, rfl, by rw [Nat.zero_add]; exact gr_cell g5 hgc⟩
      replace hcells := Lib.hid hcells
      replace hvc3 := Lib.hid hvc3
      clear hv cR g5 hxs hgrow hbel hdat
      go_wp2_with fail
      go_loopw [16, 17, 18] (fun wt en i wr => ∃ (q wn : Nat), q ≤ gj.length ∧ wn ≤ q ∧ i = .int .i64 q ∧ wt = .int .i64 wn ∧ en = .int .i64 ((catN (gj.take wn)).length : Nat) ∧ (catN (gj.take wn)).length ≤ K ∧ Hid (wn = q ∨ K < (catN (gj.take (wn + 1))).length) ∧ Hid (Gr W5 wr)) (fun _ _ i _ => gj.length - (intOf i).toNat)
      case atStart => exact ⟨0, 0, Nat.zero_le _, Nat.zero_le _, rfl, by rfl, by simp [catN, Crc.cat], by simp [catN, Crc.cat], Or.inl rfl, gr_refl _ _⟩
      case round =>
      obtain ⟨q, wn, hq, hwn, rfl, rfl, rfl, hle, hor, hg6⟩ := hrel
      by_cases hqt : q < gj.length
      · obtain ⟨Be, oe, rfl, hce⟩ := hcells.out q hqt
        have hce' := gr_cell hg6.out hce
        have hql : (q : Int) < (gj.length : Int) := by omega
        have hq0 : (0 : Int) ≤ (q : Int) := by omega
        have hq1 : IntKind.i64.wrap ((q : Int) + 1) = (q : Int) + 1 := IntWalk.i64_in _ (by omega)
        clear hce
        by_cases hE : (catN (gj.take (q + 1))).length ≤ K
        · have hEi : ((catN (gj.take (q + 1))).length : Int) ≤ (K : Int) := by omega
          go_wp2_with fail
          go_quiet (fail)
          go_wp2
          go_roundw
          case rel => exact ⟨q + 1, q + 1, by omega, Nat.le_refl _, by go_num, by go_num, rfl, hE, Or.inl rfl, gr_trans hg6.out (gr_drewN _ _ _)⟩
          case measure => simp [intOf]; omega
        · have hEi : ¬ ((catN (gj.take (q + 1))).length : Int) ≤ (K : Int) := by omega
          go_wp2
          go_roundw
          case rel => exact ⟨q + 1, wn, by omega, by omega, by go_num, rfl, rfl, hle, Or.inr (by rcases hor.out with h | h; subst h; omega; exact h), hg6.out⟩
          case measure => simp [intOf]; omega
      · obtain rfl : q = gj.length := by omega
        have hcn := cut_notes (l := gj) (K := K) (wn := wn) hgok.out (by rw [← hL.out]; exact hK) hwn hle hor.out
        rw [← hL.out, hQ.out] at hcn
        subst hcn
        have hPl : (gj.take wn).length = wn := by rw [List.length_take]; omega
        have hwi : (wn : Int) ≤ (gc : Int) := by omega
        have hxrow : Row wr V wn 6 (sR nteC (gj.take wn)) := by
          have := row_gr hvrow.out hg6.out
          rwa [hPl] at this
        have hgrow6 : Row wr gA wn 6 (sR nteC (gj.take wn)) := by
          have := row_take (row_gr hgrow5.out hg6.out) wn hwn
          rwa [← sR_take nteC 6 nteC_len] at this
        have cS := fun cv cg => sameNtes_yes V gA wn cv cg (gj.take wn) wr (by omega) hxrow hgrow6
        have hPs : (catN (gj.take wn)).length ≤ L.length := by omega
        have htc : (txt L).extract 0 (catN (gj.take wn)).length = txt (catN (gj.take wn)) := by
          have h1 := sub_txt L 0 (catN (gj.take wn)).length
          have h2 := take_cat gj wn
          rw [← hL.out] at h2
          simp only [Nat.zero_add, List.drop_zero] at h1
          rw [h1, h2]
        have hPok : ∀ x ∈ gj.take wn, okN x := fun x hx => hgok.out x (List.mem_of_mem_take hx)
        simp only [hPl]
        generalize gj.take wn = P at *
        replace hPok := Lib.hid hPok
        have hbel6 := below_gr hbel5.out hg6.out hbel5.out.size (by simp)
        have hPi : ((catN P).length : Int) ≤ (L.length : Int) := by omega
        have hPn : (catN P).length ≤ (txt L).size := by rw [txt_size]; exact hPs
        have hPe : (((catN P).length : Int) == ((catN P).length : Int)) = true := by simp
        replace hQ := Lib.hid hQ
        replace hle := Lib.hid hle
        replace cS := Lib.hid cS
        replace hxrow := Lib.hid hxrow
        replace hbel6 := Lib.hid hbel6
        replace hPl := Lib.hid hPl
        clear hgrow6 hor hcells hg6 hgrow5 hvrow hbel5
        go_wp2_with fail
        refine (cS.out _ _).mono ?_
        rintro e W7 ⟨rfl, g7⟩
        have hbel7 := below_gr hbel6.out g7 hbel6.out.size (by simp)
        have hxrow7 := row_gr hxrow.out g7
        have hs7 := hbel7.size
        replace hbel7 := Lib.hid hbel7
        replace hxrow7 := Lib.hid hxrow7
        clear hxrow g7 hbel6 cS
        have hwn60 : wn ≤ 60 := by omega
        go_wp2_with (at_builtin; refine wpList_append_row rfl _ _ 22 rfl w.heap.size 32 ii (.agg #[.int .i64 0, .int .i64 0, .int .i64 0, .int .i64 0, .int .i64 0, .string ⟨#[]⟩]) 6 56 Try.underlying22 hi hz0 hz1 hz2 rfl (by decide) (.slice none 0 0) 0 [] rfl (World.ownsRow_nil _ _ _ _) V wn vc (sR nteC P) rfl hvc3.out hxrow7.out (fun u hu => by obtain ⟨y, _, hy⟩ := List.mem_flatMap.1 hu; exact nteC_ones y u hy) wn (sR nteC P) (by omega) rfl (by unfold maxLen; omega) (by omega) hs7 ?_; intro vA W8 hown8 hg8; replace hown8 := Lib.hid hown8; have hg8' : Gr W7 W8 := hg8; have hbel8 := Lib.hid (below_gr hbel7.out hg8' hs7 (by simp)); clear hg8 hg8')
        go_loopw [19, 20, 21] (fun cv av iv wr => ∃ (j : Nat) (gm : List Nte), j ≤ len1 ∧ iv = .int .i64 j ∧ Hid (gm = gd z1 j) ∧ cv = .string (txt (catN (P ++ gm))) ∧ Hid (wr.ownsRow w.heap.size 32 6 av (wn + gm.length) (sR nteC (P ++ gm))) ∧ Hid (Below w.heap.size w wr)) (fun _ _ iv _ => len1 - (intOf iv).toNat)
        case atStart => exact ⟨0, [], Nat.zero_le _, rfl, rfl, by rw [List.append_nil], by rw [List.append_nil]; exact hown8.out, hbel8.out⟩
        case round =>
        obtain ⟨j, gm, hj, rfl, hgm, rfl, hown, hbel⟩ := hrel
        have hbs := hbel.out.size
        have hgl : gm.length ≤ 60 := by have := gd_len z1 j; rw [← hgm.out] at this; omega
        have hmok : ∀ x ∈ P ++ gm, okN x := fun x hx => by
          rcases List.mem_append.1 hx with h | h
          · exact hPok.out x h
          · rw [hgm.out] at h; exact gd_ok x h
        have hcl := catN_le hmok
        rw [List.length_append, hPl.out] at hcl
        have hcl3 : (catN (P ++ gm)).length ≤ 10440 := by omega
        clear hcl
        replace hmok := Lib.hid hmok
        by_cases hlt : j < len1
        · skip
          obtain ⟨x, B, o, hx, rfl, _, hc⟩ := rowS_elem nteC_len hr1.out (by decide) hlt
          have hCC : ∀ W', Below w.heap.size w W' → (W'.cell? ⟨B, o + j * 6, none⟩ = some (.int .i64 x.kind) ∧ W'.cell? ⟨B, o + j * 6 + 1, none⟩ = some (.int .i64 x.c.id) ∧ W'.cell? ⟨B, o + j * 6 + 2, none⟩ = some (.int .i64 x.c.rows) ∧ W'.cell? ⟨B, o + j * 6 + 3, none⟩ = some (.int .i64 x.c.size) ∧ W'.cell? ⟨B, o + j * 6 + 4, none⟩ = some (.int .i64 x.c.tl) ∧ W'.cell? ⟨B, o + j * 6 + 5, none⟩ = some (.string (txt x.c.file))) := fun W' hb => ⟨gr_cell (gr_of_below hb (Nat.le_refl _)) (hc 0 (by decide)), gr_cell (gr_of_below hb (Nat.le_refl _)) (hc 1 (by decide)), gr_cell (gr_of_below hb (Nat.le_refl _)) (hc 2 (by decide)), gr_cell (gr_of_below hb (Nat.le_refl _)) (hc 3 (by decide)), gr_cell (gr_of_below hb (Nat.le_refl _)) (hc 4 (by decide)), gr_cell (gr_of_below hb (Nat.le_refl _)) (hc 5 (by decide))⟩
          obtain ⟨d0, d1, d2, d3, d4, d5⟩ := hCC _ hbel.out
          clear hc
          have hnx := gd_next hx
          rw [← hgm.out] at hnx
          have hji : (j : Int) < (len1 : Int) := by omega
          have hj0 : (0 : Int) ≤ (j : Int) := by omega
          by_cases hok : okN x
          · skip
            rw [if_pos hok] at hnx
            have cL := fun W => dlay_ok x W hok
            have hfl : (Crc.frm (noteL x)).length ≤ 87 := by rw [frm_note_len]; have := (ok_bounds hok).2.2.2.2.2; omega
            have hsn := catN_snoc (P ++ gm) x
            have hbig : (9223372036854775807 < (catN (P ++ gm)).length + (Crc.frm (noteL x)).length) = False := eq_false (by omega)
            have hxc : nteC x = [.int .i64 x.kind, .int .i64 x.c.id, .int .i64 x.c.rows, .int .i64 x.c.size, .int .i64 x.c.tl, .string (txt x.c.file)] := rfl
            generalize Crc.frm (noteL x) = FF at *
            unfold nteV at cL
            generalize x.kind = x0 at *
            generalize x.c.id = x1 at *
            generalize x.c.rows = x2 at *
            generalize x.c.size = x3 at *
            generalize x.c.tl = x4 at *
            generalize x.c.file = x5 at *
            replace cL := Lib.hid cL
            replace hnx := Lib.hid hnx
            replace hsn := Lib.hid hsn
            replace hok := Lib.hid hok
            replace hx := Lib.hid hx
            replace hxc := Lib.hid hxc
            replace hCC := Lib.hid hCC
            go_wp2_with fail
            refine (cL.out _).mono ?_
            rintro e W2 ⟨rfl, g2⟩
            have hown2 := hown.out.kept g2 (by cases u20.ownBlock <;> simp)
            have hbel2 := below_gr hbel.out g2 hbs (by simp)
            have hs2 := hbel2.size
            replace hown2 := Lib.hid hown2
            replace hbel2 := Lib.hid hbel2
            clear d0 d1 d2 d3 d4 d5 g2 cL
            obtain ⟨d0, d1, d2, d3, d4, d5⟩ := hCC.out _ hbel2.out
            go_wp2_with (at_builtin; refine wpList_append_own _ rfl _ _ 22 rfl w.heap.size 32 ii (.agg #[.int .i64 0, .int .i64 0, .int .i64 0, .int .i64 0, .int .i64 0, .string ⟨#[]⟩]) 6 56 Try.underlying22 hi hz0 hz1 hz2 rfl (by decide) u20 _ _ rfl (hown2.out.alloc _) ⟨W2.heap.size, 0, none⟩ 1 1 [.int .i64 x0, .int .i64 x1, .int .i64 x2, .int .i64 x3, .int .i64 x4, .string (txt x5)] rfl rfl ?r1 ?r2 ?r3 ?r4 ?r5 ?_; rotate_right; intro vN WN hownN hgrN _nl; clear _nl; have hbN := hbel2.out.trans (below_append hown2.out hgrN hbel2.out.size); clear hgrN; replace hownN := Lib.hid hownN; replace hbN := Lib.hid hbN)
            try (case r1 =>
              intro j u hj
              have hjl := (List.getElem?_eq_some_iff.1 hj).1
              rw [add_plain, Nat.zero_add, World.cell?_alloc_new]
              simpa using hj)
            case r2 => rw [← hxc.out]; exact nteC_ones _
            case r3 => unfold maxLen; omega
            case r4 => omega
            case r5 => first | omega | (simp; omega)
            go_roundw
            case rel =>
              refine ⟨j + 1, gm ++ [x], by omega, by go_num, Lib.hid hnx.out.symm, by rw [← List.append_assoc, hsn.out], ?_, hbN.out⟩
              rw [← List.append_assoc, sR_append, sR_one, hxc.out, List.length_append, List.length_singleton, ← Nat.add_assoc]
              exact hownN.out
            case measure => simp [intOf]; omega
          · rw [if_neg hok, List.append_nil] at hnx
            have cL := fun W => dlay_bad x W hok
            unfold nteV at cL
            generalize x.kind = x0 at *
            generalize x.c.id = x1 at *
            generalize x.c.rows = x2 at *
            generalize x.c.size = x3 at *
            generalize x.c.tl = x4 at *
            generalize x.c.file = x5 at *
            replace cL := Lib.hid cL
            replace hnx := Lib.hid hnx
            replace hok := Lib.hid hok
            replace hx := Lib.hid hx
            clear hCC
            go_wp2_with fail
            refine (cL.out _).mono ?_
            rintro e W2 ⟨rfl, g2⟩
            have hown2 := hown.out.kept g2 (by cases u20.ownBlock <;> simp)
            have hbel2 := below_gr hbel.out g2 hbs (by simp)
            replace hown2 := Lib.hid hown2
            replace hbel2 := Lib.hid hbel2
            clear d0 d1 d2 d3 d4 d5 g2 cL
            go_wp2
            go_roundw
            case rel => exact ⟨j + 1, gm, by omega, by go_num, Lib.hid hnx.out.symm, rfl, hown2.out, hbel2.out⟩
            case measure => simp [intOf]; omega
        · obtain rfl : j = len1 := by omega
          have cR2 := fun W => dread_any (catN (P ++ gm)) W (by omega)
          unfold ReadPost at cR2
          rw [notes_whole hmok.out] at cR2
          have hQl : (P ++ gm).length = wn + gm.length := by rw [List.length_append, hPl.out]
          rw [hQl] at cR2
          obtain ⟨aA, ac, rfl, _, _, _⟩ := own_open3 hown.out
          have harow := row_own hown.out
          generalize P ++ gm = QQ at *
          have hQe : (((catN QQ).length : Int) == ((catN QQ).length : Int)) = true := by simp
          replace cR2 := Lib.hid cR2
          replace harow := Lib.hid harow
          clear hown
          go_wp2_with fail
          refine (cR2.out _).mono ?_
          rintro e W9 ⟨yv, rfl, hy, g9⟩
          obtain ⟨yA, yc, rfl, _, _, _⟩ := own_open3 hy
          have cS2 := sameNtes_yes yA aA (wn + gm.length) yc ac QQ W9 (by omega) (row_own hy) (row_gr harow.out g9)
          have hbel9 := below_gr hbel.out g9 hbs (by simp)
          replace cS2 := Lib.hid cS2
          replace hbel9 := Lib.hid hbel9
          clear hy g9 cR2 harow hbel
          go_wp2_with fail
          refine cS2.out.mono ?_
          rintro e W10 ⟨rfl, g10⟩
          go_wp2
          go_ret
          exact ⟨rfl, below_gr hbel9.out g10 hbel9.out.size (by simp)⟩



set_option maxRecDepth 100000 in
theorem lifted (os : Os) (started : os.Started) (H : Type) (enc : TypeId × Value → H) :
    ReturnsInHanded {} Try.checked os 3 .any (Rows.diaryCutsSpec.pre6 enc Try.prog Try.f3 Rows.diaryCutsRow.domain false) (Rows.diaryCutsSpec.post enc Try.prog Try.f3 false true false false) := by
  refine returnsInHanded_of_change (C := Try.checked) own started (by kernel_rfl) Try.func3
    (ChangeSpec.witness6 (enc := enc) (C := Try.checked) false ⟨#[], #[.slice none 0 0, .slice none 0 0, .int .i64 0], []⟩ 8 (by kernel_rfl) (by kernel_rfl) (by kernel_rfl) (by kernel_rfl)) ?_
  intro W base args ds gs before hval0 hW hcnd _
  have hval : ∀ (j : Nat) t v, Try.f3.params[j]? = some t → args[j]? = some v → Value.okWide Try.prog W .any base t v := hval0
  have hW' := hW
  obtain ⟨p, q, hA0, hV, rfl, hfz, hnd⟩ := hW
  have hA : DataW.TrodAll enc Try.prog W 0 (fun _ => true) true Try.f3.params.toList args.toList ds p := hA0
  rw [Try.params3] at hA hval
  obtain ⟨v0, vs0, d0, ds0, p0, q0, hargs, rfl, rfl, h0, r0⟩ := trodAll_cons hA
  obtain ⟨v1, vs1, d1, ds1, p1, q1, rfl, rfl, rfl, h1, r1⟩ := trodAll_cons r0
  obtain ⟨v2, vs2, d2, ds2, p2, q2, rfl, rfl, rfl, h2, r2⟩ := trodAll_cons r1
  obtain ⟨rfl, rfl, rfl⟩ := trodAll_nil r2
  obtain rfl : args = #[v0, v1, v2] := by cases args; simp_all
  obtain ⟨rfl, rfl⟩ := trodVars_none hV
  obtain ⟨a0, len0, cap0, rfl⟩ := okWide_slice Try.underlying22 (hval 0 22 v0 rfl rfl)
  have k0 := h0
  have lt0 : ∀ x ∈ p0, x.block < W.heap.size := by obtain ⟨m, hm⟩ := k0; exact DataW.trod_lt m _ _ _ hm
  obtain ⟨z0, w0⟩ := ntes_open h0
  obtain ⟨a1, len1, cap1, rfl⟩ := okWide_slice Try.underlying22 (hval 1 22 v1 rfl rfl)
  have k1 := h1
  have lt1 : ∀ x ∈ p1, x.block < W.heap.size := by obtain ⟨m, hm⟩ := k1; exact DataW.trod_lt m _ _ _ hm
  obtain ⟨z1, w1⟩ := ntes_open h1
  obtain ⟨a2, rfl, rfl, rfl, w2⟩ := open_int Try.underlying3 (hval 2 3 v2 rfl rfl) h2
  clear hA0 hval0
  refine (walk W a0 len0 cap0 z0 w0 a1 len1 cap1 z1 w1 a2 w2).mono fun e W' ⟨he, bel⟩ => ?_
  subst he
  exact ⟨_, rfl, _, _, _, [], _, [], hW', trodAll_mk1 (shut_bool Try.underlying4 _), (trodAll_cons_mk (Below.trod laidOut (by kernel_rfl) (of_decide_eq_true (by kernel_rfl)) k0 bel lt0) (trodAll_cons_mk (Below.trod laidOut (by kernel_rfl) (of_decide_eq_true (by kernel_rfl)) k1 bel lt1) (trodAll_cons_mk (shut_int Try.underlying3 w2) trodAll_mk0))), rfl, bel.frame _, fun h => by cases h⟩

theorem over : Rows.diaryCutsRow.holds Try.pinned (OpenSpec.ofChange Rows.diaryCutsSpec) :=
  OpenClaim.holds_of_wide 3 Try.f3 rfl rfl rfl rfl rfl rfl rfl ⟨rfl, rfl, rfl, rfl, rfl⟩ rfl rfl rfl rfl rfl (by kernel_rfl) Try.func3 (by kernel_rfl)
    (of_decide_eq_true (by kernel_rfl)) (by unfold Func.isWrapper; first | (rw [if_pos (by decide +kernel)]; kernel_rfl) | (rw [if_neg (by decide +kernel)]; exact ⟨rfl, rfl⟩))
    (fun os started H enc _ => lifted os started H enc)

/-- THE STATEMENT -/
theorem proved : Rows.DiaryCutsSaid := over
#print axioms proved
end Go.Proofs.Ytboemalcgplaaaa.diaryCuts

