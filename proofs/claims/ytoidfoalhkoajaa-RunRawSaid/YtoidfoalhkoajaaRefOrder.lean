/-
  The document's order of rows (the rows that come are of those handed in). No condition but bounds on the lengths.
-/
import Derived.Test.YtoidfoalhkoajaaRefRight
import Derived.Test.YtoidfoalhkoajaaRowRows
namespace Go.Proofs.Ytoidfoalhkoajaa
open Go.RowKit

theorem infoRow3 : (Try.prog.info? 40).map (fun i => (i.zero, i.size, i.bytes)) = some (some (.agg #[.slice none 0 0, .int .i64 0]), 2, 32) := by kernel_rfl
theorem hds_ones (zs : List Hd) : ∀ u ∈ sR hdC zs, u.oneCell' = true := fun u hu => by
  obtain ⟨x, _, hx⟩ := List.mem_flatMap.1 hu
  exact hdC_ones x u hx
def OrderPost (n : Nat) (hs : List Hd) (w : World) (e : Ending) (w' : World) : Prop :=
  ((∃ v hs1, e = .returned (.tuple #[v, .int .i64 0]) ∧ (∀ h ∈ hs1, h ∈ hs) ∧ hs1.length = n ∧ w'.ownsRow w.heap.size 40 2 v n (sR hdC hs1)) ∨ e = .returned (.tuple #[.slice none 0 0, .int .i64 6])) ∧ Gr w w'
set_option maxHeartbeats 32000000 in
set_option maxRecDepth 100000 in
theorem order7_any (A : Option Addr) (n c : Nat) (hs : List Hd) (w : World) (hn : n ≤ 1000000000) (hz : Row w A n 2 (sR hdC hs)) (hP : ∀ h ∈ hs, ∃ r, HdOk w h r ∧ r.l.length ≤ 1000000000) :
    Calls Try.prog 48 #[.slice A n c] w (OrderPost n hs w) := by
  obtain ⟨ii, hi, hz0, hz1, hz2⟩ := info_parts infoRow3
  have hl : hs.length = n := by have := hz.1; rw [sR_len hdC 2 hdC_len] at this; omega
  have hcmp : ∀ h1 ∈ hs, ∀ h2 ∈ hs, ∃ r : Int, ∀ W, Gr w W → Calls Try.prog 57 #[.slice h1.A h1.n h1.c, .slice h2.A h2.n h2.c] W fun e w' => e = .returned (.int .i64 r) ∧ Gr W w' := fun h1 m1 h2 m2 => by
    obtain ⟨r1, k1, l1⟩ := hP h1 m1
    obtain ⟨r2, k2, l2⟩ := hP h2 m2
    exact ⟨cmpLs r1.l r2.l, fun W g => refCompare_any h1.A h2.A h1.n h2.n h1.c h2.c r1.l r2.l W (by rw [k1.n]; exact l1) (by rw [k2.n]; exact l2) (row_gr k1.row g) (row_gr k2.row g)⟩
  replace hl := Lib.hid hl
  replace hz := Lib.hid hz
  replace hcmp := Lib.hid hcmp
  clear hP
  go_enter Try.func48, Try.ntmps48
  go_wp2
  go_loopw [4, 5] (fun ov iv wr => ∃ (k : Nat) (z1 : List Hd) (A' : Option Addr) (c' : Nat), k ≤ n ∧ iv = .int .i64 k ∧ ov = .slice A' k c' ∧ Hid (∀ h ∈ z1, h ∈ hs) ∧ Hid (z1.length = k) ∧ Hid (wr.ownsRow w.heap.size 40 2 (.slice A' k c') k (sR hdC z1)) ∧ Hid (Gr w wr)) (fun _ iv _ => n - (intOf iv).toNat)
  case atStart => exact ⟨0, [], none, 0, Nat.zero_le _, rfl, rfl, (by intro x hx; simp at hx), rfl, World.ownsRow_nil _ _ _ _, gr_refl _ _⟩
  case round =>
    obtain ⟨k, z1, A', c', hk, rfl, rfl, hm, hz1l, ho, hg⟩ := hrel
    obtain ⟨A'', c'', hve, hkc, hcm, hnone⟩ := own_sliceS ho.out
    injection hve with e1 _ e2
    subst e1 e2
    replace hnone := Lib.hid hnone
    by_cases hlt : k < n
    · obtain ⟨x, gA, oA, hx, rfl, _, ha⟩ := rowS_elem hdC_len hz.out (by decide) hlt
      have a0 : w.cell? ⟨gA, oA + k * 2, none⟩ = some (.slice x.A x.n x.c) := ha 0 (by decide)
      have a1 : w.cell? ⟨gA, oA + k * 2 + 1, none⟩ = some (.int .i64 x.v) := ha 1 (by decide)
      have hki : (k : Int) < (n : Int) := by omega
      have hk0 : (0 : Int) ≤ (k : Int) := by omega
      have hxm := List.mem_of_getElem? hx
      replace a0 := Lib.hid a0
      replace a1 := Lib.hid a1
      replace hxm := Lib.hid hxm
      clear ha hx
      go_wp2
      go_loopw [6] (fun jv W => ∃ q : Nat, q ≤ k ∧ jv = .int .i64 q ∧ Hid (W.ownsRow w.heap.size 40 2 (.slice A' k c') k (sR hdC z1)) ∧ Hid (Gr w W)) (fun jv _ => (intOf jv).toNat)
      case atStart => exact ⟨k, Nat.le_refl _, rfl, ho.out, hg.out⟩
      case round =>
        obtain ⟨q, hq, rfl, ho2, hgi⟩ := hrel
        clear ho hg
        have hq0 : (0 : Int) ≤ (q : Int) := by omega
        have hqc : (q : Int) ≤ (c' : Int) := by omega
        have hqk' : (q : Int) ≤ (k : Int) := by omega
        by_cases hqz : q = 0
        · have hqf : ((0 : Int) < (q : Int)) = False := eq_false (by omega)
          have hqf2 : (0 < q) = False := eq_false (by omega)
          replace hqz := Lib.hid hqz
          go_wp2_with fail
          refine wp_region_quiet_gr (by kernel_rfl) (by kernel_rfl) ?_
          repeat (go_big_quiet_step (fail))
          refine wpQuiet_nil ?_
          intro wq hW_wq
          obtain ⟨⟨p_wq, gq⟩, rfl⟩ := hW_wq
          go_wp2_with fail
          refine wp_region_quiet_gr (by kernel_rfl) (by kernel_rfl) ?_
          repeat (go_big_quiet_step (fail))
          refine wpQuiet_nil ?_
          intro wo3 hW_wo3
          obtain ⟨⟨p_wo3, gq2⟩, rfl⟩ := hW_wo3
          have hg23 := gr_trans hgi.out (gr_trans gq gq2)
          have ho3 := ho2.out.kept (gr_trans gq gq2) (Classical.em _)
          have hmn : ∀ h ∈ z1.take q ++ [x] ++ z1.drop q, h ∈ hs := fun h hh => by
            rcases List.mem_append.1 hh with hh | hh
            · rcases List.mem_append.1 hh with hh | hh
              · exact hm.out h (List.mem_of_mem_take hh)
              · rw [List.mem_singleton.1 hh]; exact hxm.out
            · exact hm.out h (List.mem_of_mem_drop hh)
          have hln : (z1.take q ++ [x] ++ z1.drop q).length = k + 1 := by
            have h9 := hz1l.out
            rw [List.length_append, List.length_append, List.length_take, List.length_drop, h9]; simp; omega
          have h0 := gr_cell hg23 a0.out
          have h1 := gr_cell hg23 a1.out
          have hrt : Row wo3 A' q 2 (sR hdC (z1.take q)) := by rw [sR_take hdC 2 hdC_len]; exact row_take (row_own ho3) q hq
          have hrd : ∀ _u : Unit, Row wo3 (if c' = q then A' else Option.map (fun z => z.add (q * 2)) A') (k - q) 2 (sR hdC (z1.drop q)) := fun _ => row_rest hdC_len (by decide) (row_own ho3) hq hkc
          have hao : ∀ _u : Unit, (if c' = q then A' else Option.map (fun z => z.add (q * 2)) A') = none → c' - q = 0 := fun _ h => by
            have h9 := hnone.out
            cases A' with
            | none => have := h9 rfl; omega
            | some a' => split at h <;> simp at h
          have hGw := hg23
          replace h0 := Lib.hid h0
          replace h1 := Lib.hid h1
          replace hrt := Lib.hid hrt
          replace hrd := Lib.hid hrd
          replace hao := Lib.hid hao
          replace hGw := Lib.hid hGw
          replace hmn := Lib.hid hmn
          replace hln := Lib.hid hln
          clear ho3 hg23
          go_wp2_with fail
          have hb0 : SL wo3 gA (oA + k * 2) (.slice x.A x.n x.c) (.int .i64 x.v) wo3 := sl_of h0.out h1.out (gr_refl _ _)
          go_region_held3 (fun w' => Gr wo3 w' ∧ w'.cell? ⟨gA, oA + k * 2, none⟩ = some (.slice x.A x.n x.c) ∧ w'.cell? ⟨gA, oA + k * 2 + 1, none⟩ = some (.int .i64 x.v)) (first | assumption | exact sl_drew (wo := wo3) (B := gA) (o := oA + k * 2) (u0 := .slice x.A x.n x.c) (u1 := .int .i64 x.v) (by assumption) | exact sl_alloc (wo := wo3) (B := gA) (o := oA + k * 2) (u0 := .slice x.A x.n x.c) (u1 := .int .i64 x.v) (by assumption) _) (first | (refine step_append_rowS (o := ⟨some 54, _, _, _, _, _⟩) (by rfl) _ _ 23 (by rfl) wo3.heap.size 40 ii (.agg #[.slice none 0 0, .int .i64 0]) 2 32 Try.underlying23 hi hz0 hz1 hz2 rfl (by decide) (.slice none 0 0) (0) ([]) (by rfl) (by exact World.ownsRow_nil _ _ _ _) _ _ _ (sR hdC (z1.take q)) (by rfl) (by exact hnone.out) (by exact row_gr hrt.out (sl_gr (show SL wo3 gA (oA + k * 2) (.slice x.A x.n x.c) (.int .i64 x.v) _ from by assumption))) (hds_ones _) (q) (sR hdC (z1.take q)) (by omega) (by rfl) (by unfold maxLen; omega) (by omega) (by exact (sl_gr (show SL wo3 gA (oA + k * 2) (.slice x.A x.n x.c) (.int .i64 x.v) _ from by assumption)).size) ?_; intro v1 W1 hown1 hgrow1; have hsf1 := sl_grown h0.out h1.out (show SL wo3 gA (oA + k * 2) (.slice x.A x.n x.c) (.int .i64 x.v) _ from by assumption) hgrow1 (by simp [Value.ownBlock])) | (refine step_append_rowS (o := ⟨some 60, _, _, _, _, _⟩) (by rfl) _ _ 23 (by rfl) wo3.heap.size 40 ii (.agg #[.slice none 0 0, .int .i64 0]) 2 32 Try.underlying23 hi hz0 hz1 hz2 rfl (by decide) v1 (q) (sR hdC (z1.take q)) (by rfl) (by first | exact hown1 | exact hown1.alloc _ | exact (hown1.kept (gr_drew W1 none) (Classical.em _)).alloc _ | exact (hown1.alloc _).kept (gr_drew _ none) (Classical.em _)) _ _ _ (hdC x) (by rfl) (by intro e; cases e) (by first | exact row_newS hdC_len W1 x 40 | exact row_gr (by exact row_heapS (w := wo3.alloc (.cells (hdC x).toArray 40)) (by rfl) (row_newS hdC_len wo3 x 40)) hgrow1 | exact row_gr (row_newS hdC_len W1 x 40) (gr_drew _ none)) (hdC_ones _) (q + 1) (sR hdC (z1.take q ++ [x])) (by omega) (by rw [sR_append, sR_one]) (by unfold maxLen; omega) (by omega) (by exact (sl_gr (show SL wo3 gA (oA + k * 2) (.slice x.A x.n x.c) (.int .i64 x.v) _ from by assumption)).size) ?_; intro v2 W2 hown2 hgrow2; have hsf2 := sl_grown h0.out h1.out (show SL wo3 gA (oA + k * 2) (.slice x.A x.n x.c) (.int .i64 x.v) _ from by assumption) hgrow2 (fun j hj => (hown1.lt j hj).1)) | (refine step_append_rowS (o := ⟨some 64, _, _, _, _, _⟩) (by rfl) _ _ 23 (by rfl) wo3.heap.size 40 ii (.agg #[.slice none 0 0, .int .i64 0]) 2 32 Try.underlying23 hi hz0 hz1 hz2 rfl (by decide) v2 (q + 1) (sR hdC (z1.take q ++ [x])) (by rfl) (by first | exact hown2 | exact hown2.kept (gr_drew W2 none) (Classical.em _)) _ _ _ (sR hdC (z1.drop q)) (by rfl) (by exact hao.out ()) (by exact row_gr (hrd.out ()) (sl_gr (show SL wo3 gA (oA + k * 2) (.slice x.A x.n x.c) (.int .i64 x.v) _ from by assumption))) (hds_ones _) (k + 1) (sR hdC (z1.take q ++ [x] ++ z1.drop q)) (by omega) (by rw [sR_append hdC (z1.take q ++ [x])]) (by unfold maxLen; omega) (by omega) (by exact (sl_gr (show SL wo3 gA (oA + k * 2) (.slice x.A x.n x.c) (.int .i64 x.v) _ from by assumption)).size) ?_; intro v3 W3 hown3 hgrow3; have hsf3 := sl_grown h0.out h1.out (show SL wo3 gA (oA + k * 2) (.slice x.A x.n x.c) (.int .i64 x.v) _ from by assumption) hgrow3 (fun j hj => (hown2.lt j hj).1)))
          all_goals
            obtain ⟨A3, c3, rfl, hc31, _, hn3⟩ := own_sliceS hown3
            have hG3 := sl_gr (wo := wo3) (B := gA) (o := oA + k * 2) (u0 := .slice x.A x.n x.c) (u1 := .int .i64 x.v) hsf3
            have hG4 := gr_trans hGw.out hG3
            have hown4 := own_mono hown3 hGw.out.size
            replace hG4 := Lib.hid hG4
            replace hown4 := Lib.hid hown4
            clear hown3 hgrow3 hown2 hgrow2 hown1 hgrow1 hsf1 hsf2 hsf3 hb0 hG3
            go_wp2
            go_roundw
            case rel => exact ⟨k + 1, z1.take q ++ [x] ++ z1.drop q, A3, c3, by omega, by go_num, rfl, hmn.out, hln.out, hown4.out, hG4.out⟩
            case measure => simp [intOf]; omega
        · obtain ⟨j, hj⟩ : ∃ j, q = j + 1 := ⟨q - 1, by omega⟩
          have hqp : (0 : Int) < (q : Int) := by omega
          have hqp2 : 0 < q := by omega
          obtain ⟨y, gB, oB, hy, rfl, _, hb⟩ := rowS_elem hdC_len (row_own ho2.out) (by decide) (show j < k by omega)
          have b0 : wr.cell? ⟨gB, oB + j * 2, none⟩ = some (.slice y.A y.n y.c) := hb 0 (by decide)
          have hym := hm.out y (List.mem_of_getElem? hy)
          obtain ⟨r, hr⟩ := hcmp.out y hym x hxm.out
          have d0 : ∀ p : Grown wr, p.wd.cell? ⟨gA, oA + k * 2, none⟩ = some (.slice x.A x.n x.c) := fun p => cell_to (gr_cell hgi.out a0.out) p
          have d1 : ∀ p : Grown wr, p.wd.cell? ⟨gB, oB + j * 2, none⟩ = some (.slice y.A y.n y.c) := fun p => cell_to b0 p
          have hC : ∀ p : Grown wr, Calls Try.prog 57 #[.slice y.A y.n y.c, .slice x.A x.n x.c] p.wd fun e w' => e = .returned (.int .i64 r) ∧ Gr p.wd w' := fun p => hr p.wd (gr_trans hgi.out p.gr)
          have hj1 : (q : Int) - 1 = (j : Int) := by omega
          have hj2 : (j : Int) < (k : Int) := by omega
          have hj3 : (0 : Int) ≤ (j : Int) := by omega
          have hj4 : IntKind.i64.wrap (j : Int) = (j : Int) := IntWalk.i64_in _ (by omega)
          replace hC := Lib.hid hC
          replace hr := Lib.hid hr
          replace b0 := Lib.hid b0
          replace hj := Lib.hid hj
          replace hqz := Lib.hid hqz
          clear hb hy hym
          by_cases hr0 : 0 < r
          · go_wp2_with fail
            refine wp_region_quiet_gr (by kernel_rfl) (by kernel_rfl) ?_
            repeat (go_big_quiet_step ((go_at_call 57; exact calls_gr (hC.out _))))
            refine wpQuiet_nil ?_
            intro wq hW_wq
            obtain ⟨⟨p_wq, gq⟩, rfl⟩ := hW_wq
            have G1 := gr_trans hgi.out gq
            have ho3 := ho2.out.kept gq (Classical.em _)
            replace ho3 := Lib.hid ho3
            replace G1 := Lib.hid G1
            clear d0 d1 hC b0
            go_wp2
            go_roundw
            case rel => exact ⟨j, by omega, by go_num, ho3.out, G1.out⟩
            case measure => simp [intOf]; have := hj.out; omega
          · have hr1 : ((0 : Int) < r) = False := eq_false hr0
            go_wp2_with fail
            refine wp_region_quiet_gr (by kernel_rfl) (by kernel_rfl) ?_
            repeat (go_big_quiet_step ((go_at_call 57; exact calls_gr (hC.out _))))
            refine wpQuiet_nil ?_
            intro wq hW_wq
            obtain ⟨⟨p_wq, gq⟩, rfl⟩ := hW_wq
            have G1 := gr_trans hgi.out gq
            have d0' : ∀ p : Grown wq, p.wd.cell? ⟨gA, oA + k * 2, none⟩ = some (.slice x.A x.n x.c) := fun p => cell_to (gr_cell G1 a0.out) p
            have d1' : ∀ p : Grown wq, p.wd.cell? ⟨gB, oB + j * 2, none⟩ = some (.slice y.A y.n y.c) := fun p => cell_to (gr_cell gq b0.out) p
            have hC' : ∀ p : Grown wq, Calls Try.prog 57 #[.slice y.A y.n y.c, .slice x.A x.n x.c] p.wd fun e w' => e = .returned (.int .i64 r) ∧ Gr p.wd w' := fun p => hr.out p.wd (gr_trans G1 p.gr)
            replace hC' := Lib.hid hC'
            replace G1 := Lib.hid G1
            clear d0 d1 hC
            by_cases hre : r = 0
            · have hre2 : (r == 0) = true := by rw [hre]; rfl
              replace hre := Lib.hid hre
              go_wp2_with fail
              refine wp_region_quiet_gr (by kernel_rfl) (by kernel_rfl) ?_
              repeat (go_big_quiet_step ((go_at_call 57; exact calls_gr (hC'.out _))))
              refine wpQuiet_nil ?_
              intro wo3 hW_wo3
              obtain ⟨⟨p_wo3, gq2⟩, rfl⟩ := hW_wo3
              go_wp2
              go_ret2
              exact ⟨.inr rfl, gr_trans G1.out gq2⟩
            · have hre2 : (r == 0) = false := eqF hre
              replace hre := Lib.hid hre
              go_wp2_with fail
              refine wp_region_quiet_gr (by kernel_rfl) (by kernel_rfl) ?_
              repeat (go_big_quiet_step ((go_at_call 57; exact calls_gr (hC'.out _))))
              refine wpQuiet_nil ?_
              intro wo3 hW_wo3
              obtain ⟨⟨p_wo3, gq2⟩, rfl⟩ := hW_wo3
              have hg23 := gr_trans G1.out gq2
              have ho3 := ho2.out.kept (gr_trans gq gq2) (Classical.em _)
              clear d0' d1' hC' hj1 hj4
              have hmn : ∀ h ∈ z1.take q ++ [x] ++ z1.drop q, h ∈ hs := fun h hh => by
                rcases List.mem_append.1 hh with hh | hh
                · rcases List.mem_append.1 hh with hh | hh
                  · exact hm.out h (List.mem_of_mem_take hh)
                  · rw [List.mem_singleton.1 hh]; exact hxm.out
                · exact hm.out h (List.mem_of_mem_drop hh)
              have hln : (z1.take q ++ [x] ++ z1.drop q).length = k + 1 := by
                have h9 := hz1l.out
                rw [List.length_append, List.length_append, List.length_take, List.length_drop, h9]; simp; omega
              have h0 := gr_cell hg23 a0.out
              have h1 := gr_cell hg23 a1.out
              have hrt : Row wo3 (some ⟨gB, oB, none⟩) q 2 (sR hdC (z1.take q)) := by rw [sR_take hdC 2 hdC_len]; exact row_take (row_own ho3) q hq
              have hrd : ∀ _u : Unit, Row wo3 (if c' = q then some ⟨gB, oB, none⟩ else some ⟨gB, oB + q * 2, none⟩) (k - q) 2 (sR hdC (z1.drop q)) := fun _ => by
                have h9 := row_rest hdC_len (by decide) (row_own ho3) hq hkc
                by_cases hcq : c' = q
                · rw [if_pos hcq] at h9 ⊢; exact h9
                · rw [if_neg hcq] at h9 ⊢
                  rw [show (Option.map (fun z => z.add (q * 2)) (some (⟨gB, oB, none⟩ : Addr))) = some ⟨gB, oB + q * 2, none⟩ from congrArg some (add_plain gB oB (q * 2))] at h9
                  exact h9
              have hao : ∀ _u : Unit, (if c' = q then some (⟨gB, oB, none⟩ : Addr) else some ⟨gB, oB + q * 2, none⟩) = none → c' - q = 0 := fun _ h => by split at h <;> cases h
              have hGw := hg23
              replace h0 := Lib.hid h0
              replace h1 := Lib.hid h1
              replace hrt := Lib.hid hrt
              replace hrd := Lib.hid hrd
              replace hao := Lib.hid hao
              replace hGw := Lib.hid hGw
              replace hmn := Lib.hid hmn
              replace hln := Lib.hid hln
              clear ho3 hg23
              go_wp2_with fail
              have hb0 : SL wo3 gA (oA + k * 2) (.slice x.A x.n x.c) (.int .i64 x.v) wo3 := sl_of h0.out h1.out (gr_refl _ _)
              go_region_held3 (fun w' => Gr wo3 w' ∧ w'.cell? ⟨gA, oA + k * 2, none⟩ = some (.slice x.A x.n x.c) ∧ w'.cell? ⟨gA, oA + k * 2 + 1, none⟩ = some (.int .i64 x.v)) (first | assumption | exact sl_drew (wo := wo3) (B := gA) (o := oA + k * 2) (u0 := .slice x.A x.n x.c) (u1 := .int .i64 x.v) (by assumption) | exact sl_alloc (wo := wo3) (B := gA) (o := oA + k * 2) (u0 := .slice x.A x.n x.c) (u1 := .int .i64 x.v) (by assumption) _) (first | (refine step_append_rowS (o := ⟨some 54, _, _, _, _, _⟩) (by rfl) _ _ 23 (by rfl) wo3.heap.size 40 ii (.agg #[.slice none 0 0, .int .i64 0]) 2 32 Try.underlying23 hi hz0 hz1 hz2 rfl (by decide) (.slice none 0 0) (0) ([]) (by rfl) (by exact World.ownsRow_nil _ _ _ _) _ _ _ (sR hdC (z1.take q)) (by rfl) (by exact hnone.out) (by exact row_gr hrt.out (sl_gr (show SL wo3 gA (oA + k * 2) (.slice x.A x.n x.c) (.int .i64 x.v) _ from by assumption))) (hds_ones _) (q) (sR hdC (z1.take q)) (by omega) (by rfl) (by unfold maxLen; omega) (by omega) (by exact (sl_gr (show SL wo3 gA (oA + k * 2) (.slice x.A x.n x.c) (.int .i64 x.v) _ from by assumption)).size) ?_; intro v1 W1 hown1 hgrow1; have hsf1 := sl_grown h0.out h1.out (show SL wo3 gA (oA + k * 2) (.slice x.A x.n x.c) (.int .i64 x.v) _ from by assumption) hgrow1 (by simp [Value.ownBlock])) | (refine step_append_rowS (o := ⟨some 60, _, _, _, _, _⟩) (by rfl) _ _ 23 (by rfl) wo3.heap.size 40 ii (.agg #[.slice none 0 0, .int .i64 0]) 2 32 Try.underlying23 hi hz0 hz1 hz2 rfl (by decide) v1 (q) (sR hdC (z1.take q)) (by rfl) (by first | exact hown1 | exact hown1.alloc _ | exact (hown1.kept (gr_drew W1 none) (Classical.em _)).alloc _ | exact (hown1.alloc _).kept (gr_drew _ none) (Classical.em _)) _ _ _ (hdC x) (by rfl) (by intro e; cases e) (by first | exact row_newS hdC_len W1 x 40 | exact row_gr (by exact row_heapS (w := wo3.alloc (.cells (hdC x).toArray 40)) (by rfl) (row_newS hdC_len wo3 x 40)) hgrow1 | exact row_gr (row_newS hdC_len W1 x 40) (gr_drew _ none)) (hdC_ones _) (q + 1) (sR hdC (z1.take q ++ [x])) (by omega) (by rw [sR_append, sR_one]) (by unfold maxLen; omega) (by omega) (by exact (sl_gr (show SL wo3 gA (oA + k * 2) (.slice x.A x.n x.c) (.int .i64 x.v) _ from by assumption)).size) ?_; intro v2 W2 hown2 hgrow2; have hsf2 := sl_grown h0.out h1.out (show SL wo3 gA (oA + k * 2) (.slice x.A x.n x.c) (.int .i64 x.v) _ from by assumption) hgrow2 (fun j hj => (hown1.lt j hj).1)) | (refine step_append_rowS (o := ⟨some 64, _, _, _, _, _⟩) (by rfl) _ _ 23 (by rfl) wo3.heap.size 40 ii (.agg #[.slice none 0 0, .int .i64 0]) 2 32 Try.underlying23 hi hz0 hz1 hz2 rfl (by decide) v2 (q + 1) (sR hdC (z1.take q ++ [x])) (by rfl) (by first | exact hown2 | exact hown2.kept (gr_drew W2 none) (Classical.em _)) _ _ _ (sR hdC (z1.drop q)) (by rfl) (by exact hao.out ()) (by exact row_gr (hrd.out ()) (sl_gr (show SL wo3 gA (oA + k * 2) (.slice x.A x.n x.c) (.int .i64 x.v) _ from by assumption))) (hds_ones _) (k + 1) (sR hdC (z1.take q ++ [x] ++ z1.drop q)) (by omega) (by rw [sR_append hdC (z1.take q ++ [x])]) (by unfold maxLen; omega) (by omega) (by exact (sl_gr (show SL wo3 gA (oA + k * 2) (.slice x.A x.n x.c) (.int .i64 x.v) _ from by assumption)).size) ?_; intro v3 W3 hown3 hgrow3; have hsf3 := sl_grown h0.out h1.out (show SL wo3 gA (oA + k * 2) (.slice x.A x.n x.c) (.int .i64 x.v) _ from by assumption) hgrow3 (fun j hj => (hown2.lt j hj).1)))
              all_goals
                obtain ⟨A3, c3, rfl, hc31, _, hn3⟩ := own_sliceS hown3
                have hG3 := sl_gr (wo := wo3) (B := gA) (o := oA + k * 2) (u0 := .slice x.A x.n x.c) (u1 := .int .i64 x.v) hsf3
                have hG4 := gr_trans hGw.out hG3
                have hown4 := own_mono hown3 hGw.out.size
                replace hG4 := Lib.hid hG4
                replace hown4 := Lib.hid hown4
                clear hown3 hgrow3 hown2 hgrow2 hown1 hgrow1 hsf1 hsf2 hsf3 hb0 hG3
                go_wp2
                go_roundw
                case rel => exact ⟨k + 1, z1.take q ++ [x] ++ z1.drop q, A3, c3, by omega, by go_num, rfl, hmn.out, hln.out, hown4.out, hG4.out⟩
                case measure => simp [intOf]; omega
    · obtain rfl : k = n := by omega
      go_wp2
      go_ret2
      exact ⟨.inl ⟨_, z1, rfl, hm.out, hz1l.out, ho.out⟩, hg.out⟩
end Go.Proofs.Ytoidfoalhkoajaa
