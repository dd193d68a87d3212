/-
  The document's State: the clock goes on. No condition but bounds.
-/
import Derived.Test.YtmldoeeangekoaaGreatDoorRdA
import Derived.Lib.MinMax
namespace Go.Proofs.YtmldoeeangekoaaGreatDoor
open Go.RowKit

set_option maxHeartbeats 8000000 in
set_option maxRecDepth 100000 in
theorem rfold_clock (nx now pts : Int) (A : Option Addr) (n c : Nat) (seg : List UInt8) (x : Nte) (zs : List Cur) (w : World) (hx : okClock x) (hnn : n ≤ 100000) (hz : Row w A n 5 (sR curC zs)) :
    Calls Tryz.prog 21 #[.agg #[.int .i64 nx, .int .i64 now, .slice A n c, .string (txt seg), .int .i64 pts], .agg #[.int .i64 x.kind, .int .i64 x.c.id, .int .i64 x.c.rows, .int .i64 x.c.size, .int .i64 x.c.tl, .string (txt x.c.file)]] w fun e w' => ∃ v, e = .returned (.agg #[.int .i64 nx, .int .i64 (max now x.c.tl), v, .string (txt seg), .int .i64 pts]) ∧ w'.ownsRow w.heap.size 52 5 v (zs.filter fun y => !decide (y.tl < max now x.c.tl)).length (sR curC (zs.filter fun y => !decide (y.tl < max now x.c.tl))) ∧ Gr w w' := by
  obtain ⟨ii, hii, hz0, hz1, hz2⟩ := info_parts infoCuE
  have hl : zs.length = n := by have := hz.1; rw [sR_len curC 5 curC_len] at this; omega
  obtain ⟨T, hT⟩ : ∃ T, T = max now x.c.tl := ⟨_, rfl⟩
  rw [← hT]
  obtain ⟨fz, hfz⟩ : ∃ fz, fz = zs.filter (fun y => !decide (y.tl < T)) := ⟨_, rfl⟩
  obtain ⟨M, hM⟩ : ∃ M, M = fz.length := ⟨_, rfl⟩
  rw [← hfz, ← hM]
  replace hfz := Lib.hid hfz
  replace hT := Lib.hid hT
  replace hM := Lib.hid hM
  replace hl := Lib.hid hl
  have hB := fb_new w nx now (.slice A n c) seg pts x
  obtain ⟨W1, hW1⟩ : ∃ W1, W1 = fbW w nx now (.slice A n c) seg pts x := ⟨_, rfl⟩
  rw [← hW1] at hB
  obtain ⟨g1, hs, hn, hr, hc⟩ := hB
  unfold rsC at hs
  have cN := fun W => refNote_any x W
  rw [decide_eq_true (show okN x from .inr (.inr (.inl hx)))] at cN
  obtain ⟨hk, ⟨hi1, hi2⟩, -⟩ := hx
  have k1 : (x.kind == 1) = false := eqF (by omega)
  have k2 : (x.kind == 2) = false := eqF (by omega)
  have k3 : (x.kind == 3) = true := eqT hk
  replace hk := Lib.hid hk
  unfold nteV at cN
  replace cN := Lib.hid cN
  replace hW1 := Lib.hid hW1
  have n0 := fcellD hn (j := 0) rfl
  have n1 := fcellD hn (j := 1) rfl
  have n2 := fcellD hn (j := 2) rfl
  have n3 := fcellD hn (j := 3) rfl
  have n4 := fcellD hn (j := 4) rfl
  have n5 := fcellD hn (j := 5) rfl
  replace hn := Lib.hid hn
  replace hc := Lib.hid hc
  replace hs := Lib.hid hs
  replace hr := Lib.hid hr
  replace hz := Lib.hid hz
  go_enter Tryz.func21, Tryz.ntmps21
  go_upto_region 2 with fail
  change Code.wp _ _ _ _ (fbW w nx now (.slice A n c) seg pts x)
  rw [← hW1.out]
  go_wp2_with fail
  refine (cN.out _).mono ?_
  rintro e w2 ⟨rfl, g2⟩
  have hs2 := gr_blk g2 hs.out (by simp)
  have hr2 := gr_blk g2 hr.out (by simp)
  have hc2 := gr_blk g2 hc.out (by simp)
  have hn2 := gr_blk g2 hn.out (by simp)
  have p0 := fcellD hn2 (j := 0) rfl
  have q3 := fcellD hc2 (j := 3) rfl
  have y1 := fzeroD hs2 1
  have m0 := fcellD hs2 (j := 0) rfl
  have m1 := fcellD hs2 (j := 1) rfl
  have m2 := fcellD hs2 (j := 2) rfl
  have m3 := fcellD hs2 (j := 3) rfl
  have m4 := fcellD hs2 (j := 4) rfl
  clear n0 n1 n2 n3 n4 n5 cN
  obtain ⟨V2, hV2⟩ : ∃ V2, V2 = w2.setCell ⟨w.heap.size, 1, none⟩ (.int .i64 (max now x.c.tl)) := ⟨_, rfl⟩
  have gs := gr_set w2 ⟨w.heap.size, 1, none⟩ (.int .i64 (max now x.c.tl))
  have hsV := blk_set hs2 1 (.int .i64 (max now x.c.tl))
  rw [← hV2] at gs hsV
  go_upto_region 18 with fail
  rw [← hV2]
  rw [← hT.out] at hsV
  have hrV := gr_blk gs hr2 (by simp)
  have gV : Gr w V2 := gr_of_below ((gr_below (gr_trans g1 g2)).grown gs (gr_trans g1 g2).size (fun k hk => by cases hk; exact Nat.le_refl _)) (Nat.le_refl _)
  have hzV := row_gr hz.out gV
  have hsz := lt_of_blk hrV
  clear hV2 gs hs2 hr2 hc2 hn2 p0 q3 y1 m0 m1 m2 m3 m4 g2
  obtain ⟨SB, hSB⟩ : ∃ SB, SB = w.heap.size := ⟨_, rfl⟩
  have hsz2 : SB + 2 < V2.heap.size := by rw [hSB]; exact hsz
  rw [← hSB] at hsV hrV
  replace hsV := Lib.hid hsV
  replace hrV := Lib.hid hrV
  replace gV := Lib.hid gV
  replace hzV := Lib.hid hzV
  replace hsz2 := Lib.hid hsz2
  clear hs hr hc hn hz g1 hW1 hsz
  rw [← hSB]
  replace hSB := Lib.hid hSB
  go_wp2_with fail
  go_loopw [8, 9] (fun ov iv wr => ∃ k m : Nat, k ≤ n ∧ iv = .int .i64 k ∧ m ≤ k ∧ Hid (m = ((zs.take k).filter fun y => !decide (y.tl < T)).length) ∧ Hid (wr.ownsRow V2.heap.size 52 5 ov m (sR curC ((zs.take k).filter fun y => !decide (y.tl < T)))) ∧ Hid (Below V2.heap.size V2 wr)) (fun _ iv _ => n - (intOf iv).toNat)
  case atStart => exact ⟨0, 0, Nat.zero_le _, rfl, Nat.le_refl _, rfl, World.ownsRow_nil _ _ _ _, Below.refl _ _⟩
  case round =>
    obtain ⟨k, m, hkn, rfl, hmk, hm, hown, hbel⟩ := hrel
    have gB := gr_of_below hbel.out (Nat.le_refl _)
    have hsr := gr_blk gB hsV.out (by simp)
    have m1 : wr.cell? ⟨SB, 1, none⟩ = some (.int .i64 T) := fcellD hsr rfl
    have m2 : wr.cell? ⟨SB, 2, none⟩ = some (.slice A n c) := fcellD hsr rfl
    by_cases hlt : k < n
    · obtain ⟨x, B, o, hx, rfl, _, ha⟩ := rowS_elem curC_len (row_gr hzV.out gB) (by decide) hlt
      have a0 : wr.cell? ⟨B, o + k * 5, none⟩ = some (.int .i64 x.id) := ha 0 (by decide)
      have a1 : wr.cell? ⟨B, o + k * 5 + 1, none⟩ = some (.int .i64 x.rows) := ha 1 (by decide)
      have a2 : wr.cell? ⟨B, o + k * 5 + 2, none⟩ = some (.int .i64 x.size) := ha 2 (by decide)
      have a3 : wr.cell? ⟨B, o + k * 5 + 3, none⟩ = some (.int .i64 x.tl) := ha 3 (by decide)
      have a4 : wr.cell? ⟨B, o + k * 5 + 4, none⟩ = some (.string (txt x.file)) := ha 4 (by decide)
      have hkI : (k : Int) < (n : Int) := by omega
      have hk0 : (0 : Int) ≤ (k : Int) := by omega
      obtain ⟨j1, j2⟩ := List.getElem?_eq_some_iff.1 hx
      have htk : zs.take (k + 1) = zs.take k ++ [x] := by rw [List.take_succ_eq_append_getElem j1, j2]
      clear j1 j2
      clear ha hx hsr
      replace hm := Lib.hid hm
      by_cases he : x.tl < T
      · have hq : (T ≤ x.tl) = False := eq_false (by omega)
        have hf : (zs.take (k + 1)).filter (fun y => !decide (y.tl < T)) = (zs.take k).filter (fun y => !decide (y.tl < T)) := by rw [htk, List.filter_append]; simp [he]
        replace hf := Lib.hid hf
        clear htk
        replace he := Lib.hid he
        go_wp2_with fail
        go_quiet (fail)
        rename_i nq
        have gD := gr_drewN wr nq none
        have hownD := hown.out.kept gD (Classical.em _)
        have hbD := gr_below (gr_trans gB gD)
        generalize wr.drewN nq = W3 at *
        replace hownD := Lib.hid hownD
        replace hbD := Lib.hid hbD
        clear hown hbel gB gD m1 m2 a0 a1 a2 a3 a4
        go_wp2
        go_roundw
        case rel => exact ⟨k + 1, m, by omega, by go_num, by omega, Lib.hid (by rw [hf.out]; exact hm.out.out), Lib.hid (by rw [hf.out]; exact hownD.out), hbD⟩
        case measure => simp [intOf]; omega
      · have hq : T ≤ x.tl := by omega
        have hf : (zs.take (k + 1)).filter (fun y => !decide (y.tl < T)) = (zs.take k).filter (fun y => !decide (y.tl < T)) ++ [x] := by rw [htk, List.filter_append]; simp [he]
        have hone := cur_ones x
        unfold curC at hone
        replace hone := Lib.hid hone
        replace hf := Lib.hid hf
        clear htk
        replace he := Lib.hid he
        go_wp2_with fail
        go_quiet (fail)
        rename_i nq
        have gD := gr_drewN wr nq none
        have hownD := hown.out.kept gD (Classical.em _)
        have hbD := gr_below (gr_trans gB gD)
        have m2 := gr_cell gD m2
        have a0 := gr_cell gD a0
        have a1 := gr_cell gD a1
        have a2 := gr_cell gD a2
        have a3 := gr_cell gD a3
        have a4 := gr_cell gD a4
        have hs3 := hbD.size
        generalize wr.drewN nq = W3 at *
        replace hs3 := Lib.hid hs3
        replace hownD := Lib.hid hownD
        replace hbD := Lib.hid hbD
        clear hown hbel gB gD m1
        go_wp2_with (at_builtin; refine wpList_append_own _ rfl _ _ 28 rfl V2.heap.size 52 ii (.agg #[.int .i64 0, .int .i64 0, .int .i64 0, .int .i64 0, .string ⟨#[]⟩]) 5 48 Tryz.underlying28 hii hz0 hz1 hz2 rfl (by decide) u8 _ _ rfl (hownD.out.alloc _) ⟨W3.heap.size, 0, none⟩ 1 1 [.int .i64 x.id, .int .i64 x.rows, .int .i64 x.size, .int .i64 x.tl, .string (txt x.file)] rfl rfl ?c1 ?c2 ?c3 ?c4 ?c5 ?_; rotate_right; intro v' W4 hown4 hgrow _nl; clear _nl; have hb4 := hbD.out.trans (below_append hownD.out hgrow hbD.out.size); clear hgrow; replace hown4 := Lib.hid hown4; replace hb4 := Lib.hid hb4)
        case c1 =>
          intro j u hj
          have hjl := (List.getElem?_eq_some_iff.1 hj).1
          simp only [List.length_cons, List.length_nil] at hjl
          rw [add_plain, Nat.zero_add, World.cell?_alloc_new]
          simpa using hj
        case c2 => exact hone.out
        case c3 => unfold maxLen; omega
        case c4 => omega
        case c5 => have := hs3.out; simp; omega
        go_roundw
        case rel => exact ⟨k + 1, m + 1, by omega, by go_num, by omega, Lib.hid (by rw [hf.out, List.length_append, ← hm.out.out]; rfl), Lib.hid (by rw [hf.out, sR_append]; exact hown4.out), hb4⟩
        case measure => simp [intOf]; omega
    · have hkI : ((k : Int) < (n : Int)) = False := eq_false (by omega)
      have hfull : zs.take k = zs := List.take_of_length_le (by rw [hl.out]; omega)
      have ho := hown.out
      have hm2 := hm.out
      rw [hfull] at ho hm2
      rw [hm2, ← hfz.out, ← hM.out] at ho
      obtain ⟨A3, c3, rfl, -, -⟩ := own_openS ho
      have hr3 := gr_blk gB hrV.out (by simp)
      have y2 := fzeroD hsr 2
      have gW := gr_trans gV.out gB
      have hsS := gW.size
      rw [← hSB.out] at hsS
      obtain ⟨V4, hV4⟩ : ∃ V4, V4 = wr.setCell ⟨SB, 2, none⟩ (.slice A3 M c3) := ⟨_, rfl⟩
      replace ho := Lib.hid ho
      replace hr3 := Lib.hid hr3
      replace hsr := Lib.hid hsr
      replace gW := Lib.hid gW
      replace gB := Lib.hid gB
      clear hm hm2 hown hfull hbel hlt hkn hmk
      go_upto_region 25 with fail
      rw [← hV4]
      have gs4 := gr_set wr ⟨SB, 2, none⟩ (.slice A3 M c3)
      have hs4 := blk_set hsr.out 2 (.slice A3 M c3)
      rw [← hV4] at gs4 hs4
      have hr4 := gr_blk gs4 hr3.out (by simp)
      have hv4 := ho.out.kept gs4 (by
        rcases Classical.em ((Value.slice A3 M c3).ownBlock = some SB) with q | q
        · have := (ho.out.lt _ q).1; have := hsz2.out; omega
        · exact .inr q)
      have gW4 : Gr w V4 := gr_of_below ((gr_below gW.out).grown gs4 gW.out.size (fun k hk => by cases hk; rw [hSB.out]; exact Nat.le_refl _)) (Nat.le_refl _)
      have m0 : V4.cell? ⟨SB, 0, none⟩ = some (.int .i64 nx) := fcellD hs4 rfl
      have m1 : V4.cell? ⟨SB, 1, none⟩ = some (.int .i64 T) := fcellD hs4 rfl
      have m2 : V4.cell? ⟨SB, 2, none⟩ = some (.slice A3 M c3) := fcellD hs4 rfl
      have m3 : V4.cell? ⟨SB, 3, none⟩ = some (.string (txt seg)) := fcellD hs4 rfl
      have m4 : V4.cell? ⟨SB, 4, none⟩ = some (.int .i64 pts) := fcellD hs4 rfl
      have hth := rs_there hr4
      have hsame := World.rangeAt_setCells_same V4 (SB + 2) 0 [.int .i64 nx, .int .i64 T, .slice A3 M c3, .string (txt seg), .int .i64 pts] hth
      have hgs := gr_setCells V4 (SB + 2) 0 [.int .i64 nx, .int .i64 T, .slice A3 M c3, .string (txt seg), .int .i64 pts]
      have r0 := hsame 0 _ rfl
      have r1 := hsame 1 _ rfl
      have r2 := hsame 2 _ rfl
      have r3 := hsame 3 _ rfl
      have r4 := hsame 4 _ rfl
      simp only [Nat.zero_add] at r0 r1 r2 r3 r4
      have hgf : Gr w (V4.setCells (SB + 2) 0 [.int .i64 nx, .int .i64 T, .slice A3 M c3, .string (txt seg), .int .i64 pts]) := gr_of_below ((gr_below gW4).grown hgs gW4.size (fun k hk => by cases hk; rw [← hSB.out]; omega)) (Nat.le_refl _)
      have hvf := own_mono (hv4.kept hgs (by
        rcases Classical.em ((Value.slice A3 M c3).ownBlock = some (SB + 2)) with q | q
        · have := (hv4.lt _ q).1; have := hsz2.out; omega
        · exact .inr q)) (show SB ≤ V2.heap.size by have := hsz2.out; omega)
      replace hgf := Lib.hid hgf
      replace hvf := Lib.hid hvf
      clear hsame hgs hr3 hv4 gW4 gs4 hs4 hr4 y2 gW gB hsS hV4 gV hsV hrV ho hsr hsz2 hzV hi1 hi2 hnn
      go_wp2_with (refine wpList_store_mid (op := ⟨none, _, _, _, _, _⟩) rfl 32 _ _ rfl (SB + 2) 0 #[.int .i64 nx, .int .i64 T, .slice A3 M c3, .string (txt seg), .int .i64 pts] rfl rfl hth infoRSt (by simp [Value.oneCell']) ?_)
      (try simp only [Exit.inBlock, Exit.then])
      refine bodyPost_ret (by simp [results, Tryz.results21, go_sem, r0, r1, r2, r3, r4]; try rfl) rfl ?_
      exact ⟨_, rfl, by rw [← hSB.out]; exact hvf.out, hgf.out⟩
end Go.Proofs.YtmldoeeangekoaaGreatDoor
