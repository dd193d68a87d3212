/-
  Several facts, one behind the other; no condition but bounds: The document's State: a note that closes. No condition but bounds. The document's State: a note of the segment. No condition but bounds. The document's State: the clock goes on. No condition but bounds.
-/
import Derived.Test.YtmldoeeangekoaaGreatRFDA
import Derived.Lib.MinMax
namespace Go.Proofs.YtmldoeeangekoaaGreat
open Go.RowKit

set_option maxHeartbeats 8000000 in
set_option maxRecDepth 100000 in
theorem rfold_close (nx now pts : Int) (A : Option Addr) (n c : Nat) (seg : List UInt8) (x : Nte) (zs : List Cur) (base : Nat) (w : World) (hx : okClose x) (hnn : n ≤ 100000) (hb : base ≤ w.heap.size) (hz : w.ownsRow base 28 5 (.slice A n c) n (sR curC zs)) :
    Calls Tryz.prog 52 #[.agg #[.int .i64 nx, .int .i64 now, .slice A n c, .string (txt seg), .int .i64 pts], .agg #[.int .i64 x.kind, .int .i64 x.c.id, .int .i64 x.c.rows, .int .i64 x.c.size, .int .i64 x.c.tl, .string (txt x.c.file)]] w fun e w' => ∃ v, e = .returned (.agg #[.int .i64 (max nx (x.c.id + 1)), .int .i64 now, v, .string (txt seg), .int .i64 pts]) ∧ w'.ownsRow w.heap.size 28 5 v (zs.filter fun y => !(y.id == x.c.id)).length (sR curC (zs.filter fun y => !(y.id == x.c.id))) ∧ Gr w w' := by
  obtain ⟨fz, hfz⟩ : ∃ fz, fz = zs.filter (fun y => !(y.id == x.c.id)) := ⟨_, rfl⟩
  obtain ⟨M, hM⟩ : ∃ M, M = fz.length := ⟨_, rfl⟩
  rw [← hfz, ← hM]
  replace hfz := Lib.hid hfz
  replace hM := Lib.hid hM
  have hB := fb_new w nx now (.slice A n c) seg pts x
  obtain ⟨W1, hW1⟩ : ∃ W1, W1 = fbW w nx now (.slice A n c) seg pts x := ⟨_, rfl⟩
  rw [← hW1] at hB
  obtain ⟨g1, hs, hn, hr, hc⟩ := hB
  unfold rsC at hs
  have cN := fun W => refNote_any x W
  rw [decide_eq_true (show okN x from .inr (.inl hx))] at cN
  obtain ⟨hk, ⟨hi1, hi2⟩, -⟩ := hx
  have k1 : (x.kind == 1) = false := eqF (by omega)
  have k2 : (x.kind == 2) = true := eqT hk
  replace hk := Lib.hid hk
  unfold nteV at cN
  replace cN := Lib.hid cN
  replace hW1 := Lib.hid hW1
  have n0 := fcellD hn (j := 0) rfl
  have n1 := fcellD hn (j := 1) rfl
  have n2 := fcellD hn (j := 2) rfl
  have n3 := fcellD hn (j := 3) rfl
  have n4 := fcellD hn (j := 4) rfl
  have n5 := fcellD hn (j := 5) rfl
  replace hn := Lib.hid hn
  replace hc := Lib.hid hc
  replace hs := Lib.hid hs
  replace hr := Lib.hid hr
  go_enter Tryz.func52, Tryz.ntmps52
  go_upto_region 2 with fail
  change Code.wp _ _ _ _ (fbW w nx now (.slice A n c) seg pts x)
  rw [← hW1.out]
  go_wp2_with fail
  refine (cN.out _).mono ?_
  rintro e w2 ⟨rfl, g2⟩
  have hs2 := gr_blk g2 hs.out (by simp)
  have hr2 := gr_blk g2 hr.out (by simp)
  have hc2 := gr_blk g2 hc.out (by simp)
  have hn2 := gr_blk g2 hn.out (by simp)
  have p0 := fcellD hn2 (j := 0) rfl
  have q0 := fcellD hc2 (j := 0) rfl
  have y0 := fzeroD hs2 0
  have m0 := fcellD hs2 (j := 0) rfl
  have m1 := fcellD hs2 (j := 1) rfl
  have m2 := fcellD hs2 (j := 2) rfl
  have m3 := fcellD hs2 (j := 3) rfl
  have m4 := fcellD hs2 (j := 4) rfl
  have hlt := lt_of_blk hs2
  have hwr : IntKind.i64.wrap (x.c.id + 1) = x.c.id + 1 := IntWalk.i64_in _ (by omega)
  clear n0 n1 n2 n3 n4 n5 cN
  replace hz := Lib.hid hz
  obtain ⟨V2, hV2⟩ : ∃ V2, V2 = w2.setCell ⟨w.heap.size, 0, none⟩ (.int .i64 (max nx (x.c.id + 1))) := ⟨_, rfl⟩
  have gs := gr_set w2 ⟨w.heap.size, 0, none⟩ (.int .i64 (max nx (x.c.id + 1)))
  have hsV := blk_set hs2 0 (.int .i64 (max nx (x.c.id + 1)))
  rw [← hV2] at gs hsV
  go_upto_region 15 with fail
  rw [← hV2]
  have hrV := gr_blk gs hr2 (by simp)
  have hcV := gr_blk gs hc2 (by simp)
  have gV : Gr w V2 := gr_of_below ((gr_below (gr_trans g1 g2)).grown gs (gr_trans g1 g2).size (fun k hk => by cases hk; exact Nat.le_refl _)) (Nat.le_refl _)
  clear hV2 gs hs2 hr2 hc2 hn2 p0 q0 y0 m0 m1 m2 m3 m4 g2
  have m2 : V2.cell? ⟨w.heap.size, 2, none⟩ = some (.slice A n c) := fcellD hsV rfl
  have q0 := fcellD hcV (j := 0) rfl
  have hsz := lt_of_blk hcV
  have cW := fun W (g : Gr V2 W) => without_any A n c zs x.c.id W hnn (row_gr (row_own hz.out) (gr_trans gV g))
  rw [← hfz.out, ← hM.out] at cW
  replace cW := Lib.hid cW
  replace hsV := Lib.hid hsV
  replace hrV := Lib.hid hrV
  replace gV := Lib.hid gV
  clear hcV
  go_wp2_with fail
  refine (cW.out _ (gr_refl _ _)).mono ?_
  rintro e w3 ⟨v, rfl, hv, g3⟩
  obtain ⟨A3, c3, rfl, -, -⟩ := own_openS hv
  have hs3 := gr_blk g3 hsV.out (by simp)
  have hr3 := gr_blk g3 hrV.out (by simp)
  have y2 := fzeroD hs3 2
  have z2 : w3.cell? ⟨w.heap.size, 2, none⟩ = some (.slice A n c) := fcellD hs3 rfl
  obtain ⟨V4, hV4⟩ : ∃ V4, V4 = w3.setCell ⟨w.heap.size, 2, none⟩ (.slice A3 M c3) := ⟨_, rfl⟩
  go_upto_region 25 with fail
  rw [← hV4]
  clear cW m2 q0
  have gs4 := gr_set w3 ⟨w.heap.size, 2, none⟩ (.slice A3 M c3)
  have hs4 := blk_set hs3 2 (.slice A3 M c3)
  rw [← hV4] at gs4 hs4
  have hr4 := gr_blk gs4 hr3 (by simp)
  have hv4 := hv.kept gs4 (by
    rcases Classical.em ((Value.slice A3 M c3).ownBlock = some w.heap.size) with q | q
    · have := (hv.lt _ q).1; omega
    · exact .inr q)
  have gW4 : Gr w V4 := gr_of_below ((gr_below (gr_trans gV.out g3)).grown gs4 (gr_trans gV.out g3).size (fun k hk => by cases hk; exact Nat.le_refl _)) (Nat.le_refl _)
  have m0 : V4.cell? ⟨w.heap.size, 0, none⟩ = some (.int .i64 (max nx (x.c.id + 1))) := fcellD hs4 rfl
  have m1 : V4.cell? ⟨w.heap.size, 1, none⟩ = some (.int .i64 now) := fcellD hs4 rfl
  have m2 : V4.cell? ⟨w.heap.size, 2, none⟩ = some (.slice A3 M c3) := fcellD hs4 rfl
  have m3 : V4.cell? ⟨w.heap.size, 3, none⟩ = some (.string (txt seg)) := fcellD hs4 rfl
  have m4 : V4.cell? ⟨w.heap.size, 4, none⟩ = some (.int .i64 pts) := fcellD hs4 rfl
  generalize hmx : max nx (x.c.id + 1) = mx at *
  replace hmx := Lib.hid hmx
  have hth := rs_there hr4
  have hsame := World.rangeAt_setCells_same V4 (w.heap.size + 2) 0 [.int .i64 mx, .int .i64 now, .slice A3 M c3, .string (txt seg), .int .i64 pts] hth
  have hgs := gr_setCells V4 (w.heap.size + 2) 0 [.int .i64 mx, .int .i64 now, .slice A3 M c3, .string (txt seg), .int .i64 pts]
  have r0 := hsame 0 _ rfl
  have r1 := hsame 1 _ rfl
  have r2 := hsame 2 _ rfl
  have r3 := hsame 3 _ rfl
  have r4 := hsame 4 _ rfl
  simp only [Nat.zero_add] at r0 r1 r2 r3 r4
  have hgf : Gr w (V4.setCells (w.heap.size + 2) 0 [.int .i64 mx, .int .i64 now, .slice A3 M c3, .string (txt seg), .int .i64 pts]) := gr_of_below ((gr_below gW4).grown hgs gW4.size (fun k hk => by cases hk; omega)) (Nat.le_refl _)
  have hvf := own_mono (hv4.kept hgs (by
    rcases Classical.em ((Value.slice A3 M c3).ownBlock = some (w.heap.size + 2)) with q | q
    · have := (hv4.lt _ q).1; omega
    · exact .inr q)) (show w.heap.size ≤ V2.heap.size by omega)
  replace hgf := Lib.hid hgf
  replace hvf := Lib.hid hvf
  clear hsame hgs hs3 hr3 hv hv4 gW4 gs4 hs4 hr4 g3 z2 y2
  clear hlt hsz hwr hi1 hi2 g1 hb hnn hV4 gV hsV hrV
  go_wp2_with (refine wpList_store_mid (op := ⟨none, _, _, _, _, _⟩) rfl 54 _ _ rfl (w.heap.size + 2) 0 #[.int .i64 mx, .int .i64 now, .slice A3 M c3, .string (txt seg), .int .i64 pts] rfl rfl hth infoRSt (by simp [Value.oneCell']) ?_)
  (try simp only [Exit.inBlock, Exit.then])
  refine bodyPost_ret (by simp [results, Tryz.results52, go_sem, r0, r1, r2, r3, r4]; try rfl) rfl ?_
  exact ⟨_, by rw [hmx.out], hvf.out, hgf.out⟩
end Go.Proofs.YtmldoeeangekoaaGreat
namespace Go.Proofs.YtmldoeeangekoaaGreat
open Go.RowKit

set_option maxHeartbeats 8000000 in
set_option maxRecDepth 100000 in
theorem rfold_seg (nx now pts : Int) (A : Option Addr) (n c : Nat) (seg : List UInt8) (x : Nte) (w : World) (hx : okSeg x) :
    Calls Tryz.prog 52 #[.agg #[.int .i64 nx, .int .i64 now, .slice A n c, .string (txt seg), .int .i64 pts], .agg #[.int .i64 x.kind, .int .i64 x.c.id, .int .i64 x.c.rows, .int .i64 x.c.size, .int .i64 x.c.tl, .string (txt x.c.file)]] w fun e w' => e = .returned (.agg #[.int .i64 nx, .int .i64 now, .slice A n c, .string (txt x.c.file), .int .i64 x.c.rows]) ∧ Gr w w' := by
  have hB := fb_new w nx now (.slice A n c) seg pts x
  obtain ⟨W1, hW1⟩ : ∃ W1, W1 = fbW w nx now (.slice A n c) seg pts x := ⟨_, rfl⟩
  rw [← hW1] at hB
  obtain ⟨g1, hs, hn, hr, hc⟩ := hB
  unfold rsC at hs
  have cN := fun W => refNote_any x W
  rw [decide_eq_true (show okN x from .inr (.inr (.inr hx)))] at cN
  obtain ⟨hk, -⟩ := hx
  have k1 : (x.kind == 1) = false := eqF (by omega)
  have k2 : (x.kind == 2) = false := eqF (by omega)
  have k3 : (x.kind == 3) = false := eqF (by omega)
  have k4 : (x.kind == 4) = true := eqT hk
  replace hk := Lib.hid hk
  unfold nteV at cN
  replace cN := Lib.hid cN
  replace hW1 := Lib.hid hW1
  have n0 := fcellD hn (j := 0) rfl
  have n1 := fcellD hn (j := 1) rfl
  have n2 := fcellD hn (j := 2) rfl
  have n3 := fcellD hn (j := 3) rfl
  have n4 := fcellD hn (j := 4) rfl
  have n5 := fcellD hn (j := 5) rfl
  replace hn := Lib.hid hn
  replace hc := Lib.hid hc
  replace hs := Lib.hid hs
  replace hr := Lib.hid hr
  go_enter Tryz.func52, Tryz.ntmps52
  go_upto_region 2 with fail
  change Code.wp _ _ _ _ (fbW w nx now (.slice A n c) seg pts x)
  rw [← hW1.out]
  go_wp2_with fail
  refine (cN.out _).mono ?_
  rintro e w2 ⟨rfl, g2⟩
  have hs2 := gr_blk g2 hs.out (by simp)
  have hr2 := gr_blk g2 hr.out (by simp)
  have hc2 := gr_blk g2 hc.out (by simp)
  have hn2 := gr_blk g2 hn.out (by simp)
  have p0 := fcellD hn2 (j := 0) rfl
  have q1 : w2.cell? ⟨w.heap.size + 3, 1, none⟩ = some (.int .i64 x.c.rows) := fcellD hc2 rfl
  have q4 : w2.cell? ⟨w.heap.size + 3, 4, none⟩ = some (.string (txt x.c.file)) := fcellD hc2 rfl
  have y3 := fzeroD hs2 3
  have y4 := fzeroD hs2 4
  have y0 := fzeroD hs2 0
  have m0 := fcellD hs2 (j := 0) rfl
  have m1 := fcellD hs2 (j := 1) rfl
  have m2 := fcellD hs2 (j := 2) rfl
  have m3 := fcellD hs2 (j := 3) rfl
  have m4 := fcellD hs2 (j := 4) rfl
  clear n0 n1 n2 n3 n4 n5 cN hn2 hc2
  replace hs2 := Lib.hid hs2
  replace hr2 := Lib.hid hr2
  replace g2 := Lib.hid g2
  replace g1 := Lib.hid g1
  go_upto_region 5 with fail
  go_region
  have gs3 := gr_set w2 ⟨w.heap.size, 3, none⟩ (.string (txt x.c.file))
  have hs3 := blk_set hs2.out 3 (.string (txt x.c.file))
  obtain ⟨V3, hV3⟩ : ∃ V3, V3 = w2.setCell ⟨w.heap.size, 3, none⟩ (.string (txt x.c.file)) := ⟨_, rfl⟩
  rw [← hV3] at gs3 hs3 ⊢
  have gs4 := gr_set V3 ⟨w.heap.size, 4, none⟩ (.int .i64 x.c.rows)
  have hs4 := blk_set hs3 4 (.int .i64 x.c.rows)
  obtain ⟨V4, hV4⟩ : ∃ V4, V4 = V3.setCell ⟨w.heap.size, 4, none⟩ (.int .i64 x.c.rows) := ⟨_, rfl⟩
  rw [← hV4] at gs4 hs4 ⊢
  have hr3 := gr_blk gs3 hr2.out (by simp)
  have hr4 := gr_blk gs4 hr3 (by simp)
  have hrD := gr_blk (gr_drew V4 none) hr4 (by simp)
  have hsD := gr_blk (gr_drew V4 none) hs4 (by simp)
  have gW2 := gr_trans g1.out g2.out
  have B4 : Below w.heap.size w V4 := ((gr_below gW2).grown gs3 gW2.size (fun k hk => by cases hk; exact Nat.le_refl _)).grown gs4 (Nat.le_trans gW2.size gs3.size) (fun k hk => by cases hk; exact Nat.le_refl _)
  have gW4 : Gr w V4.drew := gr_trans (gr_of_below B4 (Nat.le_refl _)) (gr_drew V4 none)
  obtain ⟨VD, hVD⟩ : ∃ VD, VD = V4.drew := ⟨_, rfl⟩
  rw [← hVD] at hrD hsD gW4 ⊢
  have m0 : VD.cell? ⟨w.heap.size, 0, none⟩ = some (.int .i64 nx) := fcellD hsD rfl
  have m1 : VD.cell? ⟨w.heap.size, 1, none⟩ = some (.int .i64 now) := fcellD hsD rfl
  have m2 : VD.cell? ⟨w.heap.size, 2, none⟩ = some (.slice A n c) := fcellD hsD rfl
  have m3 : VD.cell? ⟨w.heap.size, 3, none⟩ = some (.string (txt x.c.file)) := fcellD hsD rfl
  have m4 : VD.cell? ⟨w.heap.size, 4, none⟩ = some (.int .i64 x.c.rows) := fcellD hsD rfl
  have hth := rs_there hrD
  have hsame := World.rangeAt_setCells_same VD (w.heap.size + 2) 0 [.int .i64 nx, .int .i64 now, .slice A n c, .string (txt x.c.file), .int .i64 x.c.rows] hth
  have hgs := gr_setCells VD (w.heap.size + 2) 0 [.int .i64 nx, .int .i64 now, .slice A n c, .string (txt x.c.file), .int .i64 x.c.rows]
  have r0 := hsame 0 _ rfl
  have r1 := hsame 1 _ rfl
  have r2 := hsame 2 _ rfl
  have r3 := hsame 3 _ rfl
  have r4 := hsame 4 _ rfl
  simp only [Nat.zero_add] at r0 r1 r2 r3 r4
  have hgf : Gr w (VD.setCells (w.heap.size + 2) 0 [.int .i64 nx, .int .i64 now, .slice A n c, .string (txt x.c.file), .int .i64 x.c.rows]) := gr_of_below ((gr_below gW4).grown hgs gW4.size (fun k hk => by cases hk; omega)) (Nat.le_refl _)
  replace hgf := Lib.hid hgf
  clear hsame hgs hrD hsD gW4 B4 gW2 hr3 hr4 hs3 hs4 gs3 gs4 hV3 hV4 hVD q1 q4 y0 y3 y4 hs2 hr2 g1 g2 p0
  go_wp2_with (refine wpList_store_mid (op := ⟨none, _, _, _, _, _⟩) rfl 54 _ _ rfl (w.heap.size + 2) 0 #[.int .i64 nx, .int .i64 now, .slice A n c, .string (txt x.c.file), .int .i64 x.c.rows] rfl rfl hth infoRSt (by simp [Value.oneCell']) ?_)
  (try simp only [Exit.inBlock, Exit.then])
  refine bodyPost_ret (by simp [results, Tryz.results52, go_sem, r0, r1, r2, r3, r4]; try rfl) rfl ?_
  exact ⟨rfl, hgf.out⟩
end Go.Proofs.YtmldoeeangekoaaGreat
namespace Go.Proofs.YtmldoeeangekoaaGreat
open Go.RowKit

set_option maxHeartbeats 8000000 in
set_option maxRecDepth 100000 in
theorem rfold_clock (nx now pts : Int) (A : Option Addr) (n c : Nat) (seg : List UInt8) (x : Nte) (zs : List Cur) (w : World) (hx : okClock x) (hnn : n ≤ 100000) (hz : Row w A n 5 (sR curC zs)) :
    Calls Tryz.prog 52 #[.agg #[.int .i64 nx, .int .i64 now, .slice A n c, .string (txt seg), .int .i64 pts], .agg #[.int .i64 x.kind, .int .i64 x.c.id, .int .i64 x.c.rows, .int .i64 x.c.size, .int .i64 x.c.tl, .string (txt x.c.file)]] w fun e w' => ∃ v, e = .returned (.agg #[.int .i64 nx, .int .i64 (max now x.c.tl), v, .string (txt seg), .int .i64 pts]) ∧ w'.ownsRow w.heap.size 28 5 v (zs.filter fun y => !decide (y.tl < max now x.c.tl)).length (sR curC (zs.filter fun y => !decide (y.tl < max now x.c.tl))) ∧ Gr w w' := by
  obtain ⟨ii, hii, hz0, hz1, hz2⟩ := info_parts infoCuE
  have hl : zs.length = n := by have := hz.1; rw [sR_len curC 5 curC_len] at this; omega
  obtain ⟨T, hT⟩ : ∃ T, T = max now x.c.tl := ⟨_, rfl⟩
  rw [← hT]
  obtain ⟨fz, hfz⟩ : ∃ fz, fz = zs.filter (fun y => !decide (y.tl < T)) := ⟨_, rfl⟩
  obtain ⟨M, hM⟩ : ∃ M, M = fz.length := ⟨_, rfl⟩
  rw [← hfz, ← hM]
  replace hfz := Lib.hid hfz
  replace hT := Lib.hid hT
  replace hM := Lib.hid hM
  replace hl := Lib.hid hl
  have hB := fb_new w nx now (.slice A n c) seg pts x
  obtain ⟨W1, hW1⟩ : ∃ W1, W1 = fbW w nx now (.slice A n c) seg pts x := ⟨_, rfl⟩
  rw [← hW1] at hB
  obtain ⟨g1, hs, hn, hr, hc⟩ := hB
  unfold rsC at hs
  have cN := fun W => refNote_any x W
  rw [decide_eq_true (show okN x from .inr (.inr (.inl hx)))] at cN
  obtain ⟨hk, ⟨hi1, hi2⟩, -⟩ := hx
  have k1 : (x.kind == 1) = false := eqF (by omega)
  have k2 : (x.kind == 2) = false := eqF (by omega)
  have k3 : (x.kind == 3) = true := eqT hk
  replace hk := Lib.hid hk
  unfold nteV at cN
  replace cN := Lib.hid cN
  replace hW1 := Lib.hid hW1
  have n0 := fcellD hn (j := 0) rfl
  have n1 := fcellD hn (j := 1) rfl
  have n2 := fcellD hn (j := 2) rfl
  have n3 := fcellD hn (j := 3) rfl
  have n4 := fcellD hn (j := 4) rfl
  have n5 := fcellD hn (j := 5) rfl
  replace hn := Lib.hid hn
  replace hc := Lib.hid hc
  replace hs := Lib.hid hs
  replace hr := Lib.hid hr
  replace hz := Lib.hid hz
  go_enter Tryz.func52, Tryz.ntmps52
  go_upto_region 2 with fail
  change Code.wp _ _ _ _ (fbW w nx now (.slice A n c) seg pts x)
  rw [← hW1.out]
  go_wp2_with fail
  refine (cN.out _).mono ?_
  rintro e w2 ⟨rfl, g2⟩
  have hs2 := gr_blk g2 hs.out (by simp)
  have hr2 := gr_blk g2 hr.out (by simp)
  have hc2 := gr_blk g2 hc.out (by simp)
  have hn2 := gr_blk g2 hn.out (by simp)
  have p0 := fcellD hn2 (j := 0) rfl
  have q3 := fcellD hc2 (j := 3) rfl
  have y1 := fzeroD hs2 1
  have m0 := fcellD hs2 (j := 0) rfl
  have m1 := fcellD hs2 (j := 1) rfl
  have m2 := fcellD hs2 (j := 2) rfl
  have m3 := fcellD hs2 (j := 3) rfl
  have m4 := fcellD hs2 (j := 4) rfl
  clear n0 n1 n2 n3 n4 n5 cN
  obtain ⟨V2, hV2⟩ : ∃ V2, V2 = w2.setCell ⟨w.heap.size, 1, none⟩ (.int .i64 (max now x.c.tl)) := ⟨_, rfl⟩
  have gs := gr_set w2 ⟨w.heap.size, 1, none⟩ (.int .i64 (max now x.c.tl))
  have hsV := blk_set hs2 1 (.int .i64 (max now x.c.tl))
  rw [← hV2] at gs hsV
  go_upto_region 18 with fail
  rw [← hV2]
  rw [← hT.out] at hsV
  have hrV := gr_blk gs hr2 (by simp)
  have gV : Gr w V2 := gr_of_below ((gr_below (gr_trans g1 g2)).grown gs (gr_trans g1 g2).size (fun k hk => by cases hk; exact Nat.le_refl _)) (Nat.le_refl _)
  have hzV := row_gr hz.out gV
  have hsz := lt_of_blk hrV
  clear hV2 gs hs2 hr2 hc2 hn2 p0 q3 y1 m0 m1 m2 m3 m4 g2
  obtain ⟨SB, hSB⟩ : ∃ SB, SB = w.heap.size := ⟨_, rfl⟩
  have hsz2 : SB + 2 < V2.heap.size := by rw [hSB]; exact hsz
  rw [← hSB] at hsV hrV
  replace hsV := Lib.hid hsV
  replace hrV := Lib.hid hrV
  replace gV := Lib.hid gV
  replace hzV := Lib.hid hzV
  replace hsz2 := Lib.hid hsz2
  clear hs hr hc hn hz g1 hW1 hsz
  rw [← hSB]
  replace hSB := Lib.hid hSB
  go_wp2_with fail
  go_loopw [8, 9] (fun ov iv wr => ∃ k m : Nat, k ≤ n ∧ iv = .int .i64 k ∧ m ≤ k ∧ Hid (m = ((zs.take k).filter fun y => !decide (y.tl < T)).length) ∧ Hid (wr.ownsRow V2.heap.size 28 5 ov m (sR curC ((zs.take k).filter fun y => !decide (y.tl < T)))) ∧ Hid (Below V2.heap.size V2 wr)) (fun _ iv _ => n - (intOf iv).toNat)
  case atStart => exact ⟨0, 0, Nat.zero_le _, rfl, Nat.le_refl _, rfl, World.ownsRow_nil _ _ _ _, Below.refl _ _⟩
  case round =>
    obtain ⟨k, m, hkn, rfl, hmk, hm, hown, hbel⟩ := hrel
    have gB := gr_of_below hbel.out (Nat.le_refl _)
    have hsr := gr_blk gB hsV.out (by simp)
    have m1 : wr.cell? ⟨SB, 1, none⟩ = some (.int .i64 T) := fcellD hsr rfl
    have m2 : wr.cell? ⟨SB, 2, none⟩ = some (.slice A n c) := fcellD hsr rfl
    by_cases hlt : k < n
    · obtain ⟨x, B, o, hx, rfl, _, ha⟩ := rowS_elem curC_len (row_gr hzV.out gB) (by decide) hlt
      have a0 : wr.cell? ⟨B, o + k * 5, none⟩ = some (.int .i64 x.id) := ha 0 (by decide)
      have a1 : wr.cell? ⟨B, o + k * 5 + 1, none⟩ = some (.int .i64 x.rows) := ha 1 (by decide)
      have a2 : wr.cell? ⟨B, o + k * 5 + 2, none⟩ = some (.int .i64 x.size) := ha 2 (by decide)
      have a3 : wr.cell? ⟨B, o + k * 5 + 3, none⟩ = some (.int .i64 x.tl) := ha 3 (by decide)
      have a4 : wr.cell? ⟨B, o + k * 5 + 4, none⟩ = some (.string (txt x.file)) := ha 4 (by decide)
      have hkI : (k : Int) < (n : Int) := by omega
      have hk0 : (0 : Int) ≤ (k : Int) := by omega
      obtain ⟨j1, j2⟩ := List.getElem?_eq_some_iff.1 hx
      have htk : zs.take (k + 1) = zs.take k ++ [x] := by rw [List.take_succ_eq_append_getElem j1, j2]
      clear j1 j2
      clear ha hx hsr
      replace hm := Lib.hid hm
      by_cases he : x.tl < T
      · have hq : (T ≤ x.tl) = False := eq_false (by omega)
        have hf : (zs.take (k + 1)).filter (fun y => !decide (y.tl < T)) = (zs.take k).filter (fun y => !decide (y.tl < T)) := by rw [htk, List.filter_append]; simp [he]
        replace hf := Lib.hid hf
        clear htk
        replace he := Lib.hid he
        go_wp2_with fail
        go_quiet (fail)
        rename_i nq
        have gD := gr_drewN wr nq none
        have hownD := hown.out.kept gD (Classical.em _)
        have hbD := gr_below (gr_trans gB gD)
        generalize wr.drewN nq = W3 at *
        replace hownD := Lib.hid hownD
        replace hbD := Lib.hid hbD
        clear hown hbel gB gD m1 m2 a0 a1 a2 a3 a4
        go_wp2
        go_roundw
        case rel => exact ⟨k + 1, m, by omega, by go_num, by omega, Lib.hid (by rw [hf.out]; exact hm.out.out), Lib.hid (by rw [hf.out]; exact hownD.out), hbD⟩
        case measure => simp [intOf]; omega
      · have hq : T ≤ x.tl := by omega
        have hf : (zs.take (k + 1)).filter (fun y => !decide (y.tl < T)) = (zs.take k).filter (fun y => !decide (y.tl < T)) ++ [x] := by rw [htk, List.filter_append]; simp [he]
        have hone := cur_ones x
        unfold curC at hone
        replace hone := Lib.hid hone
        replace hf := Lib.hid hf
        clear htk
        replace he := Lib.hid he
        go_wp2_with fail
        go_quiet (fail)
        rename_i nq
        have gD := gr_drewN wr nq none
        have hownD := hown.out.kept gD (Classical.em _)
        have hbD := gr_below (gr_trans gB gD)
        have m2 := gr_cell gD m2
        have a0 := gr_cell gD a0
        have a1 := gr_cell gD a1
        have a2 := gr_cell gD a2
        have a3 := gr_cell gD a3
        have a4 := gr_cell gD a4
        have hs3 := hbD.size
        generalize wr.drewN nq = W3 at *
        replace hs3 := Lib.hid hs3
        replace hownD := Lib.hid hownD
        replace hbD := Lib.hid hbD
        clear hown hbel gB gD m1
        go_wp2_with (at_builtin; refine wpList_append_own _ rfl _ _ 52 rfl V2.heap.size 28 ii (.agg #[.int .i64 0, .int .i64 0, .int .i64 0, .int .i64 0, .string ⟨#[]⟩]) 5 48 Tryz.underlying52 hii hz0 hz1 hz2 rfl (by decide) u8 _ _ rfl (hownD.out.alloc _) ⟨W3.heap.size, 0, none⟩ 1 1 [.int .i64 x.id, .int .i64 x.rows, .int .i64 x.size, .int .i64 x.tl, .string (txt x.file)] rfl rfl ?c1 ?c2 ?c3 ?c4 ?c5 ?_; rotate_right; intro v' W4 hown4 hgrow _nl; clear _nl; have hb4 := hbD.out.trans (below_append hownD.out hgrow hbD.out.size); clear hgrow; replace hown4 := Lib.hid hown4; replace hb4 := Lib.hid hb4)
        case c1 =>
          intro j u hj
          have hjl := (List.getElem?_eq_some_iff.1 hj).1
          simp only [List.length_cons, List.length_nil] at hjl
          rw [add_plain, Nat.zero_add, World.cell?_alloc_new]
          simpa using hj
        case c2 => exact hone.out
        case c3 => unfold maxLen; omega
        case c4 => omega
        case c5 => have := hs3.out; simp; omega
        go_roundw
        case rel => exact ⟨k + 1, m + 1, by omega, by go_num, by omega, Lib.hid (by rw [hf.out, List.length_append, ← hm.out.out]; rfl), Lib.hid (by rw [hf.out, sR_append]; exact hown4.out), hb4⟩
        case measure => simp [intOf]; omega
    · have hkI : ((k : Int) < (n : Int)) = False := eq_false (by omega)
      have hfull : zs.take k = zs := List.take_of_length_le (by rw [hl.out]; omega)
      have ho := hown.out
      have hm2 := hm.out
      rw [hfull] at ho hm2
      rw [hm2, ← hfz.out, ← hM.out] at ho
      obtain ⟨A3, c3, rfl, -, -⟩ := own_openS ho
      have hr3 := gr_blk gB hrV.out (by simp)
      have y2 := fzeroD hsr 2
      have gW := gr_trans gV.out gB
      have hsS := gW.size
      rw [← hSB.out] at hsS
      obtain ⟨V4, hV4⟩ : ∃ V4, V4 = wr.setCell ⟨SB, 2, none⟩ (.slice A3 M c3) := ⟨_, rfl⟩
      replace ho := Lib.hid ho
      replace hr3 := Lib.hid hr3
      replace hsr := Lib.hid hsr
      replace gW := Lib.hid gW
      replace gB := Lib.hid gB
      clear hm hm2 hown hfull hbel hlt hkn hmk
      go_upto_region 25 with fail
      rw [← hV4]
      have gs4 := gr_set wr ⟨SB, 2, none⟩ (.slice A3 M c3)
      have hs4 := blk_set hsr.out 2 (.slice A3 M c3)
      rw [← hV4] at gs4 hs4
      have hr4 := gr_blk gs4 hr3.out (by simp)
      have hv4 := ho.out.kept gs4 (by
        rcases Classical.em ((Value.slice A3 M c3).ownBlock = some SB) with q | q
        · have := (ho.out.lt _ q).1; have := hsz2.out; omega
        · exact .inr q)
      have gW4 : Gr w V4 := gr_of_below ((gr_below gW.out).grown gs4 gW.out.size (fun k hk => by cases hk; rw [hSB.out]; exact Nat.le_refl _)) (Nat.le_refl _)
      have m0 : V4.cell? ⟨SB, 0, none⟩ = some (.int .i64 nx) := fcellD hs4 rfl
      have m1 : V4.cell? ⟨SB, 1, none⟩ = some (.int .i64 T) := fcellD hs4 rfl
      have m2 : V4.cell? ⟨SB, 2, none⟩ = some (.slice A3 M c3) := fcellD hs4 rfl
      have m3 : V4.cell? ⟨SB, 3, none⟩ = some (.string (txt seg)) := fcellD hs4 rfl
      have m4 : V4.cell? ⟨SB, 4, none⟩ = some (.int .i64 pts) := fcellD hs4 rfl
      have hth := rs_there hr4
      have hsame := World.rangeAt_setCells_same V4 (SB + 2) 0 [.int .i64 nx, .int .i64 T, .slice A3 M c3, .string (txt seg), .int .i64 pts] hth
      have hgs := gr_setCells V4 (SB + 2) 0 [.int .i64 nx, .int .i64 T, .slice A3 M c3, .string (txt seg), .int .i64 pts]
      have r0 := hsame 0 _ rfl
      have r1 := hsame 1 _ rfl
      have r2 := hsame 2 _ rfl
      have r3 := hsame 3 _ rfl
      have r4 := hsame 4 _ rfl
      simp only [Nat.zero_add] at r0 r1 r2 r3 r4
      have hgf : Gr w (V4.setCells (SB + 2) 0 [.int .i64 nx, .int .i64 T, .slice A3 M c3, .string (txt seg), .int .i64 pts]) := gr_of_below ((gr_below gW4).grown hgs gW4.size (fun k hk => by cases hk; rw [← hSB.out]; omega)) (Nat.le_refl _)
      have hvf := own_mono (hv4.kept hgs (by
        rcases Classical.em ((Value.slice A3 M c3).ownBlock = some (SB + 2)) with q | q
        · have := (hv4.lt _ q).1; have := hsz2.out; omega
        · exact .inr q)) (show SB ≤ V2.heap.size by have := hsz2.out; omega)
      replace hgf := Lib.hid hgf
      replace hvf := Lib.hid hvf
      clear hsame hgs hr3 hv4 gW4 gs4 hs4 hr4 y2 gW gB hsS hV4 gV hsV hrV ho hsr hsz2 hzV hi1 hi2 hnn
      go_wp2_with (refine wpList_store_mid (op := ⟨none, _, _, _, _, _⟩) rfl 54 _ _ rfl (SB + 2) 0 #[.int .i64 nx, .int .i64 T, .slice A3 M c3, .string (txt seg), .int .i64 pts] rfl rfl hth infoRSt (by simp [Value.oneCell']) ?_)
      (try simp only [Exit.inBlock, Exit.then])
      refine bodyPost_ret (by simp [results, Tryz.results52, go_sem, r0, r1, r2, r3, r4]; try rfl) rfl ?_
      exact ⟨_, rfl, by rw [← hSB.out]; exact hvf.out, hgf.out⟩
end Go.Proofs.YtmldoeeangekoaaGreat
