/-
  The document's State: a note that closes. No condition but bounds.
-/
import Derived.Test.YtmldoeeangekoaaGreatDoorRdA
import Derived.Lib.MinMax
namespace Go.Proofs.YtmldoeeangekoaaGreatDoor
open Go.RowKit

set_option maxHeartbeats 8000000 in
set_option maxRecDepth 100000 in
theorem rfold_close (nx now pts : Int) (A : Option Addr) (n c : Nat) (seg : List UInt8) (x : Nte) (zs : List Cur) (base : Nat) (w : World) (hx : okClose x) (hnn : n ≤ 100000) (hb : base ≤ w.heap.size) (hz : w.ownsRow base 52 5 (.slice A n c) n (sR curC zs)) :
    Calls Tryz.prog 21 #[.agg #[.int .i64 nx, .int .i64 now, .slice A n c, .string (txt seg), .int .i64 pts], .agg #[.int .i64 x.kind, .int .i64 x.c.id, .int .i64 x.c.rows, .int .i64 x.c.size, .int .i64 x.c.tl, .string (txt x.c.file)]] w fun e w' => ∃ v, e = .returned (.agg #[.int .i64 (max nx (x.c.id + 1)), .int .i64 now, v, .string (txt seg), .int .i64 pts]) ∧ w'.ownsRow w.heap.size 52 5 v (zs.filter fun y => !(y.id == x.c.id)).length (sR curC (zs.filter fun y => !(y.id == x.c.id))) ∧ Gr w w' := by
  obtain ⟨fz, hfz⟩ : ∃ fz, fz = zs.filter (fun y => !(y.id == x.c.id)) := ⟨_, rfl⟩
  obtain ⟨M, hM⟩ : ∃ M, M = fz.length := ⟨_, rfl⟩
  rw [← hfz, ← hM]
  replace hfz := Lib.hid hfz
  replace hM := Lib.hid hM
  have hB := fb_new w nx now (.slice A n c) seg pts x
  obtain ⟨W1, hW1⟩ : ∃ W1, W1 = fbW w nx now (.slice A n c) seg pts x := ⟨_, rfl⟩
  rw [← hW1] at hB
  obtain ⟨g1, hs, hn, hr, hc⟩ := hB
  unfold rsC at hs
  have cN := fun W => refNote_any x W
  rw [decide_eq_true (show okN x from .inr (.inl hx))] at cN
  obtain ⟨hk, ⟨hi1, hi2⟩, -⟩ := hx
  have k1 : (x.kind == 1) = false := eqF (by omega)
  have k2 : (x.kind == 2) = true := eqT hk
  replace hk := Lib.hid hk
  unfold nteV at cN
  replace cN := Lib.hid cN
  replace hW1 := Lib.hid hW1
  have n0 := fcellD hn (j := 0) rfl
  have n1 := fcellD hn (j := 1) rfl
  have n2 := fcellD hn (j := 2) rfl
  have n3 := fcellD hn (j := 3) rfl
  have n4 := fcellD hn (j := 4) rfl
  have n5 := fcellD hn (j := 5) rfl
  replace hn := Lib.hid hn
  replace hc := Lib.hid hc
  replace hs := Lib.hid hs
  replace hr := Lib.hid hr
  go_enter Tryz.func21, Tryz.ntmps21
  go_upto_region 2 with fail
  change Code.wp _ _ _ _ (fbW w nx now (.slice A n c) seg pts x)
  rw [← hW1.out]
  go_wp2_with fail
  refine (cN.out _).mono ?_
  rintro e w2 ⟨rfl, g2⟩
  have hs2 := gr_blk g2 hs.out (by simp)
  have hr2 := gr_blk g2 hr.out (by simp)
  have hc2 := gr_blk g2 hc.out (by simp)
  have hn2 := gr_blk g2 hn.out (by simp)
  have p0 := fcellD hn2 (j := 0) rfl
  have q0 := fcellD hc2 (j := 0) rfl
  have y0 := fzeroD hs2 0
  have m0 := fcellD hs2 (j := 0) rfl
  have m1 := fcellD hs2 (j := 1) rfl
  have m2 := fcellD hs2 (j := 2) rfl
  have m3 := fcellD hs2 (j := 3) rfl
  have m4 := fcellD hs2 (j := 4) rfl
  have hlt := lt_of_blk hs2
  have hwr : IntKind.i64.wrap (x.c.id + 1) = x.c.id + 1 := IntWalk.i64_in _ (by omega)
  clear n0 n1 n2 n3 n4 n5 cN
  replace hz := Lib.hid hz
  obtain ⟨V2, hV2⟩ : ∃ V2, V2 = w2.setCell ⟨w.heap.size, 0, none⟩ (.int .i64 (max nx (x.c.id + 1))) := ⟨_, rfl⟩
  have gs := gr_set w2 ⟨w.heap.size, 0, none⟩ (.int .i64 (max nx (x.c.id + 1)))
  have hsV := blk_set hs2 0 (.int .i64 (max nx (x.c.id + 1)))
  rw [← hV2] at gs hsV
  go_upto_region 15 with fail
  rw [← hV2]
  have hrV := gr_blk gs hr2 (by simp)
  have hcV := gr_blk gs hc2 (by simp)
  have gV : Gr w V2 := gr_of_below ((gr_below (gr_trans g1 g2)).grown gs (gr_trans g1 g2).size (fun k hk => by cases hk; exact Nat.le_refl _)) (Nat.le_refl _)
  clear hV2 gs hs2 hr2 hc2 hn2 p0 q0 y0 m0 m1 m2 m3 m4 g2
  have m2 : V2.cell? ⟨w.heap.size, 2, none⟩ = some (.slice A n c) := fcellD hsV rfl
  have q0 := fcellD hcV (j := 0) rfl
  have hsz := lt_of_blk hcV
  have cW := fun W (g : Gr V2 W) => without_any A n c zs x.c.id W hnn (row_gr (row_own hz.out) (gr_trans gV g))
  rw [← hfz.out, ← hM.out] at cW
  replace cW := Lib.hid cW
  replace hsV := Lib.hid hsV
  replace hrV := Lib.hid hrV
  replace gV := Lib.hid gV
  clear hcV
  go_wp2_with fail
  refine (cW.out _ (gr_refl _ _)).mono ?_
  rintro e w3 ⟨v, rfl, hv, g3⟩
  obtain ⟨A3, c3, rfl, -, -⟩ := own_openS hv
  have hs3 := gr_blk g3 hsV.out (by simp)
  have hr3 := gr_blk g3 hrV.out (by simp)
  have y2 := fzeroD hs3 2
  have z2 : w3.cell? ⟨w.heap.size, 2, none⟩ = some (.slice A n c) := fcellD hs3 rfl
  obtain ⟨V4, hV4⟩ : ∃ V4, V4 = w3.setCell ⟨w.heap.size, 2, none⟩ (.slice A3 M c3) := ⟨_, rfl⟩
  go_upto_region 25 with fail
  rw [← hV4]
  clear cW m2 q0
  have gs4 := gr_set w3 ⟨w.heap.size, 2, none⟩ (.slice A3 M c3)
  have hs4 := blk_set hs3 2 (.slice A3 M c3)
  rw [← hV4] at gs4 hs4
  have hr4 := gr_blk gs4 hr3 (by simp)
  have hv4 := hv.kept gs4 (by
    rcases Classical.em ((Value.slice A3 M c3).ownBlock = some w.heap.size) with q | q
    · have := (hv.lt _ q).1; omega
    · exact .inr q)
  have gW4 : Gr w V4 := gr_of_below ((gr_below (gr_trans gV.out g3)).grown gs4 (gr_trans gV.out g3).size (fun k hk => by cases hk; exact Nat.le_refl _)) (Nat.le_refl _)
  have m0 : V4.cell? ⟨w.heap.size, 0, none⟩ = some (.int .i64 (max nx (x.c.id + 1))) := fcellD hs4 rfl
  have m1 : V4.cell? ⟨w.heap.size, 1, none⟩ = some (.int .i64 now) := fcellD hs4 rfl
  have m2 : V4.cell? ⟨w.heap.size, 2, none⟩ = some (.slice A3 M c3) := fcellD hs4 rfl
  have m3 : V4.cell? ⟨w.heap.size, 3, none⟩ = some (.string (txt seg)) := fcellD hs4 rfl
  have m4 : V4.cell? ⟨w.heap.size, 4, none⟩ = some (.int .i64 pts) := fcellD hs4 rfl
  generalize hmx : max nx (x.c.id + 1) = mx at *
  replace hmx := Lib.hid hmx
  have hth := rs_there hr4
  have hsame := World.rangeAt_setCells_same V4 (w.heap.size + 2) 0 [.int .i64 mx, .int .i64 now, .slice A3 M c3, .string (txt seg), .int .i64 pts] hth
  have hgs := gr_setCells V4 (w.heap.size + 2) 0 [.int .i64 mx, .int .i64 now, .slice A3 M c3, .string (txt seg), .int .i64 pts]
  have r0 := hsame 0 _ rfl
  have r1 := hsame 1 _ rfl
  have r2 := hsame 2 _ rfl
  have r3 := hsame 3 _ rfl
  have r4 := hsame 4 _ rfl
  simp only [Nat.zero_add] at r0 r1 r2 r3 r4
  have hgf : Gr w (V4.setCells (w.heap.size + 2) 0 [.int .i64 mx, .int .i64 now, .slice A3 M c3, .string (txt seg), .int .i64 pts]) := gr_of_below ((gr_below gW4).grown hgs gW4.size (fun k hk => by cases hk; omega)) (Nat.le_refl _)
  have hvf := own_mono (hv4.kept hgs (by
    rcases Classical.em ((Value.slice A3 M c3).ownBlock = some (w.heap.size + 2)) with q | q
    · have := (hv4.lt _ q).1; omega
    · exact .inr q)) (show w.heap.size ≤ V2.heap.size by omega)
  replace hgf := Lib.hid hgf
  replace hvf := Lib.hid hvf
  clear hsame hgs hs3 hr3 hv hv4 gW4 gs4 hs4 hr4 g3 z2 y2
  clear hlt hsz hwr hi1 hi2 g1 hb hnn hV4 gV hsV hrV
  go_wp2_with (refine wpList_store_mid (op := ⟨none, _, _, _, _, _⟩) rfl 32 _ _ rfl (w.heap.size + 2) 0 #[.int .i64 mx, .int .i64 now, .slice A3 M c3, .string (txt seg), .int .i64 pts] rfl rfl hth infoRSt (by simp [Value.oneCell']) ?_)
  (try simp only [Exit.inBlock, Exit.then])
  refine bodyPost_ret (by simp [results, Tryz.results21, go_sem, r0, r1, r2, r3, r4]; try rfl) rfl ?_
  exact ⟨_, by rw [hmx.out], hvf.out, hgf.out⟩
end Go.Proofs.YtmldoeeangekoaaGreatDoor
