/-
  The document's State: a note of the segment. No condition but bounds.
-/
import Derived.Test.YtmldoeeangekoaaGreatDoorRdA
import Derived.Lib.MinMax
namespace Go.Proofs.YtmldoeeangekoaaGreatDoor
open Go.RowKit

set_option maxHeartbeats 8000000 in
set_option maxRecDepth 100000 in
theorem rfold_seg (nx now pts : Int) (A : Option Addr) (n c : Nat) (seg : List UInt8) (x : Nte) (w : World) (hx : okSeg x) :
    Calls Tryz.prog 21 #[.agg #[.int .i64 nx, .int .i64 now, .slice A n c, .string (txt seg), .int .i64 pts], .agg #[.int .i64 x.kind, .int .i64 x.c.id, .int .i64 x.c.rows, .int .i64 x.c.size, .int .i64 x.c.tl, .string (txt x.c.file)]] w fun e w' => e = .returned (.agg #[.int .i64 nx, .int .i64 now, .slice A n c, .string (txt x.c.file), .int .i64 x.c.rows]) ∧ Gr w w' := by
  have hB := fb_new w nx now (.slice A n c) seg pts x
  obtain ⟨W1, hW1⟩ : ∃ W1, W1 = fbW w nx now (.slice A n c) seg pts x := ⟨_, rfl⟩
  rw [← hW1] at hB
  obtain ⟨g1, hs, hn, hr, hc⟩ := hB
  unfold rsC at hs
  have cN := fun W => refNote_any x W
  rw [decide_eq_true (show okN x from .inr (.inr (.inr hx)))] at cN
  obtain ⟨hk, -⟩ := hx
  have k1 : (x.kind == 1) = false := eqF (by omega)
  have k2 : (x.kind == 2) = false := eqF (by omega)
  have k3 : (x.kind == 3) = false := eqF (by omega)
  have k4 : (x.kind == 4) = true := eqT hk
  replace hk := Lib.hid hk
  unfold nteV at cN
  replace cN := Lib.hid cN
  replace hW1 := Lib.hid hW1
  have n0 := fcellD hn (j := 0) rfl
  have n1 := fcellD hn (j := 1) rfl
  have n2 := fcellD hn (j := 2) rfl
  have n3 := fcellD hn (j := 3) rfl
  have n4 := fcellD hn (j := 4) rfl
  have n5 := fcellD hn (j := 5) rfl
  replace hn := Lib.hid hn
  replace hc := Lib.hid hc
  replace hs := Lib.hid hs
  replace hr := Lib.hid hr
  go_enter Tryz.func21, Tryz.ntmps21
  go_upto_region 2 with fail
  change Code.wp _ _ _ _ (fbW w nx now (.slice A n c) seg pts x)
  rw [← hW1.out]
  go_wp2_with fail
  refine (cN.out _).mono ?_
  rintro e w2 ⟨rfl, g2⟩
  have hs2 := gr_blk g2 hs.out (by simp)
  have hr2 := gr_blk g2 hr.out (by simp)
  have hc2 := gr_blk g2 hc.out (by simp)
  have hn2 := gr_blk g2 hn.out (by simp)
  have p0 := fcellD hn2 (j := 0) rfl
  have q1 : w2.cell? ⟨w.heap.size + 3, 1, none⟩ = some (.int .i64 x.c.rows) := fcellD hc2 rfl
  have q4 : w2.cell? ⟨w.heap.size + 3, 4, none⟩ = some (.string (txt x.c.file)) := fcellD hc2 rfl
  have y3 := fzeroD hs2 3
  have y4 := fzeroD hs2 4
  have y0 := fzeroD hs2 0
  have m0 := fcellD hs2 (j := 0) rfl
  have m1 := fcellD hs2 (j := 1) rfl
  have m2 := fcellD hs2 (j := 2) rfl
  have m3 := fcellD hs2 (j := 3) rfl
  have m4 := fcellD hs2 (j := 4) rfl
  clear n0 n1 n2 n3 n4 n5 cN hn2 hc2
  replace hs2 := Lib.hid hs2
  replace hr2 := Lib.hid hr2
  replace g2 := Lib.hid g2
  replace g1 := Lib.hid g1
  go_upto_region 5 with fail
  go_region
  have gs3 := gr_set w2 ⟨w.heap.size, 3, none⟩ (.string (txt x.c.file))
  have hs3 := blk_set hs2.out 3 (.string (txt x.c.file))
  obtain ⟨V3, hV3⟩ : ∃ V3, V3 = w2.setCell ⟨w.heap.size, 3, none⟩ (.string (txt x.c.file)) := ⟨_, rfl⟩
  rw [← hV3] at gs3 hs3 ⊢
  have gs4 := gr_set V3 ⟨w.heap.size, 4, none⟩ (.int .i64 x.c.rows)
  have hs4 := blk_set hs3 4 (.int .i64 x.c.rows)
  obtain ⟨V4, hV4⟩ : ∃ V4, V4 = V3.setCell ⟨w.heap.size, 4, none⟩ (.int .i64 x.c.rows) := ⟨_, rfl⟩
  rw [← hV4] at gs4 hs4 ⊢
  have hr3 := gr_blk gs3 hr2.out (by simp)
  have hr4 := gr_blk gs4 hr3 (by simp)
  have hrD := gr_blk (gr_drew V4 none) hr4 (by simp)
  have hsD := gr_blk (gr_drew V4 none) hs4 (by simp)
  have gW2 := gr_trans g1.out g2.out
  have B4 : Below w.heap.size w V4 := ((gr_below gW2).grown gs3 gW2.size (fun k hk => by cases hk; exact Nat.le_refl _)).grown gs4 (Nat.le_trans gW2.size gs3.size) (fun k hk => by cases hk; exact Nat.le_refl _)
  have gW4 : Gr w V4.drew := gr_trans (gr_of_below B4 (Nat.le_refl _)) (gr_drew V4 none)
  obtain ⟨VD, hVD⟩ : ∃ VD, VD = V4.drew := ⟨_, rfl⟩
  rw [← hVD] at hrD hsD gW4 ⊢
  have m0 : VD.cell? ⟨w.heap.size, 0, none⟩ = some (.int .i64 nx) := fcellD hsD rfl
  have m1 : VD.cell? ⟨w.heap.size, 1, none⟩ = some (.int .i64 now) := fcellD hsD rfl
  have m2 : VD.cell? ⟨w.heap.size, 2, none⟩ = some (.slice A n c) := fcellD hsD rfl
  have m3 : VD.cell? ⟨w.heap.size, 3, none⟩ = some (.string (txt x.c.file)) := fcellD hsD rfl
  have m4 : VD.cell? ⟨w.heap.size, 4, none⟩ = some (.int .i64 x.c.rows) := fcellD hsD rfl
  have hth := rs_there hrD
  have hsame := World.rangeAt_setCells_same VD (w.heap.size + 2) 0 [.int .i64 nx, .int .i64 now, .slice A n c, .string (txt x.c.file), .int .i64 x.c.rows] hth
  have hgs := gr_setCells VD (w.heap.size + 2) 0 [.int .i64 nx, .int .i64 now, .slice A n c, .string (txt x.c.file), .int .i64 x.c.rows]
  have r0 := hsame 0 _ rfl
  have r1 := hsame 1 _ rfl
  have r2 := hsame 2 _ rfl
  have r3 := hsame 3 _ rfl
  have r4 := hsame 4 _ rfl
  simp only [Nat.zero_add] at r0 r1 r2 r3 r4
  have hgf : Gr w (VD.setCells (w.heap.size + 2) 0 [.int .i64 nx, .int .i64 now, .slice A n c, .string (txt x.c.file), .int .i64 x.c.rows]) := gr_of_below ((gr_below gW4).grown hgs gW4.size (fun k hk => by cases hk; omega)) (Nat.le_refl _)
  replace hgf := Lib.hid hgf
  clear hsame hgs hrD hsD gW4 B4 gW2 hr3 hr4 hs3 hs4 gs3 gs4 hV3 hV4 hVD q1 q4 y0 y3 y4 hs2 hr2 g1 g2 p0
  go_wp2_with (refine wpList_store_mid (op := ⟨none, _, _, _, _, _⟩) rfl 32 _ _ rfl (w.heap.size + 2) 0 #[.int .i64 nx, .int .i64 now, .slice A n c, .string (txt x.c.file), .int .i64 x.c.rows] rfl rfl hth infoRSt (by simp [Value.oneCell']) ?_)
  (try simp only [Exit.inBlock, Exit.then])
  refine bodyPost_ret (by simp [results, Tryz.results21, go_sem, r0, r1, r2, r3, r4]; try rfl) rfl ?_
  exact ⟨rfl, hgf.out⟩
end Go.Proofs.YtmldoeeangekoaaGreatDoor
