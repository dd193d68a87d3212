/-
  diary.Fold of one note that opens. No condition but that it may be.
-/
import Derived.Test.YtmldoeeangekoaaGreatDiaryFold2
namespace Go.Proofs.YtmldoeeangekoaaGreat
open Go.RowKit

theorem infoSt : (Tryz.prog.info? 56).map (·.size) = some 5 := by kernel_rfl
theorem liftV_open {x : Nte} (h : okOpen x) : liftV x = .iface 168 (.agg #[.int .i64 x.c.id, .int .i64 x.c.rows, .int .i64 x.c.size, .int .i64 x.c.tl, .string (txt x.c.file)]) := by unfold liftV; rw [if_pos h]
theorem stAt_keep {w w' : World} {St b : Nat} {nx now : Int} {op : Value} {seg : List UInt8} {pts : Int} (h : StAt w St nx now op seg pts) (g : w.grownBy w' (some b)) (hne : b ≠ St) : StAt w' St nx now op seg pts := gr_blk g h (fun e => hne (Option.some.inj e).symm)
set_option maxHeartbeats 16000000 in
set_option maxRecDepth 100000 in
theorem dFold1 (B : Nat) (x : Nte) (w : World) (h : okOpen x) (_hB : B < w.heap.size) (hx : ∀ j, j < 6 → w.cell? ⟨B, j, none⟩ = (nteC x)[j]?) :
    Calls Tryz.prog 17 #[.slice (some ⟨B, 0, none⟩) 1 1] w fun e w' => (∃ A cap, e = .returned (.agg #[.int .i64 (x.c.id + 1), .int .i64 0, .slice A 1 cap, .string ⟨#[]⟩, .int .i64 0])) ∧ Gr w w' := by
  have cL := fun W => lift_any x W
  unfold LiftPost nteV at cL
  rw [liftV_open h] at cL
  have hid : 1 ≤ x.c.id ∧ x.c.id ≤ 1000000 := h.2.1
  have cF := fun St W hS => dfold_open St x.c 0 [] 0 W hS hid
  have c0 : w.cell? ⟨B, 0, none⟩ = some (.int .i64 x.kind) := hx 0 (by decide)
  have c1 : w.cell? ⟨B, 1, none⟩ = some (.int .i64 x.c.id) := hx 1 (by decide)
  have c2 : w.cell? ⟨B, 2, none⟩ = some (.int .i64 x.c.rows) := hx 2 (by decide)
  have c3 : w.cell? ⟨B, 3, none⟩ = some (.int .i64 x.c.size) := hx 3 (by decide)
  have c4 : w.cell? ⟨B, 4, none⟩ = some (.int .i64 x.c.tl) := hx 4 (by decide)
  have c5 : w.cell? ⟨B, 5, none⟩ = some (.string (txt x.c.file)) := hx 5 (by decide)
  clear hx h
  obtain ⟨kd, ⟨id, rows, size, tl, file⟩⟩ := x
  simp only at cL cF hid c0 c1 c2 c3 c4 c5 ⊢
  replace cL := Lib.hid cL
  replace cF := Lib.hid cF
  go_enter Tryz.func17, Tryz.ntmps17
  go_wp2
  go_loopw [9] (fun iv wr => ∃ (k : Nat) (nx : Int) (op : Value), k ≤ 1 ∧ iv = .int .i64 k ∧ Hid ((k = 0 ∧ nx = 1 ∧ op = .slice none 0 0) ∨ (k = 1 ∧ nx = id + 1 ∧ ∃ A cap, op = .slice A 1 cap)) ∧ Hid (StAt wr (w.heap.size + 1) nx 0 op [] 0) ∧ Hid (StAt wr w.heap.size 0 0 (.slice none 0 0) [] 0) ∧ Hid (Below w.heap.size w wr)) (fun iv _ => 1 - (intOf iv).toNat)
  case atStart =>
    have hz : (w.alloc (.cells (stC 0 0 (.slice none 0 0) [] 0) 56)).heap.size = w.heap.size + 1 := by simp
    have hn1 := blk_new (w.alloc (.cells (stC 0 0 (.slice none 0 0) [] 0) 56)) (.cells (stC 1 0 (.slice none 0 0) [] 0) 56)
    rw [hz] at hn1
    exact ⟨0, 1, .slice none 0 0, by decide, rfl, .inl ⟨rfl, rfl, rfl⟩, hn1, gr_blk (gr_alloc _ _ none) (blk_new w _) (by simp), gr_below (gr_trans (gr_alloc _ _ _) (gr_alloc _ _ _))⟩
  case round =>
    obtain ⟨k, nx, op, hk, rfl, hor, hS, hR, hbel⟩ := hrel
    have hs := hbel.out.size
    rcases hor.out with ⟨rfl, rfl, rfl⟩ | ⟨rfl, rfl, A, cap, rfl⟩
    · have gB : ∀ (j : Nat) (v : Value), w.cell? ⟨B, j, none⟩ = some v → wr.cell? ⟨B, j, none⟩ = some v := fun j v hv => gr_cell (gr_of_below hbel.out (Nat.le_refl _)) hv
      have d0 := gB _ _ c0
      have d1 := gB _ _ c1
      have d2 := gB _ _ c2
      have d3 := gB _ _ c3
      have d4 := gB _ _ c4
      have d5 := gB _ _ c5
      have hlt := lt_of_blk hS.out
      clear c0 c1 c2 c3 c4 c5 gB
      go_wp2_with fail
      refine (cL.out _).mono ?_
      rintro e W2 ⟨rfl, g2⟩
      have gA : Gr wr W2 := gr_trans (gr_alloc _ _ _) g2
      have hS2 := stAt_gr hS.out gA
      have hR2 := stAt_gr hR.out gA
      have hbel2 := below_gr hbel.out gA hs (by simp)
      clear g2
      go_wp2_with fail
      refine (cF.out _ _ hS2).mono ?_
      rintro e W3 ⟨rfl, ⟨A, cap, hS3⟩, g3⟩
      have hR3 := stAt_keep hR2 g3 (by omega)
      have hbel3 : Below w.heap.size w W3 := hbel2.trans ((Below.refl _ _).grown g3 hbel2.size (by intro k hk; cases hk; exact Nat.le_succ _))
      replace hS3 := Lib.hid hS3
      replace hR3 := Lib.hid hR3
      replace hbel3 := Lib.hid hbel3
      clear hS2 hR2 hbel2 gA g3
      go_wp2
      go_roundw
      case rel => exact ⟨1, _, _, by decide, by rfl, .inr ⟨rfl, rfl, A, cap, rfl⟩, hS3.out, hR3.out, hbel3.out⟩
      case measure => simp [intOf]
    · have s0 : wr.cell? ⟨w.heap.size + 1, 0, none⟩ = some (.int .i64 (id + 1)) := fcell hS.out rfl
      have s1 : wr.cell? ⟨w.heap.size + 1, 1, none⟩ = some (.int .i64 0) := fcell hS.out rfl
      have s2 : wr.cell? ⟨w.heap.size + 1, 2, none⟩ = some (.slice A 1 cap) := fcell hS.out rfl
      have s3 : wr.cell? ⟨w.heap.size + 1, 3, none⟩ = some (.string (txt [])) := fcell hS.out rfl
      have s4 : wr.cell? ⟨w.heap.size + 1, 4, none⟩ = some (.int .i64 0) := fcell hS.out rfl
      have hth : wr.there w.heap.size 0 5 := fun j hj => ⟨by
        match j, hj with
        | 0, _ => rw [fcell hR.out rfl]; rfl
        | 1, _ => rw [fcell hR.out rfl]; rfl
        | 2, _ => rw [fcell hR.out rfl]; rfl
        | 3, _ => rw [fcell hR.out rfl]; rfl
        | 4, _ => rw [fcell hR.out rfl]; rfl
        | j + 5, hj => omega, fzero hR.out _⟩
      have hsame := World.rangeAt_setCells_same wr w.heap.size 0 [.int .i64 (id + 1), .int .i64 0, .slice A 1 cap, .string (txt []), .int .i64 0] hth
      have hgs := gr_setCells wr w.heap.size 0 [.int .i64 (id + 1), .int .i64 0, .slice A 1 cap, .string (txt []), .int .i64 0]
      have r0 := hsame 0 _ rfl
      have r1 := hsame 1 _ rfl
      have r2 := hsame 2 _ rfl
      have r3 := hsame 3 _ rfl
      have r4 := hsame 4 _ rfl
      simp only [Nat.zero_add] at r0 r1 r2 r3 r4
      replace hgs := Lib.hid hgs
      clear hsame c0 c1 c2 c3 c4 c5
      go_upto_region 7 with fail
      go_wp2_with (refine wpList_store_mid (op := ⟨none, _, _, _, _, _⟩) rfl 56 _ _ rfl w.heap.size 0 #[.int .i64 (id + 1), .int .i64 0, .slice A 1 cap, .string (txt []), .int .i64 0] rfl rfl hth infoSt (by simp [Value.oneCell']) ?_)
      (try simp only [Exit.inBlock, Exit.then])
      refine bodyPost_ret (by simp [results, Tryz.results17, go_sem, r0, r1, r2, r3, r4]; try rfl) rfl ?_
      exact ⟨⟨A, cap, rfl⟩, gr_of_below (hbel.out.grown hgs.out hs (fun k hk => by cases hk; exact Nat.le_refl _)) (Nat.le_refl _)⟩
end Go.Proofs.YtmldoeeangekoaaGreat
