/-
  A state as the document's, and states that are alike. No condition but a bound on how many cursors are open.
-/
import Derived.Test.YtmldoeeangekoaaGreatDoorDyA
namespace Go.Proofs.YtmldoeeangekoaaGreatDoor.Dy
open Go.RowKit

theorem infoRS : (Tryz.prog.info? 32).map (·.size) = some 5 := by kernel_rfl
set_option maxHeartbeats 8000000 in
set_option maxRecDepth 100000 in
theorem plain_any (nx now : Int) (A : Option Addr) (n c : Nat) (seg : List UInt8) (pts : Int) (w : World) :
    Calls Tryz.prog 27 #[.agg #[.int .i64 nx, .int .i64 now, .slice A n c, .string (txt seg), .int .i64 pts]] w fun e w' => e = .returned (.agg #[.int .i64 nx, .int .i64 now, .slice A n c, .string (txt seg), .int .i64 pts]) ∧ Gr w w' := by
  go_enter Tryz.func27, Tryz.ntmps27
  obtain ⟨W0, hW0⟩ : ∃ W0, W0 = w.alloc (.cells #[.int .i64 nx, .int .i64 now, .slice A n c, .string (txt seg), .int .i64 pts] 30) := ⟨_, rfl⟩
  obtain ⟨W1, hW1⟩ : ∃ W1, W1 = W0.alloc (.cells (stC 0 0 (.slice none 0 0) [] 0) 32) := ⟨_, rfl⟩
  have hz : W0.heap.size = w.heap.size + 1 := by rw [hW0]; simp
  have hS : ∀ j v, (#[.int .i64 nx, .int .i64 now, .slice A n c, .string (txt seg), .int .i64 pts] : Array Value)[j]? = some v → W1.cell? ⟨w.heap.size, j, none⟩ = some v := fun j v hj => by rw [hW1]; exact gr_cell (gr_alloc _ _ none) (by rw [hW0, World.cell?_alloc_new]; exact hj)
  have s0 : W1.cell? ⟨w.heap.size, 0, none⟩ = some (.int .i64 nx) := hS 0 _ rfl
  have s1 : W1.cell? ⟨w.heap.size, 1, none⟩ = some (.int .i64 now) := hS 1 _ rfl
  have s2 : W1.cell? ⟨w.heap.size, 2, none⟩ = some (.slice A n c) := hS 2 _ rfl
  have s3 : W1.cell? ⟨w.heap.size, 3, none⟩ = some (.string (txt seg)) := hS 3 _ rfl
  have s4 : W1.cell? ⟨w.heap.size, 4, none⟩ = some (.int .i64 pts) := hS 4 _ rfl
  have hR : W1.heap[w.heap.size + 1]? = some (.cells (stC 0 0 (.slice none 0 0) [] 0) 32) := by rw [← hz, hW1]; exact blk_new W0 _
  have hth : W1.there (w.heap.size + 1) 0 5 := fun j hj => ⟨by
    match j, hj with
    | 0, _ => rw [fcell hR rfl]; rfl
    | 1, _ => rw [fcell hR rfl]; rfl
    | 2, _ => rw [fcell hR rfl]; rfl
    | 3, _ => rw [fcell hR rfl]; rfl
    | 4, _ => rw [fcell hR rfl]; rfl
    | j + 5, hj => omega, fzero hR _⟩
  have hsame := World.rangeAt_setCells_same W1 (w.heap.size + 1) 0 [.int .i64 nx, .int .i64 now, .slice A n c, .string (txt seg), .int .i64 pts] hth
  have hgs := gr_setCells W1 (w.heap.size + 1) 0 [.int .i64 nx, .int .i64 now, .slice A n c, .string (txt seg), .int .i64 pts]
  have r0 := hsame 0 _ rfl
  have r1 := hsame 1 _ rfl
  have r2 := hsame 2 _ rfl
  have r3 := hsame 3 _ rfl
  have r4 := hsame 4 _ rfl
  simp only [Nat.zero_add] at r0 r1 r2 r3 r4
  have g1 : Gr w W1 := by rw [hW1]; exact gr_trans (by rw [hW0]; exact gr_alloc _ _ _) (gr_alloc _ _ _)
  have hgf : Gr w (W1.setCells (w.heap.size + 1) 0 [.int .i64 nx, .int .i64 now, .slice A n c, .string (txt seg), .int .i64 pts]) := gr_of_below ((gr_below (by exact g1)).grown hgs g1.size (fun k hk => by cases hk; omega)) (Nat.le_refl _)
  replace hgf := Lib.hid hgf
  have hsz : W1.heap.size = w.heap.size + 2 := by rw [hW1]; simp [hz]
  clear hsame hS hgs g1 hR
  subst hW0
  go_upto_region 1 with fail
  rw [show (w.alloc (.cells #[.int .i64 nx, .int .i64 now, .slice A n c, .string (txt seg), .int .i64 pts] 30)).alloc (.cells #[.int .i64 0, .int .i64 0, .slice none 0 0, .string ⟨#[]⟩, .int .i64 0] 32) = W1 from hW1.symm]
  clear hW1 hz
  go_wp2_with (refine wpList_store_mid (op := ⟨none, _, _, _, _, _⟩) rfl 32 _ _ rfl (w.heap.size + 1) 0 #[.int .i64 nx, .int .i64 now, .slice A n c, .string (txt seg), .int .i64 pts] rfl rfl hth infoRS (by simp [Value.oneCell']) ?_)
  (try simp only [Exit.inBlock, Exit.then])
  refine bodyPost_ret (by simp [results, Tryz.results27, go_sem, r0, r1, r2, r3, r4]; try rfl) rfl ?_
  exact ⟨rfl, hgf.out⟩
set_option maxHeartbeats 16000000 in
set_option maxRecDepth 100000 in
theorem stSame_yes (nx now : Int) (A B : Option Addr) (n ca cb : Nat) (seg : List UInt8) (pts : Int) (zs : List Cur) (w : World) (hn : n ≤ 1000000) (hA : Row w A n 5 (sR curC zs)) (hB : Row w B n 5 (sR curC zs)) :
    Calls Tryz.prog 28 #[.agg #[.int .i64 nx, .int .i64 now, .slice A n ca, .string (txt seg), .int .i64 pts], .agg #[.int .i64 nx, .int .i64 now, .slice B n cb, .string (txt seg), .int .i64 pts]] w fun e w' => e = .returned (.bool true) ∧ Gr w w' := by
  replace hA := Lib.hid hA
  replace hB := Lib.hid hB
  go_enter Tryz.func28, Tryz.ntmps28
  go_upto_region 1 with fail
  obtain ⟨W1, hW1⟩ : ∃ W1, W1 = (w.alloc (.cells #[.int .i64 nx, .int .i64 now, .slice A n ca, .string (txt seg), .int .i64 pts] 32)).alloc (.cells #[.int .i64 nx, .int .i64 now, .slice B n cb, .string (txt seg), .int .i64 pts] 32) := ⟨_, rfl⟩
  rw [← hW1]
  have hW0 : (w.alloc (.cells #[.int .i64 nx, .int .i64 now, .slice A n ca, .string (txt seg), .int .i64 pts] 32)).heap.size = w.heap.size + 1 := by simp
  have hS : ∀ j v, (#[.int .i64 nx, .int .i64 now, .slice A n ca, .string (txt seg), .int .i64 pts] : Array Value)[j]? = some v → W1.cell? ⟨w.heap.size, j, none⟩ = some v := fun j v hj => by rw [hW1]; exact gr_cell (gr_alloc _ _ none) (by rw [World.cell?_alloc_new]; exact hj)
  have hT : ∀ j v, (#[.int .i64 nx, .int .i64 now, .slice B n cb, .string (txt seg), .int .i64 pts] : Array Value)[j]? = some v → W1.cell? ⟨w.heap.size + 1, j, none⟩ = some v := fun j v hj => by rw [hW1, ← hW0, World.cell?_alloc_new]; exact hj
  have g1 : Gr w W1 := by rw [hW1]; exact gr_trans (gr_alloc _ _ _) (gr_alloc _ _ _)
  have a0 : W1.cell? ⟨w.heap.size, 0, none⟩ = some (.int .i64 nx) := hS 0 _ rfl
  have a1 : W1.cell? ⟨w.heap.size, 1, none⟩ = some (.int .i64 now) := hS 1 _ rfl
  have a2 : W1.cell? ⟨w.heap.size, 2, none⟩ = some (.slice A n ca) := hS 2 _ rfl
  have a3 : W1.cell? ⟨w.heap.size, 3, none⟩ = some (.string (txt seg)) := hS 3 _ rfl
  have a4 : W1.cell? ⟨w.heap.size, 4, none⟩ = some (.int .i64 pts) := hS 4 _ rfl
  have b0 : W1.cell? ⟨w.heap.size + 1, 0, none⟩ = some (.int .i64 nx) := hT 0 _ rfl
  have b1 : W1.cell? ⟨w.heap.size + 1, 1, none⟩ = some (.int .i64 now) := hT 1 _ rfl
  have b2 : W1.cell? ⟨w.heap.size + 1, 2, none⟩ = some (.slice B n cb) := hT 2 _ rfl
  have b3 : W1.cell? ⟨w.heap.size + 1, 3, none⟩ = some (.string (txt seg)) := hT 3 _ rfl
  have b4 : W1.cell? ⟨w.heap.size + 1, 4, none⟩ = some (.int .i64 pts) := hT 4 _ rfl
  have hA1 := row_gr hA.out g1
  have hB1 := row_gr hB.out g1
  clear hA hB hS hT hW0 hW1
  replace hA1 := Lib.hid hA1
  replace hB1 := Lib.hid hB1
  replace g1 := Lib.hid g1
  go_wp2_with fail
  go_loopw [5] (fun i wr => ∃ k : Nat, k ≤ n ∧ i = .int .i64 k ∧ Hid (Gr W1 wr)) (fun i _ => n - (intOf i).toNat)
  case atStart => exact ⟨0, Nat.zero_le _, rfl, gr_refl _ _⟩
  case round =>
    obtain ⟨k, hk, rfl, hg⟩ := hrel
    have p2 := gr_cell hg.out a2
    have q2 := gr_cell hg.out b2
    clear a0 a1 a2 a3 a4 b0 b1 b2 b3 b4
    by_cases hlt : k < n
    · obtain ⟨x, gA, oA, hx, rfl, _, ha⟩ := rowS_elem curC_len (row_gr hA1.out hg.out) (by decide) hlt
      obtain ⟨y, gB, oB, hy, rfl, _, hb⟩ := rowS_elem curC_len (row_gr hB1.out hg.out) (by decide) hlt
      obtain rfl : x = y := by rw [hx] at hy; exact Option.some.inj hy
      have hki : (k : Int) < (n : Int) := by omega
      have hk0 : (0 : Int) ≤ (k : Int) := by omega
      have d0 : wr.cell? ⟨gA, oA + k * 5, none⟩ = some (.int .i64 x.id) := ha 0 (by decide)
      have d1 : wr.cell? ⟨gA, oA + k * 5 + 1, none⟩ = some (.int .i64 x.rows) := ha 1 (by decide)
      have d2 : wr.cell? ⟨gA, oA + k * 5 + 2, none⟩ = some (.int .i64 x.size) := ha 2 (by decide)
      have d3 : wr.cell? ⟨gA, oA + k * 5 + 3, none⟩ = some (.int .i64 x.tl) := ha 3 (by decide)
      have d4 : wr.cell? ⟨gA, oA + k * 5 + 4, none⟩ = some (.string (txt x.file)) := ha 4 (by decide)
      have e0 : wr.cell? ⟨gB, oB + k * 5, none⟩ = some (.int .i64 x.id) := hb 0 (by decide)
      have e1 : wr.cell? ⟨gB, oB + k * 5 + 1, none⟩ = some (.int .i64 x.rows) := hb 1 (by decide)
      have e2 : wr.cell? ⟨gB, oB + k * 5 + 2, none⟩ = some (.int .i64 x.size) := hb 2 (by decide)
      have e3 : wr.cell? ⟨gB, oB + k * 5 + 3, none⟩ = some (.int .i64 x.tl) := hb 3 (by decide)
      have e4 : wr.cell? ⟨gB, oB + k * 5 + 4, none⟩ = some (.string (txt x.file)) := hb 4 (by decide)
      clear ha hb hx hy
      generalize x.id = x1 at *
      generalize x.rows = x2 at *
      generalize x.size = x3 at *
      generalize x.tl = x4 at *
      generalize x.file = x5 at *
      go_wp2_with fail
      go_quiet (fail)
      go_wp2
      go_roundw
      case rel => exact ⟨k + 1, by omega, by go_num, gr_trans hg.out (gr_drewN _ _ _)⟩
      case measure => simp [intOf]; omega
    · obtain rfl : k = n := by omega
      go_wp2
      go_ret
      exact ⟨rfl, gr_trans g1.out hg.out⟩
end Go.Proofs.YtmldoeeangekoaaGreatDoor.Dy
