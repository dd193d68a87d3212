/-
  (*Desk).May, Open, Tick and Seal at any input; the desk that is none. No condition but bounds.
-/
import Derived.Test.YtmldoeeangekoaaGreatDoorDkB
import Derived.Test.YtmldoeeangekoaaGreatDoorRdA
import Derived.Test.YtmldoeeangekoaaGreatDoorDyA
namespace Go.Proofs.YtmldoeeangekoaaGreatDoor
open Go.RowKit

set_option maxHeartbeats 8000000 in
set_option maxRecDepth 100000 in
theorem dmay_any (D : Nat) (nx now pts rows size ticks : Int) (A : Option Addr) (n c : Nat) (seg : List UInt8) (w : World) (h : DkB w D nx now (.slice A n c) seg pts) (hnow : 0 ≤ now ∧ now ≤ 1000000000) :
    Calls Tryz.prog 10 #[.pointer (some ⟨D, 0, none⟩), .int .i64 rows, .int .i64 size, .int .i64 ticks] w fun e w' => e = .returned (.int .i64 (mayM nx now n rows size ticks)) ∧ w = w' := by
  obtain ⟨c0, c1, c2, c3, c4⟩ := dkb_cells h
  obtain ⟨M, hM⟩ : ∃ M, M = mayM nx now n rows size ticks := ⟨_, rfl⟩
  rw [← hM]
  replace hM := Lib.hid hM
  clear h
  by_cases ht : 0 ≤ ticks ∧ ticks ≤ 100000
  · have hwr : IntKind.i64.wrap (1000000000 - ticks) = 1000000000 - ticks := IntWalk.i64_in _ (by omega)
    go_enter Tryz.func10, Tryz.ntmps10
    go_wp2
    all_goals
      go_ret
      refine ⟨?_, rfl⟩
      apply congrArg (fun b => Ending.returned (Value.int .i64 b))
      rw [hM.out]
      unfold mayM
      first
        | (rw [if_pos (by omega)]; done)
        | (rw [if_neg (by omega), if_pos (by omega)]; done)
        | (rw [if_neg (by omega), if_neg (by omega)]; done)
        | skip
  · have hM1 : M = 1 := by
      rw [hM.out]
      unfold mayM
      rw [if_pos (by omega)]
    replace hM1 := Lib.hid hM1
    have hb : ticks < 0 ∨ (¬ ticks < 0 ∧ 100000 < ticks) := by omega
    rcases hb with hb | ⟨hb1, hb⟩
    all_goals
      go_enter Tryz.func10, Tryz.ntmps10
      go_wp2
      all_goals
        go_ret
        exact ⟨by rw [hM1.out]; rfl, rfl⟩
set_option maxHeartbeats 4000000 in
set_option maxRecDepth 100000 in
theorem dopen_no (D : Nat) (nx now pts rows size ticks : Int) (A : Option Addr) (n c : Nat) (seg : List UInt8) (w : World) (h : DkB w D nx now (.slice A n c) seg pts) (hnow : 0 ≤ now ∧ now ≤ 1000000000) (hm : mayM nx now n rows size ticks ≠ 0) :
    Calls Tryz.prog 11 #[.pointer (some ⟨D, 0, none⟩), .int .i64 rows, .int .i64 size, .int .i64 ticks] w fun e w' => e = .returned (.tuple #[curV cu0, .int .i64 (mayM nx now n rows size ticks)]) ∧ Gr w w' := by
  obtain ⟨W0, hW0⟩ : ∃ W0, W0 = w.alloc (.cells #[.int .i64 0, .int .i64 0, .int .i64 0, .int .i64 0, .string ⟨#[]⟩] 52) := ⟨_, rfl⟩
  have g0 : Gr w W0 := by rw [hW0]; exact gr_alloc _ _ _
  have hR : CuB W0 w.heap.size cu0 := by rw [hW0]; exact blk_new w _
  have cM := dmay_any D nx now pts rows size ticks A n c seg W0 (gr_blk g0 h (by simp)) hnow
  have hth := cub_there hR
  have hsame := World.rangeAt_setCells_same W0 w.heap.size 0 [.int .i64 0, .int .i64 0, .int .i64 0, .int .i64 0, .string ⟨#[]⟩] hth
  have r0 := hsame 0 _ rfl
  have r1 := hsame 1 _ rfl
  have r2 := hsame 2 _ rfl
  have r3 := hsame 3 _ rfl
  have r4 := hsame 4 _ rfl
  simp only [Nat.zero_add] at r0 r1 r2 r3 r4
  have hG := gr_over g0 (gr_setCells W0 w.heap.size 0 [.int .i64 0, .int .i64 0, .int .i64 0, .int .i64 0, .string ⟨#[]⟩]) (Nat.le_refl _)
  generalize mayM nx now n rows size ticks = M at *
  have hm1 : (M != 0) = true := by simpa using hm
  replace hm := Lib.hid hm
  replace hG := Lib.hid hG
  replace cM := Lib.hid cM
  clear h hR hsame g0
  go_enter Tryz.func11, Tryz.ntmps11
  go_upto_region 1 with fail
  rw [← hW0]
  clear hW0
  go_wp2_with fail
  refine cM.out.mono ?_
  rintro e w' ⟨rfl, rfl⟩
  go_wp2_with (refine wpList_store_mid (op := ⟨none, _, _, _, _, _⟩) rfl 52 _ _ rfl w.heap.size 0 #[.int .i64 0, .int .i64 0, .int .i64 0, .int .i64 0, .string ⟨#[]⟩] rfl rfl hth infoCu (by simp [Value.oneCell']) ?_)
  (try simp only [Exit.inBlock, Exit.then])
  refine bodyPost_ret (by simp [results, Tryz.results11, go_sem, r0, r1, r2, r3, r4]; try rfl) rfl ?_
  exact ⟨rfl, hG.out⟩
set_option maxHeartbeats 4000000 in
set_option maxRecDepth 100000 in
theorem dtick_bad (D : Nat) (t : Int) (w : World) (ht : t < 1 ∨ 100000 < t) :
    Calls Tryz.prog 15 #[.pointer (some ⟨D, 0, none⟩), .int .i64 t] w fun e w' => e = .returned (.tuple #[.slice none 0 0, .int .i64 1]) ∧ Gr w w' := by
  rcases Classical.em (t < 1) with h1 | h1
  · go_enter Tryz.func15, Tryz.ntmps15
    go_wp2
    all_goals
      go_ret2
      exact ⟨rfl, by first | exact gr_refl _ _ | exact gr_drew _ _ | exact gr_drewN _ _ _⟩
  · have h2 : 100000 < t := by omega
    go_enter Tryz.func15, Tryz.ntmps15
    go_wp2
    all_goals
      go_ret2
      exact ⟨rfl, by first | exact gr_refl _ _ | exact gr_drew _ _ | exact gr_drewN _ _ _⟩
/-! ### The desk that is none -/
set_option maxHeartbeats 4000000 in
set_option maxRecDepth 100000 in
theorem nil_may (w : World) : Calls Tryz.prog 10 #[.pointer none, .int .i64 1, .int .i64 1, .int .i64 1] w fun e w' => e = .returned (.int .i64 1) ∧ w = w' := by
  go_enter Tryz.func10, Tryz.ntmps10
  go_wp2
  go_ret
  exact ⟨rfl, rfl⟩
set_option maxHeartbeats 4000000 in
set_option maxRecDepth 100000 in
theorem nil_tick (w : World) : Calls Tryz.prog 15 #[.pointer none, .int .i64 1] w fun e w' => e = .returned (.tuple #[.slice none 0 0, .int .i64 1]) ∧ Gr w w' := by
  go_enter Tryz.func15, Tryz.ntmps15
  go_wp2
  all_goals
    go_ret2
    exact ⟨rfl, by first | exact gr_refl _ _ | exact gr_drew _ _ | exact gr_drewN _ _ _⟩
end Go.Proofs.YtmldoeeangekoaaGreatDoor
