/-
  The chapter's first call answers true. No condition.
-/
import Derived.Test.YtcinhaaibnailaaGreatRowGet
import Derived.Test.YtcinhaaibnailaaGreatRowLight
namespace Go.Proofs.YtcinhaaibnailaaGreat
open Go.RowKit

def aliveR : Rw := ⟨[⟨[97], [120]⟩], 5⟩
theorem aliveR_ok : okR aliveR := by decide +kernel
theorem aliveR_get : getR (rowL aliveR ++ [33]) = some (aliveR, [33]) := getR_of aliveR_ok (okLbs_small aliveR_ok.1) [33]
set_option maxHeartbeats 8000000 in
set_option maxRecDepth 100000 in
theorem alive_any (w : World) : Calls Tryz.prog 6 #[] w fun e w' => e = .returned (.bool true) ∧ Gr w w' := by
  obtain ⟨W1, hW1⟩ : ∃ W1, W1 = (w.alloc (.cells #[.string ⟨#[97]⟩, .string ⟨#[120]⟩] 58)).alloc (.cells #[.slice (some ⟨w.heap.size, 0, none⟩) 1 1, .int .i64 5] 24) := ⟨_, rfl⟩
  have g1 : Gr w W1 := by rw [hW1]; exact gr_trans (gr_alloc _ _ _) (gr_alloc _ _ _)
  have hs1 : (w.alloc (.cells #[.string ⟨#[97]⟩, .string ⟨#[120]⟩] 58)).heap.size = w.heap.size + 1 := by simp
  have b0 : W1.cell? ⟨w.heap.size + 1, 0, none⟩ = some (.slice (some ⟨w.heap.size, 0, none⟩) 1 1) := by rw [hW1, ← hs1, World.cell?_alloc_new]; rfl
  have b1 : W1.cell? ⟨w.heap.size + 1, 1, none⟩ = some (.int .i64 5) := by rw [hW1, ← hs1, World.cell?_alloc_new]; rfl
  have hrow : Row W1 (some ⟨w.heap.size, 0, none⟩) 1 2 (sR lblC aliveR.l) := by
    refine ⟨rfl, fun j u hj => ⟨w.heap.size, 0, rfl, by rw [hW1]; simp; omega, ?_⟩⟩
    rw [Nat.zero_add, hW1]
    refine gr_cell (gr_alloc _ _ none) ?_
    rw [World.cell?_alloc_new]
    match j, hj with
    | 0, hj => exact hj
    | 1, hj => exact hj
    | j + 2, hj => simp [sR, aliveR, lblC] at hj
  have hsh : LightL aliveR.l := by
    refine ⟨by decide, fun x hx => ?_⟩
    rw [List.mem_singleton.1 hx]
    decide
  have hput := put_any (some ⟨w.heap.size, 0, none⟩) 1 1 aliveR.l 5 W1 (by decide) (fun e => by cases e) hrow (light_short hsh) (by decide)
  unfold PutPost at hput
  rw [if_pos (show okR ⟨aliveR.l, 5⟩ from aliveR_ok)] at hput
  have hget := aliveR_get
  have hlen : (rowL aliveR).length = 11 := by decide +kernel
  have hput2 : Calls Tryz.prog 8 #[.agg #[.slice (some ⟨w.heap.size, 0, none⟩) 1 1, .int .i64 5]] W1 fun e w' => e = .returned (.tuple #[.string (txt (rowL aliveR)), .int .i64 0]) ∧ Gr W1 w' := hput
  have hcst : ∀ W, Gr W1 W → Calls Tryz.prog 11 #[.agg #[.slice (some ⟨w.heap.size, 0, none⟩) 1 1, .int .i64 5]] W fun e w' => e = .returned (.int .i64 26) ∧ Gr W w' := fun W g => by
    have := cost_any (some ⟨w.heap.size, 0, none⟩) 1 1 aliveR.l 5 W hsh (row_gr hrow g)
    exact this
  generalize rowL aliveR = O at *
  have hcat : txt O ++ (⟨#[33]⟩ : ByteArray) = txt (O ++ [33]) := txt_append O [33]
  have hfit : (9223372036854775807 < O.length + 1) = False := eq_false (by omega)
  have hgt := fun W => get_any (O ++ [33]) W (by rw [List.length_append, hlen]; decide)
  replace hget := Lib.hid hget
  replace hput2 := Lib.hid hput2
  replace hcst := Lib.hid hcst
  replace hgt := Lib.hid hgt
  replace g1 := Lib.hid g1
  clear hput hrow hsh
  go_enter Tryz.func6, Tryz.ntmps6
  go_upto_region 2 with fail
  rw [← hW1]
  clear hW1 hs1
  go_wp2_with fail
  refine hput2.out.mono ?_
  rintro e w2 ⟨rfl, g2⟩
  go_wp2_with fail
  refine (hgt.out _).mono ?_
  rintro e w3 ⟨⟨r, t, A, c, hgr, rfl, hown⟩ | ⟨hgr, rfl⟩, g3⟩
  · rw [hget.out] at hgr
    injection hgr with hgr
    injection hgr with h1 h2
    subst h1 h2
    have c0 := gr_cell g3 (gr_cell g2 b0)
    have c1 := gr_cell g3 (gr_cell g2 b1)
    have g13 := gr_trans g2 g3
    replace g13 := Lib.hid g13
    clear b0 b1 g2 g3 hown
    rw [show aliveR.l.length = 1 from rfl, show aliveR.v = 5 from rfl]
    go_upto_region 4 with fail
    obtain ⟨w4, hw4⟩ : ∃ w4, w4 = w3.alloc (.cells #[.slice A 1 c, .int .i64 5] 24) := ⟨_, rfl⟩
    have g4 : Gr w3 w4 := by rw [hw4]; exact gr_alloc _ _ _
    have d0 : w4.cell? ⟨w3.heap.size, 0, none⟩ = some (.slice A 1 c) := by rw [hw4, World.cell?_alloc_new]; rfl
    have d1 : w4.cell? ⟨w3.heap.size, 1, none⟩ = some (.int .i64 5) := by rw [hw4, World.cell?_alloc_new]; rfl
    have e0 := gr_cell g4 c0
    have e1 := gr_cell g4 c1
    have hcs := hcst.out w4 (gr_trans g13.out g4)
    rw [← hw4]
    replace hcs := Lib.hid hcs
    replace g4 := Lib.hid g4
    clear hw4 c0 c1
    go_wp2_with fail
    refine hcs.out.mono ?_
    rintro e w5 ⟨rfl, g5⟩
    go_wp2
    go_ret
    exact ⟨rfl, gr_trans g1.out (gr_trans g13.out (gr_trans g4.out g5))⟩
  · rw [hget.out] at hgr
    cases hgr
end Go.Proofs.YtcinhaaibnailaaGreat
