/-
  cmp.Or of two numbers; how label.order sees two labels. No condition.
-/
import Derived.Test.YtccmekdmnkmhlaaGreatLabelMath
import Derived.Test.YtccmekdmnkmhlaaGreatShelf
import Derived.Deep.RegionHeld3
namespace Go.Proofs.YtccmekdmnkmhlaaGreat
open Go.RowKit

theorem infoLb : (Tryz.prog.info? 58).map (fun i => (i.zero, i.size, i.bytes)) = some (some (.agg #[.string ⟨#[]⟩, .string ⟨#[]⟩]), 2, 32) := by kernel_rfl
set_option maxRecDepth 100000 in
theorem or_any (b : Nat) (x y : Int) (w : World) (h0 : w.cell? ⟨b, 0, none⟩ = some (.int .i64 x)) (h1 : w.cell? ⟨b, 1, none⟩ = some (.int .i64 y)) :
    Calls Tryz.prog 126 #[.slice (some ⟨b, 0, none⟩) 2 2] w fun e w' => e = .returned (.int .i64 (if x = 0 then y else x)) ∧ w = w' := by
  go_enter Tryz.func126, Tryz.ntmps126
  go_wp2
  go_loopw [8] (fun i wr => (i = .int .i64 0 ∨ (i = .int .i64 1 ∧ x = 0) ∨ (i = .int .i64 2 ∧ x = 0 ∧ y = 0)) ∧ w = wr) (fun i _ => 2 - (intOf i).toNat)
  case atStart => exact ⟨.inl rfl, rfl⟩
  case round =>
    obtain ⟨hi, rfl⟩ := hrel
    rcases hi with rfl | ⟨rfl, rfl⟩ | ⟨rfl, rfl, rfl⟩
    · by_cases hx : x = 0
      · subst hx
        go_wp2
        go_roundw
        case rel => exact ⟨.inr (.inl ⟨by go_num, by first | rfl | trivial⟩), by first | rfl | trivial⟩
        case measure => simp [intOf]
      · have hb : (x == 0) = false := eqF hx
        have hb2 : (x != 0) = true := by simpa using hx
        go_wp2
        go_ret
        exact ⟨by first | rfl | (rw [if_neg hx]; rfl), rfl⟩
    · by_cases hy : y = 0
      · subst hy
        go_wp2
        go_roundw
        case rel => exact ⟨.inr (.inr ⟨by go_num, by first | rfl | trivial, by first | rfl | trivial⟩), by first | rfl | trivial⟩
        case measure => simp [intOf]
      · have hb : (y == 0) = false := eqF hy
        have hb2 : (y != 0) = true := by simpa using hy
        go_wp2
        go_ret
        exact ⟨by first | rfl | (rw [if_pos rfl]; rfl), rfl⟩
    · go_wp2
      go_ret
      exact ⟨by first | rfl | (rw [if_pos rfl]; rfl), rfl⟩
set_option maxHeartbeats 4000000 in
set_option maxRecDepth 100000 in
theorem order_any (a b : Lb) (w : World) : Calls Tryz.prog 97 #[.agg #[.string (txt a.n), .string (txt a.v)], .agg #[.string (txt b.n), .string (txt b.v)]] w fun e w' => e = .returned (.int .i64 (cmpLb a b)) ∧ Gr w w' := by
  obtain ⟨W1, hW1⟩ : ∃ W1, W1 = (w.alloc (.cells #[.string (txt a.n), .string (txt a.v)] 58)).alloc (.cells #[.string (txt b.n), .string (txt b.v)] 58) := ⟨_, rfl⟩
  have hz : (w.alloc (.cells #[.string (txt a.n), .string (txt a.v)] 58)).heap.size = w.heap.size + 1 := by simp
  have hA : ∀ j v, (#[.string (txt a.n), .string (txt a.v)] : Array Value)[j]? = some v → W1.cell? ⟨w.heap.size, j, none⟩ = some v := fun j v hj => by rw [hW1]; exact gr_cell (gr_alloc _ _ none) (by rw [World.cell?_alloc_new]; exact hj)
  have hB : ∀ j v, (#[.string (txt b.n), .string (txt b.v)] : Array Value)[j]? = some v → W1.cell? ⟨w.heap.size + 1, j, none⟩ = some v := fun j v hj => by rw [hW1, ← hz, World.cell?_alloc_new]; exact hj
  have a0 : W1.cell? ⟨w.heap.size, 0, none⟩ = some (.string (txt a.n)) := hA 0 _ rfl
  have a1 : W1.cell? ⟨w.heap.size, 1, none⟩ = some (.string (txt a.v)) := hA 1 _ rfl
  have b0 : W1.cell? ⟨w.heap.size + 1, 0, none⟩ = some (.string (txt b.n)) := hB 0 _ rfl
  have b1 : W1.cell? ⟨w.heap.size + 1, 1, none⟩ = some (.string (txt b.v)) := hB 1 _ rfl
  have g1 : Gr w W1 := by rw [hW1]; exact gr_trans (gr_alloc _ _ _) (gr_alloc _ _ _)
  have hfin : (if Lib.compareBytes a.n b.n = 0 then Lib.compareBytes a.v b.v else Lib.compareBytes a.n b.n) = cmpLb a b := rfl
  replace hfin := Lib.hid hfin
  replace g1 := Lib.hid g1
  generalize hc1e : Lib.compareBytes a.n b.n = c1 at *
  generalize hc2e : Lib.compareBytes a.v b.v = c2 at *
  go_enter Tryz.func97, Tryz.ntmps97
  go_upto_region 1 with fail
  rw [show (w.alloc (.cells #[.string (txt a.n), .string (txt a.v)] 58)).alloc (.cells #[.string (txt b.n), .string (txt b.v)] 58) = W1 from hW1.symm]
  clear hW1 hA hB hz
  have hlb : ∀ (x y : List UInt8) (W : World), Calls Tryz.prog 127 #[.string (txt x), .string (txt y)] W fun e w' => e = .returned (.int .i64 (Lib.compareBytes x y)) ∧ w' = W := fun x y W => Tryz.strings_Compare (txt x) (txt y) W
  have hc1 : ∀ W, Calls Tryz.prog 127 #[.string (txt a.n), .string (txt b.n)] W fun e w' => e = .returned (.int .i64 c1) ∧ w' = W := fun W => by rw [← hc1e]; exact hlb _ _ W
  have hc2 : ∀ W, Calls Tryz.prog 127 #[.string (txt a.v), .string (txt b.v)] W fun e w' => e = .returned (.int .i64 c2) ∧ w' = W := fun W => by rw [← hc2e]; exact hlb _ _ W
  replace hc1 := Lib.hid hc1
  replace hc2 := Lib.hid hc2
  clear hlb hc1e hc2e
  have hn0 : ((W1.alloc (.cells #[.int .i64 c1, .int .i64 c2] 3)).drew).cell? ⟨W1.heap.size, 0, none⟩ = some (.int .i64 c1) := gr_cell (gr_drew _ none) (by rw [World.cell?_alloc_new]; rfl)
  have hn1 : ((W1.alloc (.cells #[.int .i64 c1, .int .i64 c2] 3)).drew).cell? ⟨W1.heap.size, 1, none⟩ = some (.int .i64 c2) := gr_cell (gr_drew _ none) (by rw [World.cell?_alloc_new]; rfl)
  have hor := or_any W1.heap.size c1 c2 _ hn0 hn1
  rw [hfin.out] at hor
  generalize hre : cmpLb a b = r at *
  replace hre := Lib.hid hre
  replace hor := Lib.hid hor
  clear hn0 hn1 hfin
  go_region_held3 (fun w' => w'.cell? ⟨w.heap.size, 0, none⟩ = some (.string (txt a.n)) ∧ w'.cell? ⟨w.heap.size, 1, none⟩ = some (.string (txt a.v)) ∧ w'.cell? ⟨w.heap.size + 1, 0, none⟩ = some (.string (txt b.n)) ∧ w'.cell? ⟨w.heap.size + 1, 1, none⟩ = some (.string (txt b.v))) (go_keep) (first | (go_at_call 127; refine (hc1.out _).mono ?_; rintro e w' ⟨rfl, rfl⟩) | (go_at_call 127; refine (hc2.out _).mono ?_; rintro e w' ⟨rfl, rfl⟩) | (go_at_call 126; refine hor.out.mono ?_; rintro e w' ⟨rfl, rfl⟩))
  all_goals
    go_wp2
    go_ret
    exact ⟨by rw [hre.out]; rfl, gr_trans g1.out (gr_trans (gr_alloc _ _ _) (gr_drew _ _))⟩
end Go.Proofs.YtccmekdmnkmhlaaGreat
