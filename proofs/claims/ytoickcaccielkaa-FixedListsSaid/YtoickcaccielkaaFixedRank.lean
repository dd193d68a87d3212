/-
  What fixed.Rank answers; the first call of the laws of chapter 4. No condition.
-/
import Derived.Test.YtoickcaccielkaaFixedDo
import Derived.Sort.OwnSortedInts
namespace Go.Proofs.Ytoickcaccielkaa
open Go.RowKit

def sortI (zs : List Int) : List Int := zs.mergeSort fun x y => decide (x ≤ y)
theorem sortI_length (zs : List Int) : (sortI zs).length = zs.length := by simp [sortI]
/-- The place of a hundred among so many. -/
def rankI (p n : Nat) : Nat := max ((p * n + 99) / 100) 1 - 1
theorem rankI_lt (p n : Nat) (hp : p ≤ 100) (hn : 0 < n) : rankI p n < n := by
  unfold rankI
  have : p * n ≤ 100 * n := Nat.mul_le_mul_right n hp
  omega

def RankPost (p : Nat) (zs : List Int) (w : World) (e : Ending) (w' : World) : Prop := e = .returned (.tuple #[.int .i64 ((sortI zs).getD (rankI p zs.length) 0), .bool true]) ∧ Gr w w'

set_option maxHeartbeats 2000000 in
set_option maxRecDepth 100000 in
theorem rank_any (p : Nat) (A : Option Addr) (n c : Nat) (zs : List Int) (w : World) (hp : p ≤ 100) (hn : 0 < n) (hn2 : n ≤ 1000000000) (hr : Row w A n 1 (zs.map (.int .i64))) :
    Calls Try.prog 16 #[.int .i64 p, .slice A n c] w (RankPost p zs w) := by
  have hzl : zs.length = n := by simpa using hr.1
  obtain ⟨B, o, rfl, hB, hc0⟩ := hr.2 0 (.int .i64 (zs.getD 0 0)) (by rw [List.getElem?_map, List.getElem?_eq_getElem (by omega), List.getD_eq_getElem?_getD, List.getElem?_eq_getElem (by omega)]; rfl)
  have hc : ∀ j, j < zs.length → w.cell? ⟨B, o + j, none⟩ = some (.int .i64 (zs.getD j 0)) := by
    intro j hj
    obtain ⟨B', o', e, _, h⟩ := hr.2 j (.int .i64 (zs.getD j 0)) (by rw [List.getElem?_map, List.getElem?_eq_getElem hj, List.getD_eq_getElem?_getD, List.getElem?_eq_getElem hj]; rfl)
    injection e with e
    injection e with e1 e2
    subst e1 e2
    exact h
  have hcl := Try.slices_Clone_int B o n c zs w (by omega) (by omega) hc
  clear hc hc0
  obtain ⟨M, hM⟩ : ∃ M, M = p * n := ⟨_, rfl⟩
  have hMi : (p : Int) * (n : Int) = (M : Int) := by rw [hM]; simp
  have hMb : M ≤ 100000000000 := by
    have : p * n ≤ 100 * n := Nat.mul_le_mul_right n hp
    omega
  have hMn : M ≤ 100 * n := by rw [hM]; exact Nat.mul_le_mul_right n hp
  have hI : rankI p zs.length = max ((M + 99) / 100) 1 - 1 := by rw [hzl, hM]; rfl
  have nz : ((n : Int) == 0) = false := eqF (by omega)
  replace hM := Lib.hid hM
  replace hI := Lib.hid hI
  replace hr := Lib.hid hr
  subst hzl
  replace hcl := Lib.hid hcl
  go_enter Try.func16, Try.ntmps16
  go_wp2_with fail
  refine hcl.out.mono ?_
  rintro e w1 ⟨v, rfl, hown, hnn, hbel⟩
  rcases hown.2 with ⟨hnil, _⟩ | ⟨g, cap, cur, rfl, hbase, hb, h1, h2, h3, h4⟩
  · exact absurd hnil hnn
  have h4' : cur.toList.take zs.length = zs.map (.int .i64) := by simpa using h4
  have hH := Go.holds_of_blockI hb h4'
  have hsrt := Try.slices_Sort_int g 0 cap zs w1 hH (lt_of_blk hb) (by omega)
  clear hnn hown h4 hH hcl
  have hkeep : ∀ (nn : Nat) (os : Array Obj), (Go.Sort.grow (Go.Sort.putRow (Value.int .i64) (Go.Sort.ahead w1 nn) g 0 (sortI zs).toArray) os).ownsRow w.heap.size 3 1 (.slice (some ⟨g, 0, none⟩) zs.length cap) zs.length ((sortI zs).map (.int .i64)) ∧ GrB g w1 (Go.Sort.grow (Go.Sort.putRow (Value.int .i64) (Go.Sort.ahead w1 nn) g 0 (sortI zs).toArray) os) :=
    fun nn os => ⟨Go.ownsRow_sortedI (sortI_length zs) hbase hb h1 h2 h3, Go.grownBy_sortedI _⟩
  replace hkeep := Lib.hid hkeep
  replace hsrt := Lib.hid hsrt
  have hb1 := lt_of_blk hb
  clear hb h1 h2 h3 h4' cur
  go_wp2_with fail
  refine hsrt.out.mono ?_
  rintro e w2 ⟨rfl, nn, os, hw2⟩
  obtain ⟨hown2, hgr2⟩ := hkeep.out nn os
  rw [show (Go.Sort.grow (Go.Sort.putRow (Value.int .i64) (Go.Sort.ahead w1 nn) g 0 (sortI zs).toArray) os) = w2 from hw2.symm] at hown2 hgr2
  clear hw2 hkeep hsrt
  have hgfin := gr_of_below (below_gr hbel hgr2 hbel.size (by intro q hq; cases hq; exact hbase)) (Nat.le_refl _)
  replace hgfin := Lib.hid hgfin
  have hlt := rankI_lt p zs.length hp hn
  rw [hI.out] at hlt
  obtain ⟨y, hy⟩ : ∃ y, (sortI zs)[max ((M + 99) / 100) 1 - 1]? = some y := ⟨_, List.getElem?_eq_getElem (by rw [sortI_length]; exact hlt)⟩
  have hcell := (row_own hown2).2 (max ((M + 99) / 100) 1 - 1) (.int .i64 y) (by simp [hy])
  obtain ⟨_, _, e, _, hcell⟩ := hcell
  injection e with e
  injection e with e1 e2
  subst e1 e2
  rw [Nat.zero_add] at hcell
  have hfin : (sortI zs).getD (rankI p zs.length) 0 = y := by rw [hI.out, List.getD_eq_getElem?_getD, hy]; rfl
  replace hfin := Lib.hid hfin
  replace hy := Lib.hid hy
  clear hown2 hgr2 hbel
  have hidx : (max (((M : Int) + 100 - 1) / 100) 1).toNat - 1 = max ((M + 99) / 100) 1 - 1 := by omega
  rw [← hidx] at hcell
  have hix : max (((M : Int) + 100 - 1) / 100) 1 - 1 < (zs.length : Int) := by omega
  clear hidx hlt
  go_wp2
  go_ret2
  exact ⟨by rw [hfin.out]; rfl, hgfin.out⟩

theorem rank_bad (p : Int) (A : Option Addr) (n c : Nat) (w : World) (h : n = 0 ∨ p < 0 ∨ 100 < p) (hp : -9223372036854775808 ≤ p ∧ p ≤ 9223372036854775807) (hn : n ≤ maxLen) :
    Calls Try.prog 16 #[.int .i64 p, .slice A n c] w fun e w' => e = .returned (.tuple #[.int .i64 0, .bool false]) ∧ w = w' := by
  unfold maxLen at hn
  have hh : n = 0 ∨ (n ≠ 0 ∧ p < 0) ∨ (n ≠ 0 ∧ 0 ≤ p ∧ 100 < p) := by omega
  clear h
  rcases hh with rfl | ⟨h0, h⟩ | ⟨h0, h1, h⟩
  · go_enter Try.func16, Try.ntmps16
    go_wp2
    go_ret2
    exact ⟨rfl, rfl⟩
  · have nz : ((n : Int) == 0) = false := eqF (by omega)
    go_enter Try.func16, Try.ntmps16
    go_wp2
    go_ret2
    exact ⟨rfl, rfl⟩
  · have nz : ((n : Int) == 0) = false := eqF (by omega)
    go_enter Try.func16, Try.ntmps16
    go_wp2
    go_ret2
    exact ⟨rfl, rfl⟩

set_option maxHeartbeats 2000000 in
set_option maxRecDepth 100000 in
theorem alive_any (w : World) :
    Calls Try.prog 9 #[] w fun e w' => e = .returned (.bool true) ∧ Gr w w' := by
  have hd1 : doV [47] (-7) 2 = (-3, 0) := by decide +kernel
  have hd2 : doV [42] 1000000000000 2 = (0, 4) := by decide +kernel
  have hs : sortI [4, 1, 9] = [1, 4, 9] := by simp [sortI, List.mergeSort, List.MergeSort.Internal.splitInTwo]
  have c1 : ∀ W, Calls Try.prog 10 #[.string ⟨#[47]⟩, .int .i64 (-7), .int .i64 2] W fun e w' => e = .returned (.tuple #[.int .i64 (-3), .int .i64 0]) ∧ Gr W w' := fun W =>
    (do_any [47] (-7) 2 W (by decide) (by decide)).mono (by rintro e w' ⟨rfl, g⟩; rw [hd1]; exact ⟨rfl, g⟩)
  have c2 : ∀ W, Calls Try.prog 10 #[.string ⟨#[42]⟩, .int .i64 1000000000000, .int .i64 2] W fun e w' => e = .returned (.tuple #[.int .i64 0, .int .i64 4]) ∧ Gr W w' := fun W =>
    (do_any [42] 1000000000000 2 W (by decide) (by decide)).mono (by rintro e w' ⟨rfl, g⟩; rw [hd2]; exact ⟨rfl, g⟩)
  have c3 : ∀ (W : World) (b c : Nat), Row W (some ⟨b, 0, none⟩) 3 1 [.int .i64 4, .int .i64 1, .int .i64 9] → Calls Try.prog 16 #[.int .i64 50, .slice (some ⟨b, 0, none⟩) 3 c] W fun e w' => e = .returned (.tuple #[.int .i64 4, .bool true]) ∧ Gr W w' := fun W b c h =>
    (rank_any 50 (some ⟨b, 0, none⟩) 3 c [4, 1, 9] W (by decide) (by decide) (by decide) h).mono (by rintro e w' ⟨rfl, g⟩; rw [hs]; exact ⟨rfl, g⟩)
  clear hd1 hd2 hs
  replace c1 := Lib.hid c1
  replace c2 := Lib.hid c2
  replace c3 := Lib.hid c3
  go_enter Try.func9, Try.ntmps9
  go_wp2_with fail
  refine (c1.out _).mono ?_
  rintro e w1 ⟨rfl, g1⟩
  go_wp2_with fail
  refine (c2.out _).mono ?_
  rintro e w2 ⟨rfl, g2⟩
  have hrow := row_new w2 #[.int .i64 4, .int .i64 1, .int .i64 9] 3 3 rfl
  have hg3 := gr_alloc w2 (.cells #[.int .i64 4, .int .i64 1, .int .i64 9] 3) none
  replace hrow := Lib.hid hrow
  replace hg3 := Lib.hid hg3
  go_wp2_with fail
  refine (c3.out _ _ _ hrow.out).mono ?_
  rintro e w3 ⟨rfl, g3⟩
  go_wp2_with fail
  refine (right_yes _ _ (by unfold In; omega)).mono ?_
  rintro e w4 ⟨rfl, rfl⟩
  go_wp2_with fail
  refine (right_no _ _ (by unfold In; omega)).mono ?_
  rintro e w4 ⟨rfl, rfl⟩
  go_wp2
  go_ret
  exact ⟨rfl, gr_trans (gr_trans (gr_trans g1 g2) hg3.out) g3⟩
end Go.Proofs.Ytoickcaccielkaa
