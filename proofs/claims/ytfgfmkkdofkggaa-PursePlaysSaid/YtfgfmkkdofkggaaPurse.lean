/-
  What each function of package purse does to a purse in memory. No condition.
-/
import Derived.Test.YtfgfmkkdofkggaaProg
import Derived.Test.YtfgfmkkdofkggaaAid
namespace Go.Proofs.Ytfgfmkkdofkggaa
open Go.RowKit

/-- A purse lies at block b. -/
def PuAt (w : World) (b : Nat) (r n h : Int) : Prop := w.heap[b]? = some (.cells #[.int .i64 r, .int .i64 n, .int .i64 h] 35 (0, 0))

theorem pu_set1 {w : World} {b : Nat} {r n h : Int} (H : PuAt w b r n h) (n' : Int) : PuAt (w.setCell ⟨b, 1, none⟩ (.int .i64 n')) b r n' h := by
  unfold PuAt at *
  rw [blk_set H]; rfl
theorem pu_set2 {w : World} {b : Nat} {r n h : Int} (H : PuAt w b r n h) (n' : Int) : PuAt (w.setCell ⟨b, 2, none⟩ (.int .i64 n')) b r n n' := by
  unfold PuAt at *
  rw [blk_set H]; rfl
theorem pu_drew {w : World} {b : Nat} {r n h : Int} (H : PuAt w b r n h) : PuAt w.drew b r n h := H

set_option maxHeartbeats 400000 in
theorem new_any (n : Int) (w : World) :
    Calls Try.prog 7 #[.int .i64 n] w fun e w' => e = .returned (.pointer (some ⟨w.heap.size, 0, none⟩)) ∧ w' = w.alloc (.cells #[.int .i64 (min (max n 0) 1000000), .int .i64 0, .int .i64 0] 35) := by
  go_enter Try.func7, Try.ntmps7
  go_wp2
  all_goals (go_ret; refine ⟨rfl, ?_⟩; congr 4; congr 1; omega)

structure PuOk (r n h : Int) : Prop where
  a : 0 ≤ n
  b : n ≤ h
  c : h ≤ r
  d : r ≤ 1000000

theorem pu_cells {w : World} {b : Nat} {r n h : Int} (H : PuAt w b r n h) : w.cell? ⟨b, 0, none⟩ = some (.int .i64 r) ∧ w.cell? ⟨b, 1, none⟩ = some (.int .i64 n) ∧ w.cell? ⟨b, 2, none⟩ = some (.int .i64 h) ∧ w.frozen? ⟨b, 1, none⟩ = false ∧ w.frozen? ⟨b, 2, none⟩ = false := by
  unfold PuAt at H
  simp [World.cell?, World.frozen?, H]

set_option maxHeartbeats 400000 in
theorem now_any (b : Nat) (r n h : Int) (w : World) (H : PuAt w b r n h) :
    Calls Try.prog 10 #[.pointer (some ⟨b, 0, none⟩)] w fun e w' => e = .returned (.int .i64 n) ∧ w = w' := by
  obtain ⟨h0, h1, h2, f1, f2⟩ := pu_cells H
  clear H
  go_enter Try.func10, Try.ntmps10
  go_wp2
  go_ret
  exact ⟨rfl, rfl⟩

set_option maxHeartbeats 400000 in
theorem high_any (b : Nat) (r n h : Int) (w : World) (H : PuAt w b r n h) :
    Calls Try.prog 11 #[.pointer (some ⟨b, 0, none⟩)] w fun e w' => e = .returned (.int .i64 h) ∧ w = w' := by
  obtain ⟨h0, h1, h2, f1, f2⟩ := pu_cells H
  clear H
  go_enter Try.func11, Try.ntmps11
  go_wp2
  go_ret
  exact ⟨rfl, rfl⟩

set_option maxHeartbeats 400000 in
theorem left_q (b : Nat) (r n h : Int) (w : World) (H : PuAt w b r n h) (ok : PuOk r n h) :
    Calls Try.prog 12 #[.pointer (some ⟨b, 0, none⟩)] w fun e w' => e = .returned (.int .i64 (r - n)) ∧ ∃ k, w' = w.drewN k := by
  obtain ⟨h0, h1, h2, f1, f2⟩ := pu_cells H
  obtain ⟨o1, o2, o3, o4⟩ := ok
  clear H
  go_enter Try.func12, Try.ntmps12
  go_wp2
  go_quiet (fail)
  go_wp2
  go_ret
  exact ⟨rfl, _, rfl⟩

set_option maxHeartbeats 400000 in
theorem take_yes (b : Nat) (r n h x : Int) (w : World) (H : PuAt w b r n h) (ok : PuOk r n h) (hx : 0 ≤ x) (hy : x ≤ r - n) :
    Calls Try.prog 8 #[.pointer (some ⟨b, 0, none⟩), .int .i64 x] w fun e w' => e = .returned (.bool true) ∧ PuAt w' b r (n + x) (max h (n + x)) ∧ GrB b w w' := by
  obtain ⟨h0, h1, h2, f1, f2⟩ := pu_cells H
  obtain ⟨o1, o2, o3, o4⟩ := ok
  have e1 : IntKind.i64.wrap (r - n) = r - n := IntWalk.i64_in _ (by omega)
  have e2 : ¬ x < 0 := by omega
  have e3 : ¬ (r - n < x) := by omega
  go_enter Try.func8, Try.ntmps8
  go_wp2
  go_quiet (fail)
  go_wp2
  obtain ⟨wq, hwq⟩ : ∃ wq : World, wq = w.drewN nq := ⟨_, rfl⟩
  have Hq : PuAt wq b r n h := by subst hwq; exact H
  have Bq : GrB b w wq := by subst hwq; exact gr_drewN _ _ _
  rw [← hwq]
  obtain ⟨g0, g1, g2, k1, k2⟩ := pu_cells Hq
  clear hwq h0 h1 h2 f1 f2
  have HH := Lib.hid Hq
  have BB := Lib.hid Bq
  clear Hq Bq H
  have c1 : ((wq.setCell { block := b, off := 1 } (Value.int IntKind.i64 (n + x))).drew).cell? ⟨b, 1, none⟩ = some (.int .i64 (n + x)) := World.cell?_setCell_same _ _ _ g1
  go_region
  go_wp2
  all_goals
    go_ret
    refine ⟨rfl, ?_, gr_trans (gr_trans (gr_trans BB.out (gr_set _ _ _)) (gr_set _ _ _)) (gr_drew _ _)⟩
  · rw [Int.max_eq_right (by omega)]; exact pu_drew (pu_set2 (pu_set1 HH.out _) _)
  · rw [Int.max_eq_left (by omega)]; exact pu_drew (pu_set2 (pu_set1 HH.out _) _)

set_option maxHeartbeats 400000 in
theorem take_no_q (b : Nat) (r n h x : Int) (w : World) (H : PuAt w b r n h) (ok : PuOk r n h) (hx : x < 0 ∨ r - n < x) :
    Calls Try.prog 8 #[.pointer (some ⟨b, 0, none⟩), .int .i64 x] w fun e w' => e = .returned (.bool false) ∧ ∃ k, w' = w.drewN k := by
  obtain ⟨h0, h1, h2, f1, f2⟩ := pu_cells H
  obtain ⟨o1, o2, o3, o4⟩ := ok
  clear H
  have e1 : IntKind.i64.wrap (r - n) = r - n := IntWalk.i64_in _ (by omega)
  rcases Int.lt_or_le x 0 with hx | hx'
  · go_enter Try.func8, Try.ntmps8
    go_wp2
    go_quiet (fail)
    go_wp2
    go_ret
    exact ⟨rfl, _, rfl⟩
  · have e3 : r - n < x := by omega
    have e4 : decide (x < 0) = false := by simp; omega
    clear hx
    go_enter Try.func8, Try.ntmps8
    go_wp2
    go_quiet (fail)
    go_wp2
    go_ret
    exact ⟨rfl, _, rfl⟩

set_option maxHeartbeats 400000 in
theorem give_no (b : Nat) (r n h x : Int) (w : World) (H : PuAt w b r n h) (ok : PuOk r n h) (hx : x < 0 ∨ n < x) :
    Calls Try.prog 9 #[.pointer (some ⟨b, 0, none⟩), .int .i64 x] w fun e w' => e = .returned (.bool false) ∧ w = w' := by
  obtain ⟨h0, h1, h2, f1, f2⟩ := pu_cells H
  obtain ⟨o1, o2, o3, o4⟩ := ok
  clear H
  rcases Int.lt_or_le x 0 with hx | hx'
  · go_enter Try.func9, Try.ntmps9
    go_wp2
    go_ret
    exact ⟨rfl, rfl⟩
  · have e3 : n < x := by omega
    have e4 : decide (x < 0) = false := by simp; omega
    clear hx
    go_enter Try.func9, Try.ntmps9
    go_wp2
    go_ret
    exact ⟨rfl, rfl⟩

set_option maxHeartbeats 400000 in
theorem give_yes (b : Nat) (r n h x : Int) (w : World) (H : PuAt w b r n h) (ok : PuOk r n h) (hx : 0 ≤ x) (hy : x ≤ n) :
    Calls Try.prog 9 #[.pointer (some ⟨b, 0, none⟩), .int .i64 x] w fun e w' => e = .returned (.bool true) ∧ PuAt w' b r (n - x) h ∧ GrB b w w' := by
  obtain ⟨h0, h1, h2, f1, f2⟩ := pu_cells H
  obtain ⟨o1, o2, o3, o4⟩ := ok
  have HH := Lib.hid H
  clear H
  have e1 : IntKind.i64.wrap (n - x) = n - x := IntWalk.i64_in _ (by omega)
  have e2 : ¬ x < 0 := by omega
  have e3 : ¬ (n < x) := by omega
  go_enter Try.func9, Try.ntmps9
  go_wp2
  go_ret
  exact ⟨rfl, pu_set1 HH.out _, gr_set w ⟨b, 1, none⟩ _⟩

set_option maxHeartbeats 400000 in
theorem take_nil (x : Int) (w : World) :
    Calls Try.prog 8 #[.pointer none, .int .i64 x] w fun e w' => e = .returned (.bool false) ∧ ∃ k, w' = w.drewN k := by
  go_enter Try.func8, Try.ntmps8
  go_wp2
  go_quiet (fail)
  go_wp2
  go_ret
  exact ⟨rfl, _, rfl⟩
set_option maxHeartbeats 400000 in
theorem give_nil (x : Int) (w : World) :
    Calls Try.prog 9 #[.pointer none, .int .i64 x] w fun e w' => e = .returned (.bool false) ∧ w = w' := by
  go_enter Try.func9, Try.ntmps9
  go_wp2
  go_ret
  exact ⟨rfl, rfl⟩
theorem now_nil (w : World) :
    Calls Try.prog 10 #[.pointer none] w fun e w' => e = .returned (.int .i64 0) ∧ w = w' := by
  go_enter Try.func10, Try.ntmps10
  go_wp2
  go_ret
  exact ⟨rfl, rfl⟩
theorem high_nil (w : World) :
    Calls Try.prog 11 #[.pointer none] w fun e w' => e = .returned (.int .i64 0) ∧ w = w' := by
  go_enter Try.func11, Try.ntmps11
  go_wp2
  go_ret
  exact ⟨rfl, rfl⟩
theorem left_nil (w : World) :
    Calls Try.prog 12 #[.pointer none] w fun e w' => e = .returned (.int .i64 0) ∧ w = w' := by
  go_enter Try.func12, Try.ntmps12
  go_wp2
  go_ret
  exact ⟨rfl, rfl⟩


theorem take_no (b : Nat) (r n h x : Int) (w : World) (H : PuAt w b r n h) (ok : PuOk r n h) (hx : x < 0 ∨ r - n < x) :
    Calls Try.prog 8 #[.pointer (some ⟨b, 0, none⟩), .int .i64 x] w fun e w' => e = .returned (.bool false) ∧ Gr w w' :=
  (take_no_q b r n h x w H ok hx).mono (by rintro e w' ⟨rfl, k, rfl⟩; exact ⟨rfl, gr_drewN _ _ _⟩)
theorem left_any (b : Nat) (r n h : Int) (w : World) (H : PuAt w b r n h) (ok : PuOk r n h) :
    Calls Try.prog 12 #[.pointer (some ⟨b, 0, none⟩)] w fun e w' => e = .returned (.int .i64 (r - n)) ∧ Gr w w' :=
  (left_q b r n h w H ok).mono (by rintro e w' ⟨rfl, k, rfl⟩; exact ⟨rfl, gr_drewN _ _ _⟩)

theorem pu_new (w : World) (r n h : Int) : PuAt (w.alloc (.cells #[.int .i64 r, .int .i64 n, .int .i64 h] 35)) w.heap.size r n h := blk_new _ _
theorem pu_gr {w w' : World} {b : Nat} {r n h : Int} (H : PuAt w b r n h) (g : Gr w w') : PuAt w' b r n h := gr_blk g H (by simp)
theorem pu_below {B : Nat} {w w' : World} {b : Nat} {r n h : Int} (H : PuAt w b r n h) (g : Below B w w') (hb : b < B) : PuAt w' b r n h := (g.block b hb).trans H
theorem new_ok (r : Int) (w : World) (h0 : 0 ≤ r) (h1 : r ≤ 1000000) :
    Calls Try.prog 7 #[.int .i64 r] w fun e w' => ∃ b, e = .returned (.pointer (some ⟨b, 0, none⟩)) ∧ b = w.heap.size ∧ PuAt w' b r 0 0 ∧ Gr w w' := by
  refine (new_any r w).mono ?_
  rintro e w' ⟨rfl, rfl⟩
  have e1 : min (max r 0) 1000000 = r := by omega
  rw [e1]
  exact ⟨_, rfl, rfl, pu_new _ _ _ _, gr_alloc _ _ _⟩

end Go.Proofs.Ytfgfmkkdofkggaa
