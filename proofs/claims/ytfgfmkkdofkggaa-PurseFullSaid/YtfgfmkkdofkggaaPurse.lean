import Derived.Test.YtfgfmkkdofkggaaProg
import Derived.WalkKit
import Derived.Deep.QuietTactic
import Derived.BigQuiet
import Derived.IntWalk
import Derived.ProofKit
import Derived.Lib.Hide
import Derived.WalkSmall
import Derived.RegionTactic
import Derived.BigRegion
namespace Go.Proofs.Ytfgfmkkdofkggaa
open Go.RowKit

/-- A purse lies at block b. -/
def PuAt (w : World) (b : Nat) (r n h : Int) : Prop := w.heap[b]? = some (.cells #[.int .i64 r, .int .i64 n, .int .i64 h] 35 (0, 0))

theorem lt_of_blk {w : World} {b : Nat} {o : Obj} (h : w.heap[b]? = some o) : b < w.heap.size := by
  rcases Nat.lt_or_ge b w.heap.size with h' | h'
  · exact h'
  · simp [Array.getElem?_eq_none h'] at h

theorem blk_set {w : World} {b : Nat} {cs : Array Value} {t : TypeId} {fr : Nat × Nat} (h : w.heap[b]? = some (.cells cs t fr)) (i : Nat) (v : Value) :
    (w.setCell ⟨b, i, none⟩ v).heap[b]? = some (.cells (cs.setIfInBounds i v) t fr) := by
  have hlt := lt_of_blk h
  have h' : w.heap[b] = .cells cs t fr := by simpa [Array.getElem?_eq_getElem hlt] using h
  show (w.heap.modify b _)[b]? = _
  rw [Array.getElem?_eq_getElem (by simpa using hlt), Array.getElem_modify_self, h']
  simp

theorem pu_set1 {w : World} {b : Nat} {r n h : Int} (H : PuAt w b r n h) (n' : Int) : PuAt (w.setCell ⟨b, 1, none⟩ (.int .i64 n')) b r n' h := by
  unfold PuAt at *
  rw [blk_set H]; rfl
theorem pu_set2 {w : World} {b : Nat} {r n h : Int} (H : PuAt w b r n h) (n' : Int) : PuAt (w.setCell ⟨b, 2, none⟩ (.int .i64 n')) b r n n' := by
  unfold PuAt at *
  rw [blk_set H]; rfl
theorem pu_drew {w : World} {b : Nat} {r n h : Int} (H : PuAt w b r n h) : PuAt w.drew b r n h := H

set_option maxHeartbeats 400000 in
theorem new_any (n : Int) (w : World) :
    Calls Try.prog 7 #[.int .i64 n] w fun e w' => e = .returned (.pointer (some ⟨w.heap.size, 0, none⟩)) ∧ w' = w.alloc (.cells #[.int .i64 (min (max n 0) 1000000), .int .i64 0, .int .i64 0] 35) := by
  go_enter Try.func7, Try.ntmps7
  go_wp2
  all_goals (go_ret; refine ⟨rfl, ?_⟩; congr 4; congr 1; omega)

structure PuOk (r n h : Int) : Prop where
  a : 0 ≤ n
  b : n ≤ h
  c : h ≤ r
  d : r ≤ 1000000

theorem pu_cells {w : World} {b : Nat} {r n h : Int} (H : PuAt w b r n h) : w.cell? ⟨b, 0, none⟩ = some (.int .i64 r) ∧ w.cell? ⟨b, 1, none⟩ = some (.int .i64 n) ∧ w.cell? ⟨b, 2, none⟩ = some (.int .i64 h) ∧ w.frozen? ⟨b, 1, none⟩ = false ∧ w.frozen? ⟨b, 2, none⟩ = false := by
  unfold PuAt at H
  simp [World.cell?, World.frozen?, H]

set_option maxHeartbeats 400000 in
theorem now_any (b : Nat) (r n h : Int) (w : World) (H : PuAt w b r n h) :
    Calls Try.prog 10 #[.pointer (some ⟨b, 0, none⟩)] w fun e w' => e = .returned (.int .i64 n) ∧ w = w' := by
  obtain ⟨h0, h1, h2, f1, f2⟩ := pu_cells H
  clear H
  go_enter Try.func10, Try.ntmps10
  go_wp2
  go_ret
  exact ⟨rfl, rfl⟩

set_option maxHeartbeats 400000 in
theorem high_any (b : Nat) (r n h : Int) (w : World) (H : PuAt w b r n h) :
    Calls Try.prog 11 #[.pointer (some ⟨b, 0, none⟩)] w fun e w' => e = .returned (.int .i64 h) ∧ w = w' := by
  obtain ⟨h0, h1, h2, f1, f2⟩ := pu_cells H
  clear H
  go_enter Try.func11, Try.ntmps11
  go_wp2
  go_ret
  exact ⟨rfl, rfl⟩

set_option maxHeartbeats 400000 in
theorem left_q (b : Nat) (r n h : Int) (w : World) (H : PuAt w b r n h) (ok : PuOk r n h) :
    Calls Try.prog 12 #[.pointer (some ⟨b, 0, none⟩)] w fun e w' => e = .returned (.int .i64 (r - n)) ∧ ∃ k, w' = w.drewN k := by
  obtain ⟨h0, h1, h2, f1, f2⟩ := pu_cells H
  obtain ⟨o1, o2, o3, o4⟩ := ok
  clear H
  go_enter Try.func12, Try.ntmps12
  go_wp2
  go_quiet (fail)
  go_wp2
  go_ret
  exact ⟨rfl, _, rfl⟩

set_option maxHeartbeats 400000 in
theorem take_yes (b : Nat) (r n h x : Int) (w : World) (H : PuAt w b r n h) (ok : PuOk r n h) (hx : 0 ≤ x) (hy : x ≤ r - n) :
    Calls Try.prog 8 #[.pointer (some ⟨b, 0, none⟩), .int .i64 x] w fun e w' => e = .returned (.bool true) ∧ PuAt w' b r (n + x) (max h (n + x)) ∧ Below b w w' := by
  obtain ⟨h0, h1, h2, f1, f2⟩ := pu_cells H
  obtain ⟨o1, o2, o3, o4⟩ := ok
  have e1 : IntKind.i64.wrap (r - n) = r - n := IntWalk.i64_in _ (by omega)
  have e2 : ¬ x < 0 := by omega
  have e3 : ¬ (r - n < x) := by omega
  go_enter Try.func8, Try.ntmps8
  go_wp2
  go_quiet (fail)
  go_wp2
  obtain ⟨wq, hwq⟩ : ∃ wq : World, wq = w.drewN nq := ⟨_, rfl⟩
  have Hq : PuAt wq b r n h := by subst hwq; exact H
  have Bq : Below b w wq := by subst hwq; exact below_drewN (Below.refl _ _) _
  rw [← hwq]
  obtain ⟨g0, g1, g2, k1, k2⟩ := pu_cells Hq
  clear hwq h0 h1 h2 f1 f2
  have HH := Lib.hid Hq
  have BB := Lib.hid Bq
  clear Hq Bq H
  have c1 : ((wq.setCell { block := b, off := 1 } (Value.int IntKind.i64 (n + x))).drew).cell? ⟨b, 1, none⟩ = some (.int .i64 (n + x)) := World.cell?_setCell_same _ _ _ g1
  go_region
  go_wp2
  all_goals
    go_ret
    refine ⟨rfl, ?_, ((BB.out.setCell (Nat.le_refl _) _).setCell (Nat.le_refl _) _).drew⟩
  · rw [Int.max_eq_right (by omega)]; exact pu_drew (pu_set2 (pu_set1 HH.out _) _)
  · rw [Int.max_eq_left (by omega)]; exact pu_drew (pu_set2 (pu_set1 HH.out _) _)

set_option maxHeartbeats 400000 in
theorem take_no_q (b : Nat) (r n h x : Int) (w : World) (H : PuAt w b r n h) (ok : PuOk r n h) (hx : x < 0 ∨ r - n < x) :
    Calls Try.prog 8 #[.pointer (some ⟨b, 0, none⟩), .int .i64 x] w fun e w' => e = .returned (.bool false) ∧ ∃ k, w' = w.drewN k := by
  obtain ⟨h0, h1, h2, f1, f2⟩ := pu_cells H
  obtain ⟨o1, o2, o3, o4⟩ := ok
  clear H
  have e1 : IntKind.i64.wrap (r - n) = r - n := IntWalk.i64_in _ (by omega)
  rcases Int.lt_or_le x 0 with hx | hx'
  · go_enter Try.func8, Try.ntmps8
    go_wp2
    go_quiet (fail)
    go_wp2
    go_ret
    exact ⟨rfl, _, rfl⟩
  · have e3 : r - n < x := by omega
    have e4 : decide (x < 0) = false := by simp; omega
    clear hx
    go_enter Try.func8, Try.ntmps8
    go_wp2
    go_quiet (fail)
    go_wp2
    go_ret
    exact ⟨rfl, _, rfl⟩

set_option maxHeartbeats 400000 in
theorem give_no (b : Nat) (r n h x : Int) (w : World) (H : PuAt w b r n h) (ok : PuOk r n h) (hx : x < 0 ∨ n < x) :
    Calls Try.prog 9 #[.pointer (some ⟨b, 0, none⟩), .int .i64 x] w fun e w' => e = .returned (.bool false) ∧ w = w' := by
  obtain ⟨h0, h1, h2, f1, f2⟩ := pu_cells H
  obtain ⟨o1, o2, o3, o4⟩ := ok
  clear H
  rcases Int.lt_or_le x 0 with hx | hx'
  · go_enter Try.func9, Try.ntmps9
    go_wp2
    go_ret
    exact ⟨rfl, rfl⟩
  · have e3 : n < x := by omega
    have e4 : decide (x < 0) = false := by simp; omega
    clear hx
    go_enter Try.func9, Try.ntmps9
    go_wp2
    go_ret
    exact ⟨rfl, rfl⟩

set_option maxHeartbeats 400000 in
theorem give_yes (b : Nat) (r n h x : Int) (w : World) (H : PuAt w b r n h) (ok : PuOk r n h) (hx : 0 ≤ x) (hy : x ≤ n) :
    Calls Try.prog 9 #[.pointer (some ⟨b, 0, none⟩), .int .i64 x] w fun e w' => e = .returned (.bool true) ∧ PuAt w' b r (n - x) h ∧ Below b w w' := by
  obtain ⟨h0, h1, h2, f1, f2⟩ := pu_cells H
  obtain ⟨o1, o2, o3, o4⟩ := ok
  have HH := Lib.hid H
  clear H
  have e1 : IntKind.i64.wrap (n - x) = n - x := IntWalk.i64_in _ (by omega)
  have e2 : ¬ x < 0 := by omega
  have e3 : ¬ (n < x) := by omega
  go_enter Try.func9, Try.ntmps9
  go_wp2
  go_ret
  exact ⟨rfl, pu_set1 HH.out _, (Below.refl b w).setCell (p := ⟨b, 1, none⟩) (Nat.le_refl b) _⟩

set_option maxHeartbeats 400000 in
theorem take_nil (x : Int) (w : World) :
    Calls Try.prog 8 #[.pointer none, .int .i64 x] w fun e w' => e = .returned (.bool false) ∧ ∃ k, w' = w.drewN k := by
  go_enter Try.func8, Try.ntmps8
  go_wp2
  go_quiet (fail)
  go_wp2
  go_ret
  exact ⟨rfl, _, rfl⟩
set_option maxHeartbeats 400000 in
theorem give_nil (x : Int) (w : World) :
    Calls Try.prog 9 #[.pointer none, .int .i64 x] w fun e w' => e = .returned (.bool false) ∧ w = w' := by
  go_enter Try.func9, Try.ntmps9
  go_wp2
  go_ret
  exact ⟨rfl, rfl⟩
theorem now_nil (w : World) :
    Calls Try.prog 10 #[.pointer none] w fun e w' => e = .returned (.int .i64 0) ∧ w = w' := by
  go_enter Try.func10, Try.ntmps10
  go_wp2
  go_ret
  exact ⟨rfl, rfl⟩
theorem high_nil (w : World) :
    Calls Try.prog 11 #[.pointer none] w fun e w' => e = .returned (.int .i64 0) ∧ w = w' := by
  go_enter Try.func11, Try.ntmps11
  go_wp2
  go_ret
  exact ⟨rfl, rfl⟩
theorem left_nil (w : World) :
    Calls Try.prog 12 #[.pointer none] w fun e w' => e = .returned (.int .i64 0) ∧ w = w' := by
  go_enter Try.func12, Try.ntmps12
  go_wp2
  go_ret
  exact ⟨rfl, rfl⟩


theorem take_no (b : Nat) (r n h x : Int) (w : World) (H : PuAt w b r n h) (ok : PuOk r n h) (hx : x < 0 ∨ r - n < x) :
    Calls Try.prog 8 #[.pointer (some ⟨b, 0, none⟩), .int .i64 x] w fun e w' => e = .returned (.bool false) ∧ PuAt w' b r n h ∧ Below b w w' :=
  (take_no_q b r n h x w H ok hx).mono (by rintro e w' ⟨rfl, k, rfl⟩; exact ⟨rfl, H, below_drewN (Below.refl _ _) _⟩)
theorem left_any (b : Nat) (r n h : Int) (w : World) (H : PuAt w b r n h) (ok : PuOk r n h) :
    Calls Try.prog 12 #[.pointer (some ⟨b, 0, none⟩)] w fun e w' => e = .returned (.int .i64 (r - n)) ∧ PuAt w' b r n h ∧ Below b w w' :=
  (left_q b r n h w H ok).mono (by rintro e w' ⟨rfl, k, rfl⟩; exact ⟨rfl, H, below_drewN (Below.refl _ _) _⟩)

end Go.Proofs.Ytfgfmkkdofkggaa
