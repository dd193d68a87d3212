import Derived.Test.YtfgfmkkdofkggaaPurse
namespace Go.Proofs.Ytfgfmkkdofkggaa
open Go.RowKit

theorem pu_new (w : World) (r n h : Int) : PuAt (w.alloc (.cells #[.int .i64 r, .int .i64 n, .int .i64 h] 35)) w.heap.size r n h := by
  show (w.heap.push _)[w.heap.size]? = _
  simp

theorem pu_drewN {w : World} {b : Nat} {r n h : Int} (H : PuAt w b r n h) (k : Nat) : PuAt (w.drewN k) b r n h := H

set_option maxHeartbeats 1000000 in
theorem alive_any (w : World) :
    Calls Try.prog 6 #[] w fun e w' => e = .returned (.bool true) ∧ Below w.heap.size w w' := by
  go_enter Try.func6, Try.ntmps6
  go_wp2_with fail
  refine (new_any 10 w).mono ?_
  rintro e w1 ⟨rfl, rfl⟩
  have H0 := pu_new w (min (max 10 0) 1000000) 0 0
  have B0 : Below w.heap.size w (w.alloc (.cells #[.int .i64 (min (max 10 0) 1000000), .int .i64 0, .int .i64 0] 35)) := (Below.refl _ _).alloc (Nat.le_refl _) _
  revert H0 B0
  generalize w.alloc _ = w0
  generalize hb0 : w.heap.size = b
  intro H0 B0
  have hb := Lib.hid hb0
  clear hb0
  go_wp2_with fail
  refine (take_yes _ _ _ _ _ _ H0 ⟨by decide, by decide, by decide, by decide⟩ (by decide) (by decide)).mono ?_
  rintro e w1 ⟨rfl, H1, B1⟩
  go_wp2_with fail
  refine (take_no _ _ _ _ _ _ H1 ⟨by decide, by decide, by decide, by decide⟩ (by decide)).mono ?_
  rintro e w2 ⟨rfl, H2, B2⟩
  go_wp2_with fail
  refine (give_yes _ _ _ _ _ _ H2 ⟨by decide, by decide, by decide, by decide⟩ (by decide) (by decide)).mono ?_
  rintro e w3 ⟨rfl, H3, B3⟩
  go_wp2_with fail
  refine (high_any _ _ _ _ _ H3).mono ?_
  rintro e w4 ⟨rfl, rfl⟩
  go_wp2_with fail
  refine (now_any _ _ _ _ _ H3).mono ?_
  rintro e w4 ⟨rfl, rfl⟩
  go_wp2_with fail
  refine (left_any _ _ _ _ _ H3 ⟨by decide, by decide, by decide, by decide⟩).mono ?_
  rintro e w4 ⟨rfl, H4, B4⟩
  go_wp2
  go_ret
  refine ⟨rfl, ?_⟩
  rw [hb.out]
  exact (((B0.trans B1).trans B2).trans B3).trans B4

/-- A new purse, for a room that is in range. -/
theorem new_ok (r : Int) (w : World) (h0 : 0 ≤ r) (h1 : r ≤ 1000000) :
    Calls Try.prog 7 #[.int .i64 r] w fun e w' => ∃ b, e = .returned (.pointer (some ⟨b, 0, none⟩)) ∧ b = w.heap.size ∧ PuAt w' b r 0 0 ∧ Below w.heap.size w w' := by
  refine (new_any r w).mono ?_
  rintro e w' ⟨rfl, rfl⟩
  have e1 : min (max r 0) 1000000 = r := by omega
  rw [e1]
  exact ⟨_, rfl, rfl, pu_new _ _ _ _, (Below.refl _ _).alloc (Nat.le_refl _) _⟩

end Go.Proofs.Ytfgfmkkdofkggaa
