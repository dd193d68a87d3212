/-
  The chapter's first call answers true, where the library's table and its errors lie as they were laid.
-/
import Derived.Test.YthilgkfloonbjaaGreatDoorSlipGet
import Derived.Test.YthilgkfloonbjaaGreatDoorSlipPages
namespace Go.Proofs.YthilgkfloonbjaaGreatDoor
open Go.RowKit
open Go.Lib (decDigits)

theorem slip_3_20 : txt (slipL 3 20) = ⟨#[112, 51, 46, 50, 48]⟩ := by
  unfold slipL
  rw [Go.Lib.decDigits_one (show 3 < 10 by omega), Go.Lib.decDigits_two (show ¬ 20 < 10 by omega) (show 20 < 100 by omega)]
  rfl
set_option maxHeartbeats 2000000 in
set_option maxRecDepth 100000 in
theorem alive_any (w : World) (hv : Vars w) : Calls Tryz.prog 4 #[] w fun e w' => e = .returned (.bool true) ∧ Gr w w' := by
  have hok : SlipOk 3 20 := ⟨by omega, by omega, by omega⟩
  have cP : ∀ w, Vars w → Calls Tryz.prog 5 #[.int .i64 3, .int .i64 20] w fun e w' => e = .returned (.tuple #[.string (txt (slipL 3 20)), .int .i64 0]) ∧ Gr w w' := fun w hv => put_ok 3 20 w hok hv
  have cG : ∀ w, Calls Tryz.prog 10 #[.int .i64 25, .int .i64 10] w (PagesPost (pagesN 25 10) 10 w) := fun w => pages_any 25 10 w (by omega) (by omega) (by omega)
  go_enter Tryz.func4, Tryz.ntmps4
  go_wp2_with fail
  refine (cP _ hv).mono ?_
  rintro e w1 ⟨rfl, g1⟩
  have hv1 := vars_gr hv g1
  go_wp2_with fail
  refine (get_any (slipL 3 20) _ (by have := (slip_len hok).1; omega) hv1).mono ?_
  rintro e w2 ⟨a, b, c, rfl, hget, g2⟩
  obtain ⟨rfl, rfl, rfl⟩ : a = 3 ∧ b = 20 ∧ c = 0 := by
    rcases hget with ⟨m, n, h1, h2, rfl, rfl, rfl⟩ | ⟨h, _⟩
    · obtain ⟨rfl, rfl⟩ := slip_inj h2
      exact ⟨rfl, rfl, rfl⟩
    · exact absurd rfl (h 3 20 hok)
  clear hget
  go_wp2_with fail
  refine (cG _).mono ?_
  rintro e w3 ⟨v, rfl, hown, g3⟩
  obtain ⟨A, c, rfl, hlen, _⟩ := own_open hown
  obtain ⟨x, B, o, hx, rfl, hc⟩ := row_elem (row_own hown) (k := 2) (by decide)
  have hx3 : x = 20 := by
    have h2 := pagesL_at (size := 10) (show 2 < pagesN 25 10 by decide)
    rw [h2] at hx
    exact (Option.some.inj hx).symm
  subst hx3
  have hN : pagesN 25 10 = 3 := by decide
  rw [hN]
  clear hown hlen hx
  rw [slip_3_20]
  go_wp2
  go_ret
  exact ⟨rfl, gr_trans (gr_trans g1 g2) g3⟩
end Go.Proofs.YthilgkfloonbjaaGreatDoor
