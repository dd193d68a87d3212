/-
  The first call of the laws of chapter 16 answers true. No condition.
-/
import Derived.Test.YtfgfmkkdofkggaaPurse
namespace Go.Proofs.Ytfgfmkkdofkggaa
open Go.RowKit

set_option maxHeartbeats 1000000 in
theorem alive_any (w : World) :
    Calls Try.prog 6 #[] w fun e w' => e = .returned (.bool true) ∧ Gr w w' := by
  go_enter Try.func6, Try.ntmps6
  go_wp2_with fail
  refine (new_ok 10 w (by decide) (by decide)).mono ?_
  rintro e w0 ⟨b, rfl, hb0, H0, B0⟩
  have hb := Lib.hid hb0
  clear hb0
  go_wp2_with fail
  refine (take_yes _ _ _ _ _ _ H0 ⟨by decide, by decide, by decide, by decide⟩ (by decide) (by decide)).mono ?_
  rintro e w1 ⟨rfl, H1, B1⟩
  go_wp2_with fail
  refine (take_no _ _ _ _ _ _ H1 ⟨by decide, by decide, by decide, by decide⟩ (by decide)).mono ?_
  rintro e w2 ⟨rfl, B2⟩
  have H2 := pu_gr H1 B2
  go_wp2_with fail
  refine (give_yes _ _ _ _ _ _ H2 ⟨by decide, by decide, by decide, by decide⟩ (by decide) (by decide)).mono ?_
  rintro e w3 ⟨rfl, H3, B3⟩
  go_wp2_with fail
  refine (high_any _ _ _ _ _ H3).mono ?_
  rintro e w4 ⟨rfl, rfl⟩
  go_wp2_with fail
  refine (now_any _ _ _ _ _ H3).mono ?_
  rintro e w4 ⟨rfl, rfl⟩
  go_wp2_with fail
  refine (left_any _ _ _ _ _ H3 ⟨by decide, by decide, by decide, by decide⟩).mono ?_
  rintro e w4 ⟨rfl, B4⟩
  go_wp2
  go_ret
  have hb := hb.out
  have hs := B0.size
  have g : GrB b w0 w4 := gr_trans (gr_trans (gr_trans B1 (gr_more _ B2)) B3) (gr_more _ B4)
  exact ⟨rfl, gr_of_below (below_gr (gr_below B0) g hs (by simp; omega)) (Nat.le_refl _)⟩

end Go.Proofs.Ytfgfmkkdofkggaa
