/-
  The first call of the laws of chapter 1 answers true. No condition.
-/
import Derived.Test.YtbpklmklbfcfjaaGlyphUnq
import Derived.Test.YtbpklmklbfcfjaaGlyphName
namespace Go.Proofs.Ytbpklmklbfcfjaa
open Go.RowKit

theorem al1 : unq [34, 97, 92, 34, 98, 34] = some [97, 34, 98] := (unq_iff _ _).2 (by decide +kernel)
theorem al2 : quote [97, 34, 98] = [34, 97, 92, 34, 98, 34] := by decide +kernel
theorem al3 : isName [104, 111, 115, 116, 95, 49] = true := by decide +kernel
theorem al4 : isName [49, 97] = false := by decide +kernel
theorem al5 : (chunks [97, 195, 169]).length = 2 := by decide +kernel

set_option maxHeartbeats 1000000 in
set_option maxRecDepth 100000 in
theorem alive_any (w : World) : Calls Try.prog 4 #[] w fun e w' => e = .returned (.bool true) ∧ Gr w w' := by
  have c1 : ∀ W, Calls Try.prog 16 #[.string (txt [34, 97, 92, 34, 98, 34])] W fun e w' => e = .returned (.tuple #[.string (txt [97, 34, 98]), .bool true]) ∧ Gr W w' := fun W => by
    have := unq_any [34, 97, 92, 34, 98, 34] W (by decide)
    unfold UnqPost at this
    rw [al1] at this
    exact this
  have c2 : ∀ W, Calls Try.prog 17 #[.string (txt [97, 34, 98])] W fun e w' => e = .returned (.string (txt [34, 97, 92, 34, 98, 34])) ∧ Gr W w' := fun W => by
    have := quote_any [97, 34, 98] W (by decide)
    rw [al2] at this
    exact this
  have c3 : ∀ W, Calls Try.prog 11 #[.string (txt [104, 111, 115, 116, 95, 49])] W fun e w' => e = .returned (.bool true) ∧ Gr W w' := fun W => by
    have := name_any [104, 111, 115, 116, 95, 49] W (by decide)
    rw [al3] at this
    exact this
  have c4 : ∀ W, Calls Try.prog 11 #[.string (txt [49, 97])] W fun e w' => e = .returned (.bool false) ∧ Gr W w' := fun W => by
    have := name_any [49, 97] W (by decide)
    rw [al4] at this
    exact this
  have c5 : ∀ W, Calls Try.prog 13 #[.string (txt [97, 195, 169])] W fun e w' => e = .returned (.int .i64 2) ∧ Gr W w' := fun W => by
    have := count_any [97, 195, 169] W (by decide)
    rw [al5] at this
    exact this
  replace c1 := Lib.hid c1
  replace c2 := Lib.hid c2
  replace c3 := Lib.hid c3
  replace c4 := Lib.hid c4
  replace c5 := Lib.hid c5
  go_enter Try.func4, Try.ntmps4
  go_wp2_with fail
  refine (c1.out _).mono ?_
  rintro e w1 ⟨rfl, g1⟩
  go_wp2_with fail
  refine (c2.out _).mono ?_
  rintro e w2 ⟨rfl, g2⟩
  go_wp2_with fail
  refine (c3.out _).mono ?_
  rintro e w3 ⟨rfl, g3⟩
  go_wp2_with fail
  refine (c4.out _).mono ?_
  rintro e w4 ⟨rfl, g4⟩
  go_wp2_with fail
  refine (c5.out _).mono ?_
  rintro e w5 ⟨rfl, g5⟩
  go_wp2
  go_ret
  exact ⟨rfl, gr_trans (gr_trans (gr_trans (gr_trans g1 g2) g3) g4) g5⟩
end Go.Proofs.Ytbpklmklbfcfjaa
