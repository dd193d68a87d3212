/-
  window.Fn of any name; window.Do of none. No condition.
-/
import Derived.Test.YtkpmonefhpnljaaGreatWinEachMath
import Derived.Test.YtkpmonefhpnljaaGreatWinOpen
namespace Go.Proofs.YtkpmonefhpnljaaGreat
open Go.RowKit Go.ChangeShapes Go.WideShapes Go.ChangeAt Go.Deep

theorem fn_none (s : List UInt8) (h0 : ¬ s = sumL) (h1 : ¬ s = avgL) (h2 : ¬ s = minL) (h3 : ¬ s = maxL) (h4 : ¬ s = countL) (h5 : ¬ s = lastL) (h6 : ¬ s = incL) (h7 : ¬ s = rateL) (w : World) : Calls Tryz.prog 20 #[.string (txt s)] w fun e w' => e = .returned .nilIface ∧ Gr w w' := by
  have t0 : (s == [115, 117, 109, 95, 111, 118, 101, 114]) = false := eqL h0
  have t1 : (s == [97, 118, 103, 95, 111, 118, 101, 114]) = false := eqL h1
  have t2 : (s == [109, 105, 110, 95, 111, 118, 101, 114]) = false := eqL h2
  have t3 : (s == [109, 97, 120, 95, 111, 118, 101, 114]) = false := eqL h3
  have t4 : (s == [99, 111, 117, 110, 116, 95, 111, 118, 101, 114]) = false := eqL h4
  have t5 : (s == [108, 97, 115, 116, 95, 111, 118, 101, 114]) = false := eqL h5
  have t6 : (s == [105, 110, 99, 114, 101, 97, 115, 101]) = false := eqL h6
  have t7 : (s == [114, 97, 116, 101]) = false := eqL h7
  go_enter Tryz.func20, Tryz.ntmps20
  go_wp2
  go_ret
  exact ⟨rfl, gr_refl _ _⟩
theorem winFn_no (s : List UInt8) (h0 : ¬ s = sumL) (h1 : ¬ s = avgL) (h2 : ¬ s = minL) (h3 : ¬ s = maxL) (h4 : ¬ s = countL) (h5 : ¬ s = lastL) (h6 : ¬ s = incL) (h7 : ¬ s = rateL) (w : World) : Calls Tryz.prog 15 #[.string (txt s)] w fun e w' => e = .returned (.bool false) ∧ Gr w w' := by
  have cF := fun W => fn_none s h0 h1 h2 h3 h4 h5 h6 h7 W
  replace cF := Lib.hid cF
  go_enter Tryz.func15, Tryz.ntmps15
  go_wp2_with fail
  refine (cF.out _).mono ?_
  rintro e w2 ⟨rfl, g⟩
  go_wp2
  go_ret
  exact ⟨rfl, g⟩
theorem winFn_yes (s : List UInt8) (t : TypeId) (v : Value) (cF : ∀ W, Calls Tryz.prog 20 #[.string (txt s)] W fun e w' => e = .returned (.iface t v) ∧ Gr W w') (w : World) : Calls Tryz.prog 15 #[.string (txt s)] w fun e w' => e = .returned (.bool true) ∧ Gr w w' := by
  replace cF := Lib.hid cF
  go_enter Tryz.func15, Tryz.ntmps15
  go_wp2_with fail
  refine (cF.out _).mono ?_
  rintro e w2 ⟨rfl, g⟩
  go_wp2
  go_ret
  exact ⟨rfl, g⟩
set_option maxHeartbeats 2000000 in
theorem do_nil (s : List UInt8) (t : TypeId) (v : Value) (cF : ∀ W, Calls Tryz.prog 20 #[.string (txt s)] W fun e w' => e = .returned (.iface t v) ∧ Gr W w') (w : World) : Do3 s none 0 0 w 0 false 0 := by
  have cR := fun W => winRight_any none 0 0 [] W (by omega) (row_nil _ _ _)
  rw [show rightB [] = true by decide] at cR
  obtain ⟨S, hS⟩ : ∃ S, S = txt s := ⟨_, rfl⟩
  unfold Do3
  rw [← hS] at cF ⊢
  replace cF := Lib.hid cF
  replace cR := Lib.hid cR
  clear hS
  go_enter Tryz.func10, Tryz.ntmps10
  go_wp2_with fail
  refine (cF.out _).mono ?_
  rintro e W1 ⟨rfl, g1⟩
  go_wp2_with fail
  refine (cR.out _).mono ?_
  rintro e W2 ⟨rfl, g2⟩
  go_wp2
  go_ret3
  exact ⟨rfl, gr_trans g1 g2⟩
theorem change_one (A : Option Addr) (c : Nat) (w : World) : Calls Tryz.prog 22 #[.agg #[.bool true], .slice A 1 c] w fun e w' => e = .returned (.tuple #[.int .i64 0, .bool false, .int .i64 0]) ∧ Gr w w' := by
  go_enter Tryz.func22, Tryz.ntmps22
  go_wp2
  go_ret3
  exact ⟨rfl, gr_alloc w _ none⟩
end Go.Proofs.YtkpmonefhpnljaaGreat
