/-
  window.Fn of any name; window.Do of one point, and of none; a point that came in by value. No condition but that the point may be.
-/
import Derived.Test.YtklflekldhhmcabWinEachMath
import Derived.Test.YtklflekldhhmcabWinOpen
import Derived.Lib.SmallJoins
namespace Go.Proofs.Ytklflekldhhmcab
open Go.RowKit Go.ChangeShapes Go.WideShapes Go.ChangeAt Go.Deep

theorem pt1_open {H : Type} {enc : TypeId × Value → H} {W : World} {v : Value} {d : DataW H} {p : List MemPlace} {base : Nat} {hd : Bool} {r : Reach} {b0 : Nat}
    (hv : Value.okWide Try.prog W r b0 23 v) (h : DataW.Trod enc Try.prog W base (fun _ => true) hd 23 v d p) :
    ∃ z : Int × Int, v = .agg #[.int .i64 z.1, .int .i64 z.2] ∧ (-9223372036854775808 ≤ z.1 ∧ z.1 ≤ 9223372036854775807) ∧ (-9223372036854775808 ≤ z.2 ∧ z.2 ≤ 9223372036854775807) := by
  obtain ⟨v0, v1, y0, y1, n, rfl, _, _, h0, h1⟩ := Go.Joins.open_agg2 Try.underlying23 (by kernel_rfl) (by kernel_rfl) hv h
  obtain ⟨x0, e0, _, wf0⟩ := DataW.trod_int Try.underlying3 h0
  obtain ⟨x1, e1, _, wf1⟩ := DataW.trod_int Try.underlying3 h1
  simp at e0 e1
  subst e0 e1
  exact ⟨(x0, x1), rfl, rng_i64 wf0, rng_i64 wf1⟩
theorem fn_none (s : List UInt8) (h0 : ¬ s = sumL) (h1 : ¬ s = avgL) (h2 : ¬ s = minL) (h3 : ¬ s = maxL) (h4 : ¬ s = countL) (h5 : ¬ s = lastL) (h6 : ¬ s = incL) (h7 : ¬ s = rateL) (w : World) : Calls Try.prog 9 #[.string (txt s)] w fun e w' => e = .returned .nilIface ∧ Gr w w' := by
  have t0 : (s == [115, 117, 109, 95, 111, 118, 101, 114]) = false := eqL h0
  have t1 : (s == [97, 118, 103, 95, 111, 118, 101, 114]) = false := eqL h1
  have t2 : (s == [109, 105, 110, 95, 111, 118, 101, 114]) = false := eqL h2
  have t3 : (s == [109, 97, 120, 95, 111, 118, 101, 114]) = false := eqL h3
  have t4 : (s == [99, 111, 117, 110, 116, 95, 111, 118, 101, 114]) = false := eqL h4
  have t5 : (s == [108, 97, 115, 116, 95, 111, 118, 101, 114]) = false := eqL h5
  have t6 : (s == [105, 110, 99, 114, 101, 97, 115, 101]) = false := eqL h6
  have t7 : (s == [114, 97, 116, 101]) = false := eqL h7
  go_enter Try.func9, Try.ntmps9
  go_wp2
  go_ret
  exact ⟨rfl, gr_refl _ _⟩
theorem winFn_no (s : List UInt8) (h0 : ¬ s = sumL) (h1 : ¬ s = avgL) (h2 : ¬ s = minL) (h3 : ¬ s = maxL) (h4 : ¬ s = countL) (h5 : ¬ s = lastL) (h6 : ¬ s = incL) (h7 : ¬ s = rateL) (w : World) : Calls Try.prog 5 #[.string (txt s)] w fun e w' => e = .returned (.bool false) ∧ Gr w w' := by
  have cF := fun W => fn_none s h0 h1 h2 h3 h4 h5 h6 h7 W
  replace cF := Lib.hid cF
  go_enter Try.func5, Try.ntmps5
  go_wp2_with fail
  refine (cF.out _).mono ?_
  rintro e w2 ⟨rfl, g⟩
  go_wp2
  go_ret
  exact ⟨rfl, g⟩
theorem winFn_yes (s : List UInt8) (t : TypeId) (v : Value) (cF : ∀ W, Calls Try.prog 9 #[.string (txt s)] W fun e w' => e = .returned (.iface t v) ∧ Gr W w') (w : World) : Calls Try.prog 5 #[.string (txt s)] w fun e w' => e = .returned (.bool true) ∧ Gr w w' := by
  replace cF := Lib.hid cF
  go_enter Try.func5, Try.ntmps5
  go_wp2_with fail
  refine (cF.out _).mono ?_
  rintro e w2 ⟨rfl, g⟩
  go_wp2
  go_ret
  exact ⟨rfl, g⟩
set_option maxHeartbeats 2000000 in
theorem do_nil (s : List UInt8) (t : TypeId) (v : Value) (cF : ∀ W, Calls Try.prog 9 #[.string (txt s)] W fun e w' => e = .returned (.iface t v) ∧ Gr W w') (w : World) : Do3 s none 0 0 w 0 false 0 := by
  have cR := fun W => winRight_any none 0 0 [] W (by omega) (row_nil _ _ _)
  rw [show rightB [] = true by decide] at cR
  obtain ⟨S, hS⟩ : ∃ S, S = txt s := ⟨_, rfl⟩
  unfold Do3
  rw [← hS] at cF ⊢
  replace cF := Lib.hid cF
  replace cR := Lib.hid cR
  clear hS
  go_enter Try.func7, Try.ntmps7
  go_wp2_with fail
  refine (cF.out _).mono ?_
  rintro e W1 ⟨rfl, g1⟩
  go_wp2_with fail
  refine (cR.out _).mono ?_
  rintro e W2 ⟨rfl, g2⟩
  go_wp2
  go_ret3
  exact ⟨rfl, gr_trans g1 g2⟩
theorem change_one (A : Option Addr) (c : Nat) (w : World) : Calls Try.prog 14 #[.agg #[.bool true], .slice A 1 c] w fun e w' => e = .returned (.tuple #[.int .i64 0, .bool false, .int .i64 0]) ∧ Gr w w' := by
  go_enter Try.func14, Try.ntmps14
  go_wp2
  go_ret3
  exact ⟨rfl, gr_alloc w _ none⟩
/-- What is asked of one name: it is a name, it answers nothing of no point, and v of one. -/
def OneOf (s : List UInt8) (v : Int) (b : Bool) (A : Option Addr) (c : Nat) (zs : List (Int × Int)) (w0 : World) : Prop :=
  (∀ w, Calls Try.prog 5 #[.string (txt s)] w fun e w' => e = .returned (.bool true) ∧ Gr w w') ∧ (∀ w, Do3 s none 0 0 w 0 false 0) ∧ ∀ w, Gr w0 w → Do3 s A 1 c w v b 0
theorem one_sum {A : Option Addr} {c : Nat} {z : Int × Int} {w0 : World} (hr : PtRow w0 A 1 [z]) (hrb : rightB [z] = true) : OneOf sumL z.2 true A c [z] w0 := by
  refine ⟨winFn_yes _ _ _ fn_sum, do_nil _ _ _ fn_sum, fun w g => ?_⟩
  have hI := (pts_facts hr hrb).2.1 z.2 (by simp [nums])
  have h := do_sum A 1 c [z] w (by omega) (pt_gr hr g) hrb (by simpa [nums] using hI)
  rwa [show (nums [z]).sum = z.2 by simp [nums]] at h
theorem one_avg {A : Option Addr} {c : Nat} {z : Int × Int} {w0 : World} (hr : PtRow w0 A 1 [z]) (hrb : rightB [z] = true) : OneOf avgL z.2 true A c [z] w0 := by
  refine ⟨winFn_yes _ _ _ fn_avg, do_nil _ _ _ fn_avg, fun w g => ?_⟩
  have h := do_avg A 1 c [z] w (by omega) (pt_gr hr g) hrb
  rwa [show (nums [z]).sum.tdiv ((1 : Nat) : Int) = z.2 by simp [nums]] at h
theorem one_min {A : Option Addr} {c : Nat} {z : Int × Int} {w0 : World} (hr : PtRow w0 A 1 [z]) (hrb : rightB [z] = true) : OneOf minL z.2 true A c [z] w0 := by
  refine ⟨winFn_yes _ _ _ fn_min, do_nil _ _ _ fn_min, fun w g => ?_⟩
  have h := do_min A 1 c [z] w (by omega) (pt_gr hr g) hrb
  rwa [show Lib.minOf (nums [z]) = z.2 by simp [nums, Lib.minOf]] at h
theorem one_max {A : Option Addr} {c : Nat} {z : Int × Int} {w0 : World} (hr : PtRow w0 A 1 [z]) (hrb : rightB [z] = true) : OneOf maxL z.2 true A c [z] w0 := by
  refine ⟨winFn_yes _ _ _ fn_max, do_nil _ _ _ fn_max, fun w g => ?_⟩
  have h := do_max A 1 c [z] w (by omega) (pt_gr hr g) hrb
  rwa [show Lib.maxOf (nums [z]) = z.2 by simp [nums, Lib.maxOf]] at h
theorem one_count {A : Option Addr} {c : Nat} {z : Int × Int} {w0 : World} (hr : PtRow w0 A 1 [z]) (hrb : rightB [z] = true) : OneOf countL 1 true A c [z] w0 :=
  ⟨winFn_yes _ _ _ fn_count, do_nil _ _ _ fn_count, fun w g => do_count A 1 c [z] w (by omega) (pt_gr hr g) hrb⟩
theorem one_last {A : Option Addr} {c : Nat} {z : Int × Int} {w0 : World} (hr : PtRow w0 A 1 [z]) (hrb : rightB [z] = true) : OneOf lastL z.2 true A c [z] w0 :=
  ⟨winFn_yes _ _ _ fn_last, do_nil _ _ _ fn_last, fun w g => do_last A 1 c [z] w (by omega) (pt_gr hr g) hrb⟩
theorem one_inc {A : Option Addr} {c : Nat} {z : Int × Int} {w0 : World} (hr : PtRow w0 A 1 [z]) (hrb : rightB [z] = true) : OneOf incL 0 false A c [z] w0 := by
  refine ⟨winFn_yes _ _ _ fn_inc, do_nil _ _ _ fn_inc, fun w g => ?_⟩
  have h := do_inc A 1 c [z] w (by omega) (pt_gr hr g)
  have e : doInc [z] = (0, false, 0) := by unfold doInc incV; rw [if_pos hrb]; rfl
  unfold DoIncPost at h
  rw [e] at h
  exact h
theorem one_rate {A : Option Addr} {c : Nat} {z : Int × Int} {w0 : World} (hr : PtRow w0 A 1 [z]) (hrb : rightB [z] = true) : OneOf rateL 0 false A c [z] w0 :=
  ⟨winFn_yes _ _ _ fn_rate, do_nil _ _ _ fn_rate, fun w g => do_change A 1 c [z] 0 false 0 w (by omega) (by omega) (pt_gr hr g) hrb (fun W _ => change_one A c W)⟩
end Go.Proofs.Ytklflekldhhmcab
