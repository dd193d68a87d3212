/-
  How much points rose: what window.Do answers of 'increase'; window.Last. No condition but a bound on the length.
-/
import Derived.Test.YtkpmonefhpnljaaGreatWinRise
import Derived.Laws.EntriesVeiled
namespace Go.Proofs.YtkpmonefhpnljaaGreat
open Go.RowKit

def ret3 (v : Int) (b : Bool) (e : Int) : Ending := .returned (.tuple #[.int .i64 v, .bool b, .int .i64 e])
def incV (zs : List (Int × Int)) : Int × Bool × Int := if zs.length < 2 then (0, false, 0) else ((riseV zs).1, decide ((riseV zs).2 = 0), (riseV zs).2)
def IncPost (zs : List (Int × Int)) (w : World) (e : Ending) (w' : World) : Prop := e = ret3 (incV zs).1 (incV zs).2.1 (incV zs).2.2 ∧ Gr w w'
theorem riseV_or (zs : List (Int × Int)) : (riseV zs).2 = 0 ∨ (riseV zs).2 = 4 := by unfold riseV; split <;> simp
set_option maxHeartbeats 4000000 in
set_option maxRecDepth 100000 in
theorem change_inc (A : Option Addr) (n c : Nat) (zs : List (Int × Int)) (w : World) (hn : n ≤ 25) (hr : PtRow w A n zs) (hV : ∀ k, k < n → In (pV zs k)) :
    Calls Tryz.prog 22 #[.agg #[.bool false], .slice A n c] w (IncPost zs w) := by
  have hl := pt_len hr
  by_cases h2 : (n : Int) < 2
  · have hv : incV zs = (0, false, 0) := if_pos (by omega)
    replace hv := Lib.hid hv
    replace hl := Lib.hid hl
    clear hr
    go_enter Tryz.func22, Tryz.ntmps22
    go_wp2
    go_ret3
    unfold IncPost
    rw [hv.out]
    exact ⟨rfl, gr_alloc w _ none⟩
  · have hv : incV zs = ((riseV zs).1, decide ((riseV zs).2 = 0), (riseV zs).2) := if_neg (by omega)
    have hrs := fun W (g : Gr w W) => rise_any A n c zs W (by omega) hn (pt_gr hr g) hV
    have hor := riseV_or zs
    unfold RisePost at hrs
    generalize (riseV zs).1 = v at *
    generalize (riseV zs).2 = e at *
    replace hv := Lib.hid hv
    replace hl := Lib.hid hl
    replace hrs := Lib.hid hrs
    replace hV := Lib.hid hV
    replace hr := Lib.hid hr
    rcases hor with rfl | rfl
    all_goals
      go_enter Tryz.func22, Tryz.ntmps22
      go_wp2_with fail
      refine (hrs.out _ (gr_alloc w _ none)).mono ?_
      rintro e W2 ⟨rfl, g2⟩
      have hx : W2.cell? ⟨w.heap.size, 0, none⟩ = some (.bool false) := gr_cell g2 (by rw [World.cell?_alloc_new]; rfl)
      have g3 := Lib.hid (gr_trans (gr_alloc w _ none) g2)
      clear g2
      go_wp2
      go_ret3
      unfold IncPost
      rw [hv.out]
      exact ⟨rfl, g3.out⟩

theorem ta_inc1 (v : Value) (W : World) : (Instr.typeAssert (.iface 64 v) 20 54 true).run Tryz.prog W = .ok (.tuple #[.agg #[.nilFunc], .bool false]) W := by
  simp [Instr.typeAssert, Sem.run_bind, run_underlying Tryz.underlying54, Tryz.zeroValue54, Result.andThen]
theorem ta_inc2 (v : Value) (W : World) : (Instr.typeAssert (.iface 64 v) 20 61 true).run Tryz.prog W = .ok (.tuple #[.agg #[.nilFunc], .bool false]) W := by
  simp [Instr.typeAssert, Sem.run_bind, run_underlying Tryz.underlying61, Tryz.zeroValue61, Result.andThen]
theorem ta_inc3 (v : Value) (W : World) : (Instr.typeAssert (.iface 64 v) 20 64 false).run Tryz.prog W = .ok v W := by
  simp [Instr.typeAssert, Sem.run_bind, run_underlying Tryz.underlying64, Result.andThen]
theorem fn_inc (w : World) : Calls Tryz.prog 20 #[.string (txt [105, 110, 99, 114, 101, 97, 115, 101])] w fun e w' => e = .returned (.iface 64 (.agg #[.bool false])) ∧ Gr w w' := by
  go_enter Tryz.func20, Tryz.ntmps20
  go_wp2
  go_ret
  exact ⟨rfl, gr_refl _ _⟩

def incL : List UInt8 := [105, 110, 99, 114, 101, 97, 115, 101]
def doInc (zs : List (Int × Int)) : Int × Bool × Int := if rightB zs = true then incV zs else (0, false, 1)
def DoIncPost (zs : List (Int × Int)) (w : World) (e : Ending) (w' : World) : Prop := e = ret3 (doInc zs).1 (doInc zs).2.1 (doInc zs).2.2 ∧ Gr w w'
set_option maxHeartbeats 4000000 in
set_option maxRecDepth 100000 in
theorem do_inc (A : Option Addr) (n c : Nat) (zs : List (Int × Int)) (w : World) (hn : n ≤ 9223372036854775807) (hr : PtRow w A n zs) :
    Calls Tryz.prog 10 #[.string (txt incL), .slice A n c] w (DoIncPost zs w) := by
  have hl := pt_len hr
  have cR := fun W (g : Gr w W) => winRight_any A n c zs W hn (pt_gr hr g)
  obtain ⟨S, hS⟩ : ∃ S, S = txt incL := ⟨_, rfl⟩
  have cF : ∀ W, Calls Tryz.prog 20 #[.string S] W fun e w' => e = .returned (.iface 64 (.agg #[.bool false])) ∧ Gr W w' := fun W => by rw [hS]; exact fn_inc W
  rw [← hS]
  replace cF := Lib.hid cF
  replace hS := Lib.hid hS
  cases hrb : rightB zs with
  | false =>
    have hv : doInc zs = (0, false, 1) := by unfold doInc; rw [hrb]; rfl
    rw [hrb] at cR
    replace hv := Lib.hid hv
    replace cR := Lib.hid cR
    replace hl := Lib.hid hl
    clear hr
    go_enter Tryz.func10, Tryz.ntmps10
    go_wp2_with fail
    refine (cF.out _).mono ?_
    rintro e W1 ⟨rfl, g1⟩
    go_wp2_with fail
    refine (cR.out _ g1).mono ?_
    rintro e W2 ⟨rfl, g2⟩
    go_wp2
    go_ret3
    unfold DoIncPost
    rw [hv.out]
    exact ⟨rfl, gr_trans g1 g2⟩
  | true =>
    have h25 : n ≤ 25 := by rw [← hl]; exact (right_iff.1 hrb).1
    have hV : ∀ k, k < n → In (pV zs k) := fun k hk => by
      have := (right_iff.1 hrb).2 k (by rw [hl]; exact hk)
      exact (okP_iff.1 this).2.2.1
    have hv : doInc zs = incV zs := by unfold doInc; rw [hrb]; rfl
    rw [hrb] at cR
    have cC := fun W (g : Gr w W) => change_inc A n c zs W h25 (pt_gr hr g) hV
    unfold IncPost at cC
    have h0 : n = 0 → incV zs = (0, false, 0) := fun h => if_pos (by omega)
    by_cases hz : n = 0
    · have hv0 := h0 hz
      rw [hv0] at hv
      subst hz
      replace hv := Lib.hid hv
      replace cR := Lib.hid cR
      replace hl := Lib.hid hl
      clear hr cC h0 hv0 hV
      go_enter Tryz.func10, Tryz.ntmps10
      go_wp2_with fail
      refine (cF.out _).mono ?_
      rintro e W1 ⟨rfl, g1⟩
      go_wp2_with fail
      refine (cR.out _ g1).mono ?_
      rintro e W2 ⟨rfl, g2⟩
      go_wp2
      go_ret3
      unfold DoIncPost
      rw [hv.out]
      exact ⟨rfl, gr_trans g1 g2⟩
    · have hz' : ((n : Int) == 0) = false := eqF (by omega)
      generalize incV zs = iv at *
      replace hv := Lib.hid hv
      replace cR := Lib.hid cR
      replace cC := Lib.hid cC
      replace hl := Lib.hid hl
      clear hr h0 hV
      go_enter Tryz.func10, Tryz.ntmps10
      go_wp2_with fail
      refine (cF.out _).mono ?_
      rintro e W1 ⟨rfl, g1⟩
      go_wp2_with fail
      refine (cR.out _ g1).mono ?_
      rintro e W2 ⟨rfl, g2⟩
      have g12 := Lib.hid (gr_trans g1 g2)
      clear g1 g2
      have ta1 := fun W => ta_inc1 (.agg #[.bool false]) W
      have ta2 := fun W => ta_inc2 (.agg #[.bool false]) W
      have ta3 := fun W => ta_inc3 (.agg #[.bool false]) W
      go_wp2_with fail
      refine (cC.out _ (gr_trans g12.out (gr_trans (gr_alloc _ _ _) (gr_alloc _ _ _)))).mono ?_
      rintro e W3 ⟨rfl, g3⟩
      have g4 := Lib.hid (gr_trans (gr_trans g12.out (gr_trans (gr_alloc _ _ none) (gr_alloc _ _ _))) g3)
      clear g3
      unfold ret3
      go_wp2
      go_ret3
      unfold DoIncPost
      rw [hv.out]
      exact ⟨rfl, g4.out⟩
end Go.Proofs.YtkpmonefhpnljaaGreat
