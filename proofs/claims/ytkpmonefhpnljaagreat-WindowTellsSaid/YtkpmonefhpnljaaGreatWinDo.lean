/-
  What window.Do answers of the functions that fold or pick, and of 'rate'. No condition but that the points may be.
-/
import Derived.Test.YtkpmonefhpnljaaGreatWinNums
import Derived.Test.YtkpmonefhpnljaaGreatWinInc
namespace Go.Proofs.YtkpmonefhpnljaaGreat
open Go.RowKit

theorem fn_sum (w : World) : Calls Tryz.prog 20 #[.string (txt [115, 117, 109, 95, 111, 118, 101, 114])] w fun e w' => e = .returned (.iface 54 (.agg #[.func (.func 68) #[] #[]])) ∧ Gr w w' := by
  go_enter Tryz.func20, Tryz.ntmps20
  go_wp2
  go_ret
  exact ⟨rfl, gr_refl _ _⟩
theorem fn_avg (w : World) : Calls Tryz.prog 20 #[.string (txt [97, 118, 103, 95, 111, 118, 101, 114])] w fun e w' => e = .returned (.iface 54 (.agg #[.func (.func 69) #[] #[]])) ∧ Gr w w' := by
  go_enter Tryz.func20, Tryz.ntmps20
  go_wp2
  go_ret
  exact ⟨rfl, gr_refl _ _⟩
theorem fn_min (w : World) : Calls Tryz.prog 20 #[.string (txt [109, 105, 110, 95, 111, 118, 101, 114])] w fun e w' => e = .returned (.iface 61 (.agg #[.func (.func 70) #[] #[]])) ∧ Gr w w' := by
  go_enter Tryz.func20, Tryz.ntmps20
  go_wp2
  go_ret
  exact ⟨rfl, gr_refl _ _⟩
theorem fn_max (w : World) : Calls Tryz.prog 20 #[.string (txt [109, 97, 120, 95, 111, 118, 101, 114])] w fun e w' => e = .returned (.iface 61 (.agg #[.func (.func 71) #[] #[]])) ∧ Gr w w' := by
  go_enter Tryz.func20, Tryz.ntmps20
  go_wp2
  go_ret
  exact ⟨rfl, gr_refl _ _⟩
theorem fn_count (w : World) : Calls Tryz.prog 20 #[.string (txt [99, 111, 117, 110, 116, 95, 111, 118, 101, 114])] w fun e w' => e = .returned (.iface 61 (.agg #[.func (.func 72) #[] #[]])) ∧ Gr w w' := by
  go_enter Tryz.func20, Tryz.ntmps20
  go_wp2
  go_ret
  exact ⟨rfl, gr_refl _ _⟩
theorem fn_last (w : World) : Calls Tryz.prog 20 #[.string (txt [108, 97, 115, 116, 95, 111, 118, 101, 114])] w fun e w' => e = .returned (.iface 61 (.agg #[.func (.func 73) #[] #[]])) ∧ Gr w w' := by
  go_enter Tryz.func20, Tryz.ntmps20
  go_wp2
  go_ret
  exact ⟨rfl, gr_refl _ _⟩
theorem fn_rate (w : World) : Calls Tryz.prog 20 #[.string (txt [114, 97, 116, 101])] w fun e w' => e = .returned (.iface 64 (.agg #[.bool true])) ∧ Gr w w' := by
  go_enter Tryz.func20, Tryz.ntmps20
  go_wp2
  go_ret
  exact ⟨rfl, gr_refl _ _⟩
theorem ta_fold1 (v : Value) (W : World) : (Instr.typeAssert (.iface 54 v) 20 54 true).run Tryz.prog W = .ok (.tuple #[v, .bool true]) W := by
  simp [Instr.typeAssert, Sem.run_bind, run_underlying Tryz.underlying54, Tryz.zeroValue54, Result.andThen]
theorem ta_pick1 (v : Value) (W : World) : (Instr.typeAssert (.iface 61 v) 20 54 true).run Tryz.prog W = .ok (.tuple #[.agg #[.nilFunc], .bool false]) W := by
  simp [Instr.typeAssert, Sem.run_bind, run_underlying Tryz.underlying54, Tryz.zeroValue54, Result.andThen]
theorem ta_pick2 (v : Value) (W : World) : (Instr.typeAssert (.iface 61 v) 20 61 true).run Tryz.prog W = .ok (.tuple #[v, .bool true]) W := by
  simp [Instr.typeAssert, Sem.run_bind, run_underlying Tryz.underlying61, Tryz.zeroValue61, Result.andThen]

theorem sg_drew {wo : World} {a : Addr} {v : Value} (h : wo.cell? a = some v) : Gr wo { wo with drawn := wo.drawn + 1 } ∧ World.cell? { wo with drawn := wo.drawn + 1 } a = some v := ⟨gr_drew _ _, gr_cell (gr_drew _ _) h⟩
theorem sg_go {wo w1 w2 : World} {a : Addr} {v : Value} (h : Gr wo w1 ∧ w1.cell? a = some v) (g : Gr w1 w2) : Gr wo w2 ∧ w2.cell? a = some v := ⟨gr_trans h.1 g, gr_cell g h.2⟩
set_option maxHeartbeats 4000000 in
set_option maxRecDepth 100000 in
theorem do_f_sum (s : List UInt8) (r : Int × Int) (A : Option Addr) (n c : Nat) (zs : List (Int × Int)) (w : World) (h0 : 0 < n) (h1000 : n ≤ 1000) (hrb : rightB zs = true) (hr : PtRow w A n zs)
    (cF : ∀ W, Calls Tryz.prog 20 #[.string (txt s)] W fun e w' => e = .returned (.iface 54 (.agg #[.func (.func 68) #[] #[]])) ∧ Gr W w')
    (cC : ∀ A' c' W, Row W A' n 1 ((nums zs).map (.int .i64)) → Calls Tryz.prog 68 #[.slice A' n c'] W fun e w' => e = .returned (.tuple #[.int .i64 r.1, .int .i64 r.2]) ∧ W = w') :
    Calls Tryz.prog 10 #[.string (txt s), .slice A n c] w fun e w' => e = ret3 r.1 (r.2 == 0) r.2 ∧ Gr w w' := by
  have hl := pt_len hr
  have cR := fun W (g : Gr w W) => winRight_any A n c zs W (by omega) (pt_gr hr g)
  have cN := fun W (g : Gr w W) => numbers_any A n c zs W h1000 (pt_gr hr g)
  rw [hrb] at cR
  have hz' : ((n : Int) == 0) = false := eqF (by omega)
  obtain ⟨S, hS⟩ : ∃ S, S = txt s := ⟨_, rfl⟩
  rw [← hS] at cF ⊢
  obtain ⟨r1, r2⟩ := r
  replace cF := Lib.hid cF
  replace cC := Lib.hid cC
  replace cR := Lib.hid cR
  replace cN := Lib.hid cN
  replace hl := Lib.hid hl
  clear hr hS hrb
  go_enter Tryz.func10, Tryz.ntmps10
  go_wp2_with fail
  refine (cF.out _).mono ?_
  rintro e W1 ⟨rfl, g1⟩
  go_wp2_with fail
  refine (cR.out _ g1).mono ?_
  rintro e W2 ⟨rfl, g2⟩
  have g12 := Lib.hid (gr_trans g1 g2)
  clear g1 g2
  have ta1 := fun W => ta_fold1 (.agg #[.func (.func 68) #[] #[]]) W
  go_wp2_with fail
  obtain ⟨W3, hW3⟩ : ∃ W3, W3 = W2.alloc (Obj.cells #[.func (.func 68) #[] #[]] 54) := ⟨_, rfl⟩
  have hc : W3.cell? ⟨W2.heap.size, 0, none⟩ = some (.func (.func 68) #[] #[]) := by rw [hW3, World.cell?_alloc_new]; rfl
  have g3 : Gr w W3 := by rw [hW3]; exact gr_trans g12.out (gr_alloc _ _ _)
  rw [← hW3]
  obtain ⟨BB, hBB⟩ : ∃ BB, BB = W2.heap.size := ⟨_, rfl⟩
  rw [← hBB] at hc ⊢
  clear hW3 hBB
  go_region_held3 (fun w' => Gr W3 w' ∧ w'.cell? ⟨BB, 0, none⟩ = some (.func (.func 68) #[] #[])) (first | assumption | exact sg_drew hc | exact sg_go (sg_drew hc) hg4) (first | (go_at_call 21; refine (cN.out _ (gr_trans g3 (gr_drew _ _))).mono ?_; rintro e w' ⟨A4, c4, rfl, hrow, hg4⟩) | (go_at_call 68; refine (cC.out _ _ _ hrow).mono ?_; rintro e w' ⟨rfl, rfl⟩))
  have hG := Lib.hid (gr_trans g3 (gr_trans (gr_drew _ _) hg4))
  clear hrow hg4 hc g3
  go_wp2
  go_ret3
  exact ⟨rfl, hG.out⟩
set_option maxHeartbeats 4000000 in
set_option maxRecDepth 100000 in
theorem do_f_avg (s : List UInt8) (r : Int × Int) (A : Option Addr) (n c : Nat) (zs : List (Int × Int)) (w : World) (h0 : 0 < n) (h1000 : n ≤ 1000) (hrb : rightB zs = true) (hr : PtRow w A n zs)
    (cF : ∀ W, Calls Tryz.prog 20 #[.string (txt s)] W fun e w' => e = .returned (.iface 54 (.agg #[.func (.func 69) #[] #[]])) ∧ Gr W w')
    (cC : ∀ A' c' W, Row W A' n 1 ((nums zs).map (.int .i64)) → Calls Tryz.prog 69 #[.slice A' n c'] W fun e w' => e = .returned (.tuple #[.int .i64 r.1, .int .i64 r.2]) ∧ W = w') :
    Calls Tryz.prog 10 #[.string (txt s), .slice A n c] w fun e w' => e = ret3 r.1 (r.2 == 0) r.2 ∧ Gr w w' := by
  have hl := pt_len hr
  have cR := fun W (g : Gr w W) => winRight_any A n c zs W (by omega) (pt_gr hr g)
  have cN := fun W (g : Gr w W) => numbers_any A n c zs W h1000 (pt_gr hr g)
  rw [hrb] at cR
  have hz' : ((n : Int) == 0) = false := eqF (by omega)
  obtain ⟨S, hS⟩ : ∃ S, S = txt s := ⟨_, rfl⟩
  rw [← hS] at cF ⊢
  obtain ⟨r1, r2⟩ := r
  replace cF := Lib.hid cF
  replace cC := Lib.hid cC
  replace cR := Lib.hid cR
  replace cN := Lib.hid cN
  replace hl := Lib.hid hl
  clear hr hS hrb
  go_enter Tryz.func10, Tryz.ntmps10
  go_wp2_with fail
  refine (cF.out _).mono ?_
  rintro e W1 ⟨rfl, g1⟩
  go_wp2_with fail
  refine (cR.out _ g1).mono ?_
  rintro e W2 ⟨rfl, g2⟩
  have g12 := Lib.hid (gr_trans g1 g2)
  clear g1 g2
  have ta1 := fun W => ta_fold1 (.agg #[.func (.func 69) #[] #[]]) W
  go_wp2_with fail
  obtain ⟨W3, hW3⟩ : ∃ W3, W3 = W2.alloc (Obj.cells #[.func (.func 69) #[] #[]] 54) := ⟨_, rfl⟩
  have hc : W3.cell? ⟨W2.heap.size, 0, none⟩ = some (.func (.func 69) #[] #[]) := by rw [hW3, World.cell?_alloc_new]; rfl
  have g3 : Gr w W3 := by rw [hW3]; exact gr_trans g12.out (gr_alloc _ _ _)
  rw [← hW3]
  obtain ⟨BB, hBB⟩ : ∃ BB, BB = W2.heap.size := ⟨_, rfl⟩
  rw [← hBB] at hc ⊢
  clear hW3 hBB
  go_region_held3 (fun w' => Gr W3 w' ∧ w'.cell? ⟨BB, 0, none⟩ = some (.func (.func 69) #[] #[])) (first | assumption | exact sg_drew hc | exact sg_go (sg_drew hc) hg4) (first | (go_at_call 21; refine (cN.out _ (gr_trans g3 (gr_drew _ _))).mono ?_; rintro e w' ⟨A4, c4, rfl, hrow, hg4⟩) | (go_at_call 69; refine (cC.out _ _ _ hrow).mono ?_; rintro e w' ⟨rfl, rfl⟩))
  have hG := Lib.hid (gr_trans g3 (gr_trans (gr_drew _ _) hg4))
  clear hrow hg4 hc g3
  go_wp2
  go_ret3
  exact ⟨rfl, hG.out⟩
set_option maxHeartbeats 4000000 in
set_option maxRecDepth 100000 in
theorem do_f_min (s : List UInt8) (r : Int) (A : Option Addr) (n c : Nat) (zs : List (Int × Int)) (w : World) (h0 : 0 < n) (h1000 : n ≤ 1000) (hrb : rightB zs = true) (hr : PtRow w A n zs)
    (cF : ∀ W, Calls Tryz.prog 20 #[.string (txt s)] W fun e w' => e = .returned (.iface 61 (.agg #[.func (.func 70) #[] #[]])) ∧ Gr W w')
    (cC : ∀ A' c' W, Row W A' n 1 ((nums zs).map (.int .i64)) → Calls Tryz.prog 70 #[.slice A' n c'] W fun e w' => e = .returned (.int .i64 r) ∧ W = w') :
    Calls Tryz.prog 10 #[.string (txt s), .slice A n c] w fun e w' => e = ret3 r true 0 ∧ Gr w w' := by
  have hl := pt_len hr
  have cR := fun W (g : Gr w W) => winRight_any A n c zs W (by omega) (pt_gr hr g)
  have cN := fun W (g : Gr w W) => numbers_any A n c zs W h1000 (pt_gr hr g)
  rw [hrb] at cR
  have hz' : ((n : Int) == 0) = false := eqF (by omega)
  obtain ⟨S, hS⟩ : ∃ S, S = txt s := ⟨_, rfl⟩
  rw [← hS] at cF ⊢
  replace cF := Lib.hid cF
  replace cC := Lib.hid cC
  replace cR := Lib.hid cR
  replace cN := Lib.hid cN
  replace hl := Lib.hid hl
  clear hr hS hrb
  go_enter Tryz.func10, Tryz.ntmps10
  go_wp2_with fail
  refine (cF.out _).mono ?_
  rintro e W1 ⟨rfl, g1⟩
  go_wp2_with fail
  refine (cR.out _ g1).mono ?_
  rintro e W2 ⟨rfl, g2⟩
  have g12 := Lib.hid (gr_trans g1 g2)
  clear g1 g2
  have ta1 := fun W => ta_pick1 (.agg #[.func (.func 70) #[] #[]]) W
  have ta2 := fun W => ta_pick2 (.agg #[.func (.func 70) #[] #[]]) W
  go_wp2_with fail
  obtain ⟨W3, hW3⟩ : ∃ W3, W3 = (W2.alloc (Obj.cells #[.nilFunc] 54)).alloc (Obj.cells #[.func (.func 70) #[] #[]] 61) := ⟨_, rfl⟩
  have hc : W3.cell? ⟨(W2.alloc (Obj.cells #[.nilFunc] 54)).heap.size, 0, none⟩ = some (.func (.func 70) #[] #[]) := by rw [hW3, World.cell?_alloc_new]; rfl
  rw [show (W2.alloc (Obj.cells #[.nilFunc] 54)).heap.size = W2.heap.size + 1 by simp] at hc
  have g3 : Gr w W3 := by rw [hW3]; exact gr_trans g12.out (gr_trans (gr_alloc _ _ _) (gr_alloc _ _ _))
  rw [← hW3]
  obtain ⟨BB, hBB⟩ : ∃ BB, BB = W2.heap.size + 1 := ⟨_, rfl⟩
  rw [← hBB] at hc ⊢
  clear hW3 hBB
  go_region_held3 (fun w' => Gr W3 w' ∧ w'.cell? ⟨BB, 0, none⟩ = some (.func (.func 70) #[] #[])) (first | assumption | exact sg_drew hc | exact sg_go (sg_drew hc) hg4) (first | (go_at_call 21; refine (cN.out _ (gr_trans g3 (gr_drew _ _))).mono ?_; rintro e w' ⟨A4, c4, rfl, hrow, hg4⟩) | (go_at_call 70; refine (cC.out _ _ _ hrow).mono ?_; rintro e w' ⟨rfl, rfl⟩))
  have hG := Lib.hid (gr_trans g3 (gr_trans (gr_drew _ _) hg4))
  clear hrow hg4 hc g3
  go_wp2
  go_ret3
  exact ⟨rfl, hG.out⟩
set_option maxHeartbeats 4000000 in
set_option maxRecDepth 100000 in
theorem do_f_max (s : List UInt8) (r : Int) (A : Option Addr) (n c : Nat) (zs : List (Int × Int)) (w : World) (h0 : 0 < n) (h1000 : n ≤ 1000) (hrb : rightB zs = true) (hr : PtRow w A n zs)
    (cF : ∀ W, Calls Tryz.prog 20 #[.string (txt s)] W fun e w' => e = .returned (.iface 61 (.agg #[.func (.func 71) #[] #[]])) ∧ Gr W w')
    (cC : ∀ A' c' W, Row W A' n 1 ((nums zs).map (.int .i64)) → Calls Tryz.prog 71 #[.slice A' n c'] W fun e w' => e = .returned (.int .i64 r) ∧ W = w') :
    Calls Tryz.prog 10 #[.string (txt s), .slice A n c] w fun e w' => e = ret3 r true 0 ∧ Gr w w' := by
  have hl := pt_len hr
  have cR := fun W (g : Gr w W) => winRight_any A n c zs W (by omega) (pt_gr hr g)
  have cN := fun W (g : Gr w W) => numbers_any A n c zs W h1000 (pt_gr hr g)
  rw [hrb] at cR
  have hz' : ((n : Int) == 0) = false := eqF (by omega)
  obtain ⟨S, hS⟩ : ∃ S, S = txt s := ⟨_, rfl⟩
  rw [← hS] at cF ⊢
  replace cF := Lib.hid cF
  replace cC := Lib.hid cC
  replace cR := Lib.hid cR
  replace cN := Lib.hid cN
  replace hl := Lib.hid hl
  clear hr hS hrb
  go_enter Tryz.func10, Tryz.ntmps10
  go_wp2_with fail
  refine (cF.out _).mono ?_
  rintro e W1 ⟨rfl, g1⟩
  go_wp2_with fail
  refine (cR.out _ g1).mono ?_
  rintro e W2 ⟨rfl, g2⟩
  have g12 := Lib.hid (gr_trans g1 g2)
  clear g1 g2
  have ta1 := fun W => ta_pick1 (.agg #[.func (.func 71) #[] #[]]) W
  have ta2 := fun W => ta_pick2 (.agg #[.func (.func 71) #[] #[]]) W
  go_wp2_with fail
  obtain ⟨W3, hW3⟩ : ∃ W3, W3 = (W2.alloc (Obj.cells #[.nilFunc] 54)).alloc (Obj.cells #[.func (.func 71) #[] #[]] 61) := ⟨_, rfl⟩
  have hc : W3.cell? ⟨(W2.alloc (Obj.cells #[.nilFunc] 54)).heap.size, 0, none⟩ = some (.func (.func 71) #[] #[]) := by rw [hW3, World.cell?_alloc_new]; rfl
  rw [show (W2.alloc (Obj.cells #[.nilFunc] 54)).heap.size = W2.heap.size + 1 by simp] at hc
  have g3 : Gr w W3 := by rw [hW3]; exact gr_trans g12.out (gr_trans (gr_alloc _ _ _) (gr_alloc _ _ _))
  rw [← hW3]
  obtain ⟨BB, hBB⟩ : ∃ BB, BB = W2.heap.size + 1 := ⟨_, rfl⟩
  rw [← hBB] at hc ⊢
  clear hW3 hBB
  go_region_held3 (fun w' => Gr W3 w' ∧ w'.cell? ⟨BB, 0, none⟩ = some (.func (.func 71) #[] #[])) (first | assumption | exact sg_drew hc | exact sg_go (sg_drew hc) hg4) (first | (go_at_call 21; refine (cN.out _ (gr_trans g3 (gr_drew _ _))).mono ?_; rintro e w' ⟨A4, c4, rfl, hrow, hg4⟩) | (go_at_call 71; refine (cC.out _ _ _ hrow).mono ?_; rintro e w' ⟨rfl, rfl⟩))
  have hG := Lib.hid (gr_trans g3 (gr_trans (gr_drew _ _) hg4))
  clear hrow hg4 hc g3
  go_wp2
  go_ret3
  exact ⟨rfl, hG.out⟩
set_option maxHeartbeats 4000000 in
set_option maxRecDepth 100000 in
theorem do_f_count (s : List UInt8) (r : Int) (A : Option Addr) (n c : Nat) (zs : List (Int × Int)) (w : World) (h0 : 0 < n) (h1000 : n ≤ 1000) (hrb : rightB zs = true) (hr : PtRow w A n zs)
    (cF : ∀ W, Calls Tryz.prog 20 #[.string (txt s)] W fun e w' => e = .returned (.iface 61 (.agg #[.func (.func 72) #[] #[]])) ∧ Gr W w')
    (cC : ∀ A' c' W, Row W A' n 1 ((nums zs).map (.int .i64)) → Calls Tryz.prog 72 #[.slice A' n c'] W fun e w' => e = .returned (.int .i64 r) ∧ W = w') :
    Calls Tryz.prog 10 #[.string (txt s), .slice A n c] w fun e w' => e = ret3 r true 0 ∧ Gr w w' := by
  have hl := pt_len hr
  have cR := fun W (g : Gr w W) => winRight_any A n c zs W (by omega) (pt_gr hr g)
  have cN := fun W (g : Gr w W) => numbers_any A n c zs W h1000 (pt_gr hr g)
  rw [hrb] at cR
  have hz' : ((n : Int) == 0) = false := eqF (by omega)
  obtain ⟨S, hS⟩ : ∃ S, S = txt s := ⟨_, rfl⟩
  rw [← hS] at cF ⊢
  replace cF := Lib.hid cF
  replace cC := Lib.hid cC
  replace cR := Lib.hid cR
  replace cN := Lib.hid cN
  replace hl := Lib.hid hl
  clear hr hS hrb
  go_enter Tryz.func10, Tryz.ntmps10
  go_wp2_with fail
  refine (cF.out _).mono ?_
  rintro e W1 ⟨rfl, g1⟩
  go_wp2_with fail
  refine (cR.out _ g1).mono ?_
  rintro e W2 ⟨rfl, g2⟩
  have g12 := Lib.hid (gr_trans g1 g2)
  clear g1 g2
  have ta1 := fun W => ta_pick1 (.agg #[.func (.func 72) #[] #[]]) W
  have ta2 := fun W => ta_pick2 (.agg #[.func (.func 72) #[] #[]]) W
  go_wp2_with fail
  obtain ⟨W3, hW3⟩ : ∃ W3, W3 = (W2.alloc (Obj.cells #[.nilFunc] 54)).alloc (Obj.cells #[.func (.func 72) #[] #[]] 61) := ⟨_, rfl⟩
  have hc : W3.cell? ⟨(W2.alloc (Obj.cells #[.nilFunc] 54)).heap.size, 0, none⟩ = some (.func (.func 72) #[] #[]) := by rw [hW3, World.cell?_alloc_new]; rfl
  rw [show (W2.alloc (Obj.cells #[.nilFunc] 54)).heap.size = W2.heap.size + 1 by simp] at hc
  have g3 : Gr w W3 := by rw [hW3]; exact gr_trans g12.out (gr_trans (gr_alloc _ _ _) (gr_alloc _ _ _))
  rw [← hW3]
  obtain ⟨BB, hBB⟩ : ∃ BB, BB = W2.heap.size + 1 := ⟨_, rfl⟩
  rw [← hBB] at hc ⊢
  clear hW3 hBB
  go_region_held3 (fun w' => Gr W3 w' ∧ w'.cell? ⟨BB, 0, none⟩ = some (.func (.func 72) #[] #[])) (first | assumption | exact sg_drew hc | exact sg_go (sg_drew hc) hg4) (first | (go_at_call 21; refine (cN.out _ (gr_trans g3 (gr_drew _ _))).mono ?_; rintro e w' ⟨A4, c4, rfl, hrow, hg4⟩) | (go_at_call 72; refine (cC.out _ _ _ hrow).mono ?_; rintro e w' ⟨rfl, rfl⟩))
  have hG := Lib.hid (gr_trans g3 (gr_trans (gr_drew _ _) hg4))
  clear hrow hg4 hc g3
  go_wp2
  go_ret3
  exact ⟨rfl, hG.out⟩
set_option maxHeartbeats 4000000 in
set_option maxRecDepth 100000 in
theorem do_f_last (s : List UInt8) (r : Int) (A : Option Addr) (n c : Nat) (zs : List (Int × Int)) (w : World) (h0 : 0 < n) (h1000 : n ≤ 1000) (hrb : rightB zs = true) (hr : PtRow w A n zs)
    (cF : ∀ W, Calls Tryz.prog 20 #[.string (txt s)] W fun e w' => e = .returned (.iface 61 (.agg #[.func (.func 73) #[] #[]])) ∧ Gr W w')
    (cC : ∀ A' c' W, Row W A' n 1 ((nums zs).map (.int .i64)) → Calls Tryz.prog 73 #[.slice A' n c'] W fun e w' => e = .returned (.int .i64 r) ∧ W = w') :
    Calls Tryz.prog 10 #[.string (txt s), .slice A n c] w fun e w' => e = ret3 r true 0 ∧ Gr w w' := by
  have hl := pt_len hr
  have cR := fun W (g : Gr w W) => winRight_any A n c zs W (by omega) (pt_gr hr g)
  have cN := fun W (g : Gr w W) => numbers_any A n c zs W h1000 (pt_gr hr g)
  rw [hrb] at cR
  have hz' : ((n : Int) == 0) = false := eqF (by omega)
  obtain ⟨S, hS⟩ : ∃ S, S = txt s := ⟨_, rfl⟩
  rw [← hS] at cF ⊢
  replace cF := Lib.hid cF
  replace cC := Lib.hid cC
  replace cR := Lib.hid cR
  replace cN := Lib.hid cN
  replace hl := Lib.hid hl
  clear hr hS hrb
  go_enter Tryz.func10, Tryz.ntmps10
  go_wp2_with fail
  refine (cF.out _).mono ?_
  rintro e W1 ⟨rfl, g1⟩
  go_wp2_with fail
  refine (cR.out _ g1).mono ?_
  rintro e W2 ⟨rfl, g2⟩
  have g12 := Lib.hid (gr_trans g1 g2)
  clear g1 g2
  have ta1 := fun W => ta_pick1 (.agg #[.func (.func 73) #[] #[]]) W
  have ta2 := fun W => ta_pick2 (.agg #[.func (.func 73) #[] #[]]) W
  go_wp2_with fail
  obtain ⟨W3, hW3⟩ : ∃ W3, W3 = (W2.alloc (Obj.cells #[.nilFunc] 54)).alloc (Obj.cells #[.func (.func 73) #[] #[]] 61) := ⟨_, rfl⟩
  have hc : W3.cell? ⟨(W2.alloc (Obj.cells #[.nilFunc] 54)).heap.size, 0, none⟩ = some (.func (.func 73) #[] #[]) := by rw [hW3, World.cell?_alloc_new]; rfl
  rw [show (W2.alloc (Obj.cells #[.nilFunc] 54)).heap.size = W2.heap.size + 1 by simp] at hc
  have g3 : Gr w W3 := by rw [hW3]; exact gr_trans g12.out (gr_trans (gr_alloc _ _ _) (gr_alloc _ _ _))
  rw [← hW3]
  obtain ⟨BB, hBB⟩ : ∃ BB, BB = W2.heap.size + 1 := ⟨_, rfl⟩
  rw [← hBB] at hc ⊢
  clear hW3 hBB
  go_region_held3 (fun w' => Gr W3 w' ∧ w'.cell? ⟨BB, 0, none⟩ = some (.func (.func 73) #[] #[])) (first | assumption | exact sg_drew hc | exact sg_go (sg_drew hc) hg4) (first | (go_at_call 21; refine (cN.out _ (gr_trans g3 (gr_drew _ _))).mono ?_; rintro e w' ⟨A4, c4, rfl, hrow, hg4⟩) | (go_at_call 73; refine (cC.out _ _ _ hrow).mono ?_; rintro e w' ⟨rfl, rfl⟩))
  have hG := Lib.hid (gr_trans g3 (gr_trans (gr_drew _ _) hg4))
  clear hrow hg4 hc g3
  go_wp2
  go_ret3
  exact ⟨rfl, hG.out⟩
end Go.Proofs.YtkpmonefhpnljaaGreat
