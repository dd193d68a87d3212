/-
  What window.Do answers of the functions that fold or pick, and of 'rate'. No condition but that the points may be.
-/
import Derived.Test.YtklflekldhhmcabWinNums
import Derived.Test.YtklflekldhhmcabWinInc
namespace Go.Proofs.Ytklflekldhhmcab
open Go.RowKit

theorem fn_sum (w : World) : Calls Try.prog 9 #[.string (txt [115, 117, 109, 95, 111, 118, 101, 114])] w fun e w' => e = .returned (.iface 39 (.agg #[.func (.func 15) #[] #[]])) ∧ Gr w w' := by
  go_enter Try.func9, Try.ntmps9
  go_wp2
  go_ret
  exact ⟨rfl, gr_refl _ _⟩
theorem fn_avg (w : World) : Calls Try.prog 9 #[.string (txt [97, 118, 103, 95, 111, 118, 101, 114])] w fun e w' => e = .returned (.iface 39 (.agg #[.func (.func 16) #[] #[]])) ∧ Gr w w' := by
  go_enter Try.func9, Try.ntmps9
  go_wp2
  go_ret
  exact ⟨rfl, gr_refl _ _⟩
theorem fn_min (w : World) : Calls Try.prog 9 #[.string (txt [109, 105, 110, 95, 111, 118, 101, 114])] w fun e w' => e = .returned (.iface 46 (.agg #[.func (.func 17) #[] #[]])) ∧ Gr w w' := by
  go_enter Try.func9, Try.ntmps9
  go_wp2
  go_ret
  exact ⟨rfl, gr_refl _ _⟩
theorem fn_max (w : World) : Calls Try.prog 9 #[.string (txt [109, 97, 120, 95, 111, 118, 101, 114])] w fun e w' => e = .returned (.iface 46 (.agg #[.func (.func 18) #[] #[]])) ∧ Gr w w' := by
  go_enter Try.func9, Try.ntmps9
  go_wp2
  go_ret
  exact ⟨rfl, gr_refl _ _⟩
theorem fn_count (w : World) : Calls Try.prog 9 #[.string (txt [99, 111, 117, 110, 116, 95, 111, 118, 101, 114])] w fun e w' => e = .returned (.iface 46 (.agg #[.func (.func 19) #[] #[]])) ∧ Gr w w' := by
  go_enter Try.func9, Try.ntmps9
  go_wp2
  go_ret
  exact ⟨rfl, gr_refl _ _⟩
theorem fn_last (w : World) : Calls Try.prog 9 #[.string (txt [108, 97, 115, 116, 95, 111, 118, 101, 114])] w fun e w' => e = .returned (.iface 46 (.agg #[.func (.func 20) #[] #[]])) ∧ Gr w w' := by
  go_enter Try.func9, Try.ntmps9
  go_wp2
  go_ret
  exact ⟨rfl, gr_refl _ _⟩
theorem fn_rate (w : World) : Calls Try.prog 9 #[.string (txt [114, 97, 116, 101])] w fun e w' => e = .returned (.iface 49 (.agg #[.bool true])) ∧ Gr w w' := by
  go_enter Try.func9, Try.ntmps9
  go_wp2
  go_ret
  exact ⟨rfl, gr_refl _ _⟩
theorem ta_fold1 (v : Value) (W : World) : (Instr.typeAssert (.iface 39 v) 20 39 true).run Try.prog W = .ok (.tuple #[v, .bool true]) W := by
  simp [Instr.typeAssert, Sem.run_bind, run_underlying Try.underlying39, Try.zeroValue39, Result.andThen]
theorem ta_pick1 (v : Value) (W : World) : (Instr.typeAssert (.iface 46 v) 20 39 true).run Try.prog W = .ok (.tuple #[.agg #[.nilFunc], .bool false]) W := by
  simp [Instr.typeAssert, Sem.run_bind, run_underlying Try.underlying39, Try.zeroValue39, Result.andThen]
theorem ta_pick2 (v : Value) (W : World) : (Instr.typeAssert (.iface 46 v) 20 46 true).run Try.prog W = .ok (.tuple #[v, .bool true]) W := by
  simp [Instr.typeAssert, Sem.run_bind, run_underlying Try.underlying46, Try.zeroValue46, Result.andThen]

theorem sg_drew {wo : World} {a : Addr} {v : Value} (h : wo.cell? a = some v) : Gr wo { wo with drawn := wo.drawn + 1 } ∧ World.cell? { wo with drawn := wo.drawn + 1 } a = some v := ⟨gr_drew _ _, gr_cell (gr_drew _ _) h⟩
theorem sg_go {wo w1 w2 : World} {a : Addr} {v : Value} (h : Gr wo w1 ∧ w1.cell? a = some v) (g : Gr w1 w2) : Gr wo w2 ∧ w2.cell? a = some v := ⟨gr_trans h.1 g, gr_cell g h.2⟩
set_option maxHeartbeats 4000000 in
set_option maxRecDepth 100000 in
theorem do_f_sum (s : List UInt8) (r : Int × Int) (A : Option Addr) (n c : Nat) (zs : List (Int × Int)) (w : World) (h0 : 0 < n) (h1000 : n ≤ 1000) (hrb : rightB zs = true) (hr : PtRow w A n zs)
    (cF : ∀ W, Calls Try.prog 9 #[.string (txt s)] W fun e w' => e = .returned (.iface 39 (.agg #[.func (.func 15) #[] #[]])) ∧ Gr W w')
    (cC : ∀ A' c' W, Row W A' n 1 ((nums zs).map (.int .i64)) → Calls Try.prog 15 #[.slice A' n c'] W fun e w' => e = .returned (.tuple #[.int .i64 r.1, .int .i64 r.2]) ∧ W = w') :
    Calls Try.prog 7 #[.string (txt s), .slice A n c] w fun e w' => e = ret3 r.1 (r.2 == 0) r.2 ∧ Gr w w' := by
  have hl := pt_len hr
  have cR := fun W (g : Gr w W) => winRight_any A n c zs W (by omega) (pt_gr hr g)
  have cN := fun W (g : Gr w W) => numbers_any A n c zs W h1000 (pt_gr hr g)
  rw [hrb] at cR
  have hz' : ((n : Int) == 0) = false := eqF (by omega)
  obtain ⟨S, hS⟩ : ∃ S, S = txt s := ⟨_, rfl⟩
  rw [← hS] at cF ⊢
  obtain ⟨r1, r2⟩ := r
  replace cF := Lib.hid cF
  replace cC := Lib.hid cC
  replace cR := Lib.hid cR
  replace cN := Lib.hid cN
  replace hl := Lib.hid hl
  clear hr hS hrb
  go_enter Try.func7, Try.ntmps7
  go_wp2_with fail
  refine (cF.out _).mono ?_
  rintro e W1 ⟨rfl, g1⟩
  go_wp2_with fail
  refine (cR.out _ g1).mono ?_
  rintro e W2 ⟨rfl, g2⟩
  have g12 := Lib.hid (gr_trans g1 g2)
  clear g1 g2
  have ta1 := fun W => ta_fold1 (.agg #[.func (.func 15) #[] #[]]) W
  go_wp2_with fail
  obtain ⟨W3, hW3⟩ : ∃ W3, W3 = W2.alloc (Obj.cells #[.func (.func 15) #[] #[]] 39) := ⟨_, rfl⟩
  have hc : W3.cell? ⟨W2.heap.size, 0, none⟩ = some (.func (.func 15) #[] #[]) := by rw [hW3, World.cell?_alloc_new]; rfl
  have g3 : Gr w W3 := by rw [hW3]; exact gr_trans g12.out (gr_alloc _ _ _)
  rw [← hW3]
  obtain ⟨BB, hBB⟩ : ∃ BB, BB = W2.heap.size := ⟨_, rfl⟩
  rw [← hBB] at hc ⊢
  clear hW3 hBB
  go_region_held3 (fun w' => Gr W3 w' ∧ w'.cell? ⟨BB, 0, none⟩ = some (.func (.func 15) #[] #[])) (first | assumption | exact sg_drew hc | exact sg_go (sg_drew hc) hg4) (first | (go_at_call 13; refine (cN.out _ (gr_trans g3 (gr_drew _ _))).mono ?_; rintro e w' ⟨A4, c4, rfl, hrow, hg4⟩) | (go_at_call 15; refine (cC.out _ _ _ hrow).mono ?_; rintro e w' ⟨rfl, rfl⟩))
  have hG := Lib.hid (gr_trans g3 (gr_trans (gr_drew _ _) hg4))
  clear hrow hg4 hc g3
  go_wp2
  go_ret3
  exact ⟨rfl, hG.out⟩
set_option maxHeartbeats 4000000 in
set_option maxRecDepth 100000 in
theorem do_f_avg (s : List UInt8) (r : Int × Int) (A : Option Addr) (n c : Nat) (zs : List (Int × Int)) (w : World) (h0 : 0 < n) (h1000 : n ≤ 1000) (hrb : rightB zs = true) (hr : PtRow w A n zs)
    (cF : ∀ W, Calls Try.prog 9 #[.string (txt s)] W fun e w' => e = .returned (.iface 39 (.agg #[.func (.func 16) #[] #[]])) ∧ Gr W w')
    (cC : ∀ A' c' W, Row W A' n 1 ((nums zs).map (.int .i64)) → Calls Try.prog 16 #[.slice A' n c'] W fun e w' => e = .returned (.tuple #[.int .i64 r.1, .int .i64 r.2]) ∧ W = w') :
    Calls Try.prog 7 #[.string (txt s), .slice A n c] w fun e w' => e = ret3 r.1 (r.2 == 0) r.2 ∧ Gr w w' := by
  have hl := pt_len hr
  have cR := fun W (g : Gr w W) => winRight_any A n c zs W (by omega) (pt_gr hr g)
  have cN := fun W (g : Gr w W) => numbers_any A n c zs W h1000 (pt_gr hr g)
  rw [hrb] at cR
  have hz' : ((n : Int) == 0) = false := eqF (by omega)
  obtain ⟨S, hS⟩ : ∃ S, S = txt s := ⟨_, rfl⟩
  rw [← hS] at cF ⊢
  obtain ⟨r1, r2⟩ := r
  replace cF := Lib.hid cF
  replace cC := Lib.hid cC
  replace cR := Lib.hid cR
  replace cN := Lib.hid cN
  replace hl := Lib.hid hl
  clear hr hS hrb
  go_enter Try.func7, Try.ntmps7
  go_wp2_with fail
  refine (cF.out _).mono ?_
  rintro e W1 ⟨rfl, g1⟩
  go_wp2_with fail
  refine (cR.out _ g1).mono ?_
  rintro e W2 ⟨rfl, g2⟩
  have g12 := Lib.hid (gr_trans g1 g2)
  clear g1 g2
  have ta1 := fun W => ta_fold1 (.agg #[.func (.func 16) #[] #[]]) W
  go_wp2_with fail
  obtain ⟨W3, hW3⟩ : ∃ W3, W3 = W2.alloc (Obj.cells #[.func (.func 16) #[] #[]] 39) := ⟨_, rfl⟩
  have hc : W3.cell? ⟨W2.heap.size, 0, none⟩ = some (.func (.func 16) #[] #[]) := by rw [hW3, World.cell?_alloc_new]; rfl
  have g3 : Gr w W3 := by rw [hW3]; exact gr_trans g12.out (gr_alloc _ _ _)
  rw [← hW3]
  obtain ⟨BB, hBB⟩ : ∃ BB, BB = W2.heap.size := ⟨_, rfl⟩
  rw [← hBB] at hc ⊢
  clear hW3 hBB
  go_region_held3 (fun w' => Gr W3 w' ∧ w'.cell? ⟨BB, 0, none⟩ = some (.func (.func 16) #[] #[])) (first | assumption | exact sg_drew hc | exact sg_go (sg_drew hc) hg4) (first | (go_at_call 13; refine (cN.out _ (gr_trans g3 (gr_drew _ _))).mono ?_; rintro e w' ⟨A4, c4, rfl, hrow, hg4⟩) | (go_at_call 16; refine (cC.out _ _ _ hrow).mono ?_; rintro e w' ⟨rfl, rfl⟩))
  have hG := Lib.hid (gr_trans g3 (gr_trans (gr_drew _ _) hg4))
  clear hrow hg4 hc g3
  go_wp2
  go_ret3
  exact ⟨rfl, hG.out⟩
set_option maxHeartbeats 4000000 in
set_option maxRecDepth 100000 in
theorem do_f_min (s : List UInt8) (r : Int) (A : Option Addr) (n c : Nat) (zs : List (Int × Int)) (w : World) (h0 : 0 < n) (h1000 : n ≤ 1000) (hrb : rightB zs = true) (hr : PtRow w A n zs)
    (cF : ∀ W, Calls Try.prog 9 #[.string (txt s)] W fun e w' => e = .returned (.iface 46 (.agg #[.func (.func 17) #[] #[]])) ∧ Gr W w')
    (cC : ∀ A' c' W, Row W A' n 1 ((nums zs).map (.int .i64)) → Calls Try.prog 17 #[.slice A' n c'] W fun e w' => e = .returned (.int .i64 r) ∧ W = w') :
    Calls Try.prog 7 #[.string (txt s), .slice A n c] w fun e w' => e = ret3 r true 0 ∧ Gr w w' := by
  have hl := pt_len hr
  have cR := fun W (g : Gr w W) => winRight_any A n c zs W (by omega) (pt_gr hr g)
  have cN := fun W (g : Gr w W) => numbers_any A n c zs W h1000 (pt_gr hr g)
  rw [hrb] at cR
  have hz' : ((n : Int) == 0) = false := eqF (by omega)
  obtain ⟨S, hS⟩ : ∃ S, S = txt s := ⟨_, rfl⟩
  rw [← hS] at cF ⊢
  replace cF := Lib.hid cF
  replace cC := Lib.hid cC
  replace cR := Lib.hid cR
  replace cN := Lib.hid cN
  replace hl := Lib.hid hl
  clear hr hS hrb
  go_enter Try.func7, Try.ntmps7
  go_wp2_with fail
  refine (cF.out _).mono ?_
  rintro e W1 ⟨rfl, g1⟩
  go_wp2_with fail
  refine (cR.out _ g1).mono ?_
  rintro e W2 ⟨rfl, g2⟩
  have g12 := Lib.hid (gr_trans g1 g2)
  clear g1 g2
  have ta1 := fun W => ta_pick1 (.agg #[.func (.func 17) #[] #[]]) W
  have ta2 := fun W => ta_pick2 (.agg #[.func (.func 17) #[] #[]]) W
  go_wp2_with fail
  obtain ⟨W3, hW3⟩ : ∃ W3, W3 = (W2.alloc (Obj.cells #[.nilFunc] 39)).alloc (Obj.cells #[.func (.func 17) #[] #[]] 46) := ⟨_, rfl⟩
  have hc : W3.cell? ⟨(W2.alloc (Obj.cells #[.nilFunc] 39)).heap.size, 0, none⟩ = some (.func (.func 17) #[] #[]) := by rw [hW3, World.cell?_alloc_new]; rfl
  rw [show (W2.alloc (Obj.cells #[.nilFunc] 39)).heap.size = W2.heap.size + 1 by simp] at hc
  have g3 : Gr w W3 := by rw [hW3]; exact gr_trans g12.out (gr_trans (gr_alloc _ _ _) (gr_alloc _ _ _))
  rw [← hW3]
  obtain ⟨BB, hBB⟩ : ∃ BB, BB = W2.heap.size + 1 := ⟨_, rfl⟩
  rw [← hBB] at hc ⊢
  clear hW3 hBB
  go_region_held3 (fun w' => Gr W3 w' ∧ w'.cell? ⟨BB, 0, none⟩ = some (.func (.func 17) #[] #[])) (first | assumption | exact sg_drew hc | exact sg_go (sg_drew hc) hg4) (first | (go_at_call 13; refine (cN.out _ (gr_trans g3 (gr_drew _ _))).mono ?_; rintro e w' ⟨A4, c4, rfl, hrow, hg4⟩) | (go_at_call 17; refine (cC.out _ _ _ hrow).mono ?_; rintro e w' ⟨rfl, rfl⟩))
  have hG := Lib.hid (gr_trans g3 (gr_trans (gr_drew _ _) hg4))
  clear hrow hg4 hc g3
  go_wp2
  go_ret3
  exact ⟨rfl, hG.out⟩
set_option maxHeartbeats 4000000 in
set_option maxRecDepth 100000 in
theorem do_f_max (s : List UInt8) (r : Int) (A : Option Addr) (n c : Nat) (zs : List (Int × Int)) (w : World) (h0 : 0 < n) (h1000 : n ≤ 1000) (hrb : rightB zs = true) (hr : PtRow w A n zs)
    (cF : ∀ W, Calls Try.prog 9 #[.string (txt s)] W fun e w' => e = .returned (.iface 46 (.agg #[.func (.func 18) #[] #[]])) ∧ Gr W w')
    (cC : ∀ A' c' W, Row W A' n 1 ((nums zs).map (.int .i64)) → Calls Try.prog 18 #[.slice A' n c'] W fun e w' => e = .returned (.int .i64 r) ∧ W = w') :
    Calls Try.prog 7 #[.string (txt s), .slice A n c] w fun e w' => e = ret3 r true 0 ∧ Gr w w' := by
  have hl := pt_len hr
  have cR := fun W (g : Gr w W) => winRight_any A n c zs W (by omega) (pt_gr hr g)
  have cN := fun W (g : Gr w W) => numbers_any A n c zs W h1000 (pt_gr hr g)
  rw [hrb] at cR
  have hz' : ((n : Int) == 0) = false := eqF (by omega)
  obtain ⟨S, hS⟩ : ∃ S, S = txt s := ⟨_, rfl⟩
  rw [← hS] at cF ⊢
  replace cF := Lib.hid cF
  replace cC := Lib.hid cC
  replace cR := Lib.hid cR
  replace cN := Lib.hid cN
  replace hl := Lib.hid hl
  clear hr hS hrb
  go_enter Try.func7, Try.ntmps7
  go_wp2_with fail
  refine (cF.out _).mono ?_
  rintro e W1 ⟨rfl, g1⟩
  go_wp2_with fail
  refine (cR.out _ g1).mono ?_
  rintro e W2 ⟨rfl, g2⟩
  have g12 := Lib.hid (gr_trans g1 g2)
  clear g1 g2
  have ta1 := fun W => ta_pick1 (.agg #[.func (.func 18) #[] #[]]) W
  have ta2 := fun W => ta_pick2 (.agg #[.func (.func 18) #[] #[]]) W
  go_wp2_with fail
  obtain ⟨W3, hW3⟩ : ∃ W3, W3 = (W2.alloc (Obj.cells #[.nilFunc] 39)).alloc (Obj.cells #[.func (.func 18) #[] #[]] 46) := ⟨_, rfl⟩
  have hc : W3.cell? ⟨(W2.alloc (Obj.cells #[.nilFunc] 39)).heap.size, 0, none⟩ = some (.func (.func 18) #[] #[]) := by rw [hW3, World.cell?_alloc_new]; rfl
  rw [show (W2.alloc (Obj.cells #[.nilFunc] 39)).heap.size = W2.heap.size + 1 by simp] at hc
  have g3 : Gr w W3 := by rw [hW3]; exact gr_trans g12.out (gr_trans (gr_alloc _ _ _) (gr_alloc _ _ _))
  rw [← hW3]
  obtain ⟨BB, hBB⟩ : ∃ BB, BB = W2.heap.size + 1 := ⟨_, rfl⟩
  rw [← hBB] at hc ⊢
  clear hW3 hBB
  go_region_held3 (fun w' => Gr W3 w' ∧ w'.cell? ⟨BB, 0, none⟩ = some (.func (.func 18) #[] #[])) (first | assumption | exact sg_drew hc | exact sg_go (sg_drew hc) hg4) (first | (go_at_call 13; refine (cN.out _ (gr_trans g3 (gr_drew _ _))).mono ?_; rintro e w' ⟨A4, c4, rfl, hrow, hg4⟩) | (go_at_call 18; refine (cC.out _ _ _ hrow).mono ?_; rintro e w' ⟨rfl, rfl⟩))
  have hG := Lib.hid (gr_trans g3 (gr_trans (gr_drew _ _) hg4))
  clear hrow hg4 hc g3
  go_wp2
  go_ret3
  exact ⟨rfl, hG.out⟩
set_option maxHeartbeats 4000000 in
set_option maxRecDepth 100000 in
theorem do_f_count (s : List UInt8) (r : Int) (A : Option Addr) (n c : Nat) (zs : List (Int × Int)) (w : World) (h0 : 0 < n) (h1000 : n ≤ 1000) (hrb : rightB zs = true) (hr : PtRow w A n zs)
    (cF : ∀ W, Calls Try.prog 9 #[.string (txt s)] W fun e w' => e = .returned (.iface 46 (.agg #[.func (.func 19) #[] #[]])) ∧ Gr W w')
    (cC : ∀ A' c' W, Row W A' n 1 ((nums zs).map (.int .i64)) → Calls Try.prog 19 #[.slice A' n c'] W fun e w' => e = .returned (.int .i64 r) ∧ W = w') :
    Calls Try.prog 7 #[.string (txt s), .slice A n c] w fun e w' => e = ret3 r true 0 ∧ Gr w w' := by
  have hl := pt_len hr
  have cR := fun W (g : Gr w W) => winRight_any A n c zs W (by omega) (pt_gr hr g)
  have cN := fun W (g : Gr w W) => numbers_any A n c zs W h1000 (pt_gr hr g)
  rw [hrb] at cR
  have hz' : ((n : Int) == 0) = false := eqF (by omega)
  obtain ⟨S, hS⟩ : ∃ S, S = txt s := ⟨_, rfl⟩
  rw [← hS] at cF ⊢
  replace cF := Lib.hid cF
  replace cC := Lib.hid cC
  replace cR := Lib.hid cR
  replace cN := Lib.hid cN
  replace hl := Lib.hid hl
  clear hr hS hrb
  go_enter Try.func7, Try.ntmps7
  go_wp2_with fail
  refine (cF.out _).mono ?_
  rintro e W1 ⟨rfl, g1⟩
  go_wp2_with fail
  refine (cR.out _ g1).mono ?_
  rintro e W2 ⟨rfl, g2⟩
  have g12 := Lib.hid (gr_trans g1 g2)
  clear g1 g2
  have ta1 := fun W => ta_pick1 (.agg #[.func (.func 19) #[] #[]]) W
  have ta2 := fun W => ta_pick2 (.agg #[.func (.func 19) #[] #[]]) W
  go_wp2_with fail
  obtain ⟨W3, hW3⟩ : ∃ W3, W3 = (W2.alloc (Obj.cells #[.nilFunc] 39)).alloc (Obj.cells #[.func (.func 19) #[] #[]] 46) := ⟨_, rfl⟩
  have hc : W3.cell? ⟨(W2.alloc (Obj.cells #[.nilFunc] 39)).heap.size, 0, none⟩ = some (.func (.func 19) #[] #[]) := by rw [hW3, World.cell?_alloc_new]; rfl
  rw [show (W2.alloc (Obj.cells #[.nilFunc] 39)).heap.size = W2.heap.size + 1 by simp] at hc
  have g3 : Gr w W3 := by rw [hW3]; exact gr_trans g12.out (gr_trans (gr_alloc _ _ _) (gr_alloc _ _ _))
  rw [← hW3]
  obtain ⟨BB, hBB⟩ : ∃ BB, BB = W2.heap.size + 1 := ⟨_, rfl⟩
  rw [← hBB] at hc ⊢
  clear hW3 hBB
  go_region_held3 (fun w' => Gr W3 w' ∧ w'.cell? ⟨BB, 0, none⟩ = some (.func (.func 19) #[] #[])) (first | assumption | exact sg_drew hc | exact sg_go (sg_drew hc) hg4) (first | (go_at_call 13; refine (cN.out _ (gr_trans g3 (gr_drew _ _))).mono ?_; rintro e w' ⟨A4, c4, rfl, hrow, hg4⟩) | (go_at_call 19; refine (cC.out _ _ _ hrow).mono ?_; rintro e w' ⟨rfl, rfl⟩))
  have hG := Lib.hid (gr_trans g3 (gr_trans (gr_drew _ _) hg4))
  clear hrow hg4 hc g3
  go_wp2
  go_ret3
  exact ⟨rfl, hG.out⟩
set_option maxHeartbeats 4000000 in
set_option maxRecDepth 100000 in
theorem do_f_last (s : List UInt8) (r : Int) (A : Option Addr) (n c : Nat) (zs : List (Int × Int)) (w : World) (h0 : 0 < n) (h1000 : n ≤ 1000) (hrb : rightB zs = true) (hr : PtRow w A n zs)
    (cF : ∀ W, Calls Try.prog 9 #[.string (txt s)] W fun e w' => e = .returned (.iface 46 (.agg #[.func (.func 20) #[] #[]])) ∧ Gr W w')
    (cC : ∀ A' c' W, Row W A' n 1 ((nums zs).map (.int .i64)) → Calls Try.prog 20 #[.slice A' n c'] W fun e w' => e = .returned (.int .i64 r) ∧ W = w') :
    Calls Try.prog 7 #[.string (txt s), .slice A n c] w fun e w' => e = ret3 r true 0 ∧ Gr w w' := by
  have hl := pt_len hr
  have cR := fun W (g : Gr w W) => winRight_any A n c zs W (by omega) (pt_gr hr g)
  have cN := fun W (g : Gr w W) => numbers_any A n c zs W h1000 (pt_gr hr g)
  rw [hrb] at cR
  have hz' : ((n : Int) == 0) = false := eqF (by omega)
  obtain ⟨S, hS⟩ : ∃ S, S = txt s := ⟨_, rfl⟩
  rw [← hS] at cF ⊢
  replace cF := Lib.hid cF
  replace cC := Lib.hid cC
  replace cR := Lib.hid cR
  replace cN := Lib.hid cN
  replace hl := Lib.hid hl
  clear hr hS hrb
  go_enter Try.func7, Try.ntmps7
  go_wp2_with fail
  refine (cF.out _).mono ?_
  rintro e W1 ⟨rfl, g1⟩
  go_wp2_with fail
  refine (cR.out _ g1).mono ?_
  rintro e W2 ⟨rfl, g2⟩
  have g12 := Lib.hid (gr_trans g1 g2)
  clear g1 g2
  have ta1 := fun W => ta_pick1 (.agg #[.func (.func 20) #[] #[]]) W
  have ta2 := fun W => ta_pick2 (.agg #[.func (.func 20) #[] #[]]) W
  go_wp2_with fail
  obtain ⟨W3, hW3⟩ : ∃ W3, W3 = (W2.alloc (Obj.cells #[.nilFunc] 39)).alloc (Obj.cells #[.func (.func 20) #[] #[]] 46) := ⟨_, rfl⟩
  have hc : W3.cell? ⟨(W2.alloc (Obj.cells #[.nilFunc] 39)).heap.size, 0, none⟩ = some (.func (.func 20) #[] #[]) := by rw [hW3, World.cell?_alloc_new]; rfl
  rw [show (W2.alloc (Obj.cells #[.nilFunc] 39)).heap.size = W2.heap.size + 1 by simp] at hc
  have g3 : Gr w W3 := by rw [hW3]; exact gr_trans g12.out (gr_trans (gr_alloc _ _ _) (gr_alloc _ _ _))
  rw [← hW3]
  obtain ⟨BB, hBB⟩ : ∃ BB, BB = W2.heap.size + 1 := ⟨_, rfl⟩
  rw [← hBB] at hc ⊢
  clear hW3 hBB
  go_region_held3 (fun w' => Gr W3 w' ∧ w'.cell? ⟨BB, 0, none⟩ = some (.func (.func 20) #[] #[])) (first | assumption | exact sg_drew hc | exact sg_go (sg_drew hc) hg4) (first | (go_at_call 13; refine (cN.out _ (gr_trans g3 (gr_drew _ _))).mono ?_; rintro e w' ⟨A4, c4, rfl, hrow, hg4⟩) | (go_at_call 20; refine (cC.out _ _ _ hrow).mono ?_; rintro e w' ⟨rfl, rfl⟩))
  have hG := Lib.hid (gr_trans g3 (gr_trans (gr_drew _ _) hg4))
  clear hrow hg4 hc g3
  go_wp2
  go_ret3
  exact ⟨rfl, hG.out⟩
end Go.Proofs.Ytklflekldhhmcab
