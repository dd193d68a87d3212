/-
  The document's State: a cursor is opened. No condition but bounds.
-/
import Derived.Test.YtmldoeeangekoaaGreatDoorRdA
import Derived.Test.YtmldoeeangekoaaGreatDoorPkRefFoldsDy
import Derived.Test.YtmldoeeangekoaaGreatDoorSlipRef
namespace Go.Proofs.YtmldoeeangekoaaGreatDoor
open Go.RowKit

set_option maxHeartbeats 16000000 in
set_option maxRecDepth 100000 in
theorem ropened_any (id : Nat) (now pts rows size ticks : Int) (A : Option Addr) (n c : Nat) (seg : List UInt8) (op : List Cur) (base : Nat) (w : World) (h : w.ownsRow base 52 5 (.slice A n c) n (sR curC op)) (hb : base ≤ w.heap.size) (hn : n ≤ 90000) (hs : Dy.Sorted op) (hid : id ≤ 1000000) (hnow : 0 ≤ now ∧ now ≤ 1000000000) (ht : 0 ≤ ticks ∧ ticks ≤ 100000) :
    Calls Tryz.prog 12 #[.agg #[.int .i64 (id : Int), .int .i64 now, .slice A n c, .string (txt seg), .int .i64 pts], .int .i64 rows, .int .i64 size, .int .i64 ticks] w fun e w' => (∃ A' n' c', e = .returned (.tuple #[.agg #[.int .i64 (Dy.foldM ⟨id, now, op, seg, pts⟩ ⟨1, ⟨id, rows, size, now + ticks, runL id⟩⟩).next, .int .i64 (Dy.foldM ⟨id, now, op, seg, pts⟩ ⟨1, ⟨id, rows, size, now + ticks, runL id⟩⟩).now, .slice A' n' c', .string (txt (Dy.foldM ⟨id, now, op, seg, pts⟩ ⟨1, ⟨id, rows, size, now + ticks, runL id⟩⟩).seg), .int .i64 (Dy.foldM ⟨id, now, op, seg, pts⟩ ⟨1, ⟨id, rows, size, now + ticks, runL id⟩⟩).pts], curV ⟨id, rows, size, now + ticks, runL id⟩]) ∧ w'.ownsRow base 52 5 (.slice A' n' c') n' (sR curC (Dy.foldM ⟨id, now, op, seg, pts⟩ ⟨1, ⟨id, rows, size, now + ticks, runL id⟩⟩).op) ∧ (∀ k, (Value.slice A' n' c').ownBlock = some k → (Value.slice A n c).ownBlock = some k ∨ w.heap.size ≤ k)) ∧ Gr w w' := by
  obtain ⟨T, hT⟩ : ∃ T, T = now + ticks := ⟨_, rfl⟩
  rw [← hT]
  have hwT : IntKind.i64.wrap (now + ticks) = T := by rw [hT]; exact IntWalk.i64_in _ (by omega)
  have hwT2 : now + ticks = T := hT.symm
  have hwT3 : IntKind.i64.wrap T = T := IntWalk.i64_in _ (by omega)
  have cF := fun W h hb => Dy.rfold_any2 ⟨id, now, op, seg, pts⟩ A n c ⟨1, ⟨id, rows, size, T, runL id⟩⟩ base W h hb (by omega) hs
  simp only at cF
  obtain ⟨s2, hs2⟩ : ∃ s2, s2 = Dy.foldM ⟨id, now, op, seg, pts⟩ ⟨1, ⟨id, rows, size, T, runL id⟩⟩ := ⟨_, rfl⟩
  rw [← hs2] at cF ⊢
  have cD := fun W => digits_any id W hid
  have hrl : runL id = [114, 117, 110, 45] ++ Lib.decDigits id := rfl
  have htx : (⟨#[114, 117, 110, 45]⟩ : ByteArray) ++ txt (Lib.decDigits id) = txt (runL id) := rfl
  have hdl : (Lib.decDigits id).length ≤ 7 := dig_len (v := id) (n := 0) (s := Lib.decDigits id) (.inr ⟨dec_ne id, .inl ⟨rfl, rfl⟩⟩) hid
  have hsl : (9223372036854775807 < 4 + (Lib.decDigits id).length) = False := eq_false (by omega)
  have hsl2 : (9223372036854775807 < (Lib.decDigits id).length + 4) = False := eq_false (by omega)
  obtain ⟨Wa, hWa⟩ : ∃ Wa, Wa = w.alloc (.cells #[.int .i64 (id : Int), .int .i64 now, .slice A n c, .string (txt seg), .int .i64 pts] 32) := ⟨_, rfl⟩
  obtain ⟨Wb, hWb⟩ : ∃ Wb, Wb = Wa.alloc (.cells #[.int .i64 0, .int .i64 0, .slice none 0 0, .string ⟨#[]⟩, .int .i64 0] 32) := ⟨_, rfl⟩
  obtain ⟨W0, hW0⟩ : ∃ W0, W0 = Wb.alloc (.cells #[.int .i64 0, .int .i64 0, .int .i64 0, .int .i64 0, .string ⟨#[]⟩] 52) := ⟨_, rfl⟩
  have sa : Wa.heap.size = w.heap.size + 1 := by rw [hWa]; simp
  have sb : Wb.heap.size = w.heap.size + 1 + 1 := by rw [hWb]; simp [sa]
  have ga : Gr w Wa := by rw [hWa]; exact gr_alloc _ _ _
  have gb : Gr Wa Wb := by rw [hWb]; exact gr_alloc _ _ _
  have gc : Gr Wb W0 := by rw [hW0]; exact gr_alloc _ _ _
  have g0 := gr_trans ga (gr_trans gb gc)
  obtain ⟨SB, hSB⟩ : ∃ SB, SB = w.heap.size := ⟨_, rfl⟩
  obtain ⟨RB, hRB⟩ : ∃ RB, RB = w.heap.size + 1 := ⟨_, rfl⟩
  obtain ⟨XB, hXB⟩ : ∃ XB, XB = w.heap.size + 1 + 1 := ⟨_, rfl⟩
  have hS : W0.heap[SB]? = some (.cells #[.int .i64 (id : Int), .int .i64 now, .slice A n c, .string (txt seg), .int .i64 pts] 32 (0, 0)) := gr_blk (gr_trans gb gc) (by rw [hWa, hSB]; exact blk_new _ _) (by simp)
  have hR : W0.heap[RB]? = some (.cells #[.int .i64 0, .int .i64 0, .slice none 0 0, .string ⟨#[]⟩, .int .i64 0] 32 (0, 0)) := gr_blk gc (by rw [hRB, ← sa, hWb]; exact blk_new _ _) (by simp)
  have hX : W0.heap[XB]? = some (.cells #[.int .i64 0, .int .i64 0, .int .i64 0, .int .i64 0, .string ⟨#[]⟩] 52 (0, 0)) := by rw [hXB, ← sb, hW0]; exact blk_new _ _
  have hW : ((w.alloc (.cells #[.int .i64 (id : Int), .int .i64 now, .slice A n c, .string (txt seg), .int .i64 pts] 32)).alloc (.cells #[.int .i64 0, .int .i64 0, .slice none 0 0, .string ⟨#[]⟩, .int .i64 0] 32)).alloc (.cells #[.int .i64 0, .int .i64 0, .int .i64 0, .int .i64 0, .string ⟨#[]⟩] 52) = W0 := by rw [hW0, hWb, hWa]
  have hne : RB ≠ XB := by omega
  have hwR : w.heap.size ≤ RB := by omega
  have hwX : w.heap.size ≤ XB := by omega
  have hX0 : XB < W0.heap.size := lt_of_blk hX
  have hR0 : RB < W0.heap.size := lt_of_blk hR
  have p0 : W0.cell? ⟨SB, 0, none⟩ = some (.int .i64 (id : Int)) := fcellD hS rfl
  have p1 : W0.cell? ⟨SB, 1, none⟩ = some (.int .i64 now) := fcellD hS rfl
  have h0 := h.kept g0 (Classical.em _)
  have hAl : Hid (∀ k, (Value.slice A n c).ownBlock = some k → k < w.heap.size) := fun k hk => (h.lt k hk).2
  have hb0 : base ≤ W0.heap.size := Nat.le_trans hb g0.size
  replace h0 := Lib.hid h0
  replace hb0 := Lib.hid hb0
  replace g0 := Lib.hid g0
  replace hS := Lib.hid hS
  replace hR := Lib.hid hR
  replace hX := Lib.hid hX
  replace hW := Lib.hid hW
  replace hne := Lib.hid hne
  replace hwR := Lib.hid hwR
  replace hwX := Lib.hid hwX
  replace hX0 := Lib.hid hX0
  replace hR0 := Lib.hid hR0
  replace hSB := Lib.hid hSB
  replace hRB := Lib.hid hRB
  replace hXB := Lib.hid hXB
  replace cF := Lib.hid cF
  replace cD := Lib.hid cD
  replace hT := Lib.hid hT
  replace hs2 := Lib.hid hs2
  replace hrl := Lib.hid hrl
  clear hWa hWb hW0 sa sb ga gb gc h hb hdl
  go_enter Tryz.func12, Tryz.ntmps12
  go_upto_region 1 with fail
  rw [hW.out, ← hXB.out, ← hRB.out, ← hSB.out]
  go_cut [10] (fun xv wx => ∃ X : Nat, xv = .pointer (some ⟨X, 0, none⟩) ∧ Hid (wx.heap[X]? = some (.cells #[.int .i64 (id : Int), .int .i64 rows, .int .i64 size, .int .i64 T, .string (txt (runL id))] 52 (0, 0))) ∧ Hid (Gr W0 wx) ∧ Hid (W0.heap.size ≤ X))
  case first =>
    have st : ∀ W, Gr W0 W → (W.cell? ⟨SB, 0, none⟩ = some (.int .i64 (id : Int)) ∧ W.cell? ⟨SB, 1, none⟩ = some (.int .i64 now)) := fun W g => ⟨gr_cell g p0, gr_cell g p1⟩
    replace st := Lib.hid st
    refine wp_region_held_drew (S := (fun w' => w'.cell? ⟨SB, 0, none⟩ = some (.int .i64 (id : Int)) ∧ w'.cell? ⟨SB, 1, none⟩ = some (.int .i64 now))) rfl (st.out _ (gr_drew W0 none)) (fun hHeld => ?_)
    have hG : Gr W0 W0.drew := gr_drew W0 none
    clear p0 p1
    generalize W0.drew = wd at *
    refine wpAnyH_take (i := 0) (oi := ⟨some 11, _, _, _, _, _⟩) (v := ?_) rfl (by kernel_rfl) (by kernel_rfl) (by kernel_rfl) (fun _ _ _ h => h) (Or.inl ⟨by rfl, ?_⟩) hHeld ?_
    rotate_left
    · intro w hSw
      try dsimp only at hSw
      go_simp
      first | done | with_reducible rfl
    try simp only [Act.put, List.setIfInBounds_toArray, List.set_cons_zero, List.set_cons_succ]
    refine wpAnyH_take (i := 1) (oi := ⟨some 12, _, _, _, _, _⟩) (v := ?_) rfl (by kernel_rfl) (by kernel_rfl) (by kernel_rfl) (fun _ _ _ h => h) (Or.inl ⟨by rfl, ?_⟩) hHeld ?_
    rotate_left
    · intro w hSw
      try dsimp only at hSw
      go_simp
      first | done | with_reducible rfl
    try simp only [Act.put, List.setIfInBounds_toArray, List.set_cons_zero, List.set_cons_succ]
    refine wpAnyH_take (i := 2) (oi := ⟨some 13, _, _, _, _, _⟩) (v := ?_) rfl (by kernel_rfl) (by kernel_rfl) (by kernel_rfl) (fun _ _ _ h => h) (Or.inl ⟨by rfl, ?_⟩) hHeld ?_
    rotate_left
    · intro w hSw
      try dsimp only at hSw
      go_simp
      first | done | with_reducible rfl
    try simp only [Act.put, List.setIfInBounds_toArray, List.set_cons_zero, List.set_cons_succ]
    refine wpAnyH_take (i := 3) (oi := ⟨some 14, _, _, _, _, _⟩) (v := ?_) rfl (by kernel_rfl) (by kernel_rfl) (by kernel_rfl) (fun _ _ _ h => h) (Or.inl ⟨by rfl, ?_⟩) hHeld ?_
    rotate_left
    · intro w hSw
      try dsimp only at hSw
      go_simp
      first | done | with_reducible rfl
    try simp only [Act.put, List.setIfInBounds_toArray, List.set_cons_zero, List.set_cons_succ]
    refine wpAnyH_take (i := 4) (oi := ⟨some 15, _, _, _, _, _⟩) (v := ?_) rfl (by kernel_rfl) (by kernel_rfl) (by kernel_rfl) (fun _ _ _ h => h) (Or.inl ⟨by rfl, ?_⟩) hHeld ?_
    rotate_left
    · intro w hSw
      try dsimp only at hSw
      go_simp
      first | done | with_reducible rfl
    try simp only [Act.put, List.setIfInBounds_toArray, List.set_cons_zero, List.set_cons_succ]
    refine wpAnyH_take (i := 5) (oi := ⟨some 16, _, _, _, _, _⟩) (v := ?_) rfl (by kernel_rfl) (by kernel_rfl) (by kernel_rfl) (fun _ _ _ h => h) (Or.inl ⟨by rfl, ?_⟩) hHeld ?_
    rotate_left
    · intro w hSw
      try dsimp only at hSw
      go_simp
      first | done | with_reducible rfl
    try simp only [Act.put, List.setIfInBounds_toArray, List.set_cons_zero, List.set_cons_succ]
    refine wpAnyH_take (i := 6) (oi := ⟨some 17, _, _, _, _, _⟩) (v := ?_) rfl (by kernel_rfl) (by kernel_rfl) (by kernel_rfl) (fun _ _ _ h => h) (Or.inl ⟨by rfl, ?_⟩) hHeld ?_
    rotate_left
    · intro w hSw
      try dsimp only at hSw
      go_simp
      first | done | with_reducible rfl
    try simp only [Act.put, List.setIfInBounds_toArray, List.set_cons_zero, List.set_cons_succ]
    refine wpAnyH_take (i := 7) (oi := ⟨some 18, _, _, _, _, _⟩) (v := ?_) rfl (by kernel_rfl) (by kernel_rfl) (by kernel_rfl) (fun _ _ _ h => h) (Or.inl ⟨by rfl, ?_⟩) hHeld ?_
    rotate_left
    · intro w hSw
      try dsimp only at hSw
      go_simp
      first | done | with_reducible rfl
    try simp only [Act.put, List.setIfInBounds_toArray, List.set_cons_zero, List.set_cons_succ]
    refine wpAnyH_take (i := 8) (oi := ⟨some 19, _, _, _, _, _⟩) (v := ?_) rfl (by kernel_rfl) (by kernel_rfl) (by kernel_rfl) (fun _ _ _ h => h) (Or.inl ⟨by rfl, ?_⟩) hHeld ?_
    rotate_left
    · intro w hSw
      try dsimp only at hSw
      go_simp
      first | done | with_reducible rfl
    try simp only [Act.put, List.setIfInBounds_toArray, List.set_cons_zero, List.set_cons_succ]
    refine wpAnyH_take (i := 9) (oi := ⟨some 20, _, _, _, _, _⟩) (v := ?_) rfl (by kernel_rfl) (by kernel_rfl) (by kernel_rfl) (fun _ _ _ h => h) (Or.inl ⟨by rfl, ?_⟩) hHeld ?_
    rotate_left
    · intro w hSw
      try dsimp only at hSw
      go_simp
      first | done | with_reducible rfl
    try simp only [Act.put, List.setIfInBounds_toArray, List.set_cons_zero, List.set_cons_succ]
    refine wpAnyH_ready (rs := [10, 13]) (by kernel_rfl) (by simp) (AllReadyH.cons (o := _) rfl (fun K hK => ?_) (AllReadyH.cons (o := _) rfl (fun K hK => ?_) AllReadyH.nil))
    · skip
      go_simp
      refine (cD.out _).mono ?_
      rintro e wz ⟨rfl, gz⟩
      try (go_wp2_with fail)
      have hG := gr_trans hG gz
      refine hK.out _ _ ?_ (fun hHeld => ?_)
      · exact st.out _ hG
      clear hK K gz
      try simp only [Act.put, List.setIfInBounds_toArray, List.set_cons_zero, List.set_cons_succ]
      refine wpAnyH_take (i := 11) (oi := ⟨some 22, _, _, _, _, _⟩) (v := ?_) rfl (by kernel_rfl) (by kernel_rfl) (by kernel_rfl) (fun _ _ _ h => h) (Or.inl ⟨by rfl, ?_⟩) hHeld ?_
      rotate_left
      · intro w hSw
        try dsimp only at hSw
        go_simp
        first | done | with_reducible rfl
      try simp only [Act.put, List.setIfInBounds_toArray, List.set_cons_zero, List.set_cons_succ]
      refine wpAnyH_take (i := 12) (oi := ⟨some 23, _, _, _, _, _⟩) (v := ?_) rfl (by kernel_rfl) (by kernel_rfl) (by kernel_rfl) (fun _ _ _ h => h) (Or.inl ⟨by rfl, ?_⟩) hHeld ?_
      rotate_left
      · intro w hSw
        try dsimp only at hSw
        go_simp
        first | done | with_reducible rfl
      try simp only [Act.put, List.setIfInBounds_toArray, List.set_cons_zero, List.set_cons_succ]
      refine wpAnyH_ready (rs := [13]) (by kernel_rfl) (by simp) (AllReadyH.cons (o := _) rfl (fun K hK => ?_) AllReadyH.nil)
      go_simp
      refine hK.out _ _ ?_ (fun hHeld => ?_)
      · exact st.out _ (gr_trans hG (gr_alloc _ _ _))
      clear hK K
      try simp only [Act.put, List.setIfInBounds_toArray, List.set_cons_zero, List.set_cons_succ]
      have hal := blk_new wz (.cells #[.int .i64 0, .int .i64 0, .int .i64 0, .int .i64 0, .string ⟨#[]⟩] 52)
      have hXg := hG.size
      have hG := gr_trans hG (gr_alloc wz (.cells #[.int .i64 0, .int .i64 0, .int .i64 0, .int .i64 0, .string ⟨#[]⟩] 52) none)
      obtain ⟨wn, hN⟩ : ∃ wn, wn = wz.alloc (.cells #[.int .i64 0, .int .i64 0, .int .i64 0, .int .i64 0, .string ⟨#[]⟩] 52) := ⟨_, rfl⟩
      obtain ⟨X, hX9⟩ : ∃ X, X = wz.heap.size := ⟨_, rfl⟩
      rw [← hN] at hal hG hHeld ⊢
      rw [← hX9] at hal hXg ⊢
      clear hN hX9
      refine wpAnyH_ready (rs := [14]) (by kernel_rfl) (by simp) (AllReadyH.cons (o := _) rfl (fun K hK => ?_) AllReadyH.nil)
      have hth := rs_there hal
      have gS := gr_setCells wn X 0 [.int .i64 (id : Int), .int .i64 rows, .int .i64 size, .int .i64 T, .string (txt (runL id))]
      have hGf : Gr W0 (wn.setCells X 0 [.int .i64 (id : Int), .int .i64 rows, .int .i64 size, .int .i64 T, .string (txt (runL id))]) := gr_of_below ((gr_below hG).grown gS hG.size (by intro k hk; cases hk; exact hXg)) (Nat.le_refl _)
      have hCu := blk_set (blk_set (blk_set (blk_set (blk_set hal 0 (.int .i64 (id : Int))) 1 (.int .i64 rows)) 2 (.int .i64 size)) 3 (.int .i64 T)) 4 (.string (txt (runL id)))
      refine step_store_mid rfl 52 _ _ rfl X 0 #[.int .i64 (id : Int), .int .i64 rows, .int .i64 size, .int .i64 T, .string (txt (runL id))] rfl rfl hth infoCu (by simp [Value.oneCell']) ?_
      refine hK.out _ _ ?_ (fun hHeld => ?_)
      · exact st.out _ hGf
      clear hK K hHeld
      try simp only [Act.put, List.setIfInBounds_toArray, List.set_cons_zero, List.set_cons_succ]
      refine wpAnyH_done (by kernel_rfl) ?_ _
      go_simp
      go_step
      go_meet
      exact ⟨X, rfl, Lib.hid hCu, Lib.hid hGf, Lib.hid hXg⟩
    · skip
      go_simp
      refine hK.out _ _ ?_ (fun hHeld => ?_)
      · exact st.out _ (gr_trans hG (gr_alloc _ _ _))
      clear hK K
      try simp only [Act.put, List.setIfInBounds_toArray, List.set_cons_zero, List.set_cons_succ]
      have hal := blk_new wd (.cells #[.int .i64 0, .int .i64 0, .int .i64 0, .int .i64 0, .string ⟨#[]⟩] 52)
      have hXg := hG.size
      have hG := gr_trans hG (gr_alloc wd (.cells #[.int .i64 0, .int .i64 0, .int .i64 0, .int .i64 0, .string ⟨#[]⟩] 52) none)
      obtain ⟨wn, hN⟩ : ∃ wn, wn = wd.alloc (.cells #[.int .i64 0, .int .i64 0, .int .i64 0, .int .i64 0, .string ⟨#[]⟩] 52) := ⟨_, rfl⟩
      obtain ⟨X, hX9⟩ : ∃ X, X = wd.heap.size := ⟨_, rfl⟩
      rw [← hN] at hal hG hHeld ⊢
      rw [← hX9] at hal hXg ⊢
      clear hN hX9
      refine wpAnyH_ready (rs := [10]) (by kernel_rfl) (by simp) (AllReadyH.cons (o := _) rfl (fun K hK => ?_) AllReadyH.nil)
      go_simp
      refine (cD.out _).mono ?_
      rintro e wz ⟨rfl, gz⟩
      try (go_wp2_with fail)
      have hG := gr_trans hG gz
      have hal := gr_blk gz hal (by simp)
      refine hK.out _ _ ?_ (fun hHeld => ?_)
      · exact st.out _ hG
      clear hK K gz
      try simp only [Act.put, List.setIfInBounds_toArray, List.set_cons_zero, List.set_cons_succ]
      refine wpAnyH_take (i := 11) (oi := ⟨some 22, _, _, _, _, _⟩) (v := ?_) rfl (by kernel_rfl) (by kernel_rfl) (by kernel_rfl) (fun _ _ _ h => h) (Or.inl ⟨by rfl, ?_⟩) hHeld ?_
      rotate_left
      · intro w hSw
        try dsimp only at hSw
        go_simp
        first | done | with_reducible rfl
      try simp only [Act.put, List.setIfInBounds_toArray, List.set_cons_zero, List.set_cons_succ]
      refine wpAnyH_take (i := 12) (oi := ⟨some 23, _, _, _, _, _⟩) (v := ?_) rfl (by kernel_rfl) (by kernel_rfl) (by kernel_rfl) (fun _ _ _ h => h) (Or.inl ⟨by rfl, ?_⟩) hHeld ?_
      rotate_left
      · intro w hSw
        try dsimp only at hSw
        go_simp
        first | done | with_reducible rfl
      try simp only [Act.put, List.setIfInBounds_toArray, List.set_cons_zero, List.set_cons_succ]
      refine wpAnyH_ready (rs := [14]) (by kernel_rfl) (by simp) (AllReadyH.cons (o := _) rfl (fun K hK => ?_) AllReadyH.nil)
      have hth := rs_there hal
      have gS := gr_setCells wz X 0 [.int .i64 (id : Int), .int .i64 rows, .int .i64 size, .int .i64 T, .string (txt (runL id))]
      have hGf : Gr W0 (wz.setCells X 0 [.int .i64 (id : Int), .int .i64 rows, .int .i64 size, .int .i64 T, .string (txt (runL id))]) := gr_of_below ((gr_below hG).grown gS hG.size (by intro k hk; cases hk; exact hXg)) (Nat.le_refl _)
      have hCu := blk_set (blk_set (blk_set (blk_set (blk_set hal 0 (.int .i64 (id : Int))) 1 (.int .i64 rows)) 2 (.int .i64 size)) 3 (.int .i64 T)) 4 (.string (txt (runL id)))
      refine step_store_mid rfl 52 _ _ rfl X 0 #[.int .i64 (id : Int), .int .i64 rows, .int .i64 size, .int .i64 T, .string (txt (runL id))] rfl rfl hth infoCu (by simp [Value.oneCell']) ?_
      refine hK.out _ _ ?_ (fun hHeld => ?_)
      · exact st.out _ hGf
      clear hK K hHeld
      try simp only [Act.put, List.setIfInBounds_toArray, List.set_cons_zero, List.set_cons_succ]
      refine wpAnyH_done (by kernel_rfl) ?_ _
      go_simp
      go_step
      go_meet
      exact ⟨X, rfl, Lib.hid hCu, Lib.hid hGf, Lib.hid hXg⟩
  case rest =>
  obtain ⟨X, rfl, hC, g1, hXn⟩ := hcut
  obtain ⟨W2, hW2⟩ : ∃ W2, W2 = wc := ⟨_, rfl⟩
  rw [← hW2] at hC g1 ⊢
  clear hW2 p0 p1 hwT hwT2 hwT3 hsl hsl2 htx
  have gd := gr_trans g1.out (gr_drew W2 none)
  have hSd := gr_blk gd hS.out (by simp)
  have hCd := gr_blk (gr_drew W2 none) hC.out (by simp)
  have hRd := gr_blk gd hR.out (by simp)
  have hXd := gr_blk gd hX.out (by simp)
  have Gd := gr_trans g0.out gd
  have hFd := cF.out W2.drew (h0.out.kept gd (Classical.em _)) (Nat.le_trans hb0.out gd.size)
  have hne1 : RB ≠ XB := hne.out
  have hne2 : XB ≠ RB := fun e => hne.out e.symm
  have hne3 : RB ≠ X := by have := hXn.out; have := hR0.out; omega
  have hne4 : X ≠ RB := fun e => hne3 e.symm
  have hne5 : XB ≠ X := by have := hXn.out; have := hX0.out; omega
  have hne6 : X ≠ XB := fun e => hne5 e.symm
  have k0 : W2.drew.cell? ⟨SB, 0, none⟩ = some (.int .i64 (id : Int)) := fcellD hSd rfl
  have k1 : W2.drew.cell? ⟨SB, 1, none⟩ = some (.int .i64 now) := fcellD hSd rfl
  have k2 : W2.drew.cell? ⟨SB, 2, none⟩ = some (.slice A n c) := fcellD hSd rfl
  have k3 : W2.drew.cell? ⟨SB, 3, none⟩ = some (.string (txt seg)) := fcellD hSd rfl
  have k4 : W2.drew.cell? ⟨SB, 4, none⟩ = some (.int .i64 pts) := fcellD hSd rfl
  have d0 : W2.drew.cell? ⟨X, 0, none⟩ = some (.int .i64 (id : Int)) := fcellD hCd rfl
  have d1 : W2.drew.cell? ⟨X, 1, none⟩ = some (.int .i64 rows) := fcellD hCd rfl
  have d2 : W2.drew.cell? ⟨X, 2, none⟩ = some (.int .i64 size) := fcellD hCd rfl
  have d3 : W2.drew.cell? ⟨X, 3, none⟩ = some (.int .i64 T) := fcellD hCd rfl
  have d4 : W2.drew.cell? ⟨X, 4, none⟩ = some (.string (txt (runL id))) := fcellD hCd rfl
  have hXs : Hid (W0.heap.size ≤ W2.drew.heap.size) := gd.size
  replace hFd := Lib.hid hFd
  replace hRd := Lib.hid hRd
  replace hXd := Lib.hid hXd
  replace hCd := Lib.hid hCd
  replace Gd := Lib.hid Gd
  clear hSd gd hC g1 hS hR hX cF h0 hb0 g0
  go_upto_region 2 with fail
  go_region_law (first
    | (go_simp; go_at_call 21; refine hFd.out.mono ?_
       rintro e W3 ⟨⟨A', n', c', rfl, hO3, hlate⟩, g3⟩
       have hC3 := gr_blk g3 hCd.out (by simp)
       have hR3 := gr_blk g3 hRd.out (by simp)
       have hX3 := gr_blk g3 hXd.out (by simp)
       have e0 : W3.cell? ⟨X, 0, none⟩ = some (.int .i64 (id : Int)) := fcellD hC3 rfl
       have e1 : W3.cell? ⟨X, 1, none⟩ = some (.int .i64 rows) := fcellD hC3 rfl
       have e2 : W3.cell? ⟨X, 2, none⟩ = some (.int .i64 size) := fcellD hC3 rfl
       have e3 : W3.cell? ⟨X, 3, none⟩ = some (.int .i64 T) := fcellD hC3 rfl
       have e4 : W3.cell? ⟨X, 4, none⟩ = some (.string (txt (runL id))) := fcellD hC3 rfl
       have f0 : W3.cell? ⟨RB, 0, none⟩ = some (.int .i64 0) := fcellD hR3 rfl
       have z0 := fzeroD hR3 0
       have f1 : W3.cell? ⟨RB, 1, none⟩ = some (.int .i64 0) := fcellD hR3 rfl
       have z1 := fzeroD hR3 1
       have f2 : W3.cell? ⟨RB, 2, none⟩ = some (.slice none 0 0) := fcellD hR3 rfl
       have z2 := fzeroD hR3 2
       have f3 : W3.cell? ⟨RB, 3, none⟩ = some (.string ⟨#[]⟩) := fcellD hR3 rfl
       have z3 := fzeroD hR3 3
       have f4 : W3.cell? ⟨RB, 4, none⟩ = some (.int .i64 0) := fcellD hR3 rfl
       have z4 := fzeroD hR3 4
       have u0 : W3.cell? ⟨XB, 0, none⟩ = some (.int .i64 0) := fcellD hX3 rfl
       have v0 := fzeroD hX3 0
       have u1 : W3.cell? ⟨XB, 1, none⟩ = some (.int .i64 0) := fcellD hX3 rfl
       have v1 := fzeroD hX3 1
       have u2 : W3.cell? ⟨XB, 2, none⟩ = some (.int .i64 0) := fcellD hX3 rfl
       have v2 := fzeroD hX3 2
       have u3 : W3.cell? ⟨XB, 3, none⟩ = some (.int .i64 0) := fcellD hX3 rfl
       have v3 := fzeroD hX3 3
       have u4 : W3.cell? ⟨XB, 4, none⟩ = some (.string ⟨#[]⟩) := fcellD hX3 rfl
       have v4 := fzeroD hX3 4))
  all_goals
    obtain ⟨-, -, t3, t4, t5⟩ := two_res hR3 hX3 hne.out (.int .i64 s2.next) (.int .i64 s2.now) (.slice A' n' c') (.string (txt s2.seg)) (.int .i64 s2.pts) (.int .i64 (id : Int)) (.int .i64 rows) (.int .i64 size) (.int .i64 T) (.string (txt (runL id)))
    have hGF := t5 w (gr_trans Gd.out g3) hwR.out hwX.out
    generalize hW9 : W3.setCells RB 0 [.int .i64 s2.next, .int .i64 s2.now, .slice A' n' c', .string (txt s2.seg), .int .i64 s2.pts] = W9 at *
    generalize hW10 : W9.setCells XB 0 [.int .i64 (id : Int), .int .i64 rows, .int .i64 size, .int .i64 T, .string (txt (runL id))] = W10 at *
    have gg1 : GrB RB W3 W9 := by rw [← hW9]; exact gr_setCells _ _ _ _
    have gg2 : GrB XB W9 W10 := by rw [← hW10]; exact gr_setCells _ _ _ _
    have hX9 := gr_blk gg1 hX3 (by simp; exact hne2)
    have hvF := hO3.kept gg1 (.inr (own_ne_blk hO3 hR3 (by decide)))
    have hvG := hvF.kept gg2 (.inr (by
      intro e
      have h1 := hX0.out
      have h2 := hXs.out
      rcases hlate _ e with h3 | h3
      · have := hAl.out _ h3; have := hwX.out; omega
      · omega))
    have hltw : Hid (∀ k, (Value.slice A' n' c').ownBlock = some k → (Value.slice A n c).ownBlock = some k ∨ w.heap.size ≤ k) := fun k hk => (hlate k hk).imp (fun h => h) (Nat.le_trans Gd.out.size)
    replace hW9 := Lib.hid hW9
    replace hW10 := Lib.hid hW10
    have hrx := Lib.hid (And.intro (And.intro (t3 0 _ rfl) (And.intro (t3 1 _ rfl) (And.intro (t3 2 _ rfl) (And.intro (t3 3 _ rfl) (t3 4 _ rfl))))) (And.intro (t4 0 _ rfl) (And.intro (t4 1 _ rfl) (And.intro (t4 2 _ rfl) (And.intro (t4 3 _ rfl) (t4 4 _ rfl))))))
    replace hGF := Lib.hid hGF
    replace hvG := Lib.hid hvG
    rw [show ((((((((((W3.setCell ⟨RB, 0, none⟩ (.int .i64 s2.next)).setCell ⟨RB, 1, none⟩ (.int .i64 s2.now)).setCell ⟨RB, 2, none⟩ (.slice A' n' c')).setCell ⟨RB, 3, none⟩ (.string (txt s2.seg))).setCell ⟨RB, 4, none⟩ (.int .i64 s2.pts)).setCell ⟨XB, 0, none⟩ (.int .i64 (id : Int))).setCell ⟨XB, 1, none⟩ (.int .i64 rows)).setCell ⟨XB, 2, none⟩ (.int .i64 size)).setCell ⟨XB, 3, none⟩ (.int .i64 T)).setCell ⟨XB, 4, none⟩ (.string (txt (runL id)))) = W10 from by rw [← hW10.out, ← hW9.out]; rfl]
    clear t3 t4 t5 gg1 gg2 hX9 hvF hO3 g3 hC3 hR3 hX3 u0 u1 u2 u3 u4 v0 v1 v2 v3 v4 f0 f1 f2 f3 f4 z0 z1 z2 z3 z4 e0 e1 e2 e3 e4 k0 k1 k2 k3 k4 d0 d1 d2 d3 d4
    go_wp2_with fail
    (try simp only [Exit.inBlock, Exit.then])
    obtain ⟨⟨r0, r1, r2, r3, r4⟩, ⟨x0, x1, x2', x3, x4⟩⟩ := hrx.out
    refine bodyPost_ret (by simp [results, Tryz.results12, go_sem, r0, r1, r2, r3, r4, x0, x1, x2', x3, x4]; try rfl) rfl ?_
    exact ⟨⟨A', n', c', rfl, hvG.out, hltw.out⟩, hGF.out⟩
end Go.Proofs.YtmldoeeangekoaaGreatDoor
