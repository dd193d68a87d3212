/-
  (*Desk).Open of a desk with room. No condition but bounds.
-/
import Derived.Test.YtilbeoblppigeaaDoorDeskMath
import Derived.Deep.RegionLaw
namespace Go.Proofs.YtilbeoblppigeaaDoor
open Go.RowKit

theorem own_farD {w w' : World} {base size n b : Nat} {e t : TypeId} {v : Value} {xs : List Value} {cs : Array Value} {fr : Nat × Nat} (h : w.ownsRow base e size v n xs) (hb : w.heap[b]? = some (.cells cs t fr)) (he : e ≠ t) (g : GrB b w w') : w'.ownsRow base e size v n xs := by
  refine h.kept g ?_
  rcases h.2 with ⟨rfl, _⟩ | ⟨g', cap, cur, rfl, _, hg, _⟩
  · exact .inl rfl
  · right
    intro e2
    have : g' = b := by simpa [Value.ownBlock] using e2
    subst this
    rw [hb] at hg
    injection hg with h1
    injection h1 with _ h2
    exact he h2.symm
theorem dk_apart {w : World} {D base n c : Nat} {A : Option Addr} {nx now pts : Int} {op : Value} {seg : List UInt8} {xs : List Value} (h : DkB w D nx now op seg pts) (ho : w.ownsRow base 30 5 (.slice A n c) n xs) : (Value.slice A n c).ownBlock ≠ some D := by
  intro e
  rcases ho.2 with ⟨hv, _⟩ | ⟨g, cap, cur, hv, _, hg, _⟩
  · rw [hv] at e; cases e
  · rw [hv] at e
    have : g = D := by simpa [Value.ownBlock] using e
    subst this
    unfold DkB at h
    rw [hg] at h
    injection h with h1
    injection h1 with _ h2
    exact absurd h2 (by decide)
def runL (id : Nat) : List UInt8 := [114, 117, 110, 45] ++ Lib.decDigits id
theorem infoCuE : (Tryd.prog.info? 30).map (fun i => (i.zero, i.size, i.bytes)) = some (some (.agg #[.int .i64 0, .int .i64 0, .int .i64 0, .int .i64 0, .string ⟨#[]⟩]), 5, 48) := by kernel_rfl
/-- What may turn: the desk's block and the list's own. -/
def TnD (D : Nat) (ob : Option Nat) (k : Nat) : Prop := k = D ∨ ob = some k
def OpenPost (D base : Nat) (s : DkS) (A : Option Addr) (n c : Nat) (C : Cur) (w : World) (e : Ending) (w' : World) : Prop :=
  e = .returned (.tuple #[curV C, .int .i64 0]) ∧ (∃ A' c', DkIs w' D base ⟨C.id + 1, s.now, s.op ++ [C], s.seg, s.pts⟩ A' (n + 1) c') ∧ GrS (TnD D (Value.slice A n c).ownBlock) w w'
set_option maxHeartbeats 16000000 in
set_option maxRecDepth 100000 in
theorem dopen_any (D base : Nat) (s : DkS) (A : Option Addr) (n c rows size ticks id : Nat) (w : World) (h : DkIs w D base s A n c) (hv : Vars w) (hbw : base ≤ w.heap.size) (hr : rows ≤ 2000) (hs : 1 ≤ size) (hs2 : size ≤ 100) (ht : ticks ≤ 100000) (hnow : 0 ≤ s.now ∧ s.now + ticks ≤ 1000000000) (hn : n < 20) (hid : s.nx = (id : Int)) (hid2 : 1 ≤ id ∧ id ≤ 1000000) :
    Calls Tryd.prog 10 #[.pointer (some ⟨D, 0, none⟩), .int .i64 rows, .int .i64 size, .int .i64 ticks] w (OpenPost D base s A n c ⟨id, rows, size, s.now + ticks, runL id⟩ w) := by
  obtain ⟨nx, now, op, seg, pts⟩ := s
  simp only at h hnow hid
  subst hid
  obtain ⟨ii, hi, hz0, hz1, hz2⟩ := info_parts infoCuE
  obtain ⟨W1, hW1⟩ : ∃ W1, W1 = w.alloc (.cells #[.int .i64 0, .int .i64 0, .int .i64 0, .int .i64 0, .string ⟨#[]⟩] 30) := ⟨_, rfl⟩
  have g1 : Gr w W1 := by rw [hW1]; exact gr_alloc _ _ _
  have hres : CuB W1 w.heap.size cu0 := by rw [hW1]; exact blk_new w _
  have h1 := dkIs_gr h g1
  have hDw := lt_of_blk h.blk
  have hob : ∀ k, (Value.slice A n c).ownBlock = some k → k < w.heap.size := fun k hk => (h.own.lt k hk).2
  have hs1w : w.heap.size < W1.heap.size := lt_of_blk hres
  have hDlt := lt_of_blk h1.blk
  have hmay := may_ok D (id : Int) now pts A n c seg rows size ticks W1 h1.blk hr hs hs2 ht hnow hn (by omega)
  obtain ⟨T, hT⟩ : ∃ T : Int, T = now + (ticks : Int) := ⟨_, rfl⟩
  have hTw : IntKind.i64.wrap (now + (ticks : Int)) = T := by rw [hT]; exact IntWalk.i64_in _ (by omega)
  have hTw2 : wrap64 (now + (ticks : Int)) = T := by rw [hT]; unfold wrap64; omega
  obtain ⟨F, hF⟩ : ∃ F, F = runL id := ⟨_, rfl⟩
  have hdl := dec_len id hid2.2
  have hap : [114, 117, 110, 45] ++ Lib.decDigits id = F := by rw [hF]; rfl
  have cI := fun W (g : Gr W1 W) => itoa_any id W hid2.2 (vars_gr hv (gr_trans g1 g))
  have hlen : n < 20 := hn
  obtain ⟨c0, c1, c2, c3, c4⟩ := dkb_cells h1.blk
  have st : ∀ w', Gr W1 w' → w'.cell? ⟨D, 1, none⟩ = some (.int .i64 now) := fun w' g => gr_cell g c1
  have hT64 : -9223372036854775808 ≤ T ∧ T ≤ 9223372036854775807 := by omega
  rw [← hT, ← hF]
  generalize Lib.decDigits id = dd at *
  have hs1 : (9223372036854775807 < 4 + dd.length) = False := eq_false (by omega)
  have hap2 : (⟨#[114, 117, 110, 45]⟩ : ByteArray) ++ txt dd = txt F := by rw [← hap]; exact txt_append [114, 117, 110, 45] dd
  replace st := Lib.hid st
  replace h1 := Lib.hid h1
  replace hres := Lib.hid hres
  replace hmay := Lib.hid hmay
  replace cI := Lib.hid cI
  replace hDw := Lib.hid hDw
  replace hob := Lib.hid hob
  replace hDlt := Lib.hid hDlt
  replace g1 := Lib.hid g1
  replace hT := Lib.hid hT
  clear h hv hF
  go_enter Tryd.func10, Tryd.ntmps10
  go_upto_region 1 with fail
  rw [← hW1]
  clear hW1
  go_wp2_with fail
  refine hmay.out.mono ?_
  rintro e w2 ⟨rfl, rfl⟩
  clear hmay
  go_upto_region 5 with fail
  clear c0 c1 c2 c3 c4
  refine wp_region_held_drew (S := (fun w' => w'.cell? ⟨D, 1, none⟩ = some (.int .i64 now))) (by kernel_rfl) (st.out _ (gr_drew _ _)) (fun hHeld => ?_)
  have hG : Gr W1 W1.drew := gr_drew W1 none
  generalize W1.drew = wd at *
  refine wpAnyH_take (i := 0) (oi := ⟨some 27, _, _, _, _, _⟩) (v := ?_) rfl (by kernel_rfl) (by kernel_rfl) (by kernel_rfl) (fun _ _ _ h => h) (Or.inl ⟨by rfl, ?_⟩) hHeld ?_
  rotate_left
  · intro w hSw
    try dsimp only at hSw
    go_simp
    first | done | with_reducible rfl
  try simp only [Act.put, List.setIfInBounds_toArray, List.set_cons_zero, List.set_cons_succ]
  refine wpAnyH_take (i := 1) (oi := ⟨some 28, _, _, _, _, _⟩) (v := ?_) rfl (by kernel_rfl) (by kernel_rfl) (by kernel_rfl) (fun _ _ _ h => h) (Or.inl ⟨by rfl, ?_⟩) hHeld ?_
  rotate_left
  · intro w hSw
    try dsimp only at hSw
    go_simp
    first | done | with_reducible rfl
  try simp only [Act.put, List.setIfInBounds_toArray, List.set_cons_zero, List.set_cons_succ]
  refine wpAnyH_take (i := 2) (oi := ⟨some 29, _, _, _, _, _⟩) (v := ?_) rfl (by kernel_rfl) (by kernel_rfl) (by kernel_rfl) (fun _ _ _ h => h) (Or.inl ⟨by rfl, ?_⟩) hHeld ?_
  rotate_left
  · intro w hSw
    try dsimp only at hSw
    go_simp
    first | done | with_reducible rfl
  try simp only [Act.put, List.setIfInBounds_toArray, List.set_cons_zero, List.set_cons_succ]
  refine wpAnyH_take (i := 3) (oi := ⟨some 30, _, _, _, _, _⟩) (v := ?_) rfl (by kernel_rfl) (by kernel_rfl) (by kernel_rfl) (fun _ _ _ h => h) (Or.inl ⟨by rfl, ?_⟩) hHeld ?_
  rotate_left
  · intro w hSw
    try dsimp only at hSw
    go_simp
    first | done | with_reducible rfl
  try simp only [Act.put, List.setIfInBounds_toArray, List.set_cons_zero, List.set_cons_succ]
  refine wpAnyH_take (i := 4) (oi := ⟨some 31, _, _, _, _, _⟩) (v := ?_) rfl (by kernel_rfl) (by kernel_rfl) (by kernel_rfl) (fun _ _ _ h => h) (Or.inl ⟨by rfl, ?_⟩) hHeld ?_
  rotate_left
  · intro w hSw
    try dsimp only at hSw
    go_simp
    first | done | with_reducible rfl
  try simp only [Act.put, List.setIfInBounds_toArray, List.set_cons_zero, List.set_cons_succ]
  refine wpAnyH_take (i := 5) (oi := ⟨some 32, _, _, _, _, _⟩) (v := ?_) rfl (by kernel_rfl) (by kernel_rfl) (by kernel_rfl) (fun _ _ _ h => h) (Or.inl ⟨by rfl, ?_⟩) hHeld ?_
  rotate_left
  · intro w hSw
    try dsimp only at hSw
    go_simp
    first | done | with_reducible rfl
  try simp only [Act.put, List.setIfInBounds_toArray, List.set_cons_zero, List.set_cons_succ]
  refine wpAnyH_take (i := 6) (oi := ⟨some 33, _, _, _, _, _⟩) (v := ?_) rfl (by kernel_rfl) (by kernel_rfl) (by kernel_rfl) (fun _ _ _ h => h) (Or.inl ⟨by rfl, ?_⟩) hHeld ?_
  rotate_left
  · intro w hSw
    try dsimp only at hSw
    go_simp
    first | done | with_reducible rfl
  try simp only [Act.put, List.setIfInBounds_toArray, List.set_cons_zero, List.set_cons_succ]
  refine wpAnyH_take (i := 7) (oi := ⟨some 34, _, _, _, _, _⟩) (v := ?_) rfl (by kernel_rfl) (by kernel_rfl) (by kernel_rfl) (fun _ _ _ h => h) (Or.inl ⟨by rfl, ?_⟩) hHeld ?_
  rotate_left
  · intro w hSw
    try dsimp only at hSw
    go_simp
    first | done | with_reducible rfl
  try simp only [Act.put, List.setIfInBounds_toArray, List.set_cons_zero, List.set_cons_succ]
  refine wpAnyH_take (i := 8) (oi := ⟨some 35, _, _, _, _, _⟩) (v := ?_) rfl (by kernel_rfl) (by kernel_rfl) (by kernel_rfl) (fun _ _ _ h => h) (Or.inl ⟨by rfl, ?_⟩) hHeld ?_
  rotate_left
  · intro w hSw
    try dsimp only at hSw
    go_simp
    first | done | with_reducible rfl
  try simp only [Act.put, List.setIfInBounds_toArray, List.set_cons_zero, List.set_cons_succ]
  refine wpAnyH_take (i := 9) (oi := ⟨some 36, _, _, _, _, _⟩) (v := ?_) rfl (by kernel_rfl) (by kernel_rfl) (by kernel_rfl) (fun _ _ _ h => h) (Or.inl ⟨by rfl, ?_⟩) hHeld ?_
  rotate_left
  · intro w hSw
    try dsimp only at hSw
    go_simp
    first | done | with_reducible rfl
  try simp only [Act.put, List.setIfInBounds_toArray, List.set_cons_zero, List.set_cons_succ]
  refine wpAnyH_take (i := 10) (oi := ⟨some 37, _, _, _, _, _⟩) (v := ?_) rfl (by kernel_rfl) (by kernel_rfl) (by kernel_rfl) (fun _ _ _ h => h) (Or.inl ⟨by rfl, ?_⟩) hHeld ?_
  rotate_left
  · intro w hSw
    try dsimp only at hSw
    go_simp
    first | done | with_reducible rfl
  try simp only [Act.put, List.setIfInBounds_toArray, List.set_cons_zero, List.set_cons_succ]
  refine wpAnyH_ready (rs := [11, 14]) (by kernel_rfl) (by simp) (AllReadyH.cons (o := _) rfl (fun K hK => ?_) (AllReadyH.cons (o := _) rfl (fun K hK => ?_) AllReadyH.nil))
  · skip
    go_simp
    refine (cI.out _ hG).mono ?_
    rintro e wz ⟨rfl, gz⟩
    try (go_wp2_with fail)
    have hG := gr_trans hG gz
    refine hK.out _ _ ?_ (fun hHeld => ?_)
    · exact st.out _ hG
    clear hK K gz
    try simp only [Act.put, List.setIfInBounds_toArray, List.set_cons_zero, List.set_cons_succ]
    refine wpAnyH_take (i := 12) (oi := ⟨some 39, _, _, _, _, _⟩) (v := ?_) rfl (by kernel_rfl) (by kernel_rfl) (by kernel_rfl) (fun _ _ _ h => h) (Or.inl ⟨by rfl, ?_⟩) hHeld ?_
    rotate_left
    · intro w hSw
      try dsimp only at hSw
      go_simp
      first | done | with_reducible rfl
    try simp only [Act.put, List.setIfInBounds_toArray, List.set_cons_zero, List.set_cons_succ]
    refine wpAnyH_take (i := 13) (oi := ⟨some 40, _, _, _, _, _⟩) (v := ?_) rfl (by kernel_rfl) (by kernel_rfl) (by kernel_rfl) (fun _ _ _ h => h) (Or.inl ⟨by rfl, ?_⟩) hHeld ?_
    rotate_left
    · intro w hSw
      try dsimp only at hSw
      go_simp
      first | done | with_reducible rfl
    try simp only [Act.put, List.setIfInBounds_toArray, List.set_cons_zero, List.set_cons_succ]
    refine wpAnyH_ready (rs := [14]) (by kernel_rfl) (by simp) (AllReadyH.cons (o := _) rfl (fun K hK => ?_) AllReadyH.nil)
    go_simp
    refine hK.out _ _ ?_ (fun hHeld => ?_)
    · exact st.out _ (gr_trans hG (gr_alloc _ _ _))
    clear hK K
    try simp only [Act.put, List.setIfInBounds_toArray, List.set_cons_zero, List.set_cons_succ]
    have hal := blk_new wz (.cells #[.int .i64 0, .int .i64 0, .int .i64 0, .int .i64 0, .string ⟨#[]⟩] 30)
    have hXg := hG.size
    have hG := gr_trans hG (gr_alloc wz (.cells #[.int .i64 0, .int .i64 0, .int .i64 0, .int .i64 0, .string ⟨#[]⟩] 30) none)
    obtain ⟨wn, hN⟩ : ∃ wn, wn = wz.alloc (.cells #[.int .i64 0, .int .i64 0, .int .i64 0, .int .i64 0, .string ⟨#[]⟩] 30) := ⟨_, rfl⟩
    obtain ⟨X, hX⟩ : ∃ X, X = wz.heap.size := ⟨_, rfl⟩
    rw [← hN] at hal hG hHeld ⊢
    rw [← hX] at hal hXg ⊢
    replace hal : CuB wn X cu0 := hal
    clear hN hX
    refine wpAnyH_ready (rs := [15]) (by kernel_rfl) (by simp) (AllReadyH.cons (o := _) rfl (fun K hK => ?_) AllReadyH.nil)
    have hth := cub_there hal
    have gS := gr_setCells wn X 0 [.int .i64 (id : Int), .int .i64 (rows : Int), .int .i64 (size : Int), .int .i64 T, .string (txt F)]
    have hGf : Gr W1 (wn.setCells X 0 [.int .i64 (id : Int), .int .i64 (rows : Int), .int .i64 (size : Int), .int .i64 T, .string (txt F)]) := gr_of_below ((gr_below hG).grown gS hG.size (by intro k hk; cases hk; exact hXg)) (Nat.le_refl _)
    have hCu : CuB (wn.setCells X 0 [.int .i64 (id : Int), .int .i64 (rows : Int), .int .i64 (size : Int), .int .i64 T, .string (txt F)]) X ⟨(id : Int), (rows : Int), (size : Int), T, F⟩ := blk_set (blk_set (blk_set (blk_set (blk_set hal 0 _) 1 _) 2 _) 3 _) 4 _
    refine step_store_mid rfl 30 _ _ rfl X 0 #[.int .i64 (id : Int), .int .i64 (rows : Int), .int .i64 (size : Int), .int .i64 T, .string (txt F)] rfl rfl hth infoCu (by simp [Value.oneCell']) ?_
    refine hK.out _ _ ?_ (fun hHeld => ?_)
    · exact st.out _ hGf
    clear hK K hHeld
    try simp only [Act.put, List.setIfInBounds_toArray, List.set_cons_zero, List.set_cons_succ]
    refine wpAnyH_done (by kernel_rfl) ?_ _
    replace hGf := Lib.hid hGf
    replace hCu := Lib.hid hCu
    generalize wn.setCells X 0 [.int .i64 (id : Int), .int .i64 (rows : Int), .int .i64 (size : Int), .int .i64 T, .string (txt F)] = V1 at *
    have hd2 := dkIs_gr h1.out hGf.out
    obtain ⟨c0, c1, c2, c3, c4⟩ := dkb_cells hd2.blk
    have f0 : V1.frozen? ⟨D, 0, none⟩ = false := fzeroD hd2.blk 0
    have hDX : D < X := Nat.lt_of_lt_of_le hDlt.out hXg
    have hR1 : CuB V1 w.heap.size cu0 := gr_blk hGf.out hres.out (by simp)
    obtain ⟨V2, hV2⟩ : ∃ V2, V2 = V1.setCell ⟨D, 0, none⟩ (.int .i64 ((id : Int) + 1)) := ⟨_, rfl⟩
    have gV2 : GrB D V1 V2 := by rw [hV2]; exact gr_set V1 ⟨D, 0, none⟩ _
    have hb2 : DkB V2 D ((id : Int) + 1) now (.slice A n c) seg pts := by rw [hV2]; exact blk_set hd2.blk 0 _
    have ho2 : V2.ownsRow base 30 5 (.slice A n c) n (sR curC op) := own_farD hd2.own hd2.blk (by decide) gV2
    have hC2 : CuB V2 X ⟨(id : Int), (rows : Int), (size : Int), T, F⟩ := gr_blk gV2 hCu.out (by simp; omega)
    have hR2 : CuB V2 w.heap.size cu0 := gr_blk gV2 hR1 (by simp; have := hDw.out; omega)
    have hV2s := gV2.size
    have hV1s := hGf.out.size
    replace hb2 := Lib.hid hb2
    replace ho2 := Lib.hid ho2
    replace hC2 := Lib.hid hC2
    replace hR2 := Lib.hid hR2
    replace gV2 := Lib.hid gV2
    clear hd2 hR1 hCu
    go_upto_region 7 with fail
    rw [← hV2]
    clear hV2 c0 c1 c2 c3 c4 f0
    obtain ⟨c0, c1, c2, c3, c4⟩ := dkb_cells hb2.out
    obtain ⟨x0, x1, x2, x3, x4⟩ := cub_cells hC2.out
    simp only at x0 x1 x2 x3 x4
    have st7 : ∀ w', CuB w' X ⟨(id : Int), (rows : Int), (size : Int), T, F⟩ → (w'.cell? ⟨X, 0, none⟩ = some (.int .i64 (id : Int)) ∧ w'.cell? ⟨X, 1, none⟩ = some (.int .i64 (rows : Int)) ∧ w'.cell? ⟨X, 2, none⟩ = some (.int .i64 (size : Int)) ∧ w'.cell? ⟨X, 3, none⟩ = some (.int .i64 T) ∧ w'.cell? ⟨X, 4, none⟩ = some (.string (txt F))) := fun w' h => cub_cells h
    replace st7 := Lib.hid st7
    clear c0 c1 c2 c3 c4 x0 x1 x2 x3 x4
    have hCd : CuB V2.drew X ⟨(id : Int), (rows : Int), (size : Int), T, F⟩ := gr_blk (gr_drew V2 none) hC2.out (by simp)
    refine wp_region_held_drew (S := (fun w' => w'.cell? ⟨X, 0, none⟩ = some (.int .i64 (id : Int)) ∧ w'.cell? ⟨X, 1, none⟩ = some (.int .i64 (rows : Int)) ∧ w'.cell? ⟨X, 2, none⟩ = some (.int .i64 (size : Int)) ∧ w'.cell? ⟨X, 3, none⟩ = some (.int .i64 T) ∧ w'.cell? ⟨X, 4, none⟩ = some (.string (txt F)))) (by kernel_rfl) (st7.out _ hCd) (fun hHeld => ?_)
    have gd : Gr V2 V2.drew := gr_drew V2 none
    generalize V2.drew = wd7 at *
    have hbd : DkB wd7 D ((id : Int) + 1) now (.slice A n c) seg pts := gr_blk gd hb2.out (by simp)
    have c2 := (dkb_cells hbd).2.2.1
    have hod := ho2.out.kept gd (Classical.em _)
    have hRd : CuB wd7 w.heap.size cu0 := gr_blk gd hR2.out (by simp)
    refine wpAnyH_take (i := 0) (oi := ⟨some 50, _, _, _, _, _⟩) (v := ?_) rfl (by kernel_rfl) (by kernel_rfl) (by kernel_rfl) (fun _ _ _ h => h) (Or.inl ⟨by rfl, ?_⟩) hHeld ?_
    rotate_left
    · intro w hSw
      try dsimp only at hSw
      go_simp
      first | done | with_reducible rfl
    try simp only [Act.put, List.setIfInBounds_toArray, List.set_cons_zero, List.set_cons_succ]
    refine wpAnyH_take (i := 1) (oi := ⟨some 51, _, _, _, _, _⟩) (v := ?_) rfl (by kernel_rfl) (by kernel_rfl) (by kernel_rfl) (fun _ _ _ h => h) (Or.inl ⟨by rfl, ?_⟩) hHeld ?_
    rotate_left
    · intro w hSw
      try dsimp only at hSw
      go_simp
      first | done | with_reducible rfl
    try simp only [Act.put, List.setIfInBounds_toArray, List.set_cons_zero, List.set_cons_succ]
    refine wpAnyH_take (i := 2) (oi := ⟨some 52, _, _, _, _, _⟩) (v := ?_) rfl (by kernel_rfl) (by kernel_rfl) (by kernel_rfl) (fun _ _ _ h => h) (Or.inl ⟨by rfl, ?_⟩) hHeld ?_
    rotate_left
    · intro w hSw
      try dsimp only at hSw
      go_simp
      first | done | with_reducible rfl
    try simp only [Act.put, List.setIfInBounds_toArray, List.set_cons_zero, List.set_cons_succ]
    refine wpAnyH_take (i := 3) (oi := ⟨some 53, _, _, _, _, _⟩) (v := ?_) rfl (by kernel_rfl) (by kernel_rfl) (by kernel_rfl) (fun _ _ _ h => h) (Or.inl ⟨by rfl, ?_⟩) hHeld ?_
    rotate_left
    · intro w hSw
      try dsimp only at hSw
      go_simp
      first | done | with_reducible rfl
    try simp only [Act.put, List.setIfInBounds_toArray, List.set_cons_zero, List.set_cons_succ]
    refine wpAnyH_take (i := 4) (oi := ⟨some 54, _, _, _, _, _⟩) (v := ?_) rfl (by kernel_rfl) (by kernel_rfl) (by kernel_rfl) (fun _ _ _ h => h) (Or.inl ⟨by rfl, ?_⟩) hHeld ?_
    rotate_left
    · intro w hSw
      try dsimp only at hSw
      go_simp
      first | done | with_reducible rfl
    try simp only [Act.put, List.setIfInBounds_toArray, List.set_cons_zero, List.set_cons_succ]
    refine wpAnyH_take (i := 6) (oi := ⟨some 56, _, _, _, _, _⟩) (v := ?_) rfl (by kernel_rfl) (by kernel_rfl) (by kernel_rfl) (fun _ _ _ h => h) (Or.inl ⟨by rfl, ?_⟩) hHeld ?_
    rotate_left
    · intro w hSw
      try dsimp only at hSw
      go_simp
      first | done | with_reducible rfl
    try simp only [Act.put, List.setIfInBounds_toArray, List.set_cons_zero, List.set_cons_succ]
    refine wpAnyH_ready (rs := [5, 7]) (by kernel_rfl) (by simp) (AllReadyH.cons (o := _) rfl (fun K hK => ?_) (AllReadyH.cons (o := _) rfl (fun K hK => ?_) AllReadyH.nil))
    · go_simp
      refine hK.out _ _ ?_ (fun hHeld => ?_)
      · exact st7.out _ hCd
      clear hK K c2
      try clear c2b
      try simp only [Act.put, List.setIfInBounds_toArray, List.set_cons_zero, List.set_cons_succ]
      refine wpAnyH_ready (rs := [7]) (by kernel_rfl) (by simp) (AllReadyH.cons (o := _) rfl (fun K hK => ?_) AllReadyH.nil)
      go_simp
      have gA := gr_alloc wd7 (.cells #[.int .i64 (id : Int), .int .i64 (rows : Int), .int .i64 (size : Int), .int .i64 T, .string (txt F)] 30) none
      have hCa : CuB (wd7.alloc (.cells #[.int .i64 (id : Int), .int .i64 (rows : Int), .int .i64 (size : Int), .int .i64 T, .string (txt F)] 30)) X ⟨(id : Int), (rows : Int), (size : Int), T, F⟩ := gr_blk gA hCd (by simp)
      refine hK.out _ _ ?_ (fun hHeld => ?_)
      · exact st7.out _ hCa
      clear hK K
      try simp only [Act.put, List.setIfInBounds_toArray, List.set_cons_zero, List.set_cons_succ]
      have hoa := hod.kept gA (Classical.em _)
      have hba : DkB (wd7.alloc (.cells #[.int .i64 (id : Int), .int .i64 (rows : Int), .int .i64 (size : Int), .int .i64 T, .string (txt F)] 30)) D ((id : Int) + 1) now (.slice A n c) seg pts := gr_blk gA hbd (by simp)
      have hRa : CuB (wd7.alloc (.cells #[.int .i64 (id : Int), .int .i64 (rows : Int), .int .i64 (size : Int), .int .i64 T, .string (txt F)] 30)) w.heap.size cu0 := gr_blk gA hRd (by simp)
      have hnew : ∀ (j : Nat) (u : Value), ([.int .i64 (id : Int), .int .i64 (rows : Int), .int .i64 (size : Int), .int .i64 T, .string (txt F)] : List Value)[j]? = some u → (wd7.alloc (.cells #[.int .i64 (id : Int), .int .i64 (rows : Int), .int .i64 (size : Int), .int .i64 T, .string (txt F)] 30)).cell? ((⟨wd7.heap.size, 0, none⟩ : Addr).add j) = some u := fun j u hj => by
        rw [add_plain, Nat.zero_add, World.cell?_alloc_new]
        exact (show (#[.int .i64 (id : Int), .int .i64 (rows : Int), .int .i64 (size : Int), .int .i64 T, .string (txt F)] : Array Value)[j]? = some u by rw [← List.getElem?_toArray] at hj; exact hj)
      have hones : ∀ u ∈ ([.int .i64 (id : Int), .int .i64 (rows : Int), .int .i64 (size : Int), .int .i64 T, .string (txt F)] : List Value), u.oneCell' = true := by
        intro u hu
        simp only [List.mem_cons, List.not_mem_nil, or_false] at hu
        rcases hu with rfl | rfl | rfl | rfl | rfl <;> rfl
      have hsz7 : base ≤ (wd7.alloc (.cells #[.int .i64 (id : Int), .int .i64 (rows : Int), .int .i64 (size : Int), .int .i64 T, .string (txt F)] 30)).heap.size := Nat.le_trans hbw (Nat.le_trans (Nat.le_of_lt hs1w) (Nat.le_trans hV1s (Nat.le_trans hV2s (Nat.le_trans gd.size gA.size))))
      obtain ⟨N7, hN7⟩ : ∃ N7, N7 = wd7.heap.size := ⟨_, rfl⟩
      obtain ⟨wa, hwa⟩ : ∃ wa, wa = wd7.alloc (.cells #[.int .i64 (id : Int), .int .i64 (rows : Int), .int .i64 (size : Int), .int .i64 T, .string (txt F)] 30) := ⟨_, rfl⟩
      rw [← hwa] at gA hCa hHeld hoa hba hRa hnew hsz7 ⊢
      rw [← hN7] at hnew ⊢
      refine wpAnyH_ready (rs := [8]) (by kernel_rfl) (by simp) (AllReadyH.cons (o := _) rfl (fun K hK => ?_) AllReadyH.nil)
      refine step_append_strong rfl _ _ 25 rfl base 30 ii (.agg #[.int .i64 0, .int .i64 0, .int .i64 0, .int .i64 0, .string ⟨#[]⟩]) 5 48 Tryd.underlying25 hi hz0 hz1 hz2 rfl (by decide) (.slice A n c) n (sR curC op) rfl hoa ⟨N7, 0, none⟩ 1 1 [.int .i64 (id : Int), .int .i64 (rows : Int), .int .i64 (size : Int), .int .i64 T, .string (txt F)] rfl rfl hnew hones (by decide) (n + 1) rfl (by unfold maxLen; omega) (by omega) hsz7 ?_
      intro g cap W6 hown6 hat6
      have hgX : ∀ k, (Value.slice A n c).ownBlock = some k → k < w.heap.size := hob.out
      have g6 : wa.grownBy W6 (Value.slice A n c).ownBlock := by
        rcases hat6 with ⟨e6, h6⟩ | ⟨_, h6⟩
        · rw [e6]; exact h6
        · exact gr_more _ h6
      have hC6 : CuB W6 X ⟨(id : Int), (rows : Int), (size : Int), T, F⟩ := gr_blk g6 hCa (fun e => by have := hgX X e.symm; omega)
      have hR6 : CuB W6 w.heap.size cu0 := gr_blk g6 hRa (fun e => by have := hgX _ e.symm; omega)
      have hDg : some D ≠ (Value.slice A n c).ownBlock := fun e => dk_apart hba hoa e.symm
      have hb6 : DkB W6 D ((id : Int) + 1) now (.slice A n c) seg pts := gr_blk g6 hba hDg
      refine hK.out _ _ ?_ (fun hHeld => ?_)
      · exact st7.out _ hC6
      clear hK K
      try simp only [Act.put, List.setIfInBounds_toArray, List.set_cons_zero, List.set_cons_succ]
      
      refine wpAnyH_take (i := 9) (oi := ⟨some 59, _, _, _, _, _⟩) (v := ?_) rfl (by kernel_rfl) (by kernel_rfl) (by kernel_rfl) (fun _ _ _ h => h) (Or.inl ⟨by rfl, ?_⟩) hHeld ?_
      rotate_left
      · intro w hSw
        try dsimp only at hSw
        go_simp
        first | done | with_reducible rfl
      try simp only [Act.put, List.setIfInBounds_toArray, List.set_cons_zero, List.set_cons_succ]
      refine wpAnyH_take (i := 10) (oi := ⟨some 60, _, _, _, _, _⟩) (v := ?_) rfl (by kernel_rfl) (by kernel_rfl) (by kernel_rfl) (fun _ _ _ h => h) (Or.inl ⟨by rfl, ?_⟩) hHeld ?_
      rotate_left
      · intro w hSw
        try dsimp only at hSw
        go_simp
        first | done | with_reducible rfl
      try simp only [Act.put, List.setIfInBounds_toArray, List.set_cons_zero, List.set_cons_succ]
      refine wpAnyH_take (i := 11) (oi := ⟨some 61, _, _, _, _, _⟩) (v := ?_) rfl (by kernel_rfl) (by kernel_rfl) (by kernel_rfl) (fun _ _ _ h => h) (Or.inl ⟨by rfl, ?_⟩) hHeld ?_
      rotate_left
      · intro w hSw
        try dsimp only at hSw
        go_simp
        first | done | with_reducible rfl
      try simp only [Act.put, List.setIfInBounds_toArray, List.set_cons_zero, List.set_cons_succ]
      have d2 := (dkb_cells hb6).2.2.1
      have f2 : W6.frozen? ⟨D, 2, none⟩ = false := fzeroD hb6 2
      refine wpAnyH_ready (rs := [12]) (by kernel_rfl) (by simp) (AllReadyH.cons (o := _) rfl (fun K hK => ?_) AllReadyH.nil)
      go_simp
      obtain ⟨V5, hV5⟩ : ∃ V5, V5 = W6.setCell ⟨D, 2, none⟩ (.slice (some ⟨g, 0, none⟩) (n + 1) cap) := ⟨_, rfl⟩
      have g5 : GrB D W6 V5 := by rw [hV5]; exact gr_set W6 ⟨D, 2, none⟩ _
      have hb5 : DkB V5 D ((id : Int) + 1) now (.slice (some ⟨g, 0, none⟩) (n + 1) cap) seg pts := by rw [hV5]; exact blk_set hb6 2 _
      have hC5 : CuB V5 X ⟨(id : Int), (rows : Int), (size : Int), T, F⟩ := gr_blk g5 hC6 (by simp; omega)
      have hR5 : CuB V5 w.heap.size cu0 := gr_blk g5 hR6 (by simp; have := hDw.out; omega)
      have ho5 := own_farD hown6 hb6 (by decide) g5
      rw [← hV5]
      refine hK.out _ _ ?_ (fun hHeld => ?_)
      · exact st7.out _ hC5
      clear hK K hHeld hV5 d2 f2
      try simp only [Act.put, List.setIfInBounds_toArray, List.set_cons_zero, List.set_cons_succ]
      refine wpAnyH_done (by kernel_rfl) ?_ _
      have gS0 : GrS (TnD D (Value.slice A n c).ownBlock) w V5 := by
        have q1 : GrS (TnD D (Value.slice A n c).ownBlock) w V1 := grs_gr _ (gr_trans g1.out hGf.out)
        have q2 := grs_then q1 gV2.out (fun k hk _ => .inl (Option.some.inj hk).symm)
        have q3 := grs_then q2 (gr_trans gd gA) (by simp)
        have q4 := grs_then q3 g6 (fun k hk _ => .inr hk)
        exact grs_then q4 g5 (fun k hk _ => .inl (Option.some.inj hk).symm)
      have hth5 := cub_there hR5
      obtain ⟨x0, x1, x2, x3, x4⟩ := cub_cells hC5
      simp only at x0 x1 x2 x3 x4
      have hsame := World.rangeAt_setCells_same V5 w.heap.size 0 [.int .i64 (id : Int), .int .i64 (rows : Int), .int .i64 (size : Int), .int .i64 T, .string (txt F)] hth5
      have r0 := hsame 0 _ rfl
      have r1 := hsame 1 _ rfl
      have r2 := hsame 2 _ rfl
      have r3 := hsame 3 _ rfl
      have r4 := hsame 4 _ rfl
      simp only [Nat.zero_add] at r0 r1 r2 r3 r4
      have hgs := gr_setCells V5 w.heap.size 0 [.int .i64 (id : Int), .int .i64 (rows : Int), .int .i64 (size : Int), .int .i64 T, .string (txt F)]
      have hbF : DkB (V5.setCells w.heap.size 0 [.int .i64 (id : Int), .int .i64 (rows : Int), .int .i64 (size : Int), .int .i64 T, .string (txt F)]) D ((id : Int) + 1) now (.slice (some ⟨g, 0, none⟩) (n + 1) cap) seg pts := gr_blk hgs hb5 (by simp; have := hDw.out; omega)
      have hgR : (Value.slice (some ⟨g, 0, none⟩) (n + 1) cap).ownBlock ≠ some w.heap.size := by
        rcases hat6 with ⟨e6, _⟩ | ⟨e6, _⟩
        · intro e; have h7 := hgX g e6; have h8 : g = w.heap.size := by simpa [Value.ownBlock] using e
          omega
        · intro e; have h9 := lt_of_blk hRa; have h8 : g = w.heap.size := by simpa [Value.ownBlock] using e
          omega
      have hoF := ho5.kept hgs (.inr hgR)
      have gSF := grs_then gS0 hgs (fun k hk hlt => by have := Option.some.inj hk; omega)
      replace hbF := Lib.hid hbF
      replace hoF := Lib.hid hoF
      replace gSF := Lib.hid gSF
      clear hsame hgs hat6 g6 g5 hgX hDg
      go_wp2_with (refine wpList_store_mid (op := ⟨none, _, _, _, _, _⟩) rfl 30 _ _ rfl w.heap.size 0 #[.int .i64 (id : Int), .int .i64 (rows : Int), .int .i64 (size : Int), .int .i64 T, .string (txt F)] rfl rfl hth5 infoCu (by simp [Value.oneCell']) ?_)
      (try simp only [Exit.inBlock, Exit.then])
      refine bodyPost_ret (by simp [results, Tryd.results10, go_sem, r0, r1, r2, r3, r4]; try rfl) rfl ?_
      refine ⟨rfl, ⟨some ⟨g, 0, none⟩, cap, ⟨hbF.out, ?_⟩⟩, gSF.out⟩
      have := hoF.out
      rw [sR_append, sR_one]
      exact this
    · go_simp
      have gA := gr_alloc wd7 (.cells #[.int .i64 (id : Int), .int .i64 (rows : Int), .int .i64 (size : Int), .int .i64 T, .string (txt F)] 30) none
      have hCa : CuB (wd7.alloc (.cells #[.int .i64 (id : Int), .int .i64 (rows : Int), .int .i64 (size : Int), .int .i64 T, .string (txt F)] 30)) X ⟨(id : Int), (rows : Int), (size : Int), T, F⟩ := gr_blk gA hCd (by simp)
      refine hK.out _ _ ?_ (fun hHeld => ?_)
      · exact st7.out _ hCa
      clear hK K
      try simp only [Act.put, List.setIfInBounds_toArray, List.set_cons_zero, List.set_cons_succ]
      have hoa := hod.kept gA (Classical.em _)
      have hba : DkB (wd7.alloc (.cells #[.int .i64 (id : Int), .int .i64 (rows : Int), .int .i64 (size : Int), .int .i64 T, .string (txt F)] 30)) D ((id : Int) + 1) now (.slice A n c) seg pts := gr_blk gA hbd (by simp)
      have hRa : CuB (wd7.alloc (.cells #[.int .i64 (id : Int), .int .i64 (rows : Int), .int .i64 (size : Int), .int .i64 T, .string (txt F)] 30)) w.heap.size cu0 := gr_blk gA hRd (by simp)
      have hnew : ∀ (j : Nat) (u : Value), ([.int .i64 (id : Int), .int .i64 (rows : Int), .int .i64 (size : Int), .int .i64 T, .string (txt F)] : List Value)[j]? = some u → (wd7.alloc (.cells #[.int .i64 (id : Int), .int .i64 (rows : Int), .int .i64 (size : Int), .int .i64 T, .string (txt F)] 30)).cell? ((⟨wd7.heap.size, 0, none⟩ : Addr).add j) = some u := fun j u hj => by
        rw [add_plain, Nat.zero_add, World.cell?_alloc_new]
        exact (show (#[.int .i64 (id : Int), .int .i64 (rows : Int), .int .i64 (size : Int), .int .i64 T, .string (txt F)] : Array Value)[j]? = some u by rw [← List.getElem?_toArray] at hj; exact hj)
      have hones : ∀ u ∈ ([.int .i64 (id : Int), .int .i64 (rows : Int), .int .i64 (size : Int), .int .i64 T, .string (txt F)] : List Value), u.oneCell' = true := by
        intro u hu
        simp only [List.mem_cons, List.not_mem_nil, or_false] at hu
        rcases hu with rfl | rfl | rfl | rfl | rfl <;> rfl
      have hsz7 : base ≤ (wd7.alloc (.cells #[.int .i64 (id : Int), .int .i64 (rows : Int), .int .i64 (size : Int), .int .i64 T, .string (txt F)] 30)).heap.size := Nat.le_trans hbw (Nat.le_trans (Nat.le_of_lt hs1w) (Nat.le_trans hV1s (Nat.le_trans hV2s (Nat.le_trans gd.size gA.size))))
      have c2 := (dkb_cells hba).2.2.1
      refine wpAnyH_ready (rs := [5]) (by kernel_rfl) (by simp) (AllReadyH.cons (o := _) rfl (fun K hK => ?_) AllReadyH.nil)
      go_simp
      refine hK.out _ _ ?_ (fun hHeld => ?_)
      · exact st7.out _ hCa
      clear hK K c2
      try clear c2b
      try simp only [Act.put, List.setIfInBounds_toArray, List.set_cons_zero, List.set_cons_succ]
      obtain ⟨N7, hN7⟩ : ∃ N7, N7 = wd7.heap.size := ⟨_, rfl⟩
      obtain ⟨wa, hwa⟩ : ∃ wa, wa = wd7.alloc (.cells #[.int .i64 (id : Int), .int .i64 (rows : Int), .int .i64 (size : Int), .int .i64 T, .string (txt F)] 30) := ⟨_, rfl⟩
      rw [← hwa] at gA hCa hHeld hoa hba hRa hnew hsz7 ⊢
      rw [← hN7] at hnew ⊢
      refine wpAnyH_ready (rs := [8]) (by kernel_rfl) (by simp) (AllReadyH.cons (o := _) rfl (fun K hK => ?_) AllReadyH.nil)
      refine step_append_strong rfl _ _ 25 rfl base 30 ii (.agg #[.int .i64 0, .int .i64 0, .int .i64 0, .int .i64 0, .string ⟨#[]⟩]) 5 48 Tryd.underlying25 hi hz0 hz1 hz2 rfl (by decide) (.slice A n c) n (sR curC op) rfl hoa ⟨N7, 0, none⟩ 1 1 [.int .i64 (id : Int), .int .i64 (rows : Int), .int .i64 (size : Int), .int .i64 T, .string (txt F)] rfl rfl hnew hones (by decide) (n + 1) rfl (by unfold maxLen; omega) (by omega) hsz7 ?_
      intro g cap W6 hown6 hat6
      have hgX : ∀ k, (Value.slice A n c).ownBlock = some k → k < w.heap.size := hob.out
      have g6 : wa.grownBy W6 (Value.slice A n c).ownBlock := by
        rcases hat6 with ⟨e6, h6⟩ | ⟨_, h6⟩
        · rw [e6]; exact h6
        · exact gr_more _ h6
      have hC6 : CuB W6 X ⟨(id : Int), (rows : Int), (size : Int), T, F⟩ := gr_blk g6 hCa (fun e => by have := hgX X e.symm; omega)
      have hR6 : CuB W6 w.heap.size cu0 := gr_blk g6 hRa (fun e => by have := hgX _ e.symm; omega)
      have hDg : some D ≠ (Value.slice A n c).ownBlock := fun e => dk_apart hba hoa e.symm
      have hb6 : DkB W6 D ((id : Int) + 1) now (.slice A n c) seg pts := gr_blk g6 hba hDg
      refine hK.out _ _ ?_ (fun hHeld => ?_)
      · exact st7.out _ hC6
      clear hK K
      try simp only [Act.put, List.setIfInBounds_toArray, List.set_cons_zero, List.set_cons_succ]
      
      refine wpAnyH_take (i := 9) (oi := ⟨some 59, _, _, _, _, _⟩) (v := ?_) rfl (by kernel_rfl) (by kernel_rfl) (by kernel_rfl) (fun _ _ _ h => h) (Or.inl ⟨by rfl, ?_⟩) hHeld ?_
      rotate_left
      · intro w hSw
        try dsimp only at hSw
        go_simp
        first | done | with_reducible rfl
      try simp only [Act.put, List.setIfInBounds_toArray, List.set_cons_zero, List.set_cons_succ]
      refine wpAnyH_take (i := 10) (oi := ⟨some 60, _, _, _, _, _⟩) (v := ?_) rfl (by kernel_rfl) (by kernel_rfl) (by kernel_rfl) (fun _ _ _ h => h) (Or.inl ⟨by rfl, ?_⟩) hHeld ?_
      rotate_left
      · intro w hSw
        try dsimp only at hSw
        go_simp
        first | done | with_reducible rfl
      try simp only [Act.put, List.setIfInBounds_toArray, List.set_cons_zero, List.set_cons_succ]
      refine wpAnyH_take (i := 11) (oi := ⟨some 61, _, _, _, _, _⟩) (v := ?_) rfl (by kernel_rfl) (by kernel_rfl) (by kernel_rfl) (fun _ _ _ h => h) (Or.inl ⟨by rfl, ?_⟩) hHeld ?_
      rotate_left
      · intro w hSw
        try dsimp only at hSw
        go_simp
        first | done | with_reducible rfl
      try simp only [Act.put, List.setIfInBounds_toArray, List.set_cons_zero, List.set_cons_succ]
      have d2 := (dkb_cells hb6).2.2.1
      have f2 : W6.frozen? ⟨D, 2, none⟩ = false := fzeroD hb6 2
      refine wpAnyH_ready (rs := [12]) (by kernel_rfl) (by simp) (AllReadyH.cons (o := _) rfl (fun K hK => ?_) AllReadyH.nil)
      go_simp
      obtain ⟨V5, hV5⟩ : ∃ V5, V5 = W6.setCell ⟨D, 2, none⟩ (.slice (some ⟨g, 0, none⟩) (n + 1) cap) := ⟨_, rfl⟩
      have g5 : GrB D W6 V5 := by rw [hV5]; exact gr_set W6 ⟨D, 2, none⟩ _
      have hb5 : DkB V5 D ((id : Int) + 1) now (.slice (some ⟨g, 0, none⟩) (n + 1) cap) seg pts := by rw [hV5]; exact blk_set hb6 2 _
      have hC5 : CuB V5 X ⟨(id : Int), (rows : Int), (size : Int), T, F⟩ := gr_blk g5 hC6 (by simp; omega)
      have hR5 : CuB V5 w.heap.size cu0 := gr_blk g5 hR6 (by simp; have := hDw.out; omega)
      have ho5 := own_farD hown6 hb6 (by decide) g5
      rw [← hV5]
      refine hK.out _ _ ?_ (fun hHeld => ?_)
      · exact st7.out _ hC5
      clear hK K hHeld hV5 d2 f2
      try simp only [Act.put, List.setIfInBounds_toArray, List.set_cons_zero, List.set_cons_succ]
      refine wpAnyH_done (by kernel_rfl) ?_ _
      have gS0 : GrS (TnD D (Value.slice A n c).ownBlock) w V5 := by
        have q1 : GrS (TnD D (Value.slice A n c).ownBlock) w V1 := grs_gr _ (gr_trans g1.out hGf.out)
        have q2 := grs_then q1 gV2.out (fun k hk _ => .inl (Option.some.inj hk).symm)
        have q3 := grs_then q2 (gr_trans gd gA) (by simp)
        have q4 := grs_then q3 g6 (fun k hk _ => .inr hk)
        exact grs_then q4 g5 (fun k hk _ => .inl (Option.some.inj hk).symm)
      have hth5 := cub_there hR5
      obtain ⟨x0, x1, x2, x3, x4⟩ := cub_cells hC5
      simp only at x0 x1 x2 x3 x4
      have hsame := World.rangeAt_setCells_same V5 w.heap.size 0 [.int .i64 (id : Int), .int .i64 (rows : Int), .int .i64 (size : Int), .int .i64 T, .string (txt F)] hth5
      have r0 := hsame 0 _ rfl
      have r1 := hsame 1 _ rfl
      have r2 := hsame 2 _ rfl
      have r3 := hsame 3 _ rfl
      have r4 := hsame 4 _ rfl
      simp only [Nat.zero_add] at r0 r1 r2 r3 r4
      have hgs := gr_setCells V5 w.heap.size 0 [.int .i64 (id : Int), .int .i64 (rows : Int), .int .i64 (size : Int), .int .i64 T, .string (txt F)]
      have hbF : DkB (V5.setCells w.heap.size 0 [.int .i64 (id : Int), .int .i64 (rows : Int), .int .i64 (size : Int), .int .i64 T, .string (txt F)]) D ((id : Int) + 1) now (.slice (some ⟨g, 0, none⟩) (n + 1) cap) seg pts := gr_blk hgs hb5 (by simp; have := hDw.out; omega)
      have hgR : (Value.slice (some ⟨g, 0, none⟩) (n + 1) cap).ownBlock ≠ some w.heap.size := by
        rcases hat6 with ⟨e6, _⟩ | ⟨e6, _⟩
        · intro e; have h7 := hgX g e6; have h8 : g = w.heap.size := by simpa [Value.ownBlock] using e
          omega
        · intro e; have h9 := lt_of_blk hRa; have h8 : g = w.heap.size := by simpa [Value.ownBlock] using e
          omega
      have hoF := ho5.kept hgs (.inr hgR)
      have gSF := grs_then gS0 hgs (fun k hk hlt => by have := Option.some.inj hk; omega)
      replace hbF := Lib.hid hbF
      replace hoF := Lib.hid hoF
      replace gSF := Lib.hid gSF
      clear hsame hgs hat6 g6 g5 hgX hDg
      go_wp2_with (refine wpList_store_mid (op := ⟨none, _, _, _, _, _⟩) rfl 30 _ _ rfl w.heap.size 0 #[.int .i64 (id : Int), .int .i64 (rows : Int), .int .i64 (size : Int), .int .i64 T, .string (txt F)] rfl rfl hth5 infoCu (by simp [Value.oneCell']) ?_)
      (try simp only [Exit.inBlock, Exit.then])
      refine bodyPost_ret (by simp [results, Tryd.results10, go_sem, r0, r1, r2, r3, r4]; try rfl) rfl ?_
      refine ⟨rfl, ⟨some ⟨g, 0, none⟩, cap, ⟨hbF.out, ?_⟩⟩, gSF.out⟩
      have := hoF.out
      rw [sR_append, sR_one]
      exact this
  · skip
    go_simp
    refine hK.out _ _ ?_ (fun hHeld => ?_)
    · exact st.out _ (gr_trans hG (gr_alloc _ _ _))
    clear hK K
    try simp only [Act.put, List.setIfInBounds_toArray, List.set_cons_zero, List.set_cons_succ]
    have hal := blk_new wd (.cells #[.int .i64 0, .int .i64 0, .int .i64 0, .int .i64 0, .string ⟨#[]⟩] 30)
    have hXg := hG.size
    have hG := gr_trans hG (gr_alloc wd (.cells #[.int .i64 0, .int .i64 0, .int .i64 0, .int .i64 0, .string ⟨#[]⟩] 30) none)
    obtain ⟨wn, hN⟩ : ∃ wn, wn = wd.alloc (.cells #[.int .i64 0, .int .i64 0, .int .i64 0, .int .i64 0, .string ⟨#[]⟩] 30) := ⟨_, rfl⟩
    obtain ⟨X, hX⟩ : ∃ X, X = wd.heap.size := ⟨_, rfl⟩
    rw [← hN] at hal hG hHeld ⊢
    rw [← hX] at hal hXg ⊢
    replace hal : CuB wn X cu0 := hal
    clear hN hX
    refine wpAnyH_ready (rs := [11]) (by kernel_rfl) (by simp) (AllReadyH.cons (o := _) rfl (fun K hK => ?_) AllReadyH.nil)
    go_simp
    refine (cI.out _ hG).mono ?_
    rintro e wz ⟨rfl, gz⟩
    try (go_wp2_with fail)
    have hG := gr_trans hG gz
    have hal : CuB wz X cu0 := gr_blk gz hal (by simp)
    refine hK.out _ _ ?_ (fun hHeld => ?_)
    · exact st.out _ hG
    clear hK K gz
    try simp only [Act.put, List.setIfInBounds_toArray, List.set_cons_zero, List.set_cons_succ]
    refine wpAnyH_take (i := 12) (oi := ⟨some 39, _, _, _, _, _⟩) (v := ?_) rfl (by kernel_rfl) (by kernel_rfl) (by kernel_rfl) (fun _ _ _ h => h) (Or.inl ⟨by rfl, ?_⟩) hHeld ?_
    rotate_left
    · intro w hSw
      try dsimp only at hSw
      go_simp
      first | done | with_reducible rfl
    try simp only [Act.put, List.setIfInBounds_toArray, List.set_cons_zero, List.set_cons_succ]
    refine wpAnyH_take (i := 13) (oi := ⟨some 40, _, _, _, _, _⟩) (v := ?_) rfl (by kernel_rfl) (by kernel_rfl) (by kernel_rfl) (fun _ _ _ h => h) (Or.inl ⟨by rfl, ?_⟩) hHeld ?_
    rotate_left
    · intro w hSw
      try dsimp only at hSw
      go_simp
      first | done | with_reducible rfl
    try simp only [Act.put, List.setIfInBounds_toArray, List.set_cons_zero, List.set_cons_succ]
    refine wpAnyH_ready (rs := [15]) (by kernel_rfl) (by simp) (AllReadyH.cons (o := _) rfl (fun K hK => ?_) AllReadyH.nil)
    have hth := cub_there hal
    have gS := gr_setCells wz X 0 [.int .i64 (id : Int), .int .i64 (rows : Int), .int .i64 (size : Int), .int .i64 T, .string (txt F)]
    have hGf : Gr W1 (wz.setCells X 0 [.int .i64 (id : Int), .int .i64 (rows : Int), .int .i64 (size : Int), .int .i64 T, .string (txt F)]) := gr_of_below ((gr_below hG).grown gS hG.size (by intro k hk; cases hk; exact hXg)) (Nat.le_refl _)
    have hCu : CuB (wz.setCells X 0 [.int .i64 (id : Int), .int .i64 (rows : Int), .int .i64 (size : Int), .int .i64 T, .string (txt F)]) X ⟨(id : Int), (rows : Int), (size : Int), T, F⟩ := blk_set (blk_set (blk_set (blk_set (blk_set hal 0 _) 1 _) 2 _) 3 _) 4 _
    refine step_store_mid rfl 30 _ _ rfl X 0 #[.int .i64 (id : Int), .int .i64 (rows : Int), .int .i64 (size : Int), .int .i64 T, .string (txt F)] rfl rfl hth infoCu (by simp [Value.oneCell']) ?_
    refine hK.out _ _ ?_ (fun hHeld => ?_)
    · exact st.out _ hGf
    clear hK K hHeld
    try simp only [Act.put, List.setIfInBounds_toArray, List.set_cons_zero, List.set_cons_succ]
    refine wpAnyH_done (by kernel_rfl) ?_ _
    replace hGf := Lib.hid hGf
    replace hCu := Lib.hid hCu
    generalize wz.setCells X 0 [.int .i64 (id : Int), .int .i64 (rows : Int), .int .i64 (size : Int), .int .i64 T, .string (txt F)] = V1 at *
    have hd2 := dkIs_gr h1.out hGf.out
    obtain ⟨c0, c1, c2, c3, c4⟩ := dkb_cells hd2.blk
    have f0 : V1.frozen? ⟨D, 0, none⟩ = false := fzeroD hd2.blk 0
    have hDX : D < X := Nat.lt_of_lt_of_le hDlt.out hXg
    have hR1 : CuB V1 w.heap.size cu0 := gr_blk hGf.out hres.out (by simp)
    obtain ⟨V2, hV2⟩ : ∃ V2, V2 = V1.setCell ⟨D, 0, none⟩ (.int .i64 ((id : Int) + 1)) := ⟨_, rfl⟩
    have gV2 : GrB D V1 V2 := by rw [hV2]; exact gr_set V1 ⟨D, 0, none⟩ _
    have hb2 : DkB V2 D ((id : Int) + 1) now (.slice A n c) seg pts := by rw [hV2]; exact blk_set hd2.blk 0 _
    have ho2 : V2.ownsRow base 30 5 (.slice A n c) n (sR curC op) := own_farD hd2.own hd2.blk (by decide) gV2
    have hC2 : CuB V2 X ⟨(id : Int), (rows : Int), (size : Int), T, F⟩ := gr_blk gV2 hCu.out (by simp; omega)
    have hR2 : CuB V2 w.heap.size cu0 := gr_blk gV2 hR1 (by simp; have := hDw.out; omega)
    have hV2s := gV2.size
    have hV1s := hGf.out.size
    replace hb2 := Lib.hid hb2
    replace ho2 := Lib.hid ho2
    replace hC2 := Lib.hid hC2
    replace hR2 := Lib.hid hR2
    replace gV2 := Lib.hid gV2
    clear hd2 hR1 hCu
    go_upto_region 7 with fail
    rw [← hV2]
    clear hV2 c0 c1 c2 c3 c4 f0
    obtain ⟨c0, c1, c2, c3, c4⟩ := dkb_cells hb2.out
    obtain ⟨x0, x1, x2, x3, x4⟩ := cub_cells hC2.out
    simp only at x0 x1 x2 x3 x4
    have st7 : ∀ w', CuB w' X ⟨(id : Int), (rows : Int), (size : Int), T, F⟩ → (w'.cell? ⟨X, 0, none⟩ = some (.int .i64 (id : Int)) ∧ w'.cell? ⟨X, 1, none⟩ = some (.int .i64 (rows : Int)) ∧ w'.cell? ⟨X, 2, none⟩ = some (.int .i64 (size : Int)) ∧ w'.cell? ⟨X, 3, none⟩ = some (.int .i64 T) ∧ w'.cell? ⟨X, 4, none⟩ = some (.string (txt F))) := fun w' h => cub_cells h
    replace st7 := Lib.hid st7
    clear c0 c1 c2 c3 c4 x0 x1 x2 x3 x4
    have hCd : CuB V2.drew X ⟨(id : Int), (rows : Int), (size : Int), T, F⟩ := gr_blk (gr_drew V2 none) hC2.out (by simp)
    refine wp_region_held_drew (S := (fun w' => w'.cell? ⟨X, 0, none⟩ = some (.int .i64 (id : Int)) ∧ w'.cell? ⟨X, 1, none⟩ = some (.int .i64 (rows : Int)) ∧ w'.cell? ⟨X, 2, none⟩ = some (.int .i64 (size : Int)) ∧ w'.cell? ⟨X, 3, none⟩ = some (.int .i64 T) ∧ w'.cell? ⟨X, 4, none⟩ = some (.string (txt F)))) (by kernel_rfl) (st7.out _ hCd) (fun hHeld => ?_)
    have gd : Gr V2 V2.drew := gr_drew V2 none
    generalize V2.drew = wd7 at *
    have hbd : DkB wd7 D ((id : Int) + 1) now (.slice A n c) seg pts := gr_blk gd hb2.out (by simp)
    have c2 := (dkb_cells hbd).2.2.1
    have hod := ho2.out.kept gd (Classical.em _)
    have hRd : CuB wd7 w.heap.size cu0 := gr_blk gd hR2.out (by simp)
    refine wpAnyH_take (i := 0) (oi := ⟨some 50, _, _, _, _, _⟩) (v := ?_) rfl (by kernel_rfl) (by kernel_rfl) (by kernel_rfl) (fun _ _ _ h => h) (Or.inl ⟨by rfl, ?_⟩) hHeld ?_
    rotate_left
    · intro w hSw
      try dsimp only at hSw
      go_simp
      first | done | with_reducible rfl
    try simp only [Act.put, List.setIfInBounds_toArray, List.set_cons_zero, List.set_cons_succ]
    refine wpAnyH_take (i := 1) (oi := ⟨some 51, _, _, _, _, _⟩) (v := ?_) rfl (by kernel_rfl) (by kernel_rfl) (by kernel_rfl) (fun _ _ _ h => h) (Or.inl ⟨by rfl, ?_⟩) hHeld ?_
    rotate_left
    · intro w hSw
      try dsimp only at hSw
      go_simp
      first | done | with_reducible rfl
    try simp only [Act.put, List.setIfInBounds_toArray, List.set_cons_zero, List.set_cons_succ]
    refine wpAnyH_take (i := 2) (oi := ⟨some 52, _, _, _, _, _⟩) (v := ?_) rfl (by kernel_rfl) (by kernel_rfl) (by kernel_rfl) (fun _ _ _ h => h) (Or.inl ⟨by rfl, ?_⟩) hHeld ?_
    rotate_left
    · intro w hSw
      try dsimp only at hSw
      go_simp
      first | done | with_reducible rfl
    try simp only [Act.put, List.setIfInBounds_toArray, List.set_cons_zero, List.set_cons_succ]
    refine wpAnyH_take (i := 3) (oi := ⟨some 53, _, _, _, _, _⟩) (v := ?_) rfl (by kernel_rfl) (by kernel_rfl) (by kernel_rfl) (fun _ _ _ h => h) (Or.inl ⟨by rfl, ?_⟩) hHeld ?_
    rotate_left
    · intro w hSw
      try dsimp only at hSw
      go_simp
      first | done | with_reducible rfl
    try simp only [Act.put, List.setIfInBounds_toArray, List.set_cons_zero, List.set_cons_succ]
    refine wpAnyH_take (i := 4) (oi := ⟨some 54, _, _, _, _, _⟩) (v := ?_) rfl (by kernel_rfl) (by kernel_rfl) (by kernel_rfl) (fun _ _ _ h => h) (Or.inl ⟨by rfl, ?_⟩) hHeld ?_
    rotate_left
    · intro w hSw
      try dsimp only at hSw
      go_simp
      first | done | with_reducible rfl
    try simp only [Act.put, List.setIfInBounds_toArray, List.set_cons_zero, List.set_cons_succ]
    refine wpAnyH_take (i := 6) (oi := ⟨some 56, _, _, _, _, _⟩) (v := ?_) rfl (by kernel_rfl) (by kernel_rfl) (by kernel_rfl) (fun _ _ _ h => h) (Or.inl ⟨by rfl, ?_⟩) hHeld ?_
    rotate_left
    · intro w hSw
      try dsimp only at hSw
      go_simp
      first | done | with_reducible rfl
    try simp only [Act.put, List.setIfInBounds_toArray, List.set_cons_zero, List.set_cons_succ]
    refine wpAnyH_ready (rs := [5, 7]) (by kernel_rfl) (by simp) (AllReadyH.cons (o := _) rfl (fun K hK => ?_) (AllReadyH.cons (o := _) rfl (fun K hK => ?_) AllReadyH.nil))
    · go_simp
      refine hK.out _ _ ?_ (fun hHeld => ?_)
      · exact st7.out _ hCd
      clear hK K c2
      try clear c2b
      try simp only [Act.put, List.setIfInBounds_toArray, List.set_cons_zero, List.set_cons_succ]
      refine wpAnyH_ready (rs := [7]) (by kernel_rfl) (by simp) (AllReadyH.cons (o := _) rfl (fun K hK => ?_) AllReadyH.nil)
      go_simp
      have gA := gr_alloc wd7 (.cells #[.int .i64 (id : Int), .int .i64 (rows : Int), .int .i64 (size : Int), .int .i64 T, .string (txt F)] 30) none
      have hCa : CuB (wd7.alloc (.cells #[.int .i64 (id : Int), .int .i64 (rows : Int), .int .i64 (size : Int), .int .i64 T, .string (txt F)] 30)) X ⟨(id : Int), (rows : Int), (size : Int), T, F⟩ := gr_blk gA hCd (by simp)
      refine hK.out _ _ ?_ (fun hHeld => ?_)
      · exact st7.out _ hCa
      clear hK K
      try simp only [Act.put, List.setIfInBounds_toArray, List.set_cons_zero, List.set_cons_succ]
      have hoa := hod.kept gA (Classical.em _)
      have hba : DkB (wd7.alloc (.cells #[.int .i64 (id : Int), .int .i64 (rows : Int), .int .i64 (size : Int), .int .i64 T, .string (txt F)] 30)) D ((id : Int) + 1) now (.slice A n c) seg pts := gr_blk gA hbd (by simp)
      have hRa : CuB (wd7.alloc (.cells #[.int .i64 (id : Int), .int .i64 (rows : Int), .int .i64 (size : Int), .int .i64 T, .string (txt F)] 30)) w.heap.size cu0 := gr_blk gA hRd (by simp)
      have hnew : ∀ (j : Nat) (u : Value), ([.int .i64 (id : Int), .int .i64 (rows : Int), .int .i64 (size : Int), .int .i64 T, .string (txt F)] : List Value)[j]? = some u → (wd7.alloc (.cells #[.int .i64 (id : Int), .int .i64 (rows : Int), .int .i64 (size : Int), .int .i64 T, .string (txt F)] 30)).cell? ((⟨wd7.heap.size, 0, none⟩ : Addr).add j) = some u := fun j u hj => by
        rw [add_plain, Nat.zero_add, World.cell?_alloc_new]
        exact (show (#[.int .i64 (id : Int), .int .i64 (rows : Int), .int .i64 (size : Int), .int .i64 T, .string (txt F)] : Array Value)[j]? = some u by rw [← List.getElem?_toArray] at hj; exact hj)
      have hones : ∀ u ∈ ([.int .i64 (id : Int), .int .i64 (rows : Int), .int .i64 (size : Int), .int .i64 T, .string (txt F)] : List Value), u.oneCell' = true := by
        intro u hu
        simp only [List.mem_cons, List.not_mem_nil, or_false] at hu
        rcases hu with rfl | rfl | rfl | rfl | rfl <;> rfl
      have hsz7 : base ≤ (wd7.alloc (.cells #[.int .i64 (id : Int), .int .i64 (rows : Int), .int .i64 (size : Int), .int .i64 T, .string (txt F)] 30)).heap.size := Nat.le_trans hbw (Nat.le_trans (Nat.le_of_lt hs1w) (Nat.le_trans hV1s (Nat.le_trans hV2s (Nat.le_trans gd.size gA.size))))
      obtain ⟨N7, hN7⟩ : ∃ N7, N7 = wd7.heap.size := ⟨_, rfl⟩
      obtain ⟨wa, hwa⟩ : ∃ wa, wa = wd7.alloc (.cells #[.int .i64 (id : Int), .int .i64 (rows : Int), .int .i64 (size : Int), .int .i64 T, .string (txt F)] 30) := ⟨_, rfl⟩
      rw [← hwa] at gA hCa hHeld hoa hba hRa hnew hsz7 ⊢
      rw [← hN7] at hnew ⊢
      refine wpAnyH_ready (rs := [8]) (by kernel_rfl) (by simp) (AllReadyH.cons (o := _) rfl (fun K hK => ?_) AllReadyH.nil)
      refine step_append_strong rfl _ _ 25 rfl base 30 ii (.agg #[.int .i64 0, .int .i64 0, .int .i64 0, .int .i64 0, .string ⟨#[]⟩]) 5 48 Tryd.underlying25 hi hz0 hz1 hz2 rfl (by decide) (.slice A n c) n (sR curC op) rfl hoa ⟨N7, 0, none⟩ 1 1 [.int .i64 (id : Int), .int .i64 (rows : Int), .int .i64 (size : Int), .int .i64 T, .string (txt F)] rfl rfl hnew hones (by decide) (n + 1) rfl (by unfold maxLen; omega) (by omega) hsz7 ?_
      intro g cap W6 hown6 hat6
      have hgX : ∀ k, (Value.slice A n c).ownBlock = some k → k < w.heap.size := hob.out
      have g6 : wa.grownBy W6 (Value.slice A n c).ownBlock := by
        rcases hat6 with ⟨e6, h6⟩ | ⟨_, h6⟩
        · rw [e6]; exact h6
        · exact gr_more _ h6
      have hC6 : CuB W6 X ⟨(id : Int), (rows : Int), (size : Int), T, F⟩ := gr_blk g6 hCa (fun e => by have := hgX X e.symm; omega)
      have hR6 : CuB W6 w.heap.size cu0 := gr_blk g6 hRa (fun e => by have := hgX _ e.symm; omega)
      have hDg : some D ≠ (Value.slice A n c).ownBlock := fun e => dk_apart hba hoa e.symm
      have hb6 : DkB W6 D ((id : Int) + 1) now (.slice A n c) seg pts := gr_blk g6 hba hDg
      refine hK.out _ _ ?_ (fun hHeld => ?_)
      · exact st7.out _ hC6
      clear hK K
      try simp only [Act.put, List.setIfInBounds_toArray, List.set_cons_zero, List.set_cons_succ]
      
      refine wpAnyH_take (i := 9) (oi := ⟨some 59, _, _, _, _, _⟩) (v := ?_) rfl (by kernel_rfl) (by kernel_rfl) (by kernel_rfl) (fun _ _ _ h => h) (Or.inl ⟨by rfl, ?_⟩) hHeld ?_
      rotate_left
      · intro w hSw
        try dsimp only at hSw
        go_simp
        first | done | with_reducible rfl
      try simp only [Act.put, List.setIfInBounds_toArray, List.set_cons_zero, List.set_cons_succ]
      refine wpAnyH_take (i := 10) (oi := ⟨some 60, _, _, _, _, _⟩) (v := ?_) rfl (by kernel_rfl) (by kernel_rfl) (by kernel_rfl) (fun _ _ _ h => h) (Or.inl ⟨by rfl, ?_⟩) hHeld ?_
      rotate_left
      · intro w hSw
        try dsimp only at hSw
        go_simp
        first | done | with_reducible rfl
      try simp only [Act.put, List.setIfInBounds_toArray, List.set_cons_zero, List.set_cons_succ]
      refine wpAnyH_take (i := 11) (oi := ⟨some 61, _, _, _, _, _⟩) (v := ?_) rfl (by kernel_rfl) (by kernel_rfl) (by kernel_rfl) (fun _ _ _ h => h) (Or.inl ⟨by rfl, ?_⟩) hHeld ?_
      rotate_left
      · intro w hSw
        try dsimp only at hSw
        go_simp
        first | done | with_reducible rfl
      try simp only [Act.put, List.setIfInBounds_toArray, List.set_cons_zero, List.set_cons_succ]
      have d2 := (dkb_cells hb6).2.2.1
      have f2 : W6.frozen? ⟨D, 2, none⟩ = false := fzeroD hb6 2
      refine wpAnyH_ready (rs := [12]) (by kernel_rfl) (by simp) (AllReadyH.cons (o := _) rfl (fun K hK => ?_) AllReadyH.nil)
      go_simp
      obtain ⟨V5, hV5⟩ : ∃ V5, V5 = W6.setCell ⟨D, 2, none⟩ (.slice (some ⟨g, 0, none⟩) (n + 1) cap) := ⟨_, rfl⟩
      have g5 : GrB D W6 V5 := by rw [hV5]; exact gr_set W6 ⟨D, 2, none⟩ _
      have hb5 : DkB V5 D ((id : Int) + 1) now (.slice (some ⟨g, 0, none⟩) (n + 1) cap) seg pts := by rw [hV5]; exact blk_set hb6 2 _
      have hC5 : CuB V5 X ⟨(id : Int), (rows : Int), (size : Int), T, F⟩ := gr_blk g5 hC6 (by simp; omega)
      have hR5 : CuB V5 w.heap.size cu0 := gr_blk g5 hR6 (by simp; have := hDw.out; omega)
      have ho5 := own_farD hown6 hb6 (by decide) g5
      rw [← hV5]
      refine hK.out _ _ ?_ (fun hHeld => ?_)
      · exact st7.out _ hC5
      clear hK K hHeld hV5 d2 f2
      try simp only [Act.put, List.setIfInBounds_toArray, List.set_cons_zero, List.set_cons_succ]
      refine wpAnyH_done (by kernel_rfl) ?_ _
      have gS0 : GrS (TnD D (Value.slice A n c).ownBlock) w V5 := by
        have q1 : GrS (TnD D (Value.slice A n c).ownBlock) w V1 := grs_gr _ (gr_trans g1.out hGf.out)
        have q2 := grs_then q1 gV2.out (fun k hk _ => .inl (Option.some.inj hk).symm)
        have q3 := grs_then q2 (gr_trans gd gA) (by simp)
        have q4 := grs_then q3 g6 (fun k hk _ => .inr hk)
        exact grs_then q4 g5 (fun k hk _ => .inl (Option.some.inj hk).symm)
      have hth5 := cub_there hR5
      obtain ⟨x0, x1, x2, x3, x4⟩ := cub_cells hC5
      simp only at x0 x1 x2 x3 x4
      have hsame := World.rangeAt_setCells_same V5 w.heap.size 0 [.int .i64 (id : Int), .int .i64 (rows : Int), .int .i64 (size : Int), .int .i64 T, .string (txt F)] hth5
      have r0 := hsame 0 _ rfl
      have r1 := hsame 1 _ rfl
      have r2 := hsame 2 _ rfl
      have r3 := hsame 3 _ rfl
      have r4 := hsame 4 _ rfl
      simp only [Nat.zero_add] at r0 r1 r2 r3 r4
      have hgs := gr_setCells V5 w.heap.size 0 [.int .i64 (id : Int), .int .i64 (rows : Int), .int .i64 (size : Int), .int .i64 T, .string (txt F)]
      have hbF : DkB (V5.setCells w.heap.size 0 [.int .i64 (id : Int), .int .i64 (rows : Int), .int .i64 (size : Int), .int .i64 T, .string (txt F)]) D ((id : Int) + 1) now (.slice (some ⟨g, 0, none⟩) (n + 1) cap) seg pts := gr_blk hgs hb5 (by simp; have := hDw.out; omega)
      have hgR : (Value.slice (some ⟨g, 0, none⟩) (n + 1) cap).ownBlock ≠ some w.heap.size := by
        rcases hat6 with ⟨e6, _⟩ | ⟨e6, _⟩
        · intro e; have h7 := hgX g e6; have h8 : g = w.heap.size := by simpa [Value.ownBlock] using e
          omega
        · intro e; have h9 := lt_of_blk hRa; have h8 : g = w.heap.size := by simpa [Value.ownBlock] using e
          omega
      have hoF := ho5.kept hgs (.inr hgR)
      have gSF := grs_then gS0 hgs (fun k hk hlt => by have := Option.some.inj hk; omega)
      replace hbF := Lib.hid hbF
      replace hoF := Lib.hid hoF
      replace gSF := Lib.hid gSF
      clear hsame hgs hat6 g6 g5 hgX hDg
      go_wp2_with (refine wpList_store_mid (op := ⟨none, _, _, _, _, _⟩) rfl 30 _ _ rfl w.heap.size 0 #[.int .i64 (id : Int), .int .i64 (rows : Int), .int .i64 (size : Int), .int .i64 T, .string (txt F)] rfl rfl hth5 infoCu (by simp [Value.oneCell']) ?_)
      (try simp only [Exit.inBlock, Exit.then])
      refine bodyPost_ret (by simp [results, Tryd.results10, go_sem, r0, r1, r2, r3, r4]; try rfl) rfl ?_
      refine ⟨rfl, ⟨some ⟨g, 0, none⟩, cap, ⟨hbF.out, ?_⟩⟩, gSF.out⟩
      have := hoF.out
      rw [sR_append, sR_one]
      exact this
    · go_simp
      have gA := gr_alloc wd7 (.cells #[.int .i64 (id : Int), .int .i64 (rows : Int), .int .i64 (size : Int), .int .i64 T, .string (txt F)] 30) none
      have hCa : CuB (wd7.alloc (.cells #[.int .i64 (id : Int), .int .i64 (rows : Int), .int .i64 (size : Int), .int .i64 T, .string (txt F)] 30)) X ⟨(id : Int), (rows : Int), (size : Int), T, F⟩ := gr_blk gA hCd (by simp)
      refine hK.out _ _ ?_ (fun hHeld => ?_)
      · exact st7.out _ hCa
      clear hK K
      try simp only [Act.put, List.setIfInBounds_toArray, List.set_cons_zero, List.set_cons_succ]
      have hoa := hod.kept gA (Classical.em _)
      have hba : DkB (wd7.alloc (.cells #[.int .i64 (id : Int), .int .i64 (rows : Int), .int .i64 (size : Int), .int .i64 T, .string (txt F)] 30)) D ((id : Int) + 1) now (.slice A n c) seg pts := gr_blk gA hbd (by simp)
      have hRa : CuB (wd7.alloc (.cells #[.int .i64 (id : Int), .int .i64 (rows : Int), .int .i64 (size : Int), .int .i64 T, .string (txt F)] 30)) w.heap.size cu0 := gr_blk gA hRd (by simp)
      have hnew : ∀ (j : Nat) (u : Value), ([.int .i64 (id : Int), .int .i64 (rows : Int), .int .i64 (size : Int), .int .i64 T, .string (txt F)] : List Value)[j]? = some u → (wd7.alloc (.cells #[.int .i64 (id : Int), .int .i64 (rows : Int), .int .i64 (size : Int), .int .i64 T, .string (txt F)] 30)).cell? ((⟨wd7.heap.size, 0, none⟩ : Addr).add j) = some u := fun j u hj => by
        rw [add_plain, Nat.zero_add, World.cell?_alloc_new]
        exact (show (#[.int .i64 (id : Int), .int .i64 (rows : Int), .int .i64 (size : Int), .int .i64 T, .string (txt F)] : Array Value)[j]? = some u by rw [← List.getElem?_toArray] at hj; exact hj)
      have hones : ∀ u ∈ ([.int .i64 (id : Int), .int .i64 (rows : Int), .int .i64 (size : Int), .int .i64 T, .string (txt F)] : List Value), u.oneCell' = true := by
        intro u hu
        simp only [List.mem_cons, List.not_mem_nil, or_false] at hu
        rcases hu with rfl | rfl | rfl | rfl | rfl <;> rfl
      have hsz7 : base ≤ (wd7.alloc (.cells #[.int .i64 (id : Int), .int .i64 (rows : Int), .int .i64 (size : Int), .int .i64 T, .string (txt F)] 30)).heap.size := Nat.le_trans hbw (Nat.le_trans (Nat.le_of_lt hs1w) (Nat.le_trans hV1s (Nat.le_trans hV2s (Nat.le_trans gd.size gA.size))))
      have c2 := (dkb_cells hba).2.2.1
      refine wpAnyH_ready (rs := [5]) (by kernel_rfl) (by simp) (AllReadyH.cons (o := _) rfl (fun K hK => ?_) AllReadyH.nil)
      go_simp
      refine hK.out _ _ ?_ (fun hHeld => ?_)
      · exact st7.out _ hCa
      clear hK K c2
      try clear c2b
      try simp only [Act.put, List.setIfInBounds_toArray, List.set_cons_zero, List.set_cons_succ]
      obtain ⟨N7, hN7⟩ : ∃ N7, N7 = wd7.heap.size := ⟨_, rfl⟩
      obtain ⟨wa, hwa⟩ : ∃ wa, wa = wd7.alloc (.cells #[.int .i64 (id : Int), .int .i64 (rows : Int), .int .i64 (size : Int), .int .i64 T, .string (txt F)] 30) := ⟨_, rfl⟩
      rw [← hwa] at gA hCa hHeld hoa hba hRa hnew hsz7 ⊢
      rw [← hN7] at hnew ⊢
      refine wpAnyH_ready (rs := [8]) (by kernel_rfl) (by simp) (AllReadyH.cons (o := _) rfl (fun K hK => ?_) AllReadyH.nil)
      refine step_append_strong rfl _ _ 25 rfl base 30 ii (.agg #[.int .i64 0, .int .i64 0, .int .i64 0, .int .i64 0, .string ⟨#[]⟩]) 5 48 Tryd.underlying25 hi hz0 hz1 hz2 rfl (by decide) (.slice A n c) n (sR curC op) rfl hoa ⟨N7, 0, none⟩ 1 1 [.int .i64 (id : Int), .int .i64 (rows : Int), .int .i64 (size : Int), .int .i64 T, .string (txt F)] rfl rfl hnew hones (by decide) (n + 1) rfl (by unfold maxLen; omega) (by omega) hsz7 ?_
      intro g cap W6 hown6 hat6
      have hgX : ∀ k, (Value.slice A n c).ownBlock = some k → k < w.heap.size := hob.out
      have g6 : wa.grownBy W6 (Value.slice A n c).ownBlock := by
        rcases hat6 with ⟨e6, h6⟩ | ⟨_, h6⟩
        · rw [e6]; exact h6
        · exact gr_more _ h6
      have hC6 : CuB W6 X ⟨(id : Int), (rows : Int), (size : Int), T, F⟩ := gr_blk g6 hCa (fun e => by have := hgX X e.symm; omega)
      have hR6 : CuB W6 w.heap.size cu0 := gr_blk g6 hRa (fun e => by have := hgX _ e.symm; omega)
      have hDg : some D ≠ (Value.slice A n c).ownBlock := fun e => dk_apart hba hoa e.symm
      have hb6 : DkB W6 D ((id : Int) + 1) now (.slice A n c) seg pts := gr_blk g6 hba hDg
      refine hK.out _ _ ?_ (fun hHeld => ?_)
      · exact st7.out _ hC6
      clear hK K
      try simp only [Act.put, List.setIfInBounds_toArray, List.set_cons_zero, List.set_cons_succ]
      
      refine wpAnyH_take (i := 9) (oi := ⟨some 59, _, _, _, _, _⟩) (v := ?_) rfl (by kernel_rfl) (by kernel_rfl) (by kernel_rfl) (fun _ _ _ h => h) (Or.inl ⟨by rfl, ?_⟩) hHeld ?_
      rotate_left
      · intro w hSw
        try dsimp only at hSw
        go_simp
        first | done | with_reducible rfl
      try simp only [Act.put, List.setIfInBounds_toArray, List.set_cons_zero, List.set_cons_succ]
      refine wpAnyH_take (i := 10) (oi := ⟨some 60, _, _, _, _, _⟩) (v := ?_) rfl (by kernel_rfl) (by kernel_rfl) (by kernel_rfl) (fun _ _ _ h => h) (Or.inl ⟨by rfl, ?_⟩) hHeld ?_
      rotate_left
      · intro w hSw
        try dsimp only at hSw
        go_simp
        first | done | with_reducible rfl
      try simp only [Act.put, List.setIfInBounds_toArray, List.set_cons_zero, List.set_cons_succ]
      refine wpAnyH_take (i := 11) (oi := ⟨some 61, _, _, _, _, _⟩) (v := ?_) rfl (by kernel_rfl) (by kernel_rfl) (by kernel_rfl) (fun _ _ _ h => h) (Or.inl ⟨by rfl, ?_⟩) hHeld ?_
      rotate_left
      · intro w hSw
        try dsimp only at hSw
        go_simp
        first | done | with_reducible rfl
      try simp only [Act.put, List.setIfInBounds_toArray, List.set_cons_zero, List.set_cons_succ]
      have d2 := (dkb_cells hb6).2.2.1
      have f2 : W6.frozen? ⟨D, 2, none⟩ = false := fzeroD hb6 2
      refine wpAnyH_ready (rs := [12]) (by kernel_rfl) (by simp) (AllReadyH.cons (o := _) rfl (fun K hK => ?_) AllReadyH.nil)
      go_simp
      obtain ⟨V5, hV5⟩ : ∃ V5, V5 = W6.setCell ⟨D, 2, none⟩ (.slice (some ⟨g, 0, none⟩) (n + 1) cap) := ⟨_, rfl⟩
      have g5 : GrB D W6 V5 := by rw [hV5]; exact gr_set W6 ⟨D, 2, none⟩ _
      have hb5 : DkB V5 D ((id : Int) + 1) now (.slice (some ⟨g, 0, none⟩) (n + 1) cap) seg pts := by rw [hV5]; exact blk_set hb6 2 _
      have hC5 : CuB V5 X ⟨(id : Int), (rows : Int), (size : Int), T, F⟩ := gr_blk g5 hC6 (by simp; omega)
      have hR5 : CuB V5 w.heap.size cu0 := gr_blk g5 hR6 (by simp; have := hDw.out; omega)
      have ho5 := own_farD hown6 hb6 (by decide) g5
      rw [← hV5]
      refine hK.out _ _ ?_ (fun hHeld => ?_)
      · exact st7.out _ hC5
      clear hK K hHeld hV5 d2 f2
      try simp only [Act.put, List.setIfInBounds_toArray, List.set_cons_zero, List.set_cons_succ]
      refine wpAnyH_done (by kernel_rfl) ?_ _
      have gS0 : GrS (TnD D (Value.slice A n c).ownBlock) w V5 := by
        have q1 : GrS (TnD D (Value.slice A n c).ownBlock) w V1 := grs_gr _ (gr_trans g1.out hGf.out)
        have q2 := grs_then q1 gV2.out (fun k hk _ => .inl (Option.some.inj hk).symm)
        have q3 := grs_then q2 (gr_trans gd gA) (by simp)
        have q4 := grs_then q3 g6 (fun k hk _ => .inr hk)
        exact grs_then q4 g5 (fun k hk _ => .inl (Option.some.inj hk).symm)
      have hth5 := cub_there hR5
      obtain ⟨x0, x1, x2, x3, x4⟩ := cub_cells hC5
      simp only at x0 x1 x2 x3 x4
      have hsame := World.rangeAt_setCells_same V5 w.heap.size 0 [.int .i64 (id : Int), .int .i64 (rows : Int), .int .i64 (size : Int), .int .i64 T, .string (txt F)] hth5
      have r0 := hsame 0 _ rfl
      have r1 := hsame 1 _ rfl
      have r2 := hsame 2 _ rfl
      have r3 := hsame 3 _ rfl
      have r4 := hsame 4 _ rfl
      simp only [Nat.zero_add] at r0 r1 r2 r3 r4
      have hgs := gr_setCells V5 w.heap.size 0 [.int .i64 (id : Int), .int .i64 (rows : Int), .int .i64 (size : Int), .int .i64 T, .string (txt F)]
      have hbF : DkB (V5.setCells w.heap.size 0 [.int .i64 (id : Int), .int .i64 (rows : Int), .int .i64 (size : Int), .int .i64 T, .string (txt F)]) D ((id : Int) + 1) now (.slice (some ⟨g, 0, none⟩) (n + 1) cap) seg pts := gr_blk hgs hb5 (by simp; have := hDw.out; omega)
      have hgR : (Value.slice (some ⟨g, 0, none⟩) (n + 1) cap).ownBlock ≠ some w.heap.size := by
        rcases hat6 with ⟨e6, _⟩ | ⟨e6, _⟩
        · intro e; have h7 := hgX g e6; have h8 : g = w.heap.size := by simpa [Value.ownBlock] using e
          omega
        · intro e; have h9 := lt_of_blk hRa; have h8 : g = w.heap.size := by simpa [Value.ownBlock] using e
          omega
      have hoF := ho5.kept hgs (.inr hgR)
      have gSF := grs_then gS0 hgs (fun k hk hlt => by have := Option.some.inj hk; omega)
      replace hbF := Lib.hid hbF
      replace hoF := Lib.hid hoF
      replace gSF := Lib.hid gSF
      clear hsame hgs hat6 g6 g5 hgX hDg
      go_wp2_with (refine wpList_store_mid (op := ⟨none, _, _, _, _, _⟩) rfl 30 _ _ rfl w.heap.size 0 #[.int .i64 (id : Int), .int .i64 (rows : Int), .int .i64 (size : Int), .int .i64 T, .string (txt F)] rfl rfl hth5 infoCu (by simp [Value.oneCell']) ?_)
      (try simp only [Exit.inBlock, Exit.then])
      refine bodyPost_ret (by simp [results, Tryd.results10, go_sem, r0, r1, r2, r3, r4]; try rfl) rfl ?_
      refine ⟨rfl, ⟨some ⟨g, 0, none⟩, cap, ⟨hbF.out, ?_⟩⟩, gSF.out⟩
      have := hoF.out
      rw [sR_append, sR_one]
      exact this
end Go.Proofs.YtilbeoblppigeaaDoor
