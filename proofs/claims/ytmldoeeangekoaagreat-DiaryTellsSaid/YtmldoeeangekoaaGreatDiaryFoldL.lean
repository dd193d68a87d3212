/-
  diary's fold of a note that closes, of a clock's, of a segment's, and of none. No condition but the machine's numbers.
-/
import Derived.Test.YtmldoeeangekoaaGreatDiaryFoldK
namespace Go.Proofs.YtmldoeeangekoaaGreat
open Go.RowKit

set_option maxHeartbeats 16000000 in
set_option maxRecDepth 100000 in
theorem dfold_closed (St base : Nat) (s : StM) (A : Option Addr) (n c : Nat) (id : Int) (w : World) (h : StIs w St base s A n c) (hid : 1 ≤ id ∧ id ≤ 1000000) (hn : n ≤ 100000) :
    Calls Tryz.prog 53 #[.pointer (some ⟨St, 0, none⟩), .iface 170 (.agg #[.int .i64 id])] w fun e w' => e = .returned (.tuple #[]) ∧ (∃ A' n' c', StIs w' St base (closeM s id) A' n' c') ∧ GrS (Tn St (Value.slice A n c).ownBlock) w w' := by
  have ta1 := fun W => ta_closed_opened (.agg #[.int .i64 id]) W
  have ta2 := fun W => ta_closed_closed (.agg #[.int .i64 id]) W
  have ta3 := fun W => ta_closed_clock (.agg #[.int .i64 id]) W
  have ta4 := fun W => ta_closed_segment (.agg #[.int .i64 id]) W
  have cC := fun W hW => dclose St base s A n c id W hW hid (by omega)
  replace cC := Lib.hid cC
  replace h := Lib.hid h
  go_enter Tryz.func53, Tryz.ntmps53
  go_wp2_with fail
  refine (cC.out _ (stIs_gr h.out (gr_trans (gr_trans (gr_alloc _ _ _) (gr_alloc _ _ _)) (gr_alloc _ _ _)))).mono ?_
  rintro e W2 ⟨rfl, ⟨k, hS2⟩, g2⟩
  have gw : GrS (Tn St (Value.slice A n c).ownBlock) w W2 := grs_trans (tn_gr (gr_trans (gr_trans (gr_alloc _ _ _) (gr_alloc _ _ _)) (gr_alloc _ _ _))) g2
  clear g2 cC h
  replace hS2 := Lib.hid hS2
  replace gw := Lib.hid gw
  go_wp2
  go_end0
  exact ⟨rfl, ⟨A, k, c, stIs_gr (stIs_gr hS2.out (gr_alloc _ _ _)) (gr_alloc _ _ _)⟩, grs_trans (grs_trans gw.out (tn_gr (gr_alloc _ _ _))) (tn_gr (gr_alloc _ _ _))⟩

set_option maxHeartbeats 8000000 in
set_option maxRecDepth 100000 in
theorem dfold_nil (St base : Nat) (s : StM) (A : Option Addr) (n c : Nat) (w : World) (h : StIs w St base s A n c) :
    Calls Tryz.prog 53 #[.pointer (some ⟨St, 0, none⟩), .nilIface] w fun e w' => e = .returned (.tuple #[]) ∧ (∃ A' n' c', StIs w' St base s A' n' c') ∧ GrS (Tn St (Value.slice A n c).ownBlock) w w' := by
  have ta1 := fun W => ta_nil_opened W
  have ta2 := fun W => ta_nil_closed W
  have ta3 := fun W => ta_nil_clock W
  have ta4 := fun W => ta_nil_segment W
  replace h := Lib.hid h
  go_enter Tryz.func53, Tryz.ntmps53
  go_wp2
  go_end0
  refine ⟨rfl, ⟨A, n, c, stIs_gr h.out ?_⟩, tn_gr ?_⟩
  · exact gr_trans (gr_trans (gr_trans (gr_trans (gr_alloc _ _ _) (gr_alloc _ _ _)) (gr_alloc _ _ _)) (gr_alloc _ _ _)) (gr_alloc _ _ _)
  · exact gr_trans (gr_trans (gr_trans (gr_trans (gr_alloc _ _ _) (gr_alloc _ _ _)) (gr_alloc _ _ _)) (gr_alloc _ _ _)) (gr_alloc _ _ _)

set_option maxHeartbeats 16000000 in
set_option maxRecDepth 100000 in
theorem dfold_seg (St base : Nat) (s : StM) (A : Option Addr) (n c : Nat) (file : List UInt8) (pts : Int) (w : World) (h : StIs w St base s A n c) :
    Calls Tryz.prog 53 #[.pointer (some ⟨St, 0, none⟩), .iface 174 (.agg #[.string (txt file), .int .i64 pts])] w fun e w' => e = .returned (.tuple #[]) ∧ (∃ A' n' c', StIs w' St base { s with seg := file, pts := pts } A' n' c') ∧ GrS (Tn St (Value.slice A n c).ownBlock) w w' := by
  have ta1 := fun W => ta_segment_opened (.agg #[.string (txt file), .int .i64 pts]) W
  have ta2 := fun W => ta_segment_closed (.agg #[.string (txt file), .int .i64 pts]) W
  have ta3 := fun W => ta_segment_clock (.agg #[.string (txt file), .int .i64 pts]) W
  have ta4 := fun W => ta_segment_segment (.agg #[.string (txt file), .int .i64 pts]) W
  replace h := Lib.hid h
  go_enter Tryz.func53, Tryz.ntmps53
  go_upto_region 15 with fail
  obtain ⟨W1, hW1⟩ : ∃ W1, W1 = ((((w.alloc (.cells #[.pointer (some ⟨St, 0, none⟩)] 177)).alloc (.cells #[.int .i64 0, .int .i64 0, .int .i64 0, .int .i64 0, .string ⟨#[]⟩] 168)).alloc (.cells #[.int .i64 0] 170)).alloc (.cells #[.int .i64 0] 172)).alloc (.cells #[.string (txt file), .int .i64 pts] 174) := ⟨_, rfl⟩
  rw [← hW1]
  have g1 : Gr w W1 := by rw [hW1]; exact gr_trans (gr_trans (gr_trans (gr_trans (gr_alloc _ _ _) (gr_alloc _ _ _)) (gr_alloc _ _ _)) (gr_alloc _ _ _)) (gr_alloc _ _ _)
  have p1 : W1.cell? ⟨w.heap.size, 0, none⟩ = some (.pointer (some ⟨St, 0, none⟩)) := by rw [hW1]; exact gr_cell (gr_alloc _ _ none) (gr_cell (gr_alloc _ _ none) (gr_cell (gr_alloc _ _ none) (gr_cell (gr_alloc _ _ none) (cell0_new _ _ _))))
  have hz1 : ((((w.alloc (.cells #[.pointer (some ⟨St, 0, none⟩)] 177)).alloc (.cells #[.int .i64 0, .int .i64 0, .int .i64 0, .int .i64 0, .string ⟨#[]⟩] 168)).alloc (.cells #[.int .i64 0] 170)).alloc (.cells #[.int .i64 0] 172)).heap.size = w.heap.size + 4 := by simp
  have q0 : W1.cell? ⟨w.heap.size + 4, 0, none⟩ = some (.string (txt file)) := by rw [hW1, ← hz1, World.cell?_alloc_new]; rfl
  have q1 : W1.cell? ⟨w.heap.size + 4, 1, none⟩ = some (.int .i64 pts) := by rw [hW1, ← hz1, World.cell?_alloc_new]; rfl
  have hS1 := stIs_gr h.out g1
  have d3 : W1.cell? ⟨St, 3, none⟩ = some (.string (txt s.seg)) := fcell hS1.1 rfl
  have d4 : W1.cell? ⟨St, 4, none⟩ = some (.int .i64 s.pts) := fcell hS1.1 rfl
  have y3 := fzero hS1.1 3
  have y4 := fzero hS1.1 4
  have hlt := lt_of_blk h.out.1
  have hap := st_apart hS1.1 hS1.2
  replace hS1 := Lib.hid hS1
  replace g1 := Lib.hid g1
  replace h := Lib.hid h
  replace hap := Lib.hid hap
  clear hW1 hz1
  go_region
  all_goals
    go_wp2
    go_end0
    have hs3 := gr_set W1 ⟨St, 3, none⟩ (.string (txt file))
    have hs4 := gr_set (W1.setCell ⟨St, 3, none⟩ (.string (txt file))) ⟨St, 4, none⟩ (.int .i64 pts)
    refine ⟨rfl, ⟨A, n, c, ?_, ?_⟩, grs_trans (grs_trans (grs_trans (tn_gr g1.out) (tn_st hs3)) (tn_st hs4)) (tn_gr (gr_drew _ _))⟩
    · have h9 := blk_set hS1.out.1 3 (.string (txt file))
      have h10 := blk_set h9 4 (.int .i64 pts)
      exact stAt_gr h10 (gr_drew _ _)
    · exact (own_after (own_after hS1.out.2 hs3 hap.out) hs4 hap.out).kept (gr_drew _ none) (Classical.em _)
set_option maxHeartbeats 32000000 in
set_option maxRecDepth 100000 in
theorem dfold_clock (St base : Nat) (s : StM) (A : Option Addr) (n c : Nat) (tl : Int) (w : World) (h : StIs w St base s A n c) (hn : n ≤ 100000) :
    Calls Tryz.prog 53 #[.pointer (some ⟨St, 0, none⟩), .iface 172 (.agg #[.int .i64 tl])] w fun e w' => e = .returned (.tuple #[]) ∧ (∃ A' n' c', StIs w' St base { s with now := max s.now tl, op := s.op.filter (fun y => !decide (y.tl < max s.now tl)) } A' n' c') ∧ GrS (Tn St (Value.slice A n c).ownBlock) w w' := by
  have ta1 := fun W => ta_clock_opened (.agg #[.int .i64 tl]) W
  have ta2 := fun W => ta_clock_closed (.agg #[.int .i64 tl]) W
  have ta3 := fun W => ta_clock_clock (.agg #[.int .i64 tl]) W
  have ta4 := fun W => ta_clock_segment (.agg #[.int .i64 tl]) W
  have hob : ∀ k, (Value.slice A n c).ownBlock = some k → k < w.heap.size := fun k hk => (h.2.lt k hk).2
  replace h := Lib.hid h
  replace hob := Lib.hid hob
  go_enter Tryz.func53, Tryz.ntmps53
  go_upto_region 11 with fail
  obtain ⟨W1, hW1⟩ : ∃ W1, W1 = (((w.alloc (.cells #[.pointer (some ⟨St, 0, none⟩)] 177)).alloc (.cells #[.int .i64 0, .int .i64 0, .int .i64 0, .int .i64 0, .string ⟨#[]⟩] 168)).alloc (.cells #[.int .i64 0] 170)).alloc (.cells #[.int .i64 tl] 172) := ⟨_, rfl⟩
  rw [← hW1]
  have g1 : Gr w W1 := by rw [hW1]; exact gr_trans (gr_trans (gr_trans (gr_alloc _ _ _) (gr_alloc _ _ _)) (gr_alloc _ _ _)) (gr_alloc _ _ _)
  have p1 : W1.cell? ⟨w.heap.size, 0, none⟩ = some (.pointer (some ⟨St, 0, none⟩)) := by rw [hW1]; exact gr_cell (gr_alloc _ _ none) (gr_cell (gr_alloc _ _ none) (gr_cell (gr_alloc _ _ none) (cell0_new _ _ _)))
  have hz1 : (((w.alloc (.cells #[.pointer (some ⟨St, 0, none⟩)] 177)).alloc (.cells #[.int .i64 0, .int .i64 0, .int .i64 0, .int .i64 0, .string ⟨#[]⟩] 168)).alloc (.cells #[.int .i64 0] 170)).heap.size = w.heap.size + 3 := by simp
  have q0 : W1.cell? ⟨w.heap.size + 3, 0, none⟩ = some (.int .i64 tl) := by rw [hW1, ← hz1, World.cell?_alloc_new]; rfl
  have hS1 := stIs_gr h.out g1
  have d1 : W1.cell? ⟨St, 1, none⟩ = some (.int .i64 s.now) := fcell hS1.1 rfl
  have y1 := fzero hS1.1 1
  have hlt := lt_of_blk h.out.1
  have hap := st_apart hS1.1 hS1.2
  have hz9 := g1.size
  replace hS1 := Lib.hid hS1
  replace g1 := Lib.hid g1
  replace h := Lib.hid h
  replace hap := Lib.hid hap
  clear hW1 hz1
  go_cut [] (fun wx => wx = (W1.setCell ⟨St, 1, none⟩ (.int .i64 (max s.now tl))).drew)
  case first =>
    by_cases hm : s.now < tl
    · go_region
      all_goals
        go_wp2_with fail
        go_meet
        rw [show max s.now tl = tl by omega]
    · go_region
      all_goals
        go_wp2_with fail
        go_meet
        rw [show max s.now tl = s.now by omega]
  case rest =>
  subst hcut
  obtain ⟨wc, hwc⟩ : ∃ wc, wc = (W1.setCell ⟨St, 1, none⟩ (.int .i64 (max s.now tl))).drew := ⟨_, rfl⟩
  rw [← hwc]
  have hs1 := gr_set W1 ⟨St, 1, none⟩ (.int .i64 (max s.now tl))
  have gc : GrS (Tn St (Value.slice A n c).ownBlock) w wc := by rw [hwc]; exact grs_trans (grs_trans (tn_gr g1.out) (tn_st hs1)) (tn_gr (gr_drew _ _))
  have pc : wc.cell? ⟨w.heap.size, 0, none⟩ = some (.pointer (some ⟨St, 0, none⟩)) := by rw [hwc]; exact gr_cell (gr_drew _ none) (hs1.cell p1 (by simp; omega))
  have hSc : StIs wc St base { s with now := max s.now tl } A n c := by
    rw [hwc]
    exact ⟨stAt_gr (blk_set hS1.out.1 1 (.int .i64 (max s.now tl))) (gr_drew _ _), (own_after hS1.out.2 hs1 hap.out).kept (gr_drew _ none) (Classical.em _)⟩
  have hzc := gc.size
  replace hSc := Lib.hid hSc
  replace gc := Lib.hid gc
  clear hs1 p1 q0 d1 y1 hS1 g1 hz9 hwc W1
  generalize hmx : max s.now tl = mx at *
  go_upto_region 12 with fail
  refine wp_region_held_drew (S := (fun w' => w'.cell? ⟨w.heap.size, 0, none⟩ = some (.pointer (some ⟨St, 0, none⟩)))) (by kernel_rfl) (gr_cell (gr_drew wc none) pc) (fun hHeld => ?_)
  have gd : GrS (Tn St (Value.slice A n c).ownBlock) w wc.drew := grs_trans gc.out (tn_gr (gr_drew _ _))
  have pd : wc.drew.cell? ⟨w.heap.size, 0, none⟩ = some (.pointer (some ⟨St, 0, none⟩)) := gr_cell (gr_drew wc none) pc
  have hSd : StIs wc.drew St base { s with now := mx } A n c := stIs_gr hSc.out (gr_drew _ _)
  clear gc pc hSc hzc
  generalize wc.drew = wd at *
  have hzd := gd.size
  have d1 : wd.cell? ⟨St, 1, none⟩ = some (.int .i64 mx) := fcell hSd.1 rfl
  have d2 : wd.cell? ⟨St, 2, none⟩ = some (.slice A n c) := fcell hSd.1 rfl
  have y2 := fzero hSd.1 2
  have cD := ddel_fold (fun W => W.cell? ⟨w.heap.size, 0, none⟩ = some (.pointer (some ⟨St, 0, none⟩)) ∧ W.cell? ⟨St, 1, none⟩ = some (.int .i64 mx)) (fun y => decide (y.tl < mx)) (.pointer (some ⟨w.heap.size, 0, none⟩)) (fun x W hW => pfold_any x w.heap.size St mx W hW.1 hW.2) A n c base (fun W W' hW g => ⟨g.cell hW.1 (by simp; intro e; have := hob.out _ e.symm; omega), g.cell hW.2 (fun e => hap.out e.symm)⟩) s.op wd hSd.2 (by omega) ⟨pd, d1⟩
  replace cD := Lib.hid cD
  replace hSd := Lib.hid hSd
  replace gd := Lib.hid gd
  replace hmx := Lib.hid hmx
  refine wpAnyH_take (i := 0) (oi := ⟨some 74, _, _, _, _, _⟩) (v := ?_) rfl (by kernel_rfl) (by kernel_rfl) (by kernel_rfl) (fun _ _ _ h => h) (Or.inl ⟨by rfl, ?_⟩) hHeld ?_
  rotate_left
  · intro w hSw
    try dsimp only at hSw
    go_simp
    first | done | with_reducible rfl
  try simp only [Act.put, List.setIfInBounds_toArray, List.set_cons_zero, List.set_cons_succ]
  refine wpAnyH_take (i := 1) (oi := ⟨some 75, _, _, _, _, _⟩) (v := ?_) rfl (by kernel_rfl) (by kernel_rfl) (by kernel_rfl) (fun _ _ _ h => h) (Or.inl ⟨by rfl, ?_⟩) hHeld ?_
  rotate_left
  · intro w hSw
    try dsimp only at hSw
    go_simp
    first | done | with_reducible rfl
  try simp only [Act.put, List.setIfInBounds_toArray, List.set_cons_zero, List.set_cons_succ]
  refine wpAnyH_take (i := 2) (oi := ⟨some 76, _, _, _, _, _⟩) (v := ?_) rfl (by kernel_rfl) (by kernel_rfl) (by kernel_rfl) (fun _ _ _ h => h) (Or.inl ⟨by rfl, ?_⟩) hHeld ?_
  rotate_left
  · intro w hSw
    try dsimp only at hSw
    go_simp
    first | done | with_reducible rfl
  try simp only [Act.put, List.setIfInBounds_toArray, List.set_cons_zero, List.set_cons_succ]
  refine wpAnyH_take (i := 3) (oi := ⟨some 77, _, _, _, _, _⟩) (v := ?_) rfl (by kernel_rfl) (by kernel_rfl) (by kernel_rfl) (fun _ _ _ h => h) (Or.inl ⟨by rfl, ?_⟩) hHeld ?_
  rotate_left
  · intro w hSw
    try dsimp only at hSw
    go_simp
    first | done | with_reducible rfl
  try simp only [Act.put, List.setIfInBounds_toArray, List.set_cons_zero, List.set_cons_succ]
  refine wpAnyH_take (i := 5) (oi := ⟨some 79, _, _, _, _, _⟩) (v := ?_) rfl (by kernel_rfl) (by kernel_rfl) (by kernel_rfl) (fun _ _ _ h => h) (Or.inl ⟨by rfl, ?_⟩) hHeld ?_
  rotate_left
  · intro w hSw
    try dsimp only at hSw
    go_simp
    first | done | with_reducible rfl
  try simp only [Act.put, List.setIfInBounds_toArray, List.set_cons_zero, List.set_cons_succ]
  refine wpAnyH_ready (rs := [4]) (by kernel_rfl) (by simp) (AllReadyH.cons (o := ⟨some 78, _, _, _, _, _⟩) rfl (fun K hK => ?_) AllReadyH.nil)
  go_simp
  refine hK.out _ _ ?_ (fun hHeld => ?_)
  · exact hHeld
  clear hK K
  try simp only [Act.put, List.setIfInBounds_toArray, List.set_cons_zero, List.set_cons_succ]
  refine wpAnyH_ready (rs := [6]) (by kernel_rfl) (by simp) (AllReadyH.cons (o := ⟨some 80, _, _, _, _, _⟩) rfl (fun K hK => ?_) AllReadyH.nil)
  go_simp
  refine (cD.out).mono ?_
  rintro e W3 ⟨k, rfl, ho3, g3⟩
  try (go_wp2_with fail)
  have p3 : W3.cell? ⟨w.heap.size, 0, none⟩ = some (.pointer (some ⟨St, 0, none⟩)) := g3.cell pd (by simp; intro e; have := hob.out _ e.symm; omega)
  have hS3 := st_after hSd.out.1 g3 hap.out
  have ob3 : (Value.slice A k c).ownBlock = (Value.slice A n c).ownBlock := by cases A <;> rfl
  have hap3 : (Value.slice A k c).ownBlock ≠ some St := by rw [ob3]; exact hap.out
  have g4 : GrS (Tn St (Value.slice A n c).ownBlock) w W3 := grs_trans gd.out (tn_ob g3)
  refine hK.out _ _ ?_ (fun hHeld => ?_)
  · exact p3
  clear hK K
  try simp only [Act.put, List.setIfInBounds_toArray, List.set_cons_zero, List.set_cons_succ]
  refine wpAnyH_take (i := 7) (oi := ⟨some 81, _, _, _, _, _⟩) (v := ?_) rfl (by kernel_rfl) (by kernel_rfl) (by kernel_rfl) (fun _ _ _ h => h) (Or.inl ⟨by rfl, ?_⟩) hHeld ?_
  rotate_left
  · intro w hSw
    try dsimp only at hSw
    go_simp
    first | done | with_reducible rfl
  try simp only [Act.put, List.setIfInBounds_toArray, List.set_cons_zero, List.set_cons_succ]
  refine wpAnyH_take (i := 8) (oi := ⟨some 82, _, _, _, _, _⟩) (v := ?_) rfl (by kernel_rfl) (by kernel_rfl) (by kernel_rfl) (fun _ _ _ h => h) (Or.inl ⟨by rfl, ?_⟩) hHeld ?_
  rotate_left
  · intro w hSw
    try dsimp only at hSw
    go_simp
    first | done | with_reducible rfl
  try simp only [Act.put, List.setIfInBounds_toArray, List.set_cons_zero, List.set_cons_succ]
  have o5 : W3.cell? ⟨St, 2, none⟩ = some (.slice A n c) := fcell hS3 rfl
  have z5 := fzero hS3 2
  refine wpAnyH_ready (rs := [9]) (by kernel_rfl) (by simp) (AllReadyH.cons (o := ⟨none, _, _, _, _, _⟩) rfl (fun K hK => ?_) AllReadyH.nil)
  go_simp
  have hs5 := gr_set W3 ⟨St, 2, none⟩ (.slice A k c)
  refine hK.out _ _ ?_ (fun hHeld => ?_)
  · exact hs5.cell p3 (by simp; have := hzd; omega)
  clear hK K
  try simp only [Act.put, List.setIfInBounds_toArray, List.set_cons_zero, List.set_cons_succ]
  refine wpAnyH_done (by kernel_rfl) ?_ _
  have hFin : StIs (W3.setCell ⟨St, 2, none⟩ (.slice A k c)) St base { s with now := mx, op := s.op.filter (fun y => !decide (y.tl < mx)) } A k c := ⟨blk_set hS3 2 (.slice A k c), own_after ho3 hs5 hap3⟩
  have gF := grs_trans g4 (tn_st hs5)
  generalize W3.setCell ⟨St, 2, none⟩ (.slice A k c) = WF at *
  clear o5 z5 hHeld hs5 g4 hS3 p3 g3 ho3 hSd cD d1 d2 y2 pd gd
  replace hFin := Lib.hid hFin
  replace gF := Lib.hid gF
  go_wp2
  go_end0
  have e9 := hmx.out
  subst e9
  exact ⟨rfl, ⟨A, k, c, stIs_gr hFin.out (gr_alloc _ _ _)⟩, grs_trans gF.out (tn_gr (gr_alloc _ _ _))⟩
/-- fold of any note into any state. -/
theorem dfold_any (St base : Nat) (s : StM) (A : Option Addr) (n c : Nat) (x : Nte) (w : World) (h : StIs w St base s A n c) (hbase : base ≤ w.heap.size) (hn : n ≤ 100000) (hso : Sorted s.op) (hids : Ids s.op) :
    Calls Tryz.prog 53 #[.pointer (some ⟨St, 0, none⟩), liftV x] w fun e w' => e = .returned (.tuple #[]) ∧ (∃ A' n' c', StIs w' St base (foldM s x) A' n' c') ∧ GrS (Tn St (Value.slice A n c).ownBlock) w w' := by
  unfold liftV foldM
  by_cases h1 : okOpen x
  · rw [if_pos h1, if_pos h1]
    exact dfold_opened St base s A n c x.c w h hbase h1.2.1 hn hso hids
  · rw [if_neg h1, if_neg h1]
    by_cases h2 : okClose x
    · rw [if_pos h2, if_pos h2]
      exact dfold_closed St base s A n c x.c.id w h h2.2.1 hn
    · rw [if_neg h2, if_neg h2]
      by_cases h3 : okClock x
      · rw [if_pos h3, if_pos h3]
        exact dfold_clock St base s A n c x.c.tl w h hn
      · rw [if_neg h3, if_neg h3]
        by_cases h4 : okSeg x
        · rw [if_pos h4, if_pos h4]
          exact dfold_seg St base s A n c x.c.file x.c.rows w h
        · rw [if_neg h4, if_neg h4]
          exact dfold_nil St base s A n c w h
end Go.Proofs.YtmldoeeangekoaaGreat
