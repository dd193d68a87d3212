/-
  One note that opens, folded into a state in which nothing is open. No condition but the machine's numbers.
-/
import Derived.Test.YtmldoeeangekoaaGreatDiaryFold1
import Derived.Test.YtmldoeeangekoaaGreatDiaryRead
import Derived.Deep.RegionHeld3
namespace Go.Proofs.YtmldoeeangekoaaGreat
open Go.RowKit

def stC (nx now : Int) (op : Value) (seg : List UInt8) (pts : Int) : Array Value := #[.int .i64 nx, .int .i64 now, op, .string (txt seg), .int .i64 pts]
def StAt (w : World) (St : Nat) (nx now : Int) (op : Value) (seg : List UInt8) (pts : Int) : Prop := w.heap[St]? = some (.cells (stC nx now op seg pts) 56 (0, 0))
theorem stAt_gr {w w' : World} {St : Nat} {nx now : Int} {op : Value} {seg : List UInt8} {pts : Int} (h : StAt w St nx now op seg pts) (g : Gr w w') : StAt w' St nx now op seg pts := gr_blk g h (by simp)
set_option maxHeartbeats 4000000 in
set_option maxRecDepth 100000 in
theorem dclose0 (St : Nat) (id nx now : Int) (seg : List UInt8) (pts : Int) (w : World) (h : StAt w St nx now (.slice none 0 0) seg pts) (hid : 0 ≤ id ∧ id ≤ 1000000) (hnx : nx ≤ id) :
    Calls Tryz.prog 128 #[.pointer (some ⟨St, 0, none⟩), .int .i64 id] w fun e w' => e = .returned (.tuple #[]) ∧ StAt w' St (id + 1) now (.slice none 0 0) seg pts ∧ w.grownBy w' (some St) := by
  have hlt := lt_of_blk h
  have h1 : StAt (w.alloc (.cells #[.int .i64 id] 3)) St nx now (.slice none 0 0) seg pts := stAt_gr h (gr_alloc _ _ _)
  have c0 : (w.alloc (.cells #[.int .i64 id] 3)).cell? ⟨St, 2, none⟩ = some (.slice none 0 0) := fcell h1 rfl
  have z0 := fzero h1 2
  obtain ⟨W2, hW2⟩ : ∃ W2, W2 = (w.setCell ⟨St, 2, none⟩ (.slice none 0 0)).alloc (.cells #[.int .i64 id] 3) := ⟨_, rfl⟩
  have hs0 : (w.setCell ⟨St, 2, none⟩ (.slice none 0 0)).heap.size = w.heap.size := by simp
  have hb2 : W2.cell? ⟨w.heap.size, 0, none⟩ = some (.int .i64 id) := by rw [hW2, ← hs0]; exact cell0_new _ _ _
  have g2 : w.grownBy W2 (some St) := by rw [hW2]; exact (gr_set w ⟨St, 2, none⟩ _).trans (gr_alloc _ _ _)
  have h2 : StAt W2 St nx now (.slice none 0 0) seg pts := by rw [hW2]; exact stAt_gr (blk_set h 2 (.slice none 0 0)) (gr_alloc _ _ _)
  have d0 : W2.cell? ⟨St, 0, none⟩ = some (.int .i64 nx) := fcell h2 rfl
  have y0 := fzero h2 0
  have hw : IntKind.i64.wrap (id + 1) = id + 1 := IntWalk.i64_in _ (by omega)
  replace h := Lib.hid h
  replace h2 := Lib.hid h2
  replace g2 := Lib.hid g2
  go_enter Tryz.func128, Tryz.ntmps128
  go_wp2_with fail
  refine (ddelete0 _ _).mono ?_
  rintro e w3 ⟨rfl, hw3⟩
  subst hw3
  go_upto_region 2 with fail
  rw [← hW2]
  clear c0 z0 h1 hs0
  replace hW2 := Lib.hid hW2
  go_region
  all_goals
    go_wp2
    all_goals first | (exfalso; omega) | skip
    go_end0
    exact ⟨rfl, stAt_gr (blk_set h2.out 0 (.int .i64 (id + 1))) (gr_drew _ _), (g2.out.trans (gr_set W2 ⟨St, 0, none⟩ _)).trans (gr_drew _ _)⟩
theorem gr_any {w w' : World} (h : Gr w w') (r : Option Nat) : w.grownBy w' r := ⟨h.os, h.tape, h.output, h.size, fun k hk _ => h.block k hk (by simp)⟩
theorem ta_open1 (v : Value) (W : World) : (Instr.typeAssert (.iface 168 v) 20 168 true).run Tryz.prog W = .ok (.tuple #[v, .bool true]) W := by
  simp [Instr.typeAssert, Sem.run_bind, run_underlying Tryz.underlying168, Tryz.zeroValue168, Result.andThen]
theorem ta_open2 (v : Value) (W : World) : (Instr.typeAssert (.iface 168 v) 20 170 true).run Tryz.prog W = .ok (.tuple #[.agg #[.int .i64 0], .bool false]) W := by
  simp [Instr.typeAssert, Sem.run_bind, run_underlying Tryz.underlying170, Tryz.zeroValue170, Result.andThen]
theorem ta_open3 (v : Value) (W : World) : (Instr.typeAssert (.iface 168 v) 20 172 true).run Tryz.prog W = .ok (.tuple #[.agg #[.int .i64 0], .bool false]) W := by
  simp [Instr.typeAssert, Sem.run_bind, run_underlying Tryz.underlying172, Tryz.zeroValue172, Result.andThen]
theorem ta_open4 (v : Value) (W : World) : (Instr.typeAssert (.iface 168 v) 20 174 true).run Tryz.prog W = .ok (.tuple #[.agg #[.string ⟨#[]⟩, .int .i64 0], .bool false]) W := by
  simp [Instr.typeAssert, Sem.run_bind, run_underlying Tryz.underlying174, Tryz.zeroValue174, Result.andThen]
set_option maxHeartbeats 16000000 in
set_option maxRecDepth 100000 in
theorem dfold_open (St : Nat) (x : Cur) (now : Int) (seg : List UInt8) (pts : Int) (w : World) (h : StAt w St 1 now (.slice none 0 0) seg pts) (hid : 1 ≤ x.id ∧ x.id ≤ 1000000) :
    Calls Tryz.prog 53 #[.pointer (some ⟨St, 0, none⟩), .iface 168 (.agg #[.int .i64 x.id, .int .i64 x.rows, .int .i64 x.size, .int .i64 x.tl, .string (txt x.file)])] w fun e w' => e = .returned (.tuple #[]) ∧ (∃ A cap, StAt w' St (x.id + 1) now (.slice A 1 cap) seg pts) ∧ w.grownBy w' (some St) := by
  have hlt := lt_of_blk h
  have ta1 := fun W => ta_open1 (.agg #[.int .i64 x.id, .int .i64 x.rows, .int .i64 x.size, .int .i64 x.tl, .string (txt x.file)]) W
  have ta2 := fun W => ta_open2 (.agg #[.int .i64 x.id, .int .i64 x.rows, .int .i64 x.size, .int .i64 x.tl, .string (txt x.file)]) W
  have ta3 := fun W => ta_open3 (.agg #[.int .i64 x.id, .int .i64 x.rows, .int .i64 x.size, .int .i64 x.tl, .string (txt x.file)]) W
  have ta4 := fun W => ta_open4 (.agg #[.int .i64 x.id, .int .i64 x.rows, .int .i64 x.size, .int .i64 x.tl, .string (txt x.file)]) W
  have cC := fun W hW => dclose0 St x.id 1 now seg pts W hW (by omega) hid.1
  replace cC := Lib.hid cC
  replace h := Lib.hid h
  go_enter Tryz.func53, Tryz.ntmps53
  go_wp2_with fail
  obtain ⟨W1, hW1⟩ : ∃ W1, W1 = (w.alloc (.cells #[.pointer (some ⟨St, 0, none⟩)] 177)).alloc (.cells #[.int .i64 x.id, .int .i64 x.rows, .int .i64 x.size, .int .i64 x.tl, .string (txt x.file)] 168) := ⟨_, rfl⟩
  rw [← hW1]
  have hz1 : (w.alloc (.cells #[.pointer (some ⟨St, 0, none⟩)] 177)).heap.size = w.heap.size + 1 := by simp
  have g1 : Gr w W1 := by rw [hW1]; exact gr_trans (gr_alloc _ _ _) (gr_alloc _ _ _)
  have p1 : W1.cell? ⟨w.heap.size, 0, none⟩ = some (.pointer (some ⟨St, 0, none⟩)) := by rw [hW1]; exact gr_cell (gr_alloc _ _ none) (cell0_new _ _ _)
  have q1 : ∀ j v, (#[.int .i64 x.id, .int .i64 x.rows, .int .i64 x.size, .int .i64 x.tl, .string (txt x.file)] : Array Value)[j]? = some v → W1.cell? ⟨w.heap.size + 1, j, none⟩ = some v := fun j v hj => by rw [hW1, ← hz1, World.cell?_alloc_new]; exact hj
  have st : ∀ w', W1.grownBy w' (some St) → (w'.cell? ⟨w.heap.size, 0, none⟩ = some (.pointer (some ⟨St, 0, none⟩)) ∧ w'.cell? ⟨w.heap.size + 1, 0, none⟩ = some (.int .i64 x.id) ∧ w'.cell? ⟨w.heap.size + 1, 1, none⟩ = some (.int .i64 x.rows) ∧ w'.cell? ⟨w.heap.size + 1, 2, none⟩ = some (.int .i64 x.size) ∧ w'.cell? ⟨w.heap.size + 1, 3, none⟩ = some (.int .i64 x.tl) ∧ w'.cell? ⟨w.heap.size + 1, 4, none⟩ = some (.string (txt x.file))) := fun w' g => ⟨g.cell p1 (by simp; omega), g.cell (q1 0 _ rfl) (by simp; omega), g.cell (q1 1 _ rfl) (by simp; omega), g.cell (q1 2 _ rfl) (by simp; omega), g.cell (q1 3 _ rfl) (by simp; omega), g.cell (q1 4 _ rfl) (by simp; omega)⟩
  have hS1 := stAt_gr h.out g1
  replace st := Lib.hid st
  replace g1 := Lib.hid g1
  clear hW1 hz1 p1 q1
  refine (cC.out _ hS1).mono ?_
  rintro e W2 ⟨rfl, hS2, g2⟩
  clear hS1
  obtain ⟨p2, q20, q21, q22, q23, q24⟩ := st.out _ g2
  have o2 : W2.cell? ⟨St, 2, none⟩ = some (.slice none 0 0) := fcell hS2 rfl
  replace hS2 := Lib.hid hS2
  replace g2 := Lib.hid g2
  go_wp2_with fail
  go_quiet ((go_at_call 129; exact Calls.quiet_of_same ((dsearch0 _ _ _).mono fun _ _ ⟨a, b⟩ => ⟨a, b.symm⟩)))
  obtain ⟨W3, hW3⟩ : ∃ W3, W3 = W2.drewN nq := ⟨_, rfl⟩
  rw [← hW3]
  have g23 : Gr W2 W3 := by rw [hW3]; exact gr_drewN _ _ _
  have g3 : W1.grownBy W3 (some St) := g2.out.trans (gr_any g23 _)
  have hS3 := stAt_gr hS2.out g23
  clear hW3 p2 q20 q21 q22 q23 q24 o2 g23
  go_upto_region 5 with fail
  refine wp_region_held_drew (S := (fun w' => w'.cell? ⟨w.heap.size, 0, none⟩ = some (.pointer (some ⟨St, 0, none⟩)) ∧ w'.cell? ⟨w.heap.size + 1, 0, none⟩ = some (.int .i64 x.id) ∧ w'.cell? ⟨w.heap.size + 1, 1, none⟩ = some (.int .i64 x.rows) ∧ w'.cell? ⟨w.heap.size + 1, 2, none⟩ = some (.int .i64 x.size) ∧ w'.cell? ⟨w.heap.size + 1, 3, none⟩ = some (.int .i64 x.tl) ∧ w'.cell? ⟨w.heap.size + 1, 4, none⟩ = some (.string (txt x.file)))) (by kernel_rfl) (st.out _ (g3.trans (gr_drew _ _))) (fun hHeld => ?_)
  have gd : W1.grownBy W3.drew (some St) := g3.trans (gr_drew _ _)
  have hS4 : StAt W3.drew St (x.id + 1) now (.slice none 0 0) seg pts := stAt_gr hS3 (gr_drew _ _)
  clear g3 hS3
  generalize W3.drew = wd at *
  have o3 : wd.cell? ⟨St, 2, none⟩ = some (.slice none 0 0) := fcell hS4 rfl
  refine wpAnyH_take (i := 0) (oi := ⟨some 36, _, _, _, _, _⟩) (v := ?_) rfl (by kernel_rfl) (by kernel_rfl) (by kernel_rfl) (fun _ _ _ h => h) (Or.inl ⟨by rfl, ?_⟩) hHeld ?_
  rotate_left
  · intro w hSw
    try dsimp only at hSw
    go_simp
    first | done | with_reducible rfl
  try simp only [Act.put, List.setIfInBounds_toArray, List.set_cons_zero, List.set_cons_succ]
  refine wpAnyH_take (i := 1) (oi := ⟨some 37, _, _, _, _, _⟩) (v := ?_) rfl (by kernel_rfl) (by kernel_rfl) (by kernel_rfl) (fun _ _ _ h => h) (Or.inl ⟨by rfl, ?_⟩) hHeld ?_
  rotate_left
  · intro w hSw
    try dsimp only at hSw
    go_simp
    first | done | with_reducible rfl
  try simp only [Act.put, List.setIfInBounds_toArray, List.set_cons_zero, List.set_cons_succ]
  refine wpAnyH_take (i := 2) (oi := ⟨some 38, _, _, _, _, _⟩) (v := ?_) rfl (by kernel_rfl) (by kernel_rfl) (by kernel_rfl) (fun _ _ _ h => h) (Or.inl ⟨by rfl, ?_⟩) hHeld ?_
  rotate_left
  · intro w hSw
    try dsimp only at hSw
    go_simp
    first | done | with_reducible rfl
  try simp only [Act.put, List.setIfInBounds_toArray, List.set_cons_zero, List.set_cons_succ]
  refine wpAnyH_take (i := 3) (oi := ⟨some 39, _, _, _, _, _⟩) (v := ?_) rfl (by kernel_rfl) (by kernel_rfl) (by kernel_rfl) (fun _ _ _ h => h) (Or.inl ⟨by rfl, ?_⟩) hHeld ?_
  rotate_left
  · intro w hSw
    try dsimp only at hSw
    go_simp
    first | done | with_reducible rfl
  try simp only [Act.put, List.setIfInBounds_toArray, List.set_cons_zero, List.set_cons_succ]
  refine wpAnyH_take (i := 5) (oi := ⟨some 41, _, _, _, _, _⟩) (v := ?_) rfl (by kernel_rfl) (by kernel_rfl) (by kernel_rfl) (fun _ _ _ h => h) (Or.inl ⟨by rfl, ?_⟩) hHeld ?_
  rotate_left
  · intro w hSw
    try dsimp only at hSw
    go_simp
    first | done | with_reducible rfl
  try simp only [Act.put, List.setIfInBounds_toArray, List.set_cons_zero, List.set_cons_succ]
  refine wpAnyH_take (i := 6) (oi := ⟨some 42, _, _, _, _, _⟩) (v := ?_) rfl (by kernel_rfl) (by kernel_rfl) (by kernel_rfl) (fun _ _ _ h => h) (Or.inl ⟨by rfl, ?_⟩) hHeld ?_
  rotate_left
  · intro w hSw
    try dsimp only at hSw
    go_simp
    first | done | with_reducible rfl
  try simp only [Act.put, List.setIfInBounds_toArray, List.set_cons_zero, List.set_cons_succ]
  refine wpAnyH_take (i := 7) (oi := ⟨some 43, _, _, _, _, _⟩) (v := ?_) rfl (by kernel_rfl) (by kernel_rfl) (by kernel_rfl) (fun _ _ _ h => h) (Or.inl ⟨by rfl, ?_⟩) hHeld ?_
  rotate_left
  · intro w hSw
    try dsimp only at hSw
    go_simp
    first | done | with_reducible rfl
  try simp only [Act.put, List.setIfInBounds_toArray, List.set_cons_zero, List.set_cons_succ]
  refine wpAnyH_ready (rs := [4, 8]) (by kernel_rfl) (by simp) (AllReadyH.cons (o := ⟨some 40, _, _, _, _, _⟩) rfl (fun K hK => ?_) (AllReadyH.cons (o := ⟨some 44, _, _, _, _, _⟩) rfl (fun K hK => ?_) AllReadyH.nil))
  · skip
    go_simp
    refine hK.out _ _ ?_ (fun hHeld => ?_)
    · exact hHeld
    clear hK K
    try simp only [Act.put, List.setIfInBounds_toArray, List.set_cons_zero, List.set_cons_succ]
    refine wpAnyH_ready (rs := [8]) (by kernel_rfl) (by simp) (AllReadyH.cons (o := ⟨some 44, _, _, _, _, _⟩) rfl (fun K hK => ?_) AllReadyH.nil)
    go_simp
    refine hK.out _ _ ?_ (fun hHeld => ?_)
    · exact st.out _ (gd.trans (gr_alloc _ _ _))
    clear hK K
    try simp only [Act.put, List.setIfInBounds_toArray, List.set_cons_zero, List.set_cons_succ]
    have o4 := gr_cell (gr_alloc wd (.cells #[.int .i64 x.id, .int .i64 x.rows, .int .i64 x.size, .int .i64 x.tl, .string (txt x.file)] 28) none) o3
    refine wpAnyH_ready (rs := [9]) (by kernel_rfl) (by simp) (AllReadyH.cons (o := ⟨some 45, _, _, _, _, _⟩) rfl (fun K hK => ?_) AllReadyH.nil)
    go_simp
    refine (dinsert0 _ x _ (fun j hj => by rw [World.cell?_alloc_new]; show (curC x).toArray[j]? = _; rw [List.getElem?_toArray])).mono ?_
    rintro e wI ⟨A, cap, rfl, hoI, gI⟩
    try (go_wp2_with fail)
    have gI2 := (gd.trans (gr_alloc wd (.cells #[.int .i64 x.id, .int .i64 x.rows, .int .i64 x.size, .int .i64 x.tl, .string (txt x.file)] 28) (some St))).trans (gr_any gI (some St))
    have hSI := stAt_gr (stAt_gr hS4 (gr_alloc wd (.cells #[.int .i64 x.id, .int .i64 x.rows, .int .i64 x.size, .int .i64 x.tl, .string (txt x.file)] 28) none)) gI
    refine hK.out _ _ ?_ (fun hHeld => ?_)
    · exact st.out _ gI2
    clear hK K hoI
    try simp only [Act.put, List.setIfInBounds_toArray, List.set_cons_zero, List.set_cons_succ]
    refine wpAnyH_take (i := 10) (oi := ⟨some 46, _, _, _, _, _⟩) (v := ?_) rfl (by kernel_rfl) (by kernel_rfl) (by kernel_rfl) (fun _ _ _ h => h) (Or.inl ⟨by rfl, ?_⟩) hHeld ?_
    rotate_left
    · intro w hSw
      try dsimp only at hSw
      go_simp
      first | done | with_reducible rfl
    try simp only [Act.put, List.setIfInBounds_toArray, List.set_cons_zero, List.set_cons_succ]
    refine wpAnyH_take (i := 11) (oi := ⟨some 47, _, _, _, _, _⟩) (v := ?_) rfl (by kernel_rfl) (by kernel_rfl) (by kernel_rfl) (fun _ _ _ h => h) (Or.inl ⟨by rfl, ?_⟩) hHeld ?_
    rotate_left
    · intro w hSw
      try dsimp only at hSw
      go_simp
      first | done | with_reducible rfl
    try simp only [Act.put, List.setIfInBounds_toArray, List.set_cons_zero, List.set_cons_succ]
    have o5 : wI.cell? ⟨St, 2, none⟩ = some (.slice none 0 0) := fcell hSI rfl
    have z5 := fzero hSI 2
    refine wpAnyH_ready (rs := [12]) (by kernel_rfl) (by simp) (AllReadyH.cons (o := ⟨none, _, _, _, _, _⟩) rfl (fun K hK => ?_) AllReadyH.nil)
    go_simp
    refine hK.out _ _ ?_ (fun hHeld => ?_)
    · exact st.out _ (gI2.trans (gr_set wI ⟨St, 2, none⟩ _))
    clear hK K
    try simp only [Act.put, List.setIfInBounds_toArray, List.set_cons_zero, List.set_cons_succ]
    refine wpAnyH_done (by kernel_rfl) ?_ _
    have hSF : StAt (wI.setCell ⟨St, 2, none⟩ (.slice A 1 cap)) St (x.id + 1) now (.slice A 1 cap) seg pts := blk_set hSI 2 (.slice A 1 cap)
    have gF := gI2.trans (gr_set wI ⟨St, 2, none⟩ (.slice A 1 cap))
    generalize wI.setCell ⟨St, 2, none⟩ (.slice A 1 cap) = WF at *
    clear o3 o4 o5 z5 hHeld hSI gI gI2 hS4 gd
    replace hSF := Lib.hid hSF
    replace gF := Lib.hid gF
    go_wp2
    go_end0
    exact ⟨rfl, ⟨A, cap, stAt_gr (stAt_gr (stAt_gr hSF.out (gr_alloc _ _ _)) (gr_alloc _ _ _)) (gr_alloc _ _ _)⟩, ((((gr_any g1.out (some St)).trans gF.out).trans (gr_alloc _ _ _)).trans (gr_alloc _ _ _)).trans (gr_alloc _ _ _)⟩
  · skip
    go_simp
    refine hK.out _ _ ?_ (fun hHeld => ?_)
    · exact st.out _ (gd.trans (gr_alloc _ _ _))
    clear hK K
    try simp only [Act.put, List.setIfInBounds_toArray, List.set_cons_zero, List.set_cons_succ]
    have o4 := gr_cell (gr_alloc wd (.cells #[.int .i64 x.id, .int .i64 x.rows, .int .i64 x.size, .int .i64 x.tl, .string (txt x.file)] 28) none) o3
    refine wpAnyH_ready (rs := [4]) (by kernel_rfl) (by simp) (AllReadyH.cons (o := ⟨some 40, _, _, _, _, _⟩) rfl (fun K hK => ?_) AllReadyH.nil)
    go_simp
    refine hK.out _ _ ?_ (fun hHeld => ?_)
    · exact hHeld
    clear hK K
    try simp only [Act.put, List.setIfInBounds_toArray, List.set_cons_zero, List.set_cons_succ]
    refine wpAnyH_ready (rs := [9]) (by kernel_rfl) (by simp) (AllReadyH.cons (o := ⟨some 45, _, _, _, _, _⟩) rfl (fun K hK => ?_) AllReadyH.nil)
    go_simp
    refine (dinsert0 _ x _ (fun j hj => by rw [World.cell?_alloc_new]; show (curC x).toArray[j]? = _; rw [List.getElem?_toArray])).mono ?_
    rintro e wI ⟨A, cap, rfl, hoI, gI⟩
    try (go_wp2_with fail)
    have gI2 := (gd.trans (gr_alloc wd (.cells #[.int .i64 x.id, .int .i64 x.rows, .int .i64 x.size, .int .i64 x.tl, .string (txt x.file)] 28) (some St))).trans (gr_any gI (some St))
    have hSI := stAt_gr (stAt_gr hS4 (gr_alloc wd (.cells #[.int .i64 x.id, .int .i64 x.rows, .int .i64 x.size, .int .i64 x.tl, .string (txt x.file)] 28) none)) gI
    refine hK.out _ _ ?_ (fun hHeld => ?_)
    · exact st.out _ gI2
    clear hK K hoI
    try simp only [Act.put, List.setIfInBounds_toArray, List.set_cons_zero, List.set_cons_succ]
    refine wpAnyH_take (i := 10) (oi := ⟨some 46, _, _, _, _, _⟩) (v := ?_) rfl (by kernel_rfl) (by kernel_rfl) (by kernel_rfl) (fun _ _ _ h => h) (Or.inl ⟨by rfl, ?_⟩) hHeld ?_
    rotate_left
    · intro w hSw
      try dsimp only at hSw
      go_simp
      first | done | with_reducible rfl
    try simp only [Act.put, List.setIfInBounds_toArray, List.set_cons_zero, List.set_cons_succ]
    refine wpAnyH_take (i := 11) (oi := ⟨some 47, _, _, _, _, _⟩) (v := ?_) rfl (by kernel_rfl) (by kernel_rfl) (by kernel_rfl) (fun _ _ _ h => h) (Or.inl ⟨by rfl, ?_⟩) hHeld ?_
    rotate_left
    · intro w hSw
      try dsimp only at hSw
      go_simp
      first | done | with_reducible rfl
    try simp only [Act.put, List.setIfInBounds_toArray, List.set_cons_zero, List.set_cons_succ]
    have o5 : wI.cell? ⟨St, 2, none⟩ = some (.slice none 0 0) := fcell hSI rfl
    have z5 := fzero hSI 2
    refine wpAnyH_ready (rs := [12]) (by kernel_rfl) (by simp) (AllReadyH.cons (o := ⟨none, _, _, _, _, _⟩) rfl (fun K hK => ?_) AllReadyH.nil)
    go_simp
    refine hK.out _ _ ?_ (fun hHeld => ?_)
    · exact st.out _ (gI2.trans (gr_set wI ⟨St, 2, none⟩ _))
    clear hK K
    try simp only [Act.put, List.setIfInBounds_toArray, List.set_cons_zero, List.set_cons_succ]
    refine wpAnyH_done (by kernel_rfl) ?_ _
    have hSF : StAt (wI.setCell ⟨St, 2, none⟩ (.slice A 1 cap)) St (x.id + 1) now (.slice A 1 cap) seg pts := blk_set hSI 2 (.slice A 1 cap)
    have gF := gI2.trans (gr_set wI ⟨St, 2, none⟩ (.slice A 1 cap))
    generalize wI.setCell ⟨St, 2, none⟩ (.slice A 1 cap) = WF at *
    clear o3 o4 o5 z5 hHeld hSI gI gI2 hS4 gd
    replace hSF := Lib.hid hSF
    replace gF := Lib.hid gF
    go_wp2
    go_end0
    exact ⟨rfl, ⟨A, cap, stAt_gr (stAt_gr (stAt_gr hSF.out (gr_alloc _ _ _)) (gr_alloc _ _ _)) (gr_alloc _ _ _)⟩, ((((gr_any g1.out (some St)).trans gF.out).trans (gr_alloc _ _ _)).trans (gr_alloc _ _ _)).trans (gr_alloc _ _ _)⟩
end Go.Proofs.YtmldoeeangekoaaGreat
