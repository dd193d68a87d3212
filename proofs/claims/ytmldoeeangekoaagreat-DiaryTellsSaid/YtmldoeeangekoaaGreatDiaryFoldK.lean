/-
  diary's fold of any note into any state. No condition but the machine's numbers.
-/
import Derived.Test.YtmldoeeangekoaaGreatDiaryClose
import Derived.Deep.RegionHeld3
namespace Go.Proofs.YtmldoeeangekoaaGreat
open Go.RowKit

theorem ta_opened_opened (v : Value) (W : World) : (Instr.typeAssert (.iface 168 v) 20 168 true).run Tryz.prog W = .ok (.tuple #[v, .bool true]) W := by
  simp [Instr.typeAssert, Sem.run_bind, run_underlying Tryz.underlying168, Tryz.zeroValue168, Result.andThen]
theorem ta_opened_closed (v : Value) (W : World) : (Instr.typeAssert (.iface 168 v) 20 170 true).run Tryz.prog W = .ok (.tuple #[.agg #[.int .i64 0], .bool false]) W := by
  simp [Instr.typeAssert, Sem.run_bind, run_underlying Tryz.underlying170, Tryz.zeroValue170, Result.andThen]
theorem ta_opened_clock (v : Value) (W : World) : (Instr.typeAssert (.iface 168 v) 20 172 true).run Tryz.prog W = .ok (.tuple #[.agg #[.int .i64 0], .bool false]) W := by
  simp [Instr.typeAssert, Sem.run_bind, run_underlying Tryz.underlying172, Tryz.zeroValue172, Result.andThen]
theorem ta_opened_segment (v : Value) (W : World) : (Instr.typeAssert (.iface 168 v) 20 174 true).run Tryz.prog W = .ok (.tuple #[.agg #[.string ⟨#[]⟩, .int .i64 0], .bool false]) W := by
  simp [Instr.typeAssert, Sem.run_bind, run_underlying Tryz.underlying174, Tryz.zeroValue174, Result.andThen]
theorem ta_closed_opened (v : Value) (W : World) : (Instr.typeAssert (.iface 170 v) 20 168 true).run Tryz.prog W = .ok (.tuple #[.agg #[.int .i64 0, .int .i64 0, .int .i64 0, .int .i64 0, .string ⟨#[]⟩], .bool false]) W := by
  simp [Instr.typeAssert, Sem.run_bind, run_underlying Tryz.underlying168, Tryz.zeroValue168, Result.andThen]
theorem ta_closed_closed (v : Value) (W : World) : (Instr.typeAssert (.iface 170 v) 20 170 true).run Tryz.prog W = .ok (.tuple #[v, .bool true]) W := by
  simp [Instr.typeAssert, Sem.run_bind, run_underlying Tryz.underlying170, Tryz.zeroValue170, Result.andThen]
theorem ta_closed_clock (v : Value) (W : World) : (Instr.typeAssert (.iface 170 v) 20 172 true).run Tryz.prog W = .ok (.tuple #[.agg #[.int .i64 0], .bool false]) W := by
  simp [Instr.typeAssert, Sem.run_bind, run_underlying Tryz.underlying172, Tryz.zeroValue172, Result.andThen]
theorem ta_closed_segment (v : Value) (W : World) : (Instr.typeAssert (.iface 170 v) 20 174 true).run Tryz.prog W = .ok (.tuple #[.agg #[.string ⟨#[]⟩, .int .i64 0], .bool false]) W := by
  simp [Instr.typeAssert, Sem.run_bind, run_underlying Tryz.underlying174, Tryz.zeroValue174, Result.andThen]
theorem ta_clock_opened (v : Value) (W : World) : (Instr.typeAssert (.iface 172 v) 20 168 true).run Tryz.prog W = .ok (.tuple #[.agg #[.int .i64 0, .int .i64 0, .int .i64 0, .int .i64 0, .string ⟨#[]⟩], .bool false]) W := by
  simp [Instr.typeAssert, Sem.run_bind, run_underlying Tryz.underlying168, Tryz.zeroValue168, Result.andThen]
theorem ta_clock_closed (v : Value) (W : World) : (Instr.typeAssert (.iface 172 v) 20 170 true).run Tryz.prog W = .ok (.tuple #[.agg #[.int .i64 0], .bool false]) W := by
  simp [Instr.typeAssert, Sem.run_bind, run_underlying Tryz.underlying170, Tryz.zeroValue170, Result.andThen]
theorem ta_clock_clock (v : Value) (W : World) : (Instr.typeAssert (.iface 172 v) 20 172 true).run Tryz.prog W = .ok (.tuple #[v, .bool true]) W := by
  simp [Instr.typeAssert, Sem.run_bind, run_underlying Tryz.underlying172, Tryz.zeroValue172, Result.andThen]
theorem ta_clock_segment (v : Value) (W : World) : (Instr.typeAssert (.iface 172 v) 20 174 true).run Tryz.prog W = .ok (.tuple #[.agg #[.string ⟨#[]⟩, .int .i64 0], .bool false]) W := by
  simp [Instr.typeAssert, Sem.run_bind, run_underlying Tryz.underlying174, Tryz.zeroValue174, Result.andThen]
theorem ta_segment_opened (v : Value) (W : World) : (Instr.typeAssert (.iface 174 v) 20 168 true).run Tryz.prog W = .ok (.tuple #[.agg #[.int .i64 0, .int .i64 0, .int .i64 0, .int .i64 0, .string ⟨#[]⟩], .bool false]) W := by
  simp [Instr.typeAssert, Sem.run_bind, run_underlying Tryz.underlying168, Tryz.zeroValue168, Result.andThen]
theorem ta_segment_closed (v : Value) (W : World) : (Instr.typeAssert (.iface 174 v) 20 170 true).run Tryz.prog W = .ok (.tuple #[.agg #[.int .i64 0], .bool false]) W := by
  simp [Instr.typeAssert, Sem.run_bind, run_underlying Tryz.underlying170, Tryz.zeroValue170, Result.andThen]
theorem ta_segment_clock (v : Value) (W : World) : (Instr.typeAssert (.iface 174 v) 20 172 true).run Tryz.prog W = .ok (.tuple #[.agg #[.int .i64 0], .bool false]) W := by
  simp [Instr.typeAssert, Sem.run_bind, run_underlying Tryz.underlying172, Tryz.zeroValue172, Result.andThen]
theorem ta_segment_segment (v : Value) (W : World) : (Instr.typeAssert (.iface 174 v) 20 174 true).run Tryz.prog W = .ok (.tuple #[v, .bool true]) W := by
  simp [Instr.typeAssert, Sem.run_bind, run_underlying Tryz.underlying174, Tryz.zeroValue174, Result.andThen]
theorem ta_nil_opened (W : World) : (Instr.typeAssert .nilIface 20 168 true).run Tryz.prog W = .ok (.tuple #[.agg #[.int .i64 0, .int .i64 0, .int .i64 0, .int .i64 0, .string ⟨#[]⟩], .bool false]) W := by
  simp [Instr.typeAssert, Sem.run_bind, run_underlying Tryz.underlying168, Tryz.zeroValue168, Result.andThen]
theorem ta_nil_closed (W : World) : (Instr.typeAssert .nilIface 20 170 true).run Tryz.prog W = .ok (.tuple #[.agg #[.int .i64 0], .bool false]) W := by
  simp [Instr.typeAssert, Sem.run_bind, run_underlying Tryz.underlying170, Tryz.zeroValue170, Result.andThen]
theorem ta_nil_clock (W : World) : (Instr.typeAssert .nilIface 20 172 true).run Tryz.prog W = .ok (.tuple #[.agg #[.int .i64 0], .bool false]) W := by
  simp [Instr.typeAssert, Sem.run_bind, run_underlying Tryz.underlying172, Tryz.zeroValue172, Result.andThen]
theorem ta_nil_segment (W : World) : (Instr.typeAssert .nilIface 20 174 true).run Tryz.prog W = .ok (.tuple #[.agg #[.string ⟨#[]⟩, .int .i64 0], .bool false]) W := by
  simp [Instr.typeAssert, Sem.run_bind, run_underlying Tryz.underlying174, Tryz.zeroValue174, Result.andThen]
theorem fr_keep {w w' : World} {St : Nat} {ob : Option Nat} (h : GrS (Tn St ob) w w') (hob : ∀ k, ob = some k → k < w.heap.size) (W : World) (hW : w.heap.size ≤ W.heap.size) : True := trivial
set_option maxHeartbeats 32000000 in
set_option maxRecDepth 100000 in
theorem dfold_opened (St base : Nat) (s : StM) (A : Option Addr) (n c : Nat) (x : Cur) (w : World) (h : StIs w St base s A n c) (hbase : base ≤ w.heap.size) (hid : 1 ≤ x.id ∧ x.id ≤ 1000000) (hn : n ≤ 100000) (hso : Sorted s.op) (hids : Ids s.op) :
    Calls Tryz.prog 53 #[.pointer (some ⟨St, 0, none⟩), .iface 168 (.agg #[.int .i64 x.id, .int .i64 x.rows, .int .i64 x.size, .int .i64 x.tl, .string (txt x.file)])] w fun e w' => e = .returned (.tuple #[]) ∧ (∃ A' n' c', StIs w' St base { closeM s x.id with op := insM x (closeM s x.id).op } A' n' c') ∧ GrS (Tn St (Value.slice A n c).ownBlock) w w' := by
  have hlt := lt_of_blk h.1
  have hobl : ∀ k, (Value.slice A n c).ownBlock = some k → k < w.heap.size := fun k hk => (h.2.lt k hk).2
  have hlen : s.op.length = n := by have := h.2.1; rw [sR_len curC 5 curC_len] at this; omega
  have ta1 := fun W => ta_opened_opened (.agg #[.int .i64 x.id, .int .i64 x.rows, .int .i64 x.size, .int .i64 x.tl, .string (txt x.file)]) W
  have ta2 := fun W => ta_opened_closed (.agg #[.int .i64 x.id, .int .i64 x.rows, .int .i64 x.size, .int .i64 x.tl, .string (txt x.file)]) W
  have ta3 := fun W => ta_opened_clock (.agg #[.int .i64 x.id, .int .i64 x.rows, .int .i64 x.size, .int .i64 x.tl, .string (txt x.file)]) W
  have ta4 := fun W => ta_opened_segment (.agg #[.int .i64 x.id, .int .i64 x.rows, .int .i64 x.size, .int .i64 x.tl, .string (txt x.file)]) W
  have cC := fun W hW => dclose St base s A n c x.id W hW hid (by omega)
  have hso2 : Sorted (closeM s x.id).op := List.Pairwise.filter _ hso
  have hids2 : Ids (closeM s x.id).op := fun y hy => hids y (List.mem_filter.1 hy).1
  have hne2 : ∀ y ∈ (closeM s x.id).op, y.id ≠ x.id := fun y hy => by have := (List.mem_filter.1 hy).2; simpa using this
  replace cC := Lib.hid cC
  replace h := Lib.hid h
  replace hobl := Lib.hid hobl
  replace hso2 := Lib.hid hso2
  replace hids2 := Lib.hid hids2
  clear hne2 hso hids
  go_enter Tryz.func53, Tryz.ntmps53
  go_wp2_with fail
  obtain ⟨W1, hW1⟩ : ∃ W1, W1 = (w.alloc (.cells #[.pointer (some ⟨St, 0, none⟩)] 177)).alloc (.cells #[.int .i64 x.id, .int .i64 x.rows, .int .i64 x.size, .int .i64 x.tl, .string (txt x.file)] 168) := ⟨_, rfl⟩
  rw [← hW1]
  have hz1 : (w.alloc (.cells #[.pointer (some ⟨St, 0, none⟩)] 177)).heap.size = w.heap.size + 1 := by simp
  have hz2 : W1.heap.size = w.heap.size + 2 := by rw [hW1]; simp
  have g1 : Gr w W1 := by rw [hW1]; exact gr_trans (gr_alloc _ _ _) (gr_alloc _ _ _)
  have p1 : W1.cell? ⟨w.heap.size, 0, none⟩ = some (.pointer (some ⟨St, 0, none⟩)) := by rw [hW1]; exact gr_cell (gr_alloc _ _ none) (cell0_new _ _ _)
  have q1 : ∀ j v, (#[.int .i64 x.id, .int .i64 x.rows, .int .i64 x.size, .int .i64 x.tl, .string (txt x.file)] : Array Value)[j]? = some v → W1.cell? ⟨w.heap.size + 1, j, none⟩ = some v := fun j v hj => by rw [hW1, ← hz1, World.cell?_alloc_new]; exact hj
  have hno : ∀ j, ¬ Tn St (Value.slice A n c).ownBlock (w.heap.size + j) := fun j ht => by
    rcases ht with ht | ht
    · omega
    · have := hobl.out _ ht; omega
  have st : ∀ w', GrS (Tn St (Value.slice A n c).ownBlock) W1 w' → (w'.cell? ⟨w.heap.size, 0, none⟩ = some (.pointer (some ⟨St, 0, none⟩)) ∧ w'.cell? ⟨w.heap.size + 1, 0, none⟩ = some (.int .i64 x.id) ∧ w'.cell? ⟨w.heap.size + 1, 1, none⟩ = some (.int .i64 x.rows) ∧ w'.cell? ⟨w.heap.size + 1, 2, none⟩ = some (.int .i64 x.size) ∧ w'.cell? ⟨w.heap.size + 1, 3, none⟩ = some (.int .i64 x.tl) ∧ w'.cell? ⟨w.heap.size + 1, 4, none⟩ = some (.string (txt x.file))) := fun w' g => ⟨cell_grs g p1 (hno 0), cell_grs g (q1 0 _ rfl) (hno 1), cell_grs g (q1 1 _ rfl) (hno 1), cell_grs g (q1 2 _ rfl) (hno 1), cell_grs g (q1 3 _ rfl) (hno 1), cell_grs g (q1 4 _ rfl) (hno 1)⟩
  have hS1 := stIs_gr h.out g1
  replace st := Lib.hid st
  replace g1 := Lib.hid g1
  clear hW1 hz1 p1 q1 hno
  refine (cC.out _ hS1).mono ?_
  rintro e W2 ⟨rfl, ⟨k, hS2⟩, g2⟩
  clear hS1 cC
  have hkn : (closeM s x.id).op.length = k := by have := hS2.2.1; rw [sR_len curC 5 curC_len] at this; omega
  have hk5 : k ≤ 100000 := by rw [← hkn]; refine Nat.le_trans (List.length_filter_le _ _) ?_; rw [hlen]; exact hn
  have ob2 : (Value.slice A k c).ownBlock = (Value.slice A n c).ownBlock := by cases A <;> rfl
  obtain ⟨p2, q20, q21, q22, q23, q24⟩ := st.out _ g2
  generalize hs2 : closeM s x.id = s2 at *
  replace hs2 := Lib.hid hs2
  have o2 : W2.cell? ⟨St, 2, none⟩ = some (.slice A k c) := fcell hS2.1 rfl
  have cB := fun W (gW : Gr W2 W) => dsearch A k c s2.op x.id W (row_gr (row_own hS2.2) gW) hk5 hso2.out hids2.out hid
  replace cB := Lib.hid cB
  replace hS2 := Lib.hid hS2
  replace g2 := Lib.hid g2
  go_wp2_with fail
  have p2h := Lib.hid p2
  have q20h := Lib.hid q20
  have o2h := Lib.hid o2
  clear q21 q22 q23 q24
  go_region_held3 (fun w' => w'.cell? ⟨w.heap.size, 0, none⟩ = some (.pointer (some ⟨St, 0, none⟩)) ∧ w'.cell? ⟨w.heap.size + 1, 0, none⟩ = some (.int .i64 x.id) ∧ w'.cell? ⟨St, 2, none⟩ = some (.slice A k c)) (first | exact ⟨p2, q20, o2⟩ | exact ⟨gr_cell gB p2h.out, gr_cell gB q20h.out, gr_cell gB o2h.out⟩) (first | (go_at_call 129; refine (cB.out _ (gr_drew _ _)).mono ?_; rintro e wB ⟨⟨kk, bb, rfl, hpl⟩, gB0⟩; have gB := gr_trans (gr_drew W2 none) gB0))
  have g23 : Gr W2 wB := gB
  have g3 : GrS (Tn St (Value.slice A n c).ownBlock) W1 wB := grs_trans g2.out (tn_gr g23)
  have hS3 := stIs_gr hS2.out g23
  have hsz3 : w.heap.size + 2 ≤ wB.heap.size := by rw [← hz2]; exact g3.size
  replace hpl := Lib.hid hpl
  clear p2 q20 o2 g23 p2h q20h o2h gB cB
  go_upto_region 5 with fail
  refine wp_region_held_drew (S := (fun w' => (w'.cell? ⟨w.heap.size, 0, none⟩ = some (.pointer (some ⟨St, 0, none⟩)) ∧ w'.cell? ⟨w.heap.size + 1, 0, none⟩ = some (.int .i64 x.id) ∧ w'.cell? ⟨w.heap.size + 1, 1, none⟩ = some (.int .i64 x.rows) ∧ w'.cell? ⟨w.heap.size + 1, 2, none⟩ = some (.int .i64 x.size) ∧ w'.cell? ⟨w.heap.size + 1, 3, none⟩ = some (.int .i64 x.tl) ∧ w'.cell? ⟨w.heap.size + 1, 4, none⟩ = some (.string (txt x.file))))) (by kernel_rfl) (st.out _ (grs_trans g3 (tn_gr (gr_drew _ _)))) (fun hHeld => ?_)
  have gd : GrS (Tn St (Value.slice A n c).ownBlock) W1 wB.drew := grs_trans g3 (tn_gr (gr_drew _ _))
  have hS4 : StIs wB.drew St base s2 A k c := stIs_gr hS3 (gr_drew _ _)
  have hsz4 : w.heap.size + 2 ≤ wB.drew.heap.size := hsz3
  clear g3 hS3 hsz3
  generalize wB.drew = wd at *
  have o3 : wd.cell? ⟨St, 2, none⟩ = some (.slice A k c) := fcell hS4.1 rfl
  refine wpAnyH_take (i := 0) (oi := ⟨some 36, _, _, _, _, _⟩) (v := ?_) rfl (by kernel_rfl) (by kernel_rfl) (by kernel_rfl) (fun _ _ _ h => h) (Or.inl ⟨by rfl, ?_⟩) hHeld ?_
  rotate_left
  · intro w hSw
    try dsimp only at hSw
    go_simp
    first | done | with_reducible rfl
  try simp only [Act.put, List.setIfInBounds_toArray, List.set_cons_zero, List.set_cons_succ]
  refine wpAnyH_take (i := 1) (oi := ⟨some 37, _, _, _, _, _⟩) (v := ?_) rfl (by kernel_rfl) (by kernel_rfl) (by kernel_rfl) (fun _ _ _ h => h) (Or.inl ⟨by rfl, ?_⟩) hHeld ?_
  rotate_left
  · intro w hSw
    try dsimp only at hSw
    go_simp
    first | done | with_reducible rfl
  try simp only [Act.put, List.setIfInBounds_toArray, List.set_cons_zero, List.set_cons_succ]
  refine wpAnyH_take (i := 2) (oi := ⟨some 38, _, _, _, _, _⟩) (v := ?_) rfl (by kernel_rfl) (by kernel_rfl) (by kernel_rfl) (fun _ _ _ h => h) (Or.inl ⟨by rfl, ?_⟩) hHeld ?_
  rotate_left
  · intro w hSw
    try dsimp only at hSw
    go_simp
    first | done | with_reducible rfl
  try simp only [Act.put, List.setIfInBounds_toArray, List.set_cons_zero, List.set_cons_succ]
  refine wpAnyH_take (i := 3) (oi := ⟨some 39, _, _, _, _, _⟩) (v := ?_) rfl (by kernel_rfl) (by kernel_rfl) (by kernel_rfl) (fun _ _ _ h => h) (Or.inl ⟨by rfl, ?_⟩) hHeld ?_
  rotate_left
  · intro w hSw
    try dsimp only at hSw
    go_simp
    first | done | with_reducible rfl
  try simp only [Act.put, List.setIfInBounds_toArray, List.set_cons_zero, List.set_cons_succ]
  refine wpAnyH_take (i := 5) (oi := ⟨some 41, _, _, _, _, _⟩) (v := ?_) rfl (by kernel_rfl) (by kernel_rfl) (by kernel_rfl) (fun _ _ _ h => h) (Or.inl ⟨by rfl, ?_⟩) hHeld ?_
  rotate_left
  · intro w hSw
    try dsimp only at hSw
    go_simp
    first | done | with_reducible rfl
  try simp only [Act.put, List.setIfInBounds_toArray, List.set_cons_zero, List.set_cons_succ]
  refine wpAnyH_take (i := 6) (oi := ⟨some 42, _, _, _, _, _⟩) (v := ?_) rfl (by kernel_rfl) (by kernel_rfl) (by kernel_rfl) (fun _ _ _ h => h) (Or.inl ⟨by rfl, ?_⟩) hHeld ?_
  rotate_left
  · intro w hSw
    try dsimp only at hSw
    go_simp
    first | done | with_reducible rfl
  try simp only [Act.put, List.setIfInBounds_toArray, List.set_cons_zero, List.set_cons_succ]
  refine wpAnyH_take (i := 7) (oi := ⟨some 43, _, _, _, _, _⟩) (v := ?_) rfl (by kernel_rfl) (by kernel_rfl) (by kernel_rfl) (fun _ _ _ h => h) (Or.inl ⟨by rfl, ?_⟩) hHeld ?_
  rotate_left
  · intro w hSw
    try dsimp only at hSw
    go_simp
    first | done | with_reducible rfl
  try simp only [Act.put, List.setIfInBounds_toArray, List.set_cons_zero, List.set_cons_succ]
  refine wpAnyH_ready (rs := [4, 8]) (by kernel_rfl) (by simp) (AllReadyH.cons (o := ⟨some 40, _, _, _, _, _⟩) rfl (fun K hK => ?_) (AllReadyH.cons (o := ⟨some 44, _, _, _, _, _⟩) rfl (fun K hK => ?_) AllReadyH.nil))
  · skip
    go_simp
    refine hK.out _ _ ?_ (fun hHeld => ?_)
    · exact hHeld
    clear hK K
    try simp only [Act.put, List.setIfInBounds_toArray, List.set_cons_zero, List.set_cons_succ]
    refine wpAnyH_ready (rs := [8]) (by kernel_rfl) (by simp) (AllReadyH.cons (o := ⟨some 44, _, _, _, _, _⟩) rfl (fun K hK => ?_) AllReadyH.nil)
    go_simp
    refine hK.out _ _ ?_ (fun hHeld => ?_)
    · exact st.out _ (grs_trans gd (tn_gr (gr_alloc _ _ _)))
    clear hK K
    try simp only [Act.put, List.setIfInBounds_toArray, List.set_cons_zero, List.set_cons_succ]
    have o4 := gr_cell (gr_alloc wd (.cells #[.int .i64 x.id, .int .i64 x.rows, .int .i64 x.size, .int .i64 x.tl, .string (txt x.file)] 28) none) o3
    refine wpAnyH_ready (rs := [9]) (by kernel_rfl) (by simp) (AllReadyH.cons (o := ⟨some 45, _, _, _, _, _⟩) rfl (fun K hK => ?_) AllReadyH.nil)
    go_simp
    refine (dinsert A k c base wd.heap.size kk s2.op x _ ?_ (hS4.2.kept (gr_alloc wd (.cells #[.int .i64 x.id, .int .i64 x.rows, .int .i64 x.size, .int .i64 x.tl, .string (txt x.file)] 28) none) (Classical.em _)) hk5 (by rw [← hkn]; exact hpl.out.1) (blk_new wd _) ?_).mono ?_
    · exact Nat.le_trans hbase (Nat.le_trans g1.out.size (Nat.le_trans gd.size (gr_alloc wd (.cells #[.int .i64 x.id, .int .i64 x.rows, .int .i64 x.size, .int .i64 x.tl, .string (txt x.file)] 28) none).size))
    · intro a ha e
      have h7 := (hS4.2.lt a.block (by rw [ha]; rfl)).2
      omega
    rintro e wI ⟨A', c', rfl, hoI, gI⟩
    try (go_wp2_with fail)
    have hap4 := st_apart hS4.1 hS4.2
    have gI2 : GrS (Tn St (Value.slice A n c).ownBlock) W1 wI := grs_trans (grs_trans gd (tn_gr (gr_alloc wd (.cells #[.int .i64 x.id, .int .i64 x.rows, .int .i64 x.size, .int .i64 x.tl, .string (txt x.file)] 28) none))) (by rw [← ob2]; exact tn_ob gI)
    have hSI := st_after (stAt_gr hS4.1 (gr_alloc wd (.cells #[.int .i64 x.id, .int .i64 x.rows, .int .i64 x.size, .int .i64 x.tl, .string (txt x.file)] 28) none)) gI hap4
    have hapI := st_apart hSI hoI
    refine hK.out _ _ ?_ (fun hHeld => ?_)
    · exact st.out _ gI2
    clear hK K
    try simp only [Act.put, List.setIfInBounds_toArray, List.set_cons_zero, List.set_cons_succ]
    refine wpAnyH_take (i := 10) (oi := ⟨some 46, _, _, _, _, _⟩) (v := ?_) rfl (by kernel_rfl) (by kernel_rfl) (by kernel_rfl) (fun _ _ _ h => h) (Or.inl ⟨by rfl, ?_⟩) hHeld ?_
    rotate_left
    · intro w hSw
      try dsimp only at hSw
      go_simp
      first | done | with_reducible rfl
    try simp only [Act.put, List.setIfInBounds_toArray, List.set_cons_zero, List.set_cons_succ]
    refine wpAnyH_take (i := 11) (oi := ⟨some 47, _, _, _, _, _⟩) (v := ?_) rfl (by kernel_rfl) (by kernel_rfl) (by kernel_rfl) (fun _ _ _ h => h) (Or.inl ⟨by rfl, ?_⟩) hHeld ?_
    rotate_left
    · intro w hSw
      try dsimp only at hSw
      go_simp
      first | done | with_reducible rfl
    try simp only [Act.put, List.setIfInBounds_toArray, List.set_cons_zero, List.set_cons_succ]
    have o5 : wI.cell? ⟨St, 2, none⟩ = some (.slice A k c) := fcell hSI rfl
    have z5 := fzero hSI 2
    refine wpAnyH_ready (rs := [12]) (by kernel_rfl) (by simp) (AllReadyH.cons (o := ⟨none, _, _, _, _, _⟩) rfl (fun K hK => ?_) AllReadyH.nil)
    go_simp
    refine hK.out _ _ ?_ (fun hHeld => ?_)
    · exact st.out _ (grs_trans gI2 (tn_st (gr_set wI ⟨St, 2, none⟩ _)))
    clear hK K
    try simp only [Act.put, List.setIfInBounds_toArray, List.set_cons_zero, List.set_cons_succ]
    refine wpAnyH_done (by kernel_rfl) ?_ _
    have hSF : StAt (wI.setCell ⟨St, 2, none⟩ (.slice A' (k + 1) c')) St s2.next s2.now (.slice A' (k + 1) c') s2.seg s2.pts := blk_set hSI 2 (.slice A' (k + 1) c')
    have hoF := own_after hoI (gr_set wI ⟨St, 2, none⟩ (.slice A' (k + 1) c')) hapI
    have gF := grs_trans gI2 (tn_st (gr_set wI ⟨St, 2, none⟩ (.slice A' (k + 1) c')))
    rw [show s2.op.take kk ++ x :: s2.op.drop kk = insM x s2.op from by rw [(place_split hpl.out).1, (place_split hpl.out).2]; rfl] at hoF
    have hFin : StIs (wI.setCell ⟨St, 2, none⟩ (.slice A' (k + 1) c')) St base { s2 with op := insM x s2.op } A' (k + 1) c' := ⟨hSF, hoF⟩
    generalize wI.setCell ⟨St, 2, none⟩ (.slice A' (k + 1) c') = WF at *
    clear o3 o4 o5 z5 hHeld hSI gI gI2 hS4 gd hoI hapI hap4 hSF hoF
    replace hFin := Lib.hid hFin
    replace gF := Lib.hid gF
    go_wp2
    go_end0
    have e2 := hs2.out
    subst e2
    exact ⟨rfl, ⟨A', k + 1, c', stIs_gr (stIs_gr (stIs_gr hFin.out (gr_alloc _ _ _)) (gr_alloc _ _ _)) (gr_alloc _ _ _)⟩, grs_trans (grs_trans (grs_trans (grs_trans (tn_gr g1.out) gF.out) (tn_gr (gr_alloc _ _ _))) (tn_gr (gr_alloc _ _ _))) (tn_gr (gr_alloc _ _ _))⟩
  · skip
    go_simp
    refine hK.out _ _ ?_ (fun hHeld => ?_)
    · exact st.out _ (grs_trans gd (tn_gr (gr_alloc _ _ _)))
    clear hK K
    try simp only [Act.put, List.setIfInBounds_toArray, List.set_cons_zero, List.set_cons_succ]
    have o4 := gr_cell (gr_alloc wd (.cells #[.int .i64 x.id, .int .i64 x.rows, .int .i64 x.size, .int .i64 x.tl, .string (txt x.file)] 28) none) o3
    refine wpAnyH_ready (rs := [4]) (by kernel_rfl) (by simp) (AllReadyH.cons (o := ⟨some 40, _, _, _, _, _⟩) rfl (fun K hK => ?_) AllReadyH.nil)
    go_simp
    refine hK.out _ _ ?_ (fun hHeld => ?_)
    · exact hHeld
    clear hK K
    try simp only [Act.put, List.setIfInBounds_toArray, List.set_cons_zero, List.set_cons_succ]
    refine wpAnyH_ready (rs := [9]) (by kernel_rfl) (by simp) (AllReadyH.cons (o := ⟨some 45, _, _, _, _, _⟩) rfl (fun K hK => ?_) AllReadyH.nil)
    go_simp
    refine (dinsert A k c base wd.heap.size kk s2.op x _ ?_ (hS4.2.kept (gr_alloc wd (.cells #[.int .i64 x.id, .int .i64 x.rows, .int .i64 x.size, .int .i64 x.tl, .string (txt x.file)] 28) none) (Classical.em _)) hk5 (by rw [← hkn]; exact hpl.out.1) (blk_new wd _) ?_).mono ?_
    · exact Nat.le_trans hbase (Nat.le_trans g1.out.size (Nat.le_trans gd.size (gr_alloc wd (.cells #[.int .i64 x.id, .int .i64 x.rows, .int .i64 x.size, .int .i64 x.tl, .string (txt x.file)] 28) none).size))
    · intro a ha e
      have h7 := (hS4.2.lt a.block (by rw [ha]; rfl)).2
      omega
    rintro e wI ⟨A', c', rfl, hoI, gI⟩
    try (go_wp2_with fail)
    have hap4 := st_apart hS4.1 hS4.2
    have gI2 : GrS (Tn St (Value.slice A n c).ownBlock) W1 wI := grs_trans (grs_trans gd (tn_gr (gr_alloc wd (.cells #[.int .i64 x.id, .int .i64 x.rows, .int .i64 x.size, .int .i64 x.tl, .string (txt x.file)] 28) none))) (by rw [← ob2]; exact tn_ob gI)
    have hSI := st_after (stAt_gr hS4.1 (gr_alloc wd (.cells #[.int .i64 x.id, .int .i64 x.rows, .int .i64 x.size, .int .i64 x.tl, .string (txt x.file)] 28) none)) gI hap4
    have hapI := st_apart hSI hoI
    refine hK.out _ _ ?_ (fun hHeld => ?_)
    · exact st.out _ gI2
    clear hK K
    try simp only [Act.put, List.setIfInBounds_toArray, List.set_cons_zero, List.set_cons_succ]
    refine wpAnyH_take (i := 10) (oi := ⟨some 46, _, _, _, _, _⟩) (v := ?_) rfl (by kernel_rfl) (by kernel_rfl) (by kernel_rfl) (fun _ _ _ h => h) (Or.inl ⟨by rfl, ?_⟩) hHeld ?_
    rotate_left
    · intro w hSw
      try dsimp only at hSw
      go_simp
      first | done | with_reducible rfl
    try simp only [Act.put, List.setIfInBounds_toArray, List.set_cons_zero, List.set_cons_succ]
    refine wpAnyH_take (i := 11) (oi := ⟨some 47, _, _, _, _, _⟩) (v := ?_) rfl (by kernel_rfl) (by kernel_rfl) (by kernel_rfl) (fun _ _ _ h => h) (Or.inl ⟨by rfl, ?_⟩) hHeld ?_
    rotate_left
    · intro w hSw
      try dsimp only at hSw
      go_simp
      first | done | with_reducible rfl
    try simp only [Act.put, List.setIfInBounds_toArray, List.set_cons_zero, List.set_cons_succ]
    have o5 : wI.cell? ⟨St, 2, none⟩ = some (.slice A k c) := fcell hSI rfl
    have z5 := fzero hSI 2
    refine wpAnyH_ready (rs := [12]) (by kernel_rfl) (by simp) (AllReadyH.cons (o := ⟨none, _, _, _, _, _⟩) rfl (fun K hK => ?_) AllReadyH.nil)
    go_simp
    refine hK.out _ _ ?_ (fun hHeld => ?_)
    · exact st.out _ (grs_trans gI2 (tn_st (gr_set wI ⟨St, 2, none⟩ _)))
    clear hK K
    try simp only [Act.put, List.setIfInBounds_toArray, List.set_cons_zero, List.set_cons_succ]
    refine wpAnyH_done (by kernel_rfl) ?_ _
    have hSF : StAt (wI.setCell ⟨St, 2, none⟩ (.slice A' (k + 1) c')) St s2.next s2.now (.slice A' (k + 1) c') s2.seg s2.pts := blk_set hSI 2 (.slice A' (k + 1) c')
    have hoF := own_after hoI (gr_set wI ⟨St, 2, none⟩ (.slice A' (k + 1) c')) hapI
    have gF := grs_trans gI2 (tn_st (gr_set wI ⟨St, 2, none⟩ (.slice A' (k + 1) c')))
    rw [show s2.op.take kk ++ x :: s2.op.drop kk = insM x s2.op from by rw [(place_split hpl.out).1, (place_split hpl.out).2]; rfl] at hoF
    have hFin : StIs (wI.setCell ⟨St, 2, none⟩ (.slice A' (k + 1) c')) St base { s2 with op := insM x s2.op } A' (k + 1) c' := ⟨hSF, hoF⟩
    generalize wI.setCell ⟨St, 2, none⟩ (.slice A' (k + 1) c') = WF at *
    clear o3 o4 o5 z5 hHeld hSI gI gI2 hS4 gd hoI hapI hap4 hSF hoF
    replace hFin := Lib.hid hFin
    replace gF := Lib.hid gF
    go_wp2
    go_end0
    have e2 := hs2.out
    subst e2
    exact ⟨rfl, ⟨A', k + 1, c', stIs_gr (stIs_gr (stIs_gr hFin.out (gr_alloc _ _ _)) (gr_alloc _ _ _)) (gr_alloc _ _ _)⟩, grs_trans (grs_trans (grs_trans (grs_trans (tn_gr g1.out) gF.out) (tn_gr (gr_alloc _ _ _))) (tn_gr (gr_alloc _ _ _))) (tn_gr (gr_alloc _ _ _))⟩

end Go.Proofs.YtmldoeeangekoaaGreat
