/-
  (*Desk).Seal at any input; Open, Close, Find, Seal and State of the desk that is none. No condition.
-/
import Derived.Test.YtmldoeeangekoaaGreatDoorPkDeskAny
import Derived.Test.YtmldoeeangekoaaGreatDoorRdA
namespace Go.Proofs.YtmldoeeangekoaaGreatDoor
open Go.RowKit

set_option maxHeartbeats 4000000 in
set_option maxRecDepth 100000 in
theorem nil_place (w : World) : Calls Tryz.prog 36 #[.pointer none, .int .i64 1] w fun e w' => e = .returned (.tuple #[.int .i64 0, .int .i64 1]) ∧ Gr w w' := by
  go_enter Tryz.func36, Tryz.ntmps36
  go_wp2
  go_ret2
  exact ⟨rfl, gr_alloc _ _ _⟩
set_option maxHeartbeats 4000000 in
set_option maxRecDepth 100000 in
theorem nil_open (w : World) : Calls Tryz.prog 11 #[.pointer none, .int .i64 1, .int .i64 1, .int .i64 1] w fun e w' => e = .returned (.tuple #[curV cu0, .int .i64 1]) ∧ Gr w w' := by
  obtain ⟨W0, hW0⟩ : ∃ W0, W0 = w.alloc (.cells #[.int .i64 0, .int .i64 0, .int .i64 0, .int .i64 0, .string ⟨#[]⟩] 52) := ⟨_, rfl⟩
  have g0 : Gr w W0 := by rw [hW0]; exact gr_alloc _ _ _
  have hR : W0.heap[w.heap.size]? = some (.cells #[.int .i64 0, .int .i64 0, .int .i64 0, .int .i64 0, .string ⟨#[]⟩] 52 (0, 0)) := by rw [hW0]; exact blk_new w _
  have hth := rs_there hR
  have hsame := World.rangeAt_setCells_same W0 w.heap.size 0 [.int .i64 0, .int .i64 0, .int .i64 0, .int .i64 0, .string ⟨#[]⟩] hth
  have r0 := hsame 0 _ rfl
  have r1 := hsame 1 _ rfl
  have r2 := hsame 2 _ rfl
  have r3 := hsame 3 _ rfl
  have r4 := hsame 4 _ rfl
  simp only [Nat.zero_add] at r0 r1 r2 r3 r4
  have hG := gr_over g0 (gr_setCells W0 w.heap.size 0 [.int .i64 0, .int .i64 0, .int .i64 0, .int .i64 0, .string ⟨#[]⟩]) (Nat.le_refl _)
  replace hG := Lib.hid hG
  replace hR := Lib.hid hR
  have g0h := Lib.hid g0
  clear hsame g0
  go_enter Tryz.func11, Tryz.ntmps11
  go_upto_region 1 with fail
  rw [← hW0]
  clear hW0
  go_wp2_with fail
  refine (nil_may _).mono ?_
  rintro e w' ⟨rfl, rfl⟩
  go_wp2_with (refine wpList_store_mid (op := ⟨none, _, _, _, _, _⟩) rfl 52 _ _ rfl w.heap.size 0 #[.int .i64 0, .int .i64 0, .int .i64 0, .int .i64 0, .string ⟨#[]⟩] rfl rfl hth infoCu (by simp [Value.oneCell']) ?_)
  (try simp only [Exit.inBlock, Exit.then])
  refine bodyPost_ret (by simp [results, Tryz.results11, go_sem, r0, r1, r2, r3, r4]; try rfl) rfl ?_
  exact ⟨rfl, hG.out⟩
set_option maxHeartbeats 4000000 in
set_option maxRecDepth 100000 in
theorem nil_find (w : World) : Calls Tryz.prog 22 #[.pointer none, .string (txt [112, 49, 46, 48])] w fun e w' => e = .returned (.tuple #[curV cu0, .int .i64 0, .int .i64 1]) ∧ Gr w w' := by
  obtain ⟨W0, hW0⟩ : ∃ W0, W0 = w.alloc (.cells #[.int .i64 0, .int .i64 0, .int .i64 0, .int .i64 0, .string ⟨#[]⟩] 52) := ⟨_, rfl⟩
  have g0 : Gr w W0 := by rw [hW0]; exact gr_alloc _ _ _
  have hR : W0.heap[w.heap.size]? = some (.cells #[.int .i64 0, .int .i64 0, .int .i64 0, .int .i64 0, .string ⟨#[]⟩] 52 (0, 0)) := by rw [hW0]; exact blk_new w _
  have hth := rs_there hR
  have hsame := World.rangeAt_setCells_same W0 w.heap.size 0 [.int .i64 0, .int .i64 0, .int .i64 0, .int .i64 0, .string ⟨#[]⟩] hth
  have r0 := hsame 0 _ rfl
  have r1 := hsame 1 _ rfl
  have r2 := hsame 2 _ rfl
  have r3 := hsame 3 _ rfl
  have r4 := hsame 4 _ rfl
  simp only [Nat.zero_add] at r0 r1 r2 r3 r4
  have hG := gr_over g0 (gr_setCells W0 w.heap.size 0 [.int .i64 0, .int .i64 0, .int .i64 0, .int .i64 0, .string ⟨#[]⟩]) (Nat.le_refl _)
  replace hG := Lib.hid hG
  replace hR := Lib.hid hR
  have g0h := Lib.hid g0
  clear hsame g0
  go_enter Tryz.func22, Tryz.ntmps22
  go_upto_region 1 with fail
  rw [← hW0]
  clear hW0
  go_wp2_with (refine wpList_store_mid (op := ⟨none, _, _, _, _, _⟩) rfl 52 _ _ rfl w.heap.size 0 #[.int .i64 0, .int .i64 0, .int .i64 0, .int .i64 0, .string ⟨#[]⟩] rfl rfl hth infoCu (by simp [Value.oneCell']) ?_)
  (try simp only [Exit.inBlock, Exit.then])
  refine bodyPost_ret (by simp [results, Tryz.results22, go_sem, r0, r1, r2, r3, r4]; try rfl) rfl ?_
  exact ⟨rfl, hG.out⟩
set_option maxHeartbeats 4000000 in
set_option maxRecDepth 100000 in
theorem nil_state (w : World) : Calls Tryz.prog 26 #[.pointer none] w fun e w' => e = .returned (.agg #[.int .i64 0, .int .i64 0, .slice none 0 0, .string ⟨#[]⟩, .int .i64 0]) ∧ Gr w w' := by
  obtain ⟨W0, hW0⟩ : ∃ W0, W0 = w.alloc (.cells #[.int .i64 0, .int .i64 0, .slice none 0 0, .string ⟨#[]⟩, .int .i64 0] 30) := ⟨_, rfl⟩
  have g0 : Gr w W0 := by rw [hW0]; exact gr_alloc _ _ _
  have hR : W0.heap[w.heap.size]? = some (.cells #[.int .i64 0, .int .i64 0, .slice none 0 0, .string ⟨#[]⟩, .int .i64 0] 30 (0, 0)) := by rw [hW0]; exact blk_new w _
  have hth := rs_there hR
  have hsame := World.rangeAt_setCells_same W0 w.heap.size 0 [.int .i64 0, .int .i64 0, .slice none 0 0, .string ⟨#[]⟩, .int .i64 0] hth
  have r0 := hsame 0 _ rfl
  have r1 := hsame 1 _ rfl
  have r2 := hsame 2 _ rfl
  have r3 := hsame 3 _ rfl
  have r4 := hsame 4 _ rfl
  simp only [Nat.zero_add] at r0 r1 r2 r3 r4
  have hG := gr_over g0 (gr_setCells W0 w.heap.size 0 [.int .i64 0, .int .i64 0, .slice none 0 0, .string ⟨#[]⟩, .int .i64 0]) (Nat.le_refl _)
  replace hG := Lib.hid hG
  replace hR := Lib.hid hR
  have g0h := Lib.hid g0
  clear hsame g0
  go_enter Tryz.func26, Tryz.ntmps26
  go_upto_region 1 with fail
  rw [← hW0]
  clear hW0
  go_wp2_with (refine wpList_store_mid (op := ⟨none, _, _, _, _, _⟩) rfl 30 _ _ rfl w.heap.size 0 #[.int .i64 0, .int .i64 0, .slice none 0 0, .string ⟨#[]⟩, .int .i64 0] rfl rfl hth infoStD (by simp [Value.oneCell']) ?_)
  (try simp only [Exit.inBlock, Exit.then])
  refine bodyPost_ret (by simp [results, Tryz.results26, go_sem, r0, r1, r2, r3, r4]; try rfl) rfl ?_
  exact ⟨rfl, hG.out⟩
set_option maxHeartbeats 4000000 in
set_option maxRecDepth 100000 in
theorem nil_close (w : World) : Calls Tryz.prog 13 #[.pointer none, .int .i64 1] w fun e w' => e = .returned (.tuple #[curV cu0, .int .i64 1]) ∧ Gr w w' := by
  obtain ⟨W0, hW0⟩ : ∃ W0, W0 = w.alloc (.cells #[.int .i64 0, .int .i64 0, .int .i64 0, .int .i64 0, .string ⟨#[]⟩] 52) := ⟨_, rfl⟩
  have g0 : Gr w W0 := by rw [hW0]; exact gr_alloc _ _ _
  have hR : W0.heap[w.heap.size]? = some (.cells #[.int .i64 0, .int .i64 0, .int .i64 0, .int .i64 0, .string ⟨#[]⟩] 52 (0, 0)) := by rw [hW0]; exact blk_new w _
  replace hR := Lib.hid hR
  replace g0 := Lib.hid g0
  go_enter Tryz.func13, Tryz.ntmps13
  go_upto_region 1 with fail
  rw [← hW0]
  clear hW0
  go_wp2_with fail
  refine (nil_place _).mono ?_
  rintro e W1 ⟨rfl, g1⟩
  have hR1 := gr_blk g1 hR.out (by simp)
  have hth := rs_there hR1
  have hsame := World.rangeAt_setCells_same W1 w.heap.size 0 [.int .i64 0, .int .i64 0, .int .i64 0, .int .i64 0, .string ⟨#[]⟩] hth
  have r0 := hsame 0 _ rfl
  have r1 := hsame 1 _ rfl
  have r2 := hsame 2 _ rfl
  have r3 := hsame 3 _ rfl
  have r4 := hsame 4 _ rfl
  simp only [Nat.zero_add] at r0 r1 r2 r3 r4
  have hG := gr_over (gr_trans g0.out g1) (gr_setCells W1 w.heap.size 0 [.int .i64 0, .int .i64 0, .int .i64 0, .int .i64 0, .string ⟨#[]⟩]) (Nat.le_refl _)
  replace hG := Lib.hid hG
  clear hsame g1 hR1
  go_wp2_with (refine wpList_store_mid (op := ⟨none, _, _, _, _, _⟩) rfl 52 _ _ rfl w.heap.size 0 #[.int .i64 0, .int .i64 0, .int .i64 0, .int .i64 0, .string ⟨#[]⟩] rfl rfl hth infoCu (by simp [Value.oneCell']) ?_)
  (try simp only [Exit.inBlock, Exit.then])
  refine bodyPost_ret (by simp [results, Tryz.results13, go_sem, r0, r1, r2, r3, r4]; try rfl) rfl ?_
  exact ⟨rfl, hG.out⟩
set_option maxHeartbeats 4000000 in
set_option maxRecDepth 100000 in
theorem nil_seal (S : List UInt8) (n : Int) (w : World) : Calls Tryz.prog 20 #[.pointer none, .string (txt S), .int .i64 n] w fun e w' => e = .returned (.int .i64 1) ∧ Gr w w' := by
  go_enter Tryz.func20, Tryz.ntmps20
  go_wp2
  go_ret
  exact ⟨rfl, gr_refl _ _⟩
set_option maxHeartbeats 4000000 in
set_option maxRecDepth 100000 in
theorem dtick_over (D : Nat) (nx now pts t : Int) (A : Option Addr) (n c : Nat) (seg : List UInt8) (w : World) (h : DkB w D nx now (.slice A n c) seg pts) (hnow : 0 ≤ now ∧ now ≤ 1000000000) (ht : 1 ≤ t ∧ t ≤ 100000) (hov : 1000000000 < now + t) :
    Calls Tryz.prog 15 #[.pointer (some ⟨D, 0, none⟩), .int .i64 t] w fun e w' => e = .returned (.tuple #[.slice none 0 0, .int .i64 1]) ∧ Gr w w' := by
  obtain ⟨c0, c1, c2, c3, c4⟩ := dkb_cells h
  have h1 : (t < 1) = False := eq_false (by omega)
  have h2 : ((100000 : Int) < t) = False := eq_false (by omega)
  have h3 : 1000000000 - t < now := by omega
  have hwr : IntKind.i64.wrap (1000000000 - t) = 1000000000 - t := IntWalk.i64_in _ (by omega)
  clear h ht hov hnow
  go_enter Tryz.func15, Tryz.ntmps15
  go_wp2
  all_goals
    go_ret2
    exact ⟨rfl, by first | exact gr_refl _ _ | exact gr_drew _ _ | exact gr_drewN _ _ _⟩
/-- The note of a segment. -/
def segN (S : List UInt8) (n : Int) : Nte := ⟨4, ⟨0, n, 0, 0, S⟩⟩
set_option maxHeartbeats 4000000 in
set_option maxRecDepth 100000 in
theorem dseal_any {w wi : World} {D : Nat} {s : DkS} {A : Option Addr} {n c : Nat} (h : DkIn w wi D s A n c) (S : List UInt8) (v : Int) :
    Calls Tryz.prog 20 #[.pointer (some ⟨D, 0, none⟩), .string (txt S), .int .i64 v] wi fun e w' =>
      ((okN (segN S v) ∧ e = .returned (.int .i64 0) ∧ DkIn w w' D ⟨s.nx, s.now, s.op, S, v⟩ A n c) ∨ (¬ okN (segN S v) ∧ e = .returned (.int .i64 1) ∧ DkIn w w' D s A n c)) ∧ GrB D wi w' := by
  have cR := fun W => Dy.right_any (segN S v) W
  unfold nteV segN at cR
  simp only at cR
  by_cases hok : okN (segN S v)
  · have hok2 := hok
    unfold segN at hok2
    simp only [decide_eq_true hok2] at cR
    replace cR := Lib.hid cR
    replace hok := Lib.hid hok
    clear hok2
    go_enter Tryz.func20, Tryz.ntmps20
    go_wp2_with fail
    refine (cR.out _).mono ?_
    rintro e W1 ⟨rfl, g1⟩
    have h1 := dkIn_gr h g1
    have f3 : W1.cell? ⟨D, 3, none⟩ = some (.string (txt s.seg)) := fcellD h1.dk.blk rfl
    have f4 : W1.cell? ⟨D, 4, none⟩ = some (.int .i64 s.pts) := fcellD h1.dk.blk rfl
    have z3 := fzeroD h1.dk.blk 3
    have z4 := fzeroD h1.dk.blk 4
    have hb := blk_set (blk_set h1.dk.blk 3 (.string (txt S))) 4 (.int .i64 v)
    have gs : GrB D W1 ((W1.setCell ⟨D, 3, none⟩ (.string (txt S))).setCell ⟨D, 4, none⟩ (.int .i64 v)) := gr_trans (gr_set _ _ _) (gr_set _ _ _)
    have ho := h1.dk.own.kept gs (.inr (dk_apart h1.dk.blk h1.dk.own))
    have hfin : DkIn w ((W1.setCell ⟨D, 3, none⟩ (.string (txt S))).setCell ⟨D, 4, none⟩ (.int .i64 v)) D ⟨s.nx, s.now, s.op, S, v⟩ A n c := ⟨gr_over h1.gr gs h1.le, ⟨hb, ho⟩, h1.le⟩
    have hG := gr_trans (gr_more _ g1) gs
    replace hfin := Lib.hid hfin
    replace hG := Lib.hid hG
    replace h := Lib.hid h
    clear hb gs ho h1 g1
    go_wp2
    go_ret
    exact ⟨.inl ⟨hok.out, rfl, hfin.out⟩, hG.out⟩
  · have hok2 := hok
    unfold segN at hok2
    simp only [decide_eq_false hok2] at cR
    replace cR := Lib.hid cR
    replace hok := Lib.hid hok
    clear hok2
    go_enter Tryz.func20, Tryz.ntmps20
    go_wp2_with fail
    refine (cR.out _).mono ?_
    rintro e W1 ⟨rfl, g1⟩
    have h1 := dkIn_gr h g1
    replace h1 := Lib.hid h1
    go_wp2
    go_ret
    exact ⟨.inr ⟨hok.out, rfl, h1.out⟩, gr_more _ g1⟩
end Go.Proofs.YtmldoeeangekoaaGreatDoor
