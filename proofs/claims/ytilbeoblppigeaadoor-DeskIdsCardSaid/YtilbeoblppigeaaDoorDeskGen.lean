/-
  Tick, May, Open of a desk, where they fail too. No condition but bounds.
-/
import Derived.Test.YtilbeoblppigeaaDoorDeskMore
namespace Go.Proofs.YtilbeoblppigeaaDoor
open Go.RowKit

def tickS (s : DkS) (t : Nat) : DkS := ⟨s.nx, s.now + t, s.op.filter (fun y => !decide (y.tl < s.now + t)), s.seg, s.pts⟩
def TickG (w wi : World) (D : Nat) (s : DkS) (t : Nat) (e : Ending) (w' : World) : Prop :=
  ∃ (V : Option Addr) (k vc : Nat) (ee : Int) (A : Option Addr) (m c : Nat) (s' : DkS), e = .returned (.tuple #[.slice V k vc, .int .i64 ee]) ∧ DkIn w w' D s' A m c ∧ GrB D wi w' ∧
    ((s.now + t ≤ 1000000000 ∧ ee = 0 ∧ s' = tickS s t ∧ k = (s.op.filter (fun y => decide (y.tl < s.now + t))).length) ∨ (1000000000 < s.now + t ∧ ee = 1 ∧ s' = s))
set_option maxRecDepth 100000 in
theorem dkin_tickG {w wi : World} {D : Nat} {s : DkS} {A : Option Addr} {n c : Nat} (h : DkIn w wi D s A n c) (t : Nat) (ht : 1 ≤ t ∧ t ≤ 100000) (hnow : 0 ≤ s.now ∧ s.now ≤ 1000000000) (hn : n ≤ 100000) :
    Calls Tryd.prog 14 #[.pointer (some ⟨D, 0, none⟩), .int .i64 t] wi (TickG w wi D s t) := by
  by_cases hov : s.now + t ≤ 1000000000
  · refine (dkin_tick h t ht ⟨hnow.1, hov⟩ hn).mono ?_
    rintro e w' ⟨v, A', m, c', rfl, hown, hd, g⟩
    obtain ⟨V, vc, rfl, _⟩ := own_openS hown
    exact ⟨V, _, vc, 0, A', m, c', tickS s t, rfl, hd, g, .inl ⟨hov, rfl, rfl, rfl⟩⟩
  · obtain ⟨c0, c1, c2, c3, c4⟩ := dkb_cells h.dk.blk
    have e1 : ((1000000000 : Int) - (t : Int) < s.now) = True := eq_true (by omega)
    have e1' : IntKind.i64.wrap ((1000000000 : Int) - (t : Int)) = (1000000000 : Int) - (t : Int) := IntWalk.i64_in _ (by omega)
    have e3 : ((t : Int) < 1) = False := eq_false (by omega)
    have e4 : ((100000 : Int) < (t : Int)) = False := eq_false (by omega)
    have hfin := h
    replace hfin := Lib.hid hfin
    have hov' : 1000000000 < s.now + (t : Int) := by omega
    replace hov' := Lib.hid hov'
    clear h hov c0 c2 c3 c4
    go_enter Tryd.func14, Tryd.ntmps14
    go_wp2
    go_ret2
    exact ⟨none, 0, 0, 1, A, n, c, s, rfl, hfin.out, gr_refl _ _, .inr ⟨hov'.out, rfl, rfl⟩⟩
set_option maxHeartbeats 4000000 in
set_option maxRecDepth 100000 in
theorem may_full (D : Nat) (nx now pts : Int) (A : Option Addr) (n c : Nat) (seg : List UInt8) (rows size ticks : Nat) (w : World) (h : DkB w D nx now (.slice A n c) seg pts) (hr : rows ≤ 2000) (hs : 1 ≤ size) (hs2 : size ≤ 100) (ht : ticks ≤ 100000) (hnow : 0 ≤ now ∧ now + ticks ≤ 1000000000) (hf : 20 ≤ n ∨ 1000000 < nx) :
    Calls Tryd.prog 17 #[.pointer (some ⟨D, 0, none⟩), .int .i64 rows, .int .i64 size, .int .i64 ticks] w fun e w' => e = .returned (.int .i64 8) ∧ w = w' := by
  obtain ⟨c0, c1, c2, c3, c4⟩ := dkb_cells h
  have e1 : ((2000 : Int) < (rows : Int)) = False := eq_false (by omega)
  have e2 : ((size : Int) < 1) = False := eq_false (by omega)
  have e3 : ((100 : Int) < (size : Int)) = False := eq_false (by omega)
  have e4 : ((100000 : Int) < (ticks : Int)) = False := eq_false (by omega)
  have e5 : ((1000000000 : Int) - (ticks : Int) < now) = False := eq_false (by omega)
  have e5' : IntKind.i64.wrap ((1000000000 : Int) - (ticks : Int)) = (1000000000 : Int) - (ticks : Int) := IntWalk.i64_in _ (by omega)
  have e8 : ((rows : Int) < 0) = False := eq_false (by omega)
  have e9 : ((ticks : Int) < 0) = False := eq_false (by omega)
  clear h
  by_cases h20 : 20 ≤ n
  · have e6 : ((20 : Int) ≤ (n : Int)) = True := eq_true (by omega)
    have e6' : (20 ≤ n) = True := eq_true h20
    clear h20 hf
    go_enter Tryd.func17, Tryd.ntmps17
    go_wp2
    go_ret
    exact ⟨rfl, rfl⟩
  · have e6 : ((20 : Int) ≤ (n : Int)) = False := eq_false (by omega)
    have e6' : (20 ≤ n) = False := eq_false h20
    have e7 : ((1000000 : Int) < nx) = True := eq_true (by omega)
    clear h20 hf
    go_enter Tryd.func17, Tryd.ntmps17
    go_wp2
    go_ret
    exact ⟨rfl, rfl⟩
set_option maxHeartbeats 4000000 in
set_option maxRecDepth 100000 in
theorem dopen_full {w wi : World} {D : Nat} {s : DkS} {A : Option Addr} {n c : Nat} (h : DkIn w wi D s A n c) (rows size ticks : Nat) (hr : rows ≤ 2000) (hs : 1 ≤ size) (hs2 : size ≤ 100) (ht : ticks ≤ 100000) (hnow : 0 ≤ s.now ∧ s.now + ticks ≤ 1000000000) (hf : 20 ≤ n ∨ 1000000 < s.nx) :
    Calls Tryd.prog 10 #[.pointer (some ⟨D, 0, none⟩), .int .i64 rows, .int .i64 size, .int .i64 ticks] wi fun e w' => e = .returned (.tuple #[curV cu0, .int .i64 8]) ∧ Gr wi w' := by
  obtain ⟨W0, hW0⟩ : ∃ W0, W0 = wi.alloc (.cells #[.int .i64 0, .int .i64 0, .int .i64 0, .int .i64 0, .string ⟨#[]⟩] 30) := ⟨_, rfl⟩
  have g0 : Gr wi W0 := by rw [hW0]; exact gr_alloc _ _ _
  have hR : CuB W0 wi.heap.size cu0 := by rw [hW0]; exact blk_new wi _
  have cM := may_full D s.nx s.now s.pts A n c s.seg rows size ticks W0 (dkIn_gr h g0).dk.blk hr hs hs2 ht hnow hf
  have hth := cub_there hR
  have hsame := World.rangeAt_setCells_same W0 wi.heap.size 0 [.int .i64 0, .int .i64 0, .int .i64 0, .int .i64 0, .string ⟨#[]⟩] hth
  have r0 := hsame 0 _ rfl
  have r1 := hsame 1 _ rfl
  have r2 := hsame 2 _ rfl
  have r3 := hsame 3 _ rfl
  have r4 := hsame 4 _ rfl
  simp only [Nat.zero_add] at r0 r1 r2 r3 r4
  have hG := gr_over g0 (gr_setCells W0 wi.heap.size 0 [.int .i64 0, .int .i64 0, .int .i64 0, .int .i64 0, .string ⟨#[]⟩]) (Nat.le_refl _)
  replace hG := Lib.hid hG
  replace cM := Lib.hid cM
  clear h hR hsame g0
  go_enter Tryd.func10, Tryd.ntmps10
  go_upto_region 1 with fail
  rw [← hW0]
  clear hW0
  go_wp2_with fail
  refine cM.out.mono ?_
  rintro e w' ⟨rfl, rfl⟩
  go_wp2_with (refine wpList_store_mid (op := ⟨none, _, _, _, _, _⟩) rfl 30 _ _ rfl wi.heap.size 0 #[.int .i64 0, .int .i64 0, .int .i64 0, .int .i64 0, .string ⟨#[]⟩] rfl rfl hth infoCu (by simp [Value.oneCell']) ?_)
  (try simp only [Exit.inBlock, Exit.then])
  refine bodyPost_ret (by simp [results, Tryd.results10, go_sem, r0, r1, r2, r3, r4]; try rfl) rfl ?_
  exact ⟨rfl, hG.out⟩
end Go.Proofs.YtilbeoblppigeaaDoor
