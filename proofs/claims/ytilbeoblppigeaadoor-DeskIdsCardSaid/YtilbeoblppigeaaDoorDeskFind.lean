/-
  (*Desk).open, Find and Next of a desk. No condition but bounds.
-/
import Derived.Test.YtilbeoblppigeaaDoorDeskIdx
import Derived.Test.YtilbeoblppigeaaDoorDeskOpen
import Derived.Deep.RegionHeld3
namespace Go.Proofs.YtilbeoblppigeaaDoor
open Go.RowKit

theorem cell0_new (w : World) (v : Value) (t : TypeId) : (w.alloc (.cells #[v] t)).cell? ⟨w.heap.size, 0, none⟩ = some v := by
  rw [World.cell?_alloc_new]; rfl
/-- Where the open cursor is. -/
def DkAt (nx : Int) (op : List Cur) (id v e : Int) : Prop :=
  ((id < 1 ∨ nx ≤ id) ∧ v = 0 ∧ e = 11) ∨ (1 ≤ id ∧ id < nx ∧ (∀ y ∈ op, y.id ≠ id) ∧ v = 0 ∧ e = 12) ∨ (1 ≤ id ∧ id < nx ∧ e = 0 ∧ ∃ (k : Nat) (x : Cur), v = k ∧ op[k]? = some x ∧ x.id = id)
set_option maxHeartbeats 4000000 in
set_option maxRecDepth 100000 in
theorem dplace_any (D : Nat) (s : DkS) (A : Option Addr) (n c : Nat) (id : Int) (w : World) (hb : DkB w D s.nx s.now (.slice A n c) s.seg s.pts) (hr : Row w A n 5 (sR curC s.op)) (hn : n ≤ 9223372036854775807) :
    Calls Tryd.prog 25 #[.pointer (some ⟨D, 0, none⟩), .int .i64 id] w fun e w' => (∃ v k, e = .returned (.tuple #[.int .i64 v, .int .i64 k]) ∧ DkAt s.nx s.op id v k) ∧ Gr w w' := by
  obtain ⟨nx, now, op, seg, pts⟩ := s
  simp only at hb hr ⊢
  obtain ⟨W0, hW0⟩ : ∃ W0, W0 = w.alloc (.cells #[.int .i64 id] 3) := ⟨_, rfl⟩
  have g0 : Gr w W0 := by rw [hW0]; exact gr_alloc _ _ _
  have e0 : W0.cell? ⟨w.heap.size, 0, none⟩ = some (.int .i64 id) := by rw [hW0]; exact cell0_new _ _ _
  have hb0 := gr_blk g0 hb (by simp)
  obtain ⟨c0, c1, c2, c3, c4⟩ := dkb_cells (show DkB W0 D nx now (.slice A n c) seg pts from hb0)
  have cI := fun W (gW : Gr W0 W) => didx_desk (fun W => W.cell? ⟨w.heap.size, 0, none⟩ = some (.int .i64 id)) (fun y => y.id == id) (.pointer (some ⟨w.heap.size, 0, none⟩)) (fun x W hW => pdesk_any x w.heap.size id W hW) (fun W W' h g => gr_cell g h) A n c op W (row_gr hr (gr_trans g0 gW)) hn (gr_cell gW e0)
  replace cI := Lib.hid cI
  replace g0 := Lib.hid g0
  replace hW0 := Lib.hid hW0
  clear hb hb0 hr c1 c3 c4
  by_cases h1 : id < 1
  · go_enter Tryd.func25, Tryd.ntmps25
    go_upto_region 3 with fail
    rw [← hW0.out]
    go_quiet (fail)
    go_wp2
    (try simp only [Exit.inBlock, Exit.then])
    refine bodyPost_ret (by simp [results, Tryd.results25, go_sem]; try rfl) rfl ?_
    exact ⟨⟨_, _, rfl, .inl ⟨.inl h1, rfl, rfl⟩⟩, gr_trans g0.out (gr_drewN _ _ _)⟩
  · go_enter Tryd.func25, Tryd.ntmps25
    go_upto_region 3 with fail
    rw [← hW0.out]
    go_quiet (fail)
    rename_i nq
    have gd := gr_drewN W0 nq none
    have f0 := gr_cell gd c0
    have f2 := gr_cell gd c2
    have fe := gr_cell gd e0
    generalize W0.drewN nq = wd at *
    replace gd := Lib.hid gd
    clear c0 c2 e0
    by_cases h2 : nx ≤ id
    · go_wp2
      (try simp only [Exit.inBlock, Exit.then])
      refine bodyPost_ret (by simp [results, Tryd.results25, go_sem]; try rfl) rfl ?_
      exact ⟨⟨_, _, rfl, .inl ⟨.inr h2, rfl, rfl⟩⟩, gr_trans g0.out gd.out⟩
    · go_wp2_with fail
      refine (cI.out _ gd.out).mono ?_
      rintro e w1 ⟨⟨r, rfl, hix⟩, g1⟩
      clear cI
      rcases hix with ⟨rfl, hall⟩ | ⟨k, x, rfl, hx, hpx⟩
      · replace hall := Lib.hid hall
        go_wp2
        (try simp only [Exit.inBlock, Exit.then])
        refine bodyPost_ret (by simp [results, Tryd.results25, go_sem]; try rfl) rfl ?_
        exact ⟨⟨_, _, rfl, .inr (.inl ⟨by omega, by omega, fun y hy => by have := hall.out y hy; simpa using this, rfl, rfl⟩)⟩, gr_trans g0.out (gr_trans gd.out g1)⟩
      · replace hx := Lib.hid hx
        replace hpx := Lib.hid hpx
        have hk : ((k : Int) < 0) = False := eq_false (by omega)
        go_wp2
        (try simp only [Exit.inBlock, Exit.then])
        refine bodyPost_ret (by simp [results, Tryd.results25, go_sem]; try rfl) rfl ?_
        exact ⟨⟨_, _, rfl, .inr (.inr ⟨by omega, by omega, rfl, k, x, rfl, hx.out, by simpa using hpx.out.1⟩)⟩, gr_trans g0.out (gr_trans gd.out g1)⟩
end Go.Proofs.YtilbeoblppigeaaDoor
