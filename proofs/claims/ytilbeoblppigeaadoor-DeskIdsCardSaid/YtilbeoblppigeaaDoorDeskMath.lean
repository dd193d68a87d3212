/-
  A desk in memory; a desk of nothing. No condition.
-/
import Derived.Test.YtilbeoblppigeaaDoorDiaryCur
import Derived.Test.YtilbeoblppigeaaDoorSlipGet
import Derived.Test.YtilbeoblppigeaaDoorSlipPages
import Derived.Test.YtilbeoblppigeaaDoorQuietGr
namespace Go.Proofs.YtilbeoblppigeaaDoor
open Go.RowKit

theorem fcellD {w : World} {b : Nat} {cs : Array Value} {t : TypeId} {fr : Nat × Nat} (h : w.heap[b]? = some (.cells cs t fr)) {j : Nat} {v : Value} (hj : cs[j]? = some v) : w.cell? ⟨b, j, none⟩ = some v := by
  unfold World.cell?
  rw [h]
  simpa using hj
theorem fzeroD {w : World} {b : Nat} {cs : Array Value} {t : TypeId} (h : w.heap[b]? = some (.cells cs t (0, 0))) (j : Nat) : w.frozen? ⟨b, j, none⟩ = false := by
  unfold World.frozen?
  rw [h]
  simp
def curV (x : Cur) : Value := .agg #[.int .i64 x.id, .int .i64 x.rows, .int .i64 x.size, .int .i64 x.tl, .string (txt x.file)]
/-- Block b is a cursor. -/
def CuB (w : World) (b : Nat) (x : Cur) : Prop := w.heap[b]? = some (.cells #[.int .i64 x.id, .int .i64 x.rows, .int .i64 x.size, .int .i64 x.tl, .string (txt x.file)] 30 (0, 0))
theorem cub_cells {w : World} {b : Nat} {x : Cur} (h : CuB w b x) : w.cell? ⟨b, 0, none⟩ = some (.int .i64 x.id) ∧ w.cell? ⟨b, 1, none⟩ = some (.int .i64 x.rows) ∧ w.cell? ⟨b, 2, none⟩ = some (.int .i64 x.size) ∧ w.cell? ⟨b, 3, none⟩ = some (.int .i64 x.tl) ∧ w.cell? ⟨b, 4, none⟩ = some (.string (txt x.file)) := ⟨fcellD h rfl, fcellD h rfl, fcellD h rfl, fcellD h rfl, fcellD h rfl⟩
theorem cub_there {w : World} {b : Nat} {x : Cur} (h : CuB w b x) : w.there b 0 5 := fun j hj => ⟨by
  obtain ⟨c0, c1, c2, c3, c4⟩ := cub_cells h
  match j, hj with
  | 0, _ => rw [c0]; rfl
  | 1, _ => rw [c1]; rfl
  | 2, _ => rw [c2]; rfl
  | 3, _ => rw [c3]; rfl
  | 4, _ => rw [c4]; rfl
  | j + 5, hj => omega, fzeroD h _⟩
theorem infoCu : (Tryd.prog.info? 30).map (·.size) = some 5 := by kernel_rfl
def cu0 : Cur := ⟨0, 0, 0, 0, []⟩
/-- A desk's state. -/
structure DkS where
  nx : Int
  now : Int
  op : List Cur
  seg : List UInt8
  pts : Int
/-- Block D is a desk. -/
def DkB (w : World) (D : Nat) (nx now : Int) (op : Value) (seg : List UInt8) (pts : Int) : Prop := w.heap[D]? = some (.cells #[.int .i64 nx, .int .i64 now, op, .string (txt seg), .int .i64 pts] 52 (0, 0))
theorem dkb_cells {w : World} {D : Nat} {nx now pts : Int} {op : Value} {seg : List UInt8} (h : DkB w D nx now op seg pts) : w.cell? ⟨D, 0, none⟩ = some (.int .i64 nx) ∧ w.cell? ⟨D, 1, none⟩ = some (.int .i64 now) ∧ w.cell? ⟨D, 2, none⟩ = some op ∧ w.cell? ⟨D, 3, none⟩ = some (.string (txt seg)) ∧ w.cell? ⟨D, 4, none⟩ = some (.int .i64 pts) := ⟨fcellD h rfl, fcellD h rfl, fcellD h rfl, fcellD h rfl, fcellD h rfl⟩
/-- Desk D is in that state; its list is its own. -/
structure DkIs (w : World) (D base : Nat) (s : DkS) (A : Option Addr) (n c : Nat) : Prop where
  blk : DkB w D s.nx s.now (.slice A n c) s.seg s.pts
  own : w.ownsRow base 30 5 (.slice A n c) n (sR curC s.op)
theorem dkIs_gr {w w' : World} {D base : Nat} {s : DkS} {A : Option Addr} {n c : Nat} (h : DkIs w D base s A n c) (g : Gr w w') : DkIs w' D base s A n c := ⟨gr_blk g h.blk (by simp), h.own.kept g (Classical.em _)⟩
theorem dkIs_len {w : World} {D base : Nat} {s : DkS} {A : Option Addr} {n c : Nat} (h : DkIs w D base s A n c) : s.op.length = n := by have := h.own.1; rw [sR_len curC 5 curC_len] at this; omega
set_option maxRecDepth 100000 in
theorem run_eql_dk0 (W : World) : (binOp .eql 25 (.slice none 0 0) (.slice none 0 0)).run Tryd.prog W = .ok (.bool true) W := rfl
set_option maxRecDepth 100000 in
theorem clone0 (w : World) : Calls Tryd.prog 32 #[.slice none 0 0] w fun e w' => e = .returned (.slice none 0 0) ∧ w = w' := by
  have he := run_eql_dk0
  go_enter Tryd.func32, Tryd.ntmps32
  go_wp2
  go_ret
  exact ⟨rfl, rfl⟩
set_option maxRecDepth 100000 in
theorem own0 (nx now pts : Int) (seg : List UInt8) (w : World) : Calls Tryd.prog 20 #[.agg #[.int .i64 nx, .int .i64 now, .slice none 0 0, .string (txt seg), .int .i64 pts]] w fun e w' => e = .returned (.agg #[.int .i64 nx, .int .i64 now, .slice none 0 0, .string (txt seg), .int .i64 pts]) ∧ Gr w w' := by
  go_enter Tryd.func20, Tryd.ntmps20
  go_wp2_with fail
  refine (clone0 _).mono ?_
  rintro e w' ⟨rfl, rfl⟩
  go_wp2
  refine bodyPost_ret (by simp [results, Tryd.results20, go_sem]; try rfl) rfl ?_
  exact ⟨rfl, gr_trans (gr_alloc _ _ _) (gr_alloc _ _ _)⟩
set_option maxRecDepth 100000 in
theorem new0 (nx now pts : Int) (seg : List UInt8) (w : World) : Calls Tryd.prog 8 #[.agg #[.int .i64 nx, .int .i64 now, .slice none 0 0, .string (txt seg), .int .i64 pts]] w fun e w' => (∃ D, e = .returned (.pointer (some ⟨D, 0, none⟩)) ∧ w.heap.size ≤ D ∧ DkB w' D nx now (.slice none 0 0) seg pts) ∧ Gr w w' := by
  have cO := fun W => own0 nx now pts seg W
  replace cO := Lib.hid cO
  go_enter Tryd.func8, Tryd.ntmps8
  go_wp2_with fail
  refine (cO.out _).mono ?_
  rintro e w2 ⟨rfl, g2⟩
  have G2 := gr_trans (gr_alloc w (.cells #[.int .i64 nx, .int .i64 now, .slice none 0 0, .string (txt seg), .int .i64 pts] 27) none) g2
  clear g2
  replace G2 := Lib.hid G2
  go_wp2
  go_ret
  exact ⟨⟨_, rfl, G2.out.size, blk_new w2 _⟩, gr_trans G2.out (gr_alloc _ _ _)⟩
set_option maxHeartbeats 4000000 in
set_option maxRecDepth 100000 in
theorem fold0 (w : World) : Calls Tryd.prog 9 #[.slice none 0 0] w fun e w' => e = .returned (.agg #[.int .i64 1, .int .i64 0, .slice none 0 0, .string (txt []), .int .i64 0]) ∧ Gr w w' := by
  go_enter Tryd.func9, Tryd.ntmps9
  go_wp2
  refine wp_loop_rounds 1 ?_
  rw [rounds_succ]
  go_wp2
  refine bodyPost_ret (by simp [results, Tryd.results9, go_sem]; try rfl) rfl ?_
  exact ⟨rfl, gr_trans (gr_alloc _ _ _) (gr_alloc _ _ _)⟩
set_option maxHeartbeats 4000000 in
set_option maxRecDepth 100000 in
theorem may_ok (D : Nat) (nx now pts : Int) (A : Option Addr) (n c : Nat) (seg : List UInt8) (rows size ticks : Nat) (w : World) (h : DkB w D nx now (.slice A n c) seg pts) (hr : rows ≤ 2000) (hs : 1 ≤ size) (hs2 : size ≤ 100) (ht : ticks ≤ 100000) (hnow : 0 ≤ now ∧ now + ticks ≤ 1000000000) (hn : n < 20) (hnx : nx ≤ 1000000) :
    Calls Tryd.prog 17 #[.pointer (some ⟨D, 0, none⟩), .int .i64 rows, .int .i64 size, .int .i64 ticks] w fun e w' => e = .returned (.int .i64 0) ∧ w = w' := by
  obtain ⟨c0, c1, c2, c3, c4⟩ := dkb_cells h
  have e1 : ((2000 : Int) < (rows : Int)) = False := eq_false (by omega)
  have e2 : ((size : Int) < 1) = False := eq_false (by omega)
  have e3 : ((100 : Int) < (size : Int)) = False := eq_false (by omega)
  have e4 : ((100000 : Int) < (ticks : Int)) = False := eq_false (by omega)
  have e5 : ((1000000000 : Int) - (ticks : Int) < now) = False := eq_false (by omega)
  have e5' : IntKind.i64.wrap ((1000000000 : Int) - (ticks : Int)) = (1000000000 : Int) - (ticks : Int) := IntWalk.i64_in _ (by omega)
  have e6 : ((20 : Int) ≤ (n : Int)) = False := eq_false (by omega)
  have e6' : (20 ≤ n) = False := eq_false (by omega)
  have e7 : ((1000000 : Int) < nx) = False := eq_false (by omega)
  have e8 : ((rows : Int) < 0) = False := eq_false (by omega)
  have e9 : ((ticks : Int) < 0) = False := eq_false (by omega)
  clear h
  go_enter Tryd.func17, Tryd.ntmps17
  go_wp2
  go_ret
  exact ⟨rfl, rfl⟩
end Go.Proofs.YtilbeoblppigeaaDoor
