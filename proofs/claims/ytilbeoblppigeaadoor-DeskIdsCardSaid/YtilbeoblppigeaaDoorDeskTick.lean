/-
  (*Desk).Tick of a desk that came behind world w. No condition but bounds.
-/
import Derived.Test.YtilbeoblppigeaaDoorDeskClose
namespace Go.Proofs.YtilbeoblppigeaaDoor
open Go.RowKit

def TickPost (w wi : World) (D : Nat) (s : DkS) (t : Nat) (e : Ending) (w' : World) : Prop :=
  ∃ (v : Value) (A : Option Addr) (m c : Nat), e = .returned (.tuple #[v, .int .i64 0]) ∧
    w'.ownsRow w.heap.size 30 5 v (s.op.filter (fun y => decide (y.tl < s.now + t))).length (sR curC (s.op.filter (fun y => decide (y.tl < s.now + t)))) ∧
    DkIn w w' D ⟨s.nx, s.now + t, s.op.filter (fun y => !decide (y.tl < s.now + t)), s.seg, s.pts⟩ A m c ∧ GrB D wi w'
set_option maxHeartbeats 8000000 in
set_option maxRecDepth 100000 in
theorem dkin_tick {w wi : World} {D : Nat} {s : DkS} {A : Option Addr} {n c : Nat} (h : DkIn w wi D s A n c) (t : Nat) (ht : 1 ≤ t ∧ t ≤ 100000) (hnow : 0 ≤ s.now ∧ s.now + t ≤ 1000000000) (hn : n ≤ 100000) :
    Calls Tryd.prog 14 #[.pointer (some ⟨D, 0, none⟩), .int .i64 t] wi (TickPost w wi D s t) := by
  obtain ⟨ii, hi, hz0, hz1, hz2⟩ := info_parts infoCuE
  obtain ⟨nx, now, op, seg, pts⟩ := s
  have hlen : op.length = n := dkIs_len h.dk
  obtain ⟨T, hT⟩ : ∃ T, T = now + (t : Int) := ⟨_, rfl⟩
  simp only at hnow
  have hw0 : IntKind.i64.wrap (now + (t : Int)) = T := by rw [hT]; exact IntWalk.i64_in _ (by omega)
  have hw1 : IntKind.i64.wrap ((1000000000 : Int) - (t : Int)) = (1000000000 : Int) - (t : Int) := IntWalk.i64_in _ (by omega)
  have e1 : ((1000000000 : Int) - (t : Int) < now) = False := eq_false (by omega)
  have e3 : ((t : Int) < 1) = False := eq_false (by omega)
  have e4 : ((100000 : Int) < (t : Int)) = False := eq_false (by omega)
  obtain ⟨c0, c1, c2, c3, c4⟩ := dkb_cells h.dk.blk
  simp only at c1 c2
  have f1 : wi.frozen? ⟨D, 1, none⟩ = false := fzeroD h.dk.blk 1
  obtain ⟨W1, hW1⟩ : ∃ W1, W1 = wi.setCell ⟨D, 1, none⟩ (.int .i64 T) := ⟨_, rfl⟩
  have g1 : GrB D wi W1 := by rw [hW1]; exact gr_set wi ⟨D, 1, none⟩ _
  have hb1 : DkB W1 D nx T (.slice A n c) seg pts := by rw [hW1]; exact blk_set h.dk.blk 1 _
  have hown1 := own_farD h.dk.own h.dk.blk (by decide) g1
  have h1 : DkIn w W1 D ⟨nx, T, op, seg, pts⟩ A n c := ⟨gr_over h.gr g1 h.le, ⟨hb1, hown1⟩, h.le⟩
  have z2 := (dkb_cells hb1).2.2.1
  have hT64 : -9223372036854775808 ≤ T ∧ T ≤ 9223372036854775807 := by omega
  clear c0 c3 c4 h hb1 hown1
  replace g1 := Lib.hid g1
  unfold TickPost
  simp only
  rw [← hT]
  replace h1 := Lib.hid h1
  replace hT := Lib.hid hT
  replace hlen := Lib.hid hlen
  go_enter Tryd.func14, Tryd.ntmps14
  go_upto_region 4 with fail
  rw [← hW1]
  clear hW1 c1 c2 f1
  go_wp2_with fail
  clear z2
  go_loopw [6, 7, 46] (fun ov lv iv wr => ∃ k : Nat, k ≤ n ∧ iv = .int .i64 k ∧ Hid (wr.ownsRow W1.heap.size 30 5 ov ((op.take k).filter (fun y => decide (y.tl < T))).length (sR curC ((op.take k).filter (fun y => decide (y.tl < T))))) ∧ Hid (wr.ownsRow W1.heap.size 30 5 lv ((op.take k).filter (fun y => !decide (y.tl < T))).length (sR curC ((op.take k).filter (fun y => !decide (y.tl < T))))) ∧ Hid (∀ b, ov.ownBlock = some b → lv.ownBlock ≠ some b) ∧ Hid (Gr W1 wr)) (fun _ _ i _ => n - (intOf i).toNat)
  case atStart => exact ⟨0, Nat.zero_le _, rfl, World.ownsRow_nil _ _ _ _, World.ownsRow_nil _ _ _ _, (fun b hb => by cases hb), gr_refl _ _⟩
  case round =>
    obtain ⟨k, hk, rfl, hO, hL, hdis, hg⟩ := hrel
    by_cases hlt : k < n
    · obtain ⟨x, B, o, hx, rfl, _, hc⟩ := rowS_elem curC_len (row_gr (row_own h1.out.dk.own) hg.out) (by decide) hlt
      have hx' : op[k]? = some x := hx
      have htk := take_step hx'
      have hl1 : ((op.take k).filter (fun y => decide (y.tl < T))).length ≤ 100000 := Nat.le_trans (List.length_filter_le _ _) (Nat.le_trans (List.length_take_le _ _) (by omega))
      have hl2 : ((op.take k).filter (fun y => !decide (y.tl < T))).length ≤ 100000 := Nat.le_trans (List.length_filter_le _ _) (Nat.le_trans (List.length_take_le _ _) (by omega))
      obtain ⟨lo, hlo⟩ : ∃ lo, lo = (op.take k).filter (fun y => decide (y.tl < T)) := ⟨_, rfl⟩
      obtain ⟨lf, hlf⟩ : ∃ lf, lf = (op.take k).filter (fun y => !decide (y.tl < T)) := ⟨_, rfl⟩
      rw [← hlo] at hO hl1
      rw [← hlf] at hL hl2
      have hki : (k : Int) < (n : Int) := by omega
      have hk0 : (0 : Int) ≤ (k : Int) := by omega
      have d0 : wr.cell? ⟨B, o + k * 5, none⟩ = some (.int .i64 x.id) := hc 0 (by decide)
      have d1 : wr.cell? ⟨B, o + k * 5 + 1, none⟩ = some (.int .i64 x.rows) := hc 1 (by decide)
      have d2 : wr.cell? ⟨B, o + k * 5 + 2, none⟩ = some (.int .i64 x.size) := hc 2 (by decide)
      have d3 : wr.cell? ⟨B, o + k * 5 + 3, none⟩ = some (.int .i64 x.tl) := hc 3 (by decide)
      have d4 : wr.cell? ⟨B, o + k * 5 + 4, none⟩ = some (.string (txt x.file)) := hc 4 (by decide)
      have z1 : wr.cell? ⟨D, 1, none⟩ = some (.int .i64 T) := gr_cell hg.out (dkb_cells h1.out.dk.blk).2.1
      obtain ⟨xi, xr, xs, xt, xf⟩ := x
      simp only at d0 d1 d2 d3 d4
      obtain ⟨W2, hW2⟩ : ∃ W2, W2 = wr.alloc (.cells #[.int .i64 xi, .int .i64 xr, .int .i64 xs, .int .i64 xt, .string (txt xf)] 30) := ⟨_, rfl⟩
      have g2 : Gr wr W2 := by rw [hW2]; exact gr_alloc _ _ _
      have hX2 : CuB W2 wr.heap.size ⟨xi, xr, xs, xt, xf⟩ := by rw [hW2]; exact blk_new wr _
      obtain ⟨x0, x1, x2, x3, x4⟩ := cub_cells hX2
      simp only at x0 x1 x2 x3 x4
      have z1' := gr_cell g2 z1
      replace hx := Lib.hid hx
      replace hx' := Lib.hid hx'
      replace htk := Lib.hid htk
      replace hlo := Lib.hid hlo
      replace hlf := Lib.hid hlf
      clear hc
      go_upto_region 8 with fail
      rw [← hW2]
      clear hW2 d0 d1 d2 d3 d4 z1
      go_quiet (fail)
      rename_i nq
      have g3 := gr_trans g2 (gr_drewN W2 nq none)
      have y0 := gr_cell (gr_drewN W2 nq none) x0
      have y1 := gr_cell (gr_drewN W2 nq none) x1
      have y2 := gr_cell (gr_drewN W2 nq none) x2
      have y3 := gr_cell (gr_drewN W2 nq none) x3
      have y4 := gr_cell (gr_drewN W2 nq none) x4
      clear x0 x1 x2 x3 x4 z1' g2 hX2
      generalize W2.drewN nq = W3 at *
      by_cases htl : xt < T
      · have htT : decide (xt < T) = true := decide_eq_true htl
        have g4 : Gr W3 (W3.alloc (.cells #[.int .i64 xi, .int .i64 xr, .int .i64 xs, .int .i64 xt, .string (txt xf)] 30)) := gr_alloc _ _ _
        have hcn : ∀ j u, ([.int .i64 xi, .int .i64 xr, .int .i64 xs, .int .i64 xt, .string (txt xf)] : List Value)[j]? = some u → (W3.alloc (.cells #[.int .i64 xi, .int .i64 xr, .int .i64 xs, .int .i64 xt, .string (txt xf)] 30)).cell? ((⟨W3.heap.size, 0, none⟩ : Addr).add j) = some u := fun j u hj => by
          rw [add_plain, Nat.zero_add, World.cell?_alloc_new]
          exact (show (#[.int .i64 xi, .int .i64 xr, .int .i64 xs, .int .i64 xt, .string (txt xf)] : Array Value)[j]? = some u by rw [← List.getElem?_toArray] at hj; exact hj)
        have g34 := gr_trans g3 g4
        have hO4 := hO.out.kept g34 (Classical.em _)
        have hL4 := hL.out.kept g34 (Classical.em _)
        have hsz : W1.heap.size ≤ (W3.alloc (.cells #[.int .i64 xi, .int .i64 xr, .int .i64 xs, .int .i64 xt, .string (txt xf)] 30)).heap.size := Nat.le_trans hg.out.size g34.size
        have hones : ∀ u ∈ ([.int .i64 xi, .int .i64 xr, .int .i64 xs, .int .i64 xt, .string (txt xf)] : List Value), u.oneCell' = true := by
          intro u hu
          simp only [List.mem_cons, List.not_mem_nil, or_false] at hu
          rcases hu with rfl | rfl | rfl | rfl | rfl <;> rfl
        replace hO4 := Lib.hid hO4
        replace hL4 := Lib.hid hL4
        replace g34 := Lib.hid g34
        replace hsz := Lib.hid hsz
        replace hcn := Lib.hid hcn
        replace hones := Lib.hid hones
        clear hO hL g3 g4
        go_wp2_with (at_builtin; refine wpList_append_strong _ rfl _ _ 25 rfl W1.heap.size 30 ii (.agg #[.int .i64 0, .int .i64 0, .int .i64 0, .int .i64 0, .string ⟨#[]⟩]) 5 48 Tryd.underlying25 hi hz0 hz1 hz2 rfl (by decide) u6 _ _ rfl hO4.out ⟨W3.heap.size, 0, none⟩ 1 1 [.int .i64 xi, .int .i64 xr, .int .i64 xs, .int .i64 xt, .string (txt xf)] rfl rfl hcn.out hones.out (by decide) (lo.length + 1) rfl (by unfold maxLen; omega) (by omega) hsz.out ?_; intro g cap W5 hown5 hat5)
        have e5 : GrB g (W3.alloc (.cells #[.int .i64 xi, .int .i64 xr, .int .i64 xs, .int .i64 xt, .string (txt xf)] 30)) W5 := by
          rcases hat5 with ⟨_, h9⟩ | ⟨_, h9⟩
          · exact h9
          · exact gr_more _ h9
        have hgb : W1.heap.size ≤ g := (hown5.lt g rfl).1
        have hdis5 : ∀ b, (Value.slice (some ⟨g, 0, none⟩) (lo.length + 1) cap).ownBlock = some b → u7.ownBlock ≠ some b := fun b hb e => by
          obtain rfl : g = b := by simpa [Value.ownBlock] using hb
          rcases hat5 with ⟨h9, _⟩ | ⟨h9, _⟩
          · exact hdis.out g h9 e
          · have := (hL4.out.lt g e).2; omega
        have hK5 := hL4.out.kept e5 (.inr (fun e => hdis5 g rfl e))
        have hg5 : Gr W1 W5 := gr_over (gr_trans hg.out g34.out) e5 hgb
        replace hown5 := Lib.hid hown5
        replace hdis5 := Lib.hid hdis5
        replace hK5 := Lib.hid hK5
        replace hg5 := Lib.hid hg5
        clear hat5 e5 hL4 hgb
        go_roundw
        case rel => exact ⟨k + 1, by omega, by go_num, (by rw [htk.out, List.filter_append, ← hlo.out]; simp only [List.filter_cons, htT, if_true, List.filter_nil, List.length_append, List.length_cons, List.length_nil, sR_append, sR_one]; exact hown5.out), (by rw [htk.out, List.filter_append, ← hlf.out]; simp only [List.filter_cons, htT, Bool.not_true, Bool.false_eq_true, if_false, List.filter_nil, List.append_nil]; exact hK5.out), hdis5.out, hg5.out⟩
        case measure => simp [intOf]; omega
      · have htF : decide (xt < T) = false := decide_eq_false htl
        have g4 : Gr W3 (W3.alloc (.cells #[.int .i64 xi, .int .i64 xr, .int .i64 xs, .int .i64 xt, .string (txt xf)] 30)) := gr_alloc _ _ _
        have hcn : ∀ j u, ([.int .i64 xi, .int .i64 xr, .int .i64 xs, .int .i64 xt, .string (txt xf)] : List Value)[j]? = some u → (W3.alloc (.cells #[.int .i64 xi, .int .i64 xr, .int .i64 xs, .int .i64 xt, .string (txt xf)] 30)).cell? ((⟨W3.heap.size, 0, none⟩ : Addr).add j) = some u := fun j u hj => by
          rw [add_plain, Nat.zero_add, World.cell?_alloc_new]
          exact (show (#[.int .i64 xi, .int .i64 xr, .int .i64 xs, .int .i64 xt, .string (txt xf)] : Array Value)[j]? = some u by rw [← List.getElem?_toArray] at hj; exact hj)
        have g34 := gr_trans g3 g4
        have hO4 := hO.out.kept g34 (Classical.em _)
        have hL4 := hL.out.kept g34 (Classical.em _)
        have hsz : W1.heap.size ≤ (W3.alloc (.cells #[.int .i64 xi, .int .i64 xr, .int .i64 xs, .int .i64 xt, .string (txt xf)] 30)).heap.size := Nat.le_trans hg.out.size g34.size
        have hones : ∀ u ∈ ([.int .i64 xi, .int .i64 xr, .int .i64 xs, .int .i64 xt, .string (txt xf)] : List Value), u.oneCell' = true := by
          intro u hu
          simp only [List.mem_cons, List.not_mem_nil, or_false] at hu
          rcases hu with rfl | rfl | rfl | rfl | rfl <;> rfl
        replace hO4 := Lib.hid hO4
        replace hL4 := Lib.hid hL4
        replace g34 := Lib.hid g34
        replace hsz := Lib.hid hsz
        replace hcn := Lib.hid hcn
        replace hones := Lib.hid hones
        clear hO hL g3 g4
        go_wp2_with (at_builtin; refine wpList_append_strong _ rfl _ _ 25 rfl W1.heap.size 30 ii (.agg #[.int .i64 0, .int .i64 0, .int .i64 0, .int .i64 0, .string ⟨#[]⟩]) 5 48 Tryd.underlying25 hi hz0 hz1 hz2 rfl (by decide) u7 _ _ rfl hL4.out ⟨W3.heap.size, 0, none⟩ 1 1 [.int .i64 xi, .int .i64 xr, .int .i64 xs, .int .i64 xt, .string (txt xf)] rfl rfl hcn.out hones.out (by decide) (lf.length + 1) rfl (by unfold maxLen; omega) (by omega) hsz.out ?_; intro g cap W5 hown5 hat5)
        have e5 : GrB g (W3.alloc (.cells #[.int .i64 xi, .int .i64 xr, .int .i64 xs, .int .i64 xt, .string (txt xf)] 30)) W5 := by
          rcases hat5 with ⟨_, h9⟩ | ⟨_, h9⟩
          · exact h9
          · exact gr_more _ h9
        have hgb : W1.heap.size ≤ g := (hown5.lt g rfl).1
        have hdis5 : ∀ b, (Value.slice (some ⟨g, 0, none⟩) (lf.length + 1) cap).ownBlock = some b → u6.ownBlock ≠ some b := fun b hb e => by
          obtain rfl : g = b := by simpa [Value.ownBlock] using hb
          rcases hat5 with ⟨h9, _⟩ | ⟨h9, _⟩
          · exact hdis.out g e h9
          · have := (hO4.out.lt g e).2; omega
        have hK5 := hO4.out.kept e5 (.inr (fun e => hdis5 g rfl e))
        have hg5 : Gr W1 W5 := gr_over (gr_trans hg.out g34.out) e5 hgb
        replace hown5 := Lib.hid hown5
        replace hdis5 := Lib.hid hdis5
        replace hK5 := Lib.hid hK5
        replace hg5 := Lib.hid hg5
        clear hat5 e5 hO4 hgb
        go_roundw
        case rel => exact ⟨k + 1, by omega, by go_num, (by rw [htk.out, List.filter_append, ← hlo.out]; simp only [List.filter_cons, htF, Bool.false_eq_true, if_false, List.filter_nil, List.append_nil]; exact hK5.out), (by rw [htk.out, List.filter_append, ← hlf.out]; simp only [List.filter_cons, htF, Bool.not_false, if_true, List.filter_nil, List.length_append, List.length_cons, List.length_nil, sR_append, sR_one]; exact hown5.out), (fun b hb e => hdis5.out b e hb), hg5.out⟩
        case measure => simp [intOf]; omega
    · obtain rfl : k = n := by omega
      have htn : op.take k = op := by rw [← hlen.out, List.take_length]
      rw [htn] at hO hL
      obtain ⟨A2, c2, rfl, _, _⟩ := own_openS hL.out
      have hbD : DkB wr D nx T (.slice A k c) seg pts := gr_blk hg.out h1.out.dk.blk (by simp)
      have hDl : D < W1.heap.size := lt_of_blk h1.out.dk.blk
      have e2 := (dkb_cells hbD).2.2.1
      have f2 : wr.frozen? ⟨D, 2, none⟩ = false := fzeroD hbD 2
      obtain ⟨W6, hW6⟩ : ∃ W6, W6 = wr.setCell ⟨D, 2, none⟩ (.slice A2 ((op.filter (fun y => !decide (y.tl < T))).length) c2) := ⟨_, rfl⟩
      have g6 : GrB D wr W6 := by rw [hW6]; exact gr_set wr ⟨D, 2, none⟩ _
      have hb6 : DkB W6 D nx T (.slice A2 ((op.filter (fun y => !decide (y.tl < T))).length) c2) seg pts := by rw [hW6]; exact blk_set hbD 2 _
      have hO6 := hO.out.kept g6 (.inr (fun e => by have := (hO.out.lt D e).1; omega))
      have hL6 := hL.out.kept g6 (.inr (fun e => by have := (hL.out.lt D e).1; omega))
      have h6 : DkIn w W6 D ⟨nx, T, op.filter (fun y => !decide (y.tl < T)), seg, pts⟩ A2 ((op.filter (fun y => !decide (y.tl < T))).length) c2 := ⟨gr_over (gr_trans h1.out.gr hg.out) g6 h1.out.le, ⟨hb6, own_mono hL6 h1.out.gr.size⟩, h1.out.le⟩
      have gF := gr_trans (gr_trans g1.out (gr_more _ hg.out)) g6
      replace gF := Lib.hid gF
      have hO7 := own_mono hO6 h1.out.gr.size
      replace hO7 := Lib.hid hO7
      replace h6 := Lib.hid h6
      clear hO6 hL6 hb6 g6 hO hL hbD
      go_upto_region 13 with fail
      rw [← hW6]
      clear hW6 e2 f2
      go_wp2
      go_ret2
      exact ⟨_, A2, _, c2, rfl, hO7.out, h6.out, gF.out⟩
end Go.Proofs.YtilbeoblppigeaaDoor
