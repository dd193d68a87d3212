/-
  The document's State: the clock goes on by any number. No condition but bounds.
-/
import Derived.Test.YtmldoeeangekoaaGreatDoorPkRefDesk5
import Derived.Test.YtmldoeeangekoaaGreatDoorPkRefFoldsDy
namespace Go.Proofs.YtmldoeeangekoaaGreatDoor
open Go.RowKit

/-- The note of a tick. -/
def tkN (t : Int) : Nte := ⟨3, ⟨0, 0, 0, t, []⟩⟩
/-- What Ticked answers. -/
def TickedPost (nx now pts : Int) (A : Option Addr) (n c : Nat) (seg : List UInt8) (op : List Cur) (t : Int) (base : Nat) (w : World) (e : Ending) (w' : World) : Prop :=
  (((t < 1 ∨ 100000 < t ∨ 1000000000 < now + t) ∧ e = .returned (.tuple #[.agg #[.int .i64 nx, .int .i64 now, .slice A n c, .string (txt seg), .int .i64 pts], .slice none 0 0, .int .i64 1])) ∨
    (¬ (t < 1 ∨ 100000 < t ∨ 1000000000 < now + t) ∧ ∃ A' n' c' O oc, e = .returned (.tuple #[.agg #[.int .i64 (Dy.foldM ⟨nx, now, op, seg, pts⟩ (tkN (now + t))).next, .int .i64 (Dy.foldM ⟨nx, now, op, seg, pts⟩ (tkN (now + t))).now, .slice A' n' c', .string (txt (Dy.foldM ⟨nx, now, op, seg, pts⟩ (tkN (now + t))).seg), .int .i64 (Dy.foldM ⟨nx, now, op, seg, pts⟩ (tkN (now + t))).pts], .slice O (op.filter fun y => decide (y.tl < now + t)).length oc, .int .i64 0]) ∧
      w'.ownsRow base 52 5 (.slice A' n' c') n' (sR curC (Dy.foldM ⟨nx, now, op, seg, pts⟩ (tkN (now + t))).op) ∧
      w'.ownsRow w.heap.size 52 5 (.slice O (op.filter fun y => decide (y.tl < now + t)).length oc) (op.filter fun y => decide (y.tl < now + t)).length (sR curC (op.filter fun y => decide (y.tl < now + t))) ∧ (∀ k, (Value.slice A' n' c').ownBlock = some k → (Value.slice A n c).ownBlock = some k ∨ w.heap.size ≤ k))) ∧ Gr w w'
set_option maxHeartbeats 16000000 in
set_option maxRecDepth 100000 in
theorem rticked_any (nx now pts : Int) (A : Option Addr) (n c : Nat) (seg : List UInt8) (op : List Cur) (t : Int) (base : Nat) (w : World) (h : w.ownsRow base 52 5 (.slice A n c) n (sR curC op)) (hb : base ≤ w.heap.size) (hn : n ≤ 90000) (hs : Dy.Sorted op) (hnow : 0 ≤ now ∧ now ≤ 1000000000) :
    Calls Tryz.prog 17 #[.agg #[.int .i64 nx, .int .i64 now, .slice A n c, .string (txt seg), .int .i64 pts], .int .i64 t] w (TickedPost nx now pts A n c seg op t base w) := by
  have hl : op.length = n := by have := h.1; rw [sR_len curC 5 curC_len] at this; omega
  obtain ⟨ii, hii, hz0, hz1, hz2⟩ := info_parts infoCuE
  obtain ⟨Wa, hWa⟩ : ∃ Wa, Wa = w.alloc (.cells #[.int .i64 nx, .int .i64 now, .slice A n c, .string (txt seg), .int .i64 pts] 32) := ⟨_, rfl⟩
  obtain ⟨W0, hW0⟩ : ∃ W0, W0 = Wa.alloc (.cells #[.int .i64 0, .int .i64 0, .slice none 0 0, .string ⟨#[]⟩, .int .i64 0] 32) := ⟨_, rfl⟩
  have sa : Wa.heap.size = w.heap.size + 1 := by rw [hWa]; simp
  have ga : Gr w Wa := by rw [hWa]; exact gr_alloc _ _ _
  have gb : Gr Wa W0 := by rw [hW0]; exact gr_alloc _ _ _
  have g0 := gr_trans ga gb
  obtain ⟨SB, hSB⟩ : ∃ SB, SB = w.heap.size := ⟨_, rfl⟩
  obtain ⟨RB, hRB⟩ : ∃ RB, RB = w.heap.size + 1 := ⟨_, rfl⟩
  have hS : W0.heap[SB]? = some (.cells #[.int .i64 nx, .int .i64 now, .slice A n c, .string (txt seg), .int .i64 pts] 32 (0, 0)) := gr_blk gb (by rw [hWa, hSB]; exact blk_new _ _) (by simp)
  have hR : W0.heap[RB]? = some (.cells #[.int .i64 0, .int .i64 0, .slice none 0 0, .string ⟨#[]⟩, .int .i64 0] 32 (0, 0)) := by rw [hRB, ← sa, hW0]; exact blk_new _ _
  have hwR : w.heap.size ≤ RB := by omega
  have hW : (w.alloc (.cells #[.int .i64 nx, .int .i64 now, .slice A n c, .string (txt seg), .int .i64 pts] 32)).alloc (.cells #[.int .i64 0, .int .i64 0, .slice none 0 0, .string ⟨#[]⟩, .int .i64 0] 32) = W0 := by rw [hW0, hWa]
  have h0 := h.kept g0 (Classical.em _)
  have hb0 : base ≤ W0.heap.size := Nat.le_trans hb g0.size
  have cFo := fun T W h hb => Dy.rfold_any2 ⟨nx, now, op, seg, pts⟩ A n c (tkN T) base W h hb (by omega) hs
  unfold tkN at cFo
  simp only at cFo
  replace cFo := Lib.hid cFo
  replace hl := Lib.hid hl
  replace h0 := Lib.hid h0
  replace hb0 := Lib.hid hb0
  replace g0 := Lib.hid g0
  replace hS := Lib.hid hS
  replace hR := Lib.hid hR
  replace hW := Lib.hid hW
  replace hwR := Lib.hid hwR
  replace hSB := Lib.hid hSB
  replace hRB := Lib.hid hRB
  clear hWa hW0 sa ga gb hb h
  have p0 : W0.cell? ⟨SB, 0, none⟩ = some (.int .i64 nx) := fcellD hS.out rfl
  have p1 : W0.cell? ⟨SB, 1, none⟩ = some (.int .i64 now) := fcellD hS.out rfl
  have p2 : W0.cell? ⟨SB, 2, none⟩ = some (.slice A n c) := fcellD hS.out rfl
  have p3 : W0.cell? ⟨SB, 3, none⟩ = some (.string (txt seg)) := fcellD hS.out rfl
  have p4 : W0.cell? ⟨SB, 4, none⟩ = some (.int .i64 pts) := fcellD hS.out rfl
  by_cases hbad : t < 1 ∨ 100000 < t ∨ 1000000000 < now + t
  · have hRx := hR.out
    obtain ⟨t1, t2, t3⟩ := cur_res hRx (.int .i64 nx) (.int .i64 now) (.slice A n c) (.string (txt seg)) (.int .i64 pts)
    have hGF := t3 w g0.out hwR.out
    generalize hW9 : W0.setCells RB 0 [.int .i64 nx, .int .i64 now, .slice A n c, .string (txt seg), .int .i64 pts] = W9 at *
    have hrx := Lib.hid (And.intro (t2 0 _ rfl) (And.intro (t2 1 _ rfl) (And.intro (t2 2 _ rfl) (And.intro (t2 3 _ rfl) (t2 4 _ rfl)))))
    replace hW9 := Lib.hid hW9
    replace hGF := Lib.hid hGF
    replace t1 := Lib.hid t1
    clear t2 t3 hRx
    have hb3 : t < 1 ∨ (¬ t < 1 ∧ 100000 < t) ∨ (¬ t < 1 ∧ ¬ 100000 < t ∧ 1000000000 < now + t ∧ IntKind.i64.wrap (now + t) = now + t) := by
      by_cases q1 : t < 1
      · exact .inl q1
      · by_cases q2 : 100000 < t
        · exact .inr (.inl ⟨q1, q2⟩)
        · exact .inr (.inr ⟨q1, q2, by omega, IntWalk.i64_in _ (by omega)⟩)
    replace hbad := Lib.hid hbad
    rcases hb3 with hb1 | ⟨hb1, hb2⟩ | ⟨hb1, hb2, hb4, hwr⟩
    all_goals
      go_enter Tryz.func17, Tryz.ntmps17
      go_upto_region 1 with fail
      rw [hW.out, ← hRB.out, ← hSB.out]
      go_upto_region 2 with fail
      go_wp2_with (refine wpList_store_mid (w := W0) (op := ⟨none, _, _, _, _, _⟩) rfl 32 _ _ rfl RB 0 #[.int .i64 nx, .int .i64 now, .slice A n c, .string (txt seg), .int .i64 pts] rfl rfl t1.out infoRSt (by simp [Value.oneCell']) ?_; rw [hW9.out])
      (try simp only [Exit.inBlock, Exit.then])
      obtain ⟨r0, r1, r2, r3, r4⟩ := hrx.out
      refine bodyPost_ret (by simp [results, Tryz.results17, go_sem, r0, r1, r2, r3, r4]; try rfl) rfl ?_
      exact ⟨.inl ⟨hbad.out, rfl⟩, hGF.out⟩
  · obtain ⟨T, hT⟩ : ∃ T, T = now + t := ⟨_, rfl⟩
    have hwr : IntKind.i64.wrap (now + t) = T := by rw [hT]; exact IntWalk.i64_in _ (by omega)
    have hw2 : now + t = T := hT.symm
    have hw3 : IntKind.i64.wrap T = T := IntWalk.i64_in _ (by omega)
    have ht1 : ¬ t < 1 := by omega
    have ht2 : ¬ 100000 < t := by omega
    have ht3 : ¬ 1000000000 < T := by omega
    obtain ⟨fz, hfz⟩ : ∃ fz, fz = op.filter fun y => decide (y.tl < T) := ⟨_, rfl⟩
    have hT1 : -9223372036854775808 ≤ T ∧ T ≤ 1000000000 := by omega
    replace hT := Lib.hid hT
    replace hbad := Lib.hid hbad
    replace hfz := Lib.hid hfz
    replace hT1 := Lib.hid hT1
    go_enter Tryz.func17, Tryz.ntmps17
    go_upto_region 1 with fail
    rw [hW.out, ← hRB.out, ← hSB.out]
    go_upto_block 0 with fail
    go_cut [7] (fun ov wx => Hid (wx.ownsRow W0.heap.size 52 5 ov fz.length (sR curC fz)) ∧ Hid (Below W0.heap.size W0 wx))
    case first =>
      go_wp2_with fail
      go_loopw [7, 8] (fun ov iv wr => ∃ k m : Nat, k ≤ n ∧ iv = .int .i64 k ∧ m ≤ k ∧ Hid (m = ((op.take k).filter fun y => decide (y.tl < T)).length) ∧ Hid (wr.ownsRow W0.heap.size 52 5 ov m (sR curC ((op.take k).filter fun y => decide (y.tl < T)))) ∧ Hid (Below W0.heap.size W0 wr)) (fun _ iv _ => n - (intOf iv).toNat)
      case atStart => exact ⟨0, 0, Nat.zero_le _, rfl, Nat.le_refl _, rfl, World.ownsRow_nil _ _ _ _, Below.refl _ _⟩
      case round =>
        obtain ⟨k, m, hkn, rfl, hmk, hm, hown, hbel⟩ := hrel
        have gB := gr_of_below hbel.out (Nat.le_refl _)
        have m1 := gr_cell gB p1
        have m2 := gr_cell gB p2
        by_cases hlt : k < n
        · obtain ⟨x, B, o, hx, rfl, _, ha⟩ := rowS_elem curC_len (row_gr (row_own h0.out) gB) (by decide) hlt
          have a0 : wr.cell? ⟨B, o + k * 5, none⟩ = some (.int .i64 x.id) := ha 0 (by decide)
          have a1 : wr.cell? ⟨B, o + k * 5 + 1, none⟩ = some (.int .i64 x.rows) := ha 1 (by decide)
          have a2 : wr.cell? ⟨B, o + k * 5 + 2, none⟩ = some (.int .i64 x.size) := ha 2 (by decide)
          have a3 : wr.cell? ⟨B, o + k * 5 + 3, none⟩ = some (.int .i64 x.tl) := ha 3 (by decide)
          have a4 : wr.cell? ⟨B, o + k * 5 + 4, none⟩ = some (.string (txt x.file)) := ha 4 (by decide)
          have hkI : (k : Int) < (n : Int) := by omega
          have hk0 : (0 : Int) ≤ (k : Int) := by omega
          obtain ⟨j1, j2⟩ := List.getElem?_eq_some_iff.1 hx
          have htk : op.take (k + 1) = op.take k ++ [x] := by rw [List.take_succ_eq_append_getElem j1, j2]
          clear j1 j2 ha hx p0 p1 p2 p3 p4
          replace hm := Lib.hid hm
          by_cases he : x.tl < T
          · have hf : (op.take (k + 1)).filter (fun y => decide (y.tl < T)) = (op.take k).filter (fun y => decide (y.tl < T)) ++ [x] := by rw [htk, List.filter_append]; simp [he]
            have hone := cur_ones x
            unfold curC at hone
            replace hone := Lib.hid hone
            replace hf := Lib.hid hf
            clear htk
            go_wp2_with fail
            go_quiet (fail)
            rename_i nq
            have gD := gr_drewN wr nq none
            have hownD := hown.out.kept gD (Classical.em _)
            have hbD := gr_below (gr_trans gB gD)
            have m2 := gr_cell gD m2
            have a0 := gr_cell gD a0
            have a1 := gr_cell gD a1
            have a2 := gr_cell gD a2
            have a3 := gr_cell gD a3
            have a4 := gr_cell gD a4
            have hs3 := hbD.size
            generalize wr.drewN nq = W3 at *
            replace hs3 := Lib.hid hs3
            replace hownD := Lib.hid hownD
            replace hbD := Lib.hid hbD
            replace he := Lib.hid he
            clear hown hbel gB gD m1
            go_wp2_with (at_builtin; refine wpList_append_own _ rfl _ _ 28 rfl W0.heap.size 52 ii (.agg #[.int .i64 0, .int .i64 0, .int .i64 0, .int .i64 0, .string ⟨#[]⟩]) 5 48 Tryz.underlying28 hii hz0 hz1 hz2 rfl (by decide) u7 _ _ rfl (hownD.out.alloc _) ⟨W3.heap.size, 0, none⟩ 1 1 [.int .i64 x.id, .int .i64 x.rows, .int .i64 x.size, .int .i64 x.tl, .string (txt x.file)] rfl rfl ?c1 ?c2 ?c3 ?c4 ?c5 ?_; rotate_right; intro v' W4 hown4 hgrow _nl; clear _nl; have hb4 := hbD.out.trans (below_append hownD.out hgrow hs3.out); clear hgrow; replace hown4 := Lib.hid hown4; replace hb4 := Lib.hid hb4)
            case c1 =>
              intro j u hj
              have hjl := (List.getElem?_eq_some_iff.1 hj).1
              simp only [List.length_cons, List.length_nil] at hjl
              rw [add_plain, Nat.zero_add, World.cell?_alloc_new]
              simpa using hj
            case c2 => exact hone.out
            case c3 => unfold maxLen; omega
            case c4 => omega
            case c5 => have := hs3.out; simp; omega
            go_roundw
            case rel => exact ⟨k + 1, m + 1, by omega, by go_num, by omega, Lib.hid (by rw [hf.out, List.length_append, ← hm.out.out]; rfl), Lib.hid (by rw [hf.out, sR_append]; exact hown4.out), hb4⟩
            case measure => simp [intOf]; omega
          · have hq : (x.tl < T) = False := eq_false he
            have hf : (op.take (k + 1)).filter (fun y => decide (y.tl < T)) = (op.take k).filter (fun y => decide (y.tl < T)) := by rw [htk, List.filter_append]; simp [he]
            replace hf := Lib.hid hf
            clear htk
            replace he := Lib.hid he
            go_wp2_with fail
            go_quiet (fail)
            rename_i nq
            have gD := gr_drewN wr nq none
            have hownD := hown.out.kept gD (Classical.em _)
            have hbD := gr_below (gr_trans gB gD)
            generalize wr.drewN nq = W3 at *
            replace hownD := Lib.hid hownD
            replace hbD := Lib.hid hbD
            clear hown hbel gB gD m1 m2 a0 a1 a2 a3 a4
            go_wp2
            go_roundw
            case rel => exact ⟨k + 1, m, by omega, by go_num, by omega, Lib.hid (by rw [hf.out]; exact hm.out.out), Lib.hid (by rw [hf.out]; exact hownD.out), hbD⟩
            case measure => simp [intOf]; omega
        · have hkI : ((k : Int) < (n : Int)) = False := eq_false (by omega)
          have hfull : op.take k = op := List.take_of_length_le (by rw [hl.out]; omega)
          have ho := hown.out
          have hm2 := hm.out
          rw [hfull, ← hfz.out] at hm2 ho
          rw [hm2] at ho
          replace ho := Lib.hid ho
          clear hm2 hown hm hfull hlt hmk
          go_wp2_with fail
          go_meet
          exact ⟨ho, hbel⟩
    case rest =>
    obtain ⟨hov, hbel⟩ := hcut
    obtain ⟨W1, hW1⟩ : ∃ W1, W1 = wc := ⟨_, rfl⟩
    rw [← hW1] at hov hbel ⊢
    clear hW1 p0 p1 p2 p3 p4
    obtain ⟨O, oc, rfl, -, -⟩ := own_openS hov.out
    have gB := gr_of_below hbel.out (Nat.le_refl _)
    have hS1 := gr_blk gB hS.out (by simp)
    have hR1 := gr_blk gB hR.out (by simp)
    have p0 : W1.cell? ⟨SB, 0, none⟩ = some (.int .i64 nx) := fcellD hS1 rfl
    have p1 : W1.cell? ⟨SB, 1, none⟩ = some (.int .i64 now) := fcellD hS1 rfl
    have p2 : W1.cell? ⟨SB, 2, none⟩ = some (.slice A n c) := fcellD hS1 rfl
    have p3 : W1.cell? ⟨SB, 3, none⟩ = some (.string (txt seg)) := fcellD hS1 rfl
    have p4 : W1.cell? ⟨SB, 4, none⟩ = some (.int .i64 pts) := fcellD hS1 rfl
    have cF := cFo.out T W1 (h0.out.kept gB (Classical.em _)) (Nat.le_trans hb0.out gB.size)
    obtain ⟨s2, hs2⟩ : ∃ s2, s2 = Dy.foldM ⟨nx, now, op, seg, pts⟩ (tkN T) := ⟨_, rfl⟩
    have hs2' : Dy.foldM ⟨nx, now, op, seg, pts⟩ ⟨3, ⟨0, 0, 0, T, []⟩⟩ = s2 := hs2.symm
    rw [hs2'] at cF
    have G1 := gr_trans g0.out gB
    replace cF := Lib.hid cF
    replace hs2 := Lib.hid hs2
    replace hR1 := Lib.hid hR1
    replace G1 := Lib.hid G1
    clear hs2' hS1 gB
    go_wp2_with fail
    refine cF.out.mono ?_
    rintro e W3 ⟨⟨A', n', c', rfl, hO3, hlate⟩, g3⟩
    have hRx := gr_blk g3 hR1.out (by simp)
    obtain ⟨t1, t2, t3⟩ := cur_res hRx (.int .i64 s2.next) (.int .i64 s2.now) (.slice A' n' c') (.string (txt s2.seg)) (.int .i64 s2.pts)
    have hGF := t3 w (gr_trans G1.out g3) hwR.out
    generalize hW9 : W3.setCells RB 0 [.int .i64 s2.next, .int .i64 s2.now, .slice A' n' c', .string (txt s2.seg), .int .i64 s2.pts] = W9 at *
    have gg : GrB RB W3 W9 := by rw [← hW9]; exact gr_setCells _ _ _ _
    have hOF := hO3.kept gg (.inr (own_ne_blk hO3 hRx (by decide)))
    have hov3 := hov.out.kept g3 (Classical.em _)
    have hovF := own_mono (hov3.kept gg (.inr (own_ne_blk hov3 hRx (by decide)))) g0.out.size
    have hltw : Hid (∀ k, (Value.slice A' n' c').ownBlock = some k → (Value.slice A n c).ownBlock = some k ∨ w.heap.size ≤ k) := fun k hk => (hlate k hk).imp id (Nat.le_trans G1.out.size)
    have hrx := Lib.hid (And.intro (t2 0 _ rfl) (And.intro (t2 1 _ rfl) (And.intro (t2 2 _ rfl) (And.intro (t2 3 _ rfl) (t2 4 _ rfl)))))
    replace hW9 := Lib.hid hW9
    replace hGF := Lib.hid hGF
    replace hOF := Lib.hid hOF
    replace hovF := Lib.hid hovF
    replace t1 := Lib.hid t1
    clear t2 t3 hRx gg hO3 hov3 hov hbel g3 hlate p0 p1 p2 p3 p4
    go_wp2_with (refine wpList_store_mid (w := W3) (op := ⟨none, _, _, _, _, _⟩) rfl 32 _ _ rfl RB 0 #[.int .i64 s2.next, .int .i64 s2.now, .slice A' n' c', .string (txt s2.seg), .int .i64 s2.pts] rfl rfl t1.out infoRSt (by simp [Value.oneCell']) ?_; rw [hW9.out])
    (try simp only [Exit.inBlock, Exit.then])
    obtain ⟨r0, r1, r2, r3, r4⟩ := hrx.out
    refine bodyPost_ret (by simp [results, Tryz.results17, go_sem, r0, r1, r2, r3, r4]; try rfl) rfl ?_
    refine ⟨.inr ⟨hbad.out, ?_⟩, hGF.out⟩
    rw [← hT.out, ← hfz.out, ← hs2.out]
    exact ⟨A', n', c', O, oc, rfl, hOF.out, hovF.out, hltw.out⟩
end Go.Proofs.YtmldoeeangekoaaGreatDoor
