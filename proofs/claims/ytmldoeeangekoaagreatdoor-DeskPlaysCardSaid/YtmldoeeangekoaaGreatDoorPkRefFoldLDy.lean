/-
  The document's Start, and its Fold of any notes. No condition but bounds.
-/
import Derived.Test.YtmldoeeangekoaaGreatDoorPkRefFoldsDy
import Derived.Deep.CutBlock
import Derived.Deep.RegionLaw
import Derived.Handy
namespace Go.Proofs.YtmldoeeangekoaaGreatDoor.Dy
open Go.RowKit

theorem own_ne_blk {w : World} {base size n b : Nat} {e t : TypeId} {v : Value} {xs : List Value} {cs : Array Value} {fr : Nat × Nat} (h : w.ownsRow base e size v n xs) (hb : w.heap[b]? = some (.cells cs t fr)) (he : e ≠ t) : v.ownBlock ≠ some b := by
  rcases h.2 with ⟨rfl, _⟩ | ⟨g', cap, cur, rfl, _, hg, _⟩
  · intro e; cases e
  · intro e2
    have : g' = b := by simpa [Value.ownBlock] using e2
    subst this
    rw [hb] at hg
    injection hg with h1
    injection h1 with _ h2
    exact he h2.symm
theorem rs_there5 {W : World} {b : Nat} {v0 v1 v2 v3 v4 : Value} {t : TypeId} (h : W.heap[b]? = some (.cells #[v0, v1, v2, v3, v4] t (0, 0))) : W.there b 0 5 := rs_there h
set_option maxHeartbeats 4000000 in
set_option maxRecDepth 100000 in
theorem rstart_any (w : World) : Calls Tryz.prog 33 #[] w fun e w' => e = .returned (.agg #[.int .i64 1, .int .i64 0, .slice none 0 0, .string ⟨#[]⟩, .int .i64 0]) ∧ Gr w w' := by
  go_enter Tryz.func33, Tryz.ntmps33
  go_wp2
  go_returns
  exact ⟨rfl, gr_alloc _ _ _⟩
set_option maxHeartbeats 16000000 in
set_option maxRecDepth 100000 in
theorem rFoldL_any (A0 : Option Addr) (len cap : Nat) (zs : List Nte) (w : World) (hr : Row w A0 len 6 (sR nteC zs)) (hlen : len ≤ 90000) :
    Calls Tryz.prog 8 #[.slice A0 len cap] w fun e w' => (∃ A n c, e = .returned (.agg #[.int .i64 (foldN zs).next, .int .i64 (foldN zs).now, .slice A n c, .string (txt (foldN zs).seg), .int .i64 (foldN zs).pts]) ∧ w'.ownsRow w.heap.size 52 5 (.slice A n c) n (sR curC (foldN zs).op)) ∧ Gr w w' := by
  have hl : zs.length = len := by have := hr.1; rw [sR_len nteC 6 nteC_len] at this; omega
  have cF := fun s A n c x W h hb hn hs => rfold_any s A n c x w.heap.size W h hb hn hs
  replace cF := Lib.hid cF
  replace hl := Lib.hid hl
  obtain ⟨W0, hW0⟩ : ∃ W0, W0 = w.alloc (.cells #[.int .i64 0, .int .i64 0, .slice none 0 0, .string ⟨#[]⟩, .int .i64 0] 32) := ⟨_, rfl⟩
  have g0 : Gr w W0 := by rw [hW0]; exact gr_alloc _ _ _
  have hR0 : W0.heap[w.heap.size]? = some (.cells #[.int .i64 0, .int .i64 0, .slice none 0 0, .string ⟨#[]⟩, .int .i64 0] 32 (0, 0)) := by rw [hW0]; exact blk_new _ _
  replace hr := Lib.hid hr
  go_enter Tryz.func8, Tryz.ntmps8
  go_upto_region 1 with fail
  rw [← hW0]
  clear hW0
  go_wp2_with fail
  refine (rstart_any _).mono ?_
  rintro e W1 ⟨rfl, g1⟩
  have hR1 := gr_blk g1 hR0 (by simp)
  have gA := gr_trans g0 g1
  obtain ⟨SB, hSB⟩ : ∃ SB, SB = W1.heap.size := ⟨_, rfl⟩
  have hRS : w.heap.size < SB := by rw [hSB]; exact lt_of_blk hR1
  clear g0 g1 hR0
  replace hR1 := Lib.hid hR1
  replace gA := Lib.hid gA
  go_wp2_with fail
  rw [← hSB]
  replace hSB := Lib.hid hSB
  go_loopw [4] (fun iv wr => ∃ (k : Nat) (A : Option Addr) (n c : Nat), k ≤ len ∧ iv = .int .i64 k ∧ Hid (wr.heap[SB]? = some (.cells #[.int .i64 (foldN (zs.take k)).next, .int .i64 (foldN (zs.take k)).now, .slice A n c, .string (txt (foldN (zs.take k)).seg), .int .i64 (foldN (zs.take k)).pts] 32 (0, 0))) ∧ Hid (wr.heap[w.heap.size]? = some (.cells #[.int .i64 0, .int .i64 0, .slice none 0 0, .string ⟨#[]⟩, .int .i64 0] 32 (0, 0))) ∧ Hid (wr.ownsRow w.heap.size 52 5 (.slice A n c) n (sR curC (foldN (zs.take k)).op)) ∧ Hid (Below w.heap.size w wr)) (fun iv _ => len - (intOf iv).toNat)
  case atStart =>
    have hn1 := blk_new W1 (.cells #[.int .i64 1, .int .i64 0, .slice none 0 0, .string ⟨#[]⟩, .int .i64 0] 32)
    rw [← hSB.out] at hn1
    exact ⟨0, none, 0, 0, Nat.zero_le _, rfl, Lib.hid hn1, Lib.hid (gr_blk (gr_alloc _ _ none) hR1.out (by simp)), Lib.hid (World.ownsRow_nil _ _ _ _), Lib.hid (gr_below (gr_trans gA.out (gr_alloc _ _ _)))⟩
  case round =>
    obtain ⟨k, A, n, c, hk, rfl, hS, hR, hO, hbel⟩ := hrel
    have hs := hbel.out.size
    have hSlt := lt_of_blk hS.out
    by_cases hlt : k < len
    · obtain ⟨x, B, o, hx, rfl, _, hc⟩ := rowS_elem nteC_len (row_gr hr.out (gr_of_below hbel.out (Nat.le_refl _))) (by decide) hlt
      have hki : (k : Int) < (len : Int) := by omega
      have hk0 : (0 : Int) ≤ (k : Int) := by omega
      have hn5 : n ≤ 99999 := by
        have h1 := hO.out.1
        rw [sR_len curC 5 curC_len] at h1
        have h2 := foldN_len (zs.take k)
        rw [List.length_take] at h2
        omega
      have hinv := foldN_inv (zs.take k)
      have hst : foldN (zs.take (k + 1)) = foldM (foldN (zs.take k)) x := by rw [take_step hx, foldN_snoc]
      have gd := gr_drew wr none
      have d0 : wr.drew.cell? ⟨B, o + k * 6, none⟩ = some (.int .i64 x.kind) := gr_cell gd (hc 0 (by decide))
      have d1 : wr.drew.cell? ⟨B, o + k * 6 + 1, none⟩ = some (.int .i64 x.c.id) := gr_cell gd (hc 1 (by decide))
      have d2 : wr.drew.cell? ⟨B, o + k * 6 + 2, none⟩ = some (.int .i64 x.c.rows) := gr_cell gd (hc 2 (by decide))
      have d3 : wr.drew.cell? ⟨B, o + k * 6 + 3, none⟩ = some (.int .i64 x.c.size) := gr_cell gd (hc 3 (by decide))
      have d4 : wr.drew.cell? ⟨B, o + k * 6 + 4, none⟩ = some (.int .i64 x.c.tl) := gr_cell gd (hc 4 (by decide))
      have d5 : wr.drew.cell? ⟨B, o + k * 6 + 5, none⟩ = some (.string (txt x.c.file)) := gr_cell gd (hc 5 (by decide))
      have hSd := gr_blk gd hS.out (by simp)
      have hRd := gr_blk gd hR.out (by simp)
      have hOd := hO.out.kept gd (Classical.em _)
      have hbd := below_gr hbel.out gd hs (by simp)
      have hsd := hbd.size
      have hF := cF.out (foldN (zs.take k)) A n c x wr.drew hOd hsd hn5 hinv.so
      rw [← hst] at hF
      obtain ⟨s1, hs1⟩ : ∃ s1, s1 = foldN (zs.take k) := ⟨_, rfl⟩
      obtain ⟨s2, hs2⟩ : ∃ s2, s2 = foldN (zs.take (k + 1)) := ⟨_, rfl⟩
      rw [← hs1] at hF hSd
      rw [← hs2] at hF
      obtain ⟨nx, now, op, seg, pts⟩ := s1
      simp only at hF hSd
      have e0 : wr.drew.cell? ⟨SB, 0, none⟩ = some (.int .i64 nx) := fcell hSd rfl
      have e1 : wr.drew.cell? ⟨SB, 1, none⟩ = some (.int .i64 now) := fcell hSd rfl
      have e2 : wr.drew.cell? ⟨SB, 2, none⟩ = some (.slice A n c) := fcell hSd rfl
      have e3 : wr.drew.cell? ⟨SB, 3, none⟩ = some (.string (txt seg)) := fcell hSd rfl
      have e4 : wr.drew.cell? ⟨SB, 4, none⟩ = some (.int .i64 pts) := fcell hSd rfl
      obtain ⟨kd, ⟨id, rows, size, tl, file⟩⟩ := x
      simp only at hF d0 d1 d2 d3 d4 d5
      clear hc hx hst hinv hOd hS hR hO hbel gd hsd
      replace hs1 := Lib.hid hs1
      replace hs2 := Lib.hid hs2
      replace hSd := Lib.hid hSd
      replace hRd := Lib.hid hRd
      replace hbd := Lib.hid hbd
      replace hF := Lib.hid hF
      clear hn5 hs
      go_wp2_with fail
      go_region_law (first
        | (go_simp; go_at_call 21; refine hF.out.mono ?_
           rintro e W3 ⟨⟨A', n', c', rfl, hO3⟩, g3⟩
           have hS3 := gr_blk g3 hSd.out (by simp)
           have f0 : W3.cell? ⟨SB, 0, none⟩ = some (.int .i64 nx) := fcell hS3 rfl
           have f1 : W3.cell? ⟨SB, 1, none⟩ = some (.int .i64 now) := fcell hS3 rfl
           have f2 : W3.cell? ⟨SB, 2, none⟩ = some (.slice A n c) := fcell hS3 rfl
           have f3 : W3.cell? ⟨SB, 3, none⟩ = some (.string (txt seg)) := fcell hS3 rfl
           have f4 : W3.cell? ⟨SB, 4, none⟩ = some (.int .i64 pts) := fcell hS3 rfl
           have z0 := fzero hS3 0
           have z1 := fzero hS3 1
           have z2 := fzero hS3 2
           have z3 := fzero hS3 3
           have z4 := fzero hS3 4))
      all_goals
        obtain ⟨W9, hW9⟩ : ∃ W9, W9 = ((((W3.setCell ⟨SB, 0, none⟩ (.int .i64 s2.next)).setCell ⟨SB, 1, none⟩ (.int .i64 s2.now)).setCell ⟨SB, 2, none⟩ (.slice A' n' c')).setCell ⟨SB, 3, none⟩ (.string (txt s2.seg))).setCell ⟨SB, 4, none⟩ (.int .i64 s2.pts) := ⟨_, rfl⟩
        have g9 : GrB SB W3 W9 := by rw [hW9]; exact gr_trans (gr_trans (gr_trans (gr_trans (gr_set _ _ _) (gr_set _ _ _)) (gr_set _ _ _)) (gr_set _ _ _)) (gr_set _ _ _)
        have hS9 : W9.heap[SB]? = some (.cells #[.int .i64 s2.next, .int .i64 s2.now, .slice A' n' c', .string (txt s2.seg), .int .i64 s2.pts] 32 (0, 0)) := by rw [hW9]; exact blk_set (blk_set (blk_set (blk_set (blk_set hS3 0 _) 1 _) 2 _) 3 _) 4 _
        rw [← hW9]
        have hO9 := hO3.kept g9 (.inr (own_ne_blk hO3 hS3 (by decide)))
        have hR9 := gr_blk g3 hRd.out (by simp)
        have hR9 := gr_blk g9 hR9 (by simp; omega)
        have hb3 := below_gr hbd.out g3 (by have := hbd.out.size; exact this) (by simp)
        have hb9 := hb3.grown g9 hb3.size (fun k hk => by cases hk; omega)
        clear hW9 g9 hO3 hS3 hb3 g3 f0 f1 f2 f3 f4 z0 z1 z2 z3 z4 d0 d1 d2 d3 d4 d5 e0 e1 e2 e3 e4 hSd hRd hbd hF hs1
        replace hS9 := Lib.hid hS9
        replace hO9 := Lib.hid hO9
        replace hR9 := Lib.hid hR9
        replace hb9 := Lib.hid hb9
        go_wp2
        go_roundw
        case rel => exact ⟨k + 1, A', n', c', by omega, by go_num, by rw [← hs2.out]; exact hS9, hR9, by rw [← hs2.out]; exact hO9, hb9⟩
        case measure => simp [intOf]; omega
    · obtain rfl : k = len := by omega
      have hzs : zs.take k = zs := by rw [List.take_of_length_le (Nat.le_of_eq hl.out)]
      have hS' := hS.out
      have hO' := hO.out
      rw [hzs] at hS' hO'
      generalize hS9 : foldN zs = s2 at *
      obtain ⟨nx, now, op, seg, pts⟩ := s2
      replace hS9 := Lib.hid hS9
      simp only at hS' hO' ⊢
      have s0 : wr.cell? ⟨SB, 0, none⟩ = some (.int .i64 nx) := fcell hS' rfl
      have s1 : wr.cell? ⟨SB, 1, none⟩ = some (.int .i64 now) := fcell hS' rfl
      have s2 : wr.cell? ⟨SB, 2, none⟩ = some (.slice A n c) := fcell hS' rfl
      have s3 : wr.cell? ⟨SB, 3, none⟩ = some (.string (txt seg)) := fcell hS' rfl
      have s4 : wr.cell? ⟨SB, 4, none⟩ = some (.int .i64 pts) := fcell hS' rfl
      have hth := rs_there5 hR.out
      have hap := own_ne_blk hO' hR.out (by decide)
      have hsame := World.rangeAt_setCells_same wr w.heap.size 0 [.int .i64 nx, .int .i64 now, .slice A n c, .string (txt seg), .int .i64 pts] hth
      have hgs := gr_setCells wr w.heap.size 0 [.int .i64 nx, .int .i64 now, .slice A n c, .string (txt seg), .int .i64 pts]
      have r0 := hsame 0 _ rfl
      have r1 := hsame 1 _ rfl
      have r2 := hsame 2 _ rfl
      have r3 := hsame 3 _ rfl
      have r4 := hsame 4 _ rfl
      simp only [Nat.zero_add] at r0 r1 r2 r3 r4
      have hOF := hO'.kept hgs (.inr hap)
      have hGF := gr_of_below (hbel.out.grown hgs hs (fun k hk => by cases hk; exact Nat.le_refl _)) (Nat.le_refl _)
      replace hgs := Lib.hid hgs
      replace hOF := Lib.hid hOF
      replace hGF := Lib.hid hGF
      clear hsame cF hS' hO' hap hS hO hbel hs hSlt hzs hRS hlt
      go_upto_region 6 with fail
      go_wp2_with (refine wpList_store_mid (op := ⟨none, _, _, _, _, _⟩) rfl 32 _ _ rfl w.heap.size 0 #[.int .i64 nx, .int .i64 now, .slice A n c, .string (txt seg), .int .i64 pts] rfl rfl hth infoRSt (by simp [Value.oneCell']) ?_)
      (try simp only [Exit.inBlock, Exit.then])
      refine bodyPost_ret (by simp [results, Tryz.results8, go_sem, r0, r1, r2, r3, r4]; try rfl) rfl ?_
      rw [hS9.out]
      exact ⟨⟨A, n, c, rfl, hOF.out⟩, hGF.out⟩
end Go.Proofs.YtmldoeeangekoaaGreatDoor.Dy
