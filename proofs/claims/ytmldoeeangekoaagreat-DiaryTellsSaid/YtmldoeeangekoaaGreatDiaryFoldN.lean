/-
  diary.Fold of any notes. No condition but the machine's numbers and a bound on how many.
-/
import Derived.Test.YtmldoeeangekoaaGreatDiaryFoldL
import Derived.Test.YtmldoeeangekoaaGreatDiaryFold3
import Derived.Test.YtmldoeeangekoaaGreatDiaryFoldMath
namespace Go.Proofs.YtmldoeeangekoaaGreat
open Go.RowKit

/-- What notes come to. -/
def foldN (zs : List Nte) : StM := zs.foldl foldM s0M
theorem foldN_inv (zs : List Nte) : InvM (foldN zs) := inv_folds zs s0M inv0
theorem foldN_len (zs : List Nte) : (foldN zs).op.length ≤ zs.length := by have := folds_len zs s0M; simpa [foldN, s0M] using this
theorem foldN_snoc (zs : List Nte) (x : Nte) : foldN (zs ++ [x]) = foldM (foldN zs) x := by unfold foldN; rw [List.foldl_append]; rfl
set_option maxHeartbeats 32000000 in
set_option maxRecDepth 100000 in
theorem dFold_any (A0 : Option Addr) (len cap : Nat) (zs : List Nte) (w : World) (hr : Row w A0 len 6 (sR nteC zs)) (hlen : len ≤ 100000) :
    Calls Tryz.prog 17 #[.slice A0 len cap] w fun e w' => (∃ A n c, e = .returned (.agg #[.int .i64 (foldN zs).next, .int .i64 (foldN zs).now, .slice A n c, .string (txt (foldN zs).seg), .int .i64 (foldN zs).pts]) ∧ w'.ownsRow w.heap.size 28 5 (.slice A n c) n (sR curC (foldN zs).op)) ∧ Gr w w' := by
  have hl : zs.length = len := by have := hr.1; rw [sR_len nteC 6 nteC_len] at this; omega
  have cL := fun x W => lift_any x W
  unfold LiftPost nteV at cL
  have cF := fun s A n c x W h hb hn h1 h2 => dfold_any (w.heap.size + 1) w.heap.size s A n c x W h hb hn h1 h2
  generalize liftV = lv at cL cF
  replace cL := Lib.hid cL
  replace cF := Lib.hid cF
  replace hr := Lib.hid hr
  replace hl := Lib.hid hl
  go_enter Tryz.func17, Tryz.ntmps17
  go_wp2
  go_loopw [9] (fun iv wr => ∃ (k : Nat) (A : Option Addr) (n c : Nat), k ≤ len ∧ iv = .int .i64 k ∧ Hid (StIs wr (w.heap.size + 1) w.heap.size (foldN (zs.take k)) A n c) ∧ Hid (StAt wr w.heap.size 0 0 (.slice none 0 0) [] 0) ∧ Hid (Below w.heap.size w wr)) (fun iv _ => len - (intOf iv).toNat)
  case atStart =>
    have hz : (w.alloc (.cells (stC 0 0 (.slice none 0 0) [] 0) 56)).heap.size = w.heap.size + 1 := by simp
    have hn1 := blk_new (w.alloc (.cells (stC 0 0 (.slice none 0 0) [] 0) 56)) (.cells (stC 1 0 (.slice none 0 0) [] 0) 56)
    rw [hz] at hn1
    exact ⟨0, none, 0, 0, Nat.zero_le _, rfl, ⟨hn1, World.ownsRow_nil _ _ _ _⟩, gr_blk (gr_alloc _ _ none) (blk_new w _) (by simp), gr_below (gr_trans (gr_alloc _ _ _) (gr_alloc _ _ _))⟩
  case round =>
    obtain ⟨k, A, n, c, hk, rfl, hS, hR, hbel⟩ := hrel
    have hs := hbel.out.size
    by_cases hlt : k < len
    · obtain ⟨x, B, o, hx, rfl, _, hc⟩ := rowS_elem nteC_len (row_gr hr.out (gr_of_below hbel.out (Nat.le_refl _))) (by decide) hlt
      have hki : (k : Int) < (len : Int) := by omega
      have hk0 : (0 : Int) ≤ (k : Int) := by omega
      have d0 : wr.cell? ⟨B, o + k * 6, none⟩ = some (.int .i64 x.kind) := hc 0 (by decide)
      have d1 : wr.cell? ⟨B, o + k * 6 + 1, none⟩ = some (.int .i64 x.c.id) := hc 1 (by decide)
      have d2 : wr.cell? ⟨B, o + k * 6 + 2, none⟩ = some (.int .i64 x.c.rows) := hc 2 (by decide)
      have d3 : wr.cell? ⟨B, o + k * 6 + 3, none⟩ = some (.int .i64 x.c.size) := hc 3 (by decide)
      have d4 : wr.cell? ⟨B, o + k * 6 + 4, none⟩ = some (.int .i64 x.c.tl) := hc 4 (by decide)
      have d5 : wr.cell? ⟨B, o + k * 6 + 5, none⟩ = some (.string (txt x.c.file)) := hc 5 (by decide)
      have hst : foldN (zs.take (k + 1)) = foldM (foldN (zs.take k)) x := by rw [take_step hx, foldN_snoc]
      have hn5 : n ≤ 100000 := by
        have h1 := hS.out.2.1
        rw [sR_len curC 5 curC_len] at h1
        have h2 := foldN_len (zs.take k)
        rw [List.length_take] at h2
        omega
      have hinv := foldN_inv (zs.take k)
      have cLx := cL.out x
      have cFx := fun W h hb => cF.out (foldN (zs.take k)) A n c x W h hb hn5 hinv.so (inv_ids hinv)
      generalize lv x = lx at cLx cFx
      clear hc hx
      obtain ⟨kd, ⟨id, rows, size, tl, file⟩⟩ := x
      simp only at cLx cFx hst d0 d1 d2 d3 d4 d5
      replace cLx := Lib.hid cLx
      replace cFx := Lib.hid cFx
      replace hst := Lib.hid hst
      replace hinv := Lib.hid hinv
      go_wp2_with fail
      refine (cLx.out _).mono ?_
      rintro e W2 ⟨rfl, g2⟩
      have gA : Gr wr W2 := gr_trans (gr_alloc _ _ _) g2
      have hS2 := stIs_gr hS.out gA
      have hR2 := stAt_gr hR.out gA
      have hbel2 := below_gr hbel.out gA hs (by simp)
      clear g2 gA
      go_wp2_with fail
      refine (cFx.out _ hS2 hbel2.size).mono ?_
      rintro e W3 ⟨rfl, ⟨A', n', c', hS3⟩, g3⟩
      have hapR := st_apart hR2 hS2.2
      have hR3 : StAt W3 w.heap.size 0 0 (.slice none 0 0) [] 0 := grs_blk g3 hR2 (fun ht => by
        rcases ht with ht | ht
        · omega
        · exact hapR ht)
      have hbel3 : Below w.heap.size w W3 := below_grs hbel2 g3 hbel2.size (fun j ht => by
        rcases ht with ht | ht
        · omega
        · exact (hS2.2.lt j ht).1)
      rw [← hst.out] at hS3
      replace hS3 := Lib.hid hS3
      replace hR3 := Lib.hid hR3
      replace hbel3 := Lib.hid hbel3
      clear hS2 hR2 hbel2 g3 hapR
      go_wp2
      go_roundw
      case rel => exact ⟨k + 1, A', n', c', by omega, by go_num, hS3, hR3.out, hbel3.out⟩
      case measure => simp [intOf]; omega
    · obtain rfl : k = len := by omega
      have hzs : zs.take k = zs := by rw [List.take_of_length_le (Nat.le_of_eq hl.out)]
      have hS' := hS.out
      rw [hzs] at hS'
      have s0 : wr.cell? ⟨w.heap.size + 1, 0, none⟩ = some (.int .i64 (foldN zs).next) := fcell hS'.1 rfl
      have s1 : wr.cell? ⟨w.heap.size + 1, 1, none⟩ = some (.int .i64 (foldN zs).now) := fcell hS'.1 rfl
      have s2 : wr.cell? ⟨w.heap.size + 1, 2, none⟩ = some (.slice A n c) := fcell hS'.1 rfl
      have s3 : wr.cell? ⟨w.heap.size + 1, 3, none⟩ = some (.string (txt (foldN zs).seg)) := fcell hS'.1 rfl
      have s4 : wr.cell? ⟨w.heap.size + 1, 4, none⟩ = some (.int .i64 (foldN zs).pts) := fcell hS'.1 rfl
      have hth : wr.there w.heap.size 0 5 := fun j hj => ⟨by
        match j, hj with
        | 0, _ => rw [fcell hR.out rfl]; rfl
        | 1, _ => rw [fcell hR.out rfl]; rfl
        | 2, _ => rw [fcell hR.out rfl]; rfl
        | 3, _ => rw [fcell hR.out rfl]; rfl
        | 4, _ => rw [fcell hR.out rfl]; rfl
        | j + 5, hj => omega, fzero hR.out _⟩
      have hap := st_apart hR.out hS'.2
      have hO := hS'.2
      clear hS'
      generalize hS9 : foldN zs = S at *
      obtain ⟨nx, now, op, seg, pts⟩ := S
      replace hS9 := Lib.hid hS9
      simp only at s0 s1 s2 s3 s4 hO ⊢
      have hsame := World.rangeAt_setCells_same wr w.heap.size 0 [.int .i64 nx, .int .i64 now, .slice A n c, .string (txt seg), .int .i64 pts] hth
      have hgs := gr_setCells wr w.heap.size 0 [.int .i64 nx, .int .i64 now, .slice A n c, .string (txt seg), .int .i64 pts]
      have r0 := hsame 0 _ rfl
      have r1 := hsame 1 _ rfl
      have r2 := hsame 2 _ rfl
      have r3 := hsame 3 _ rfl
      have r4 := hsame 4 _ rfl
      simp only [Nat.zero_add] at r0 r1 r2 r3 r4
      replace hgs := Lib.hid hgs
      replace hO := Lib.hid hO
      replace hap := Lib.hid hap
      clear hsame cL cF
      go_upto_region 7 with fail
      go_wp2_with (refine wpList_store_mid (op := ⟨none, _, _, _, _, _⟩) rfl 56 _ _ rfl w.heap.size 0 #[.int .i64 nx, .int .i64 now, .slice A n c, .string (txt seg), .int .i64 pts] rfl rfl hth infoSt (by simp [Value.oneCell']) ?_)
      (try simp only [Exit.inBlock, Exit.then])
      refine bodyPost_ret (by simp [results, Tryz.results17, go_sem, r0, r1, r2, r3, r4]; try rfl) rfl ?_
      rw [hS9.out]
      exact ⟨⟨A, n, c, rfl, own_after hO.out hgs.out hap.out⟩, gr_of_below (hbel.out.grown hgs.out hs (fun k hk => by cases hk; exact Nat.le_refl _)) (Nat.le_refl _)⟩
end Go.Proofs.YtmldoeeangekoaaGreat
