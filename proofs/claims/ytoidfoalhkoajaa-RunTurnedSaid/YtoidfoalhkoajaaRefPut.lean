/-
  The document's Put of a row that may be. No condition. (soft)
-/
import Derived.Test.YtoidfoalhkoajaaRefNum
import Derived.Test.YtoidfoalhkoajaaRefRow
import Derived.Test.YtoidfoalhkoajaaLabelShort
namespace Go.Proofs.Ytoidfoalhkoajaa
open Go.RowKit

theorem refHigh1 (v : Nat) (w : World) (hv : v < 256) : Calls Try.prog 36 #[.int .i64 v, .int .i64 1] w fun e w' => e = .returned (.string (txt [UInt8.ofNat v])) ∧ Gr w w' := by
  have h := refHigh_any v 1 w (by decide) (by omega)
  have h1 : Crc.be 1 v = [UInt8.ofNat v] := by simp [Crc.be]
  rw [h1] at h
  exact h
theorem lbsL_next {zs : List Lb} {k : Nat} {x : Lb} (hx : zs[k]? = some x) : lbsL (zs.take (k + 1)) = lbsL (zs.take k) ++ ([UInt8.ofNat x.n.length] ++ x.n ++ [UInt8.ofNat x.v.length] ++ x.v) := by
  obtain ⟨h1, h2⟩ := List.getElem?_eq_some_iff.1 hx
  rw [List.take_succ_eq_append_getElem h1, h2]
  simp [lbsL, lbL, lenT]
set_option maxHeartbeats 8000000 in
set_option maxRecDepth 100000 in
theorem refPut_any (A : Option Addr) (n c : Nat) (zs : List Lb) (v : Int) (w : World) (hok : okR ⟨zs, v⟩) (hr : Row w A n 2 (sR lblC zs)) :
    Calls Try.prog 16 #[.agg #[.slice A n c, .int .i64 v]] w fun e w' => e = .returned (.string (txt (rowL ⟨zs, v⟩))) ∧ Gr w w' := by
  have hl : zs.length = n := by have := hr.1; rw [sR_len lblC 2 lblC_len] at this; omega
  obtain ⟨W1, hW1⟩ : ∃ W1, W1 = w.alloc (.cells #[.slice A n c, .int .i64 v] 40) := ⟨_, rfl⟩
  have g1 : Gr w W1 := by rw [hW1]; exact gr_alloc _ _ _
  have b0 : W1.cell? ⟨w.heap.size, 0, none⟩ = some (.slice A n c) := by rw [hW1, World.cell?_alloc_new]; rfl
  have b1 : W1.cell? ⟨w.heap.size, 1, none⟩ = some (.int .i64 v) := by rw [hW1, World.cell?_alloc_new]; rfl
  have hr1 := row_gr hr g1
  have hn8 : n ≤ 8 := by rw [← hl]; exact hok.1.1
  have hlt9 := okLbs_light hok.1
  obtain ⟨M, hM⟩ : ∃ M : Nat, v + 1000000000000 = (M : Int) := ⟨(v + 1000000000000).toNat, by have := hok.2; unfold okV at this; simp only at this; omega⟩
  have hMb : M < 281474976710656 := by have := hok.2; unfold okV at this; simp only at this; omega
  have hfin : UInt8.ofNat n :: (lbsL zs ++ Crc.be 6 M) = rowL ⟨zs, v⟩ := by unfold rowL; simp only; rw [hl, hM]; rfl
  replace hfin := Lib.hid hfin
  replace hr1 := Lib.hid hr1
  replace hl := Lib.hid hl
  replace g1 := Lib.hid g1
  replace hlt9 := Lib.hid hlt9
  have hokz : Hid (okLbs zs) := hok.1
  replace hM := Lib.hid hM
  clear hr hok
  go_enter Try.func16, Try.ntmps16
  go_upto_region 1 with fail
  rw [← hW1]
  clear hW1
  go_wp2_with fail
  refine (refHigh1 n W1 (by omega)).mono ?_
  rintro e w2 ⟨rfl, g2⟩
  replace b0 := Lib.hid (gr_cell g2 b0)
  replace b1 := Lib.hid (gr_cell g2 b1)
  go_wp2
  go_loopw [3, 4] (fun s iv wr => ∃ k : Nat, k ≤ n ∧ iv = .int .i64 k ∧ s = .string (txt (UInt8.ofNat n :: lbsL (zs.take k))) ∧ Hid (Gr w2 wr)) (fun _ iv _ => n - (intOf iv).toNat)
  case atStart => exact ⟨0, Nat.zero_le _, rfl, rfl, gr_refl _ _⟩
  case round =>
    obtain ⟨k, hk, rfl, rfl, hg⟩ := hrel
    have bh := gr_cell hg.out b0.out
    by_cases hlt : k < n
    · obtain ⟨x, B, o, hx, rfl, hBlt, hc⟩ := rowS_elem lblC_len (row_gr (row_gr hr1.out g2) hg.out) (by decide) hlt
      obtain ⟨c0, c1⟩ := two_cells hc
      have hki : (k : Int) < (n : Int) := by omega
      have hk0 : (0 : Int) ≤ (k : Int) := by omega
      have hxl := hlt9.out.2 x (List.mem_of_getElem? hx)
      obtain ⟨hx1, hx2⟩ := hxl
      have hnx := lbsL_next hx
      replace hnx := Lib.hid hnx
      have hbd := lbsL_take_le hokz.out k
      have hbx : (UInt8.ofNat n :: lbsL (zs.take k)).length ≤ 1457 := by rw [List.length_cons]; omega
      have hs1 : (9223372036854775807 < (lbsL (zs.take k)).length + 1 + 1) = False := eq_false (by omega)
      have hs2 : (9223372036854775807 < (lbsL (zs.take k)).length + 1 + 1 + x.n.length) = False := eq_false (by omega)
      have hs3 : (9223372036854775807 < (lbsL (zs.take k)).length + (x.n.length + 1) + 1 + 1) = False := eq_false (by omega)
      have hs4 : (9223372036854775807 < (lbsL (zs.take k)).length + (x.n.length + (1 + 1)) + 1 + x.v.length) = False := eq_false (by omega)
      clear hx hc hbd
      go_upto_region 6 with fail
      obtain ⟨w5, hw5⟩ : ∃ w5, w5 = wr.alloc (.cells #[.string (txt x.n), .string (txt x.v)] 76) := ⟨_, rfl⟩
      have g5 : Gr wr w5 := by rw [hw5]; exact gr_alloc _ _ _
      have e0 : w5.cell? ⟨wr.heap.size, 0, none⟩ = some (.string (txt x.n)) := by rw [hw5, World.cell?_alloc_new]; rfl
      have e1 : w5.cell? ⟨wr.heap.size, 1, none⟩ = some (.string (txt x.v)) := by rw [hw5, World.cell?_alloc_new]; rfl
      have d0 : ∀ p : Grown w5, p.wd.cell? ⟨wr.heap.size, 0, none⟩ = some (.string (txt x.n)) := fun p => cell_to e0 p
      have d1 : ∀ p : Grown w5, p.wd.cell? ⟨wr.heap.size, 1, none⟩ = some (.string (txt x.v)) := fun p => cell_to e1 p
      rw [← hw5]
      clear hw5 e0 e1 c0 c1 bh
      refine wp_region_quiet_gr (by kernel_rfl) (by kernel_rfl) ?_
      repeat (go_big_quiet_step ((go_at_call 36; exact calls_gr (refHigh1 _ _ (by omega)))))
      refine wpQuiet_nil ?_
      intro wq hwq
      obtain ⟨⟨wp, gq⟩, rfl⟩ := hwq
      clear d0 d1
      go_wp2
      go_roundw
      case rel => exact ⟨k + 1, by omega, by go_num, by rw [hnx.out]; simp [List.append_assoc], gr_trans hg.out (gr_trans g5 gq)⟩
      case measure => simp [intOf]; omega
    · obtain rfl : k = n := by omega
      have hf2 := hfin.out
      have hz : zs.take k = zs := List.take_of_length_le (by rw [hl.out]; exact Nat.le_refl _)
      rw [hz]
      have bv := gr_cell hg.out b1.out
      have hM2 := hM.out
      have hw6 : IntKind.i64.wrap (M : Int) = (M : Int) := IntWalk.i64_in _ (by omega)
      have hbd := lbsL_take_le hokz.out k
      rw [hz] at hbd
      have hbe : (Crc.be 6 M).length = 6 := Crc.be_length 6 M
      have hs5 : (9223372036854775807 < (lbsL zs).length + 1 + (Crc.be 6 M).length) = False := eq_false (by omega)
      have hs6 : (9223372036854775807 < (lbsL zs).length + 1 + 6) = False := eq_false (by omega)
      clear hbd
      replace hf2 := Lib.hid hf2
      go_wp2_with fail
      refine (refHigh_any M 6 _ (by decide) hMb).mono ?_
      rintro e w6 ⟨rfl, g6⟩
      go_wp2
      go_ret
      exact ⟨by rw [← hf2.out]; simp, gr_trans g1.out (gr_trans g2 (gr_trans hg.out g6))⟩
end Go.Proofs.Ytoidfoalhkoajaa
