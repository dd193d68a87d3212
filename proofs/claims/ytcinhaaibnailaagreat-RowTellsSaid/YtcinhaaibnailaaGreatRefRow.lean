/-
  The document's own: may a row be, what does it take. No condition but bounds on the lengths.
-/
import Derived.Test.YtcinhaaibnailaaGreatRefRight
import Derived.Test.YtcinhaaibnailaaGreatRowLight
namespace Go.Proofs.YtcinhaaibnailaaGreat
open Go.RowKit

set_option maxHeartbeats 8000000 in
set_option maxRecDepth 100000 in
theorem refRow_any (A : Option Addr) (n c : Nat) (zs : List Lb) (v : Int) (w : World) (hn : n ≤ 1000000000) (hz : Row w A n 2 (sR lblC zs)) (hsh : ∀ x ∈ zs, x.n.length ≤ 1000000 ∧ x.v.length ≤ 1000000) :
    Calls Tryz.prog 9 #[.agg #[.slice A n c, .int .i64 v]] w fun e w' => e = .returned (.bool (decide (okR ⟨zs, v⟩))) ∧ Gr w w' := by
  obtain ⟨W1, hW1⟩ : ∃ W1, W1 = w.alloc (.cells #[.slice A n c, .int .i64 v] 24) := ⟨_, rfl⟩
  have g1 : Gr w W1 := by rw [hW1]; exact gr_alloc _ _ _
  have b0 : W1.cell? ⟨w.heap.size, 0, none⟩ = some (.slice A n c) := by rw [hW1, World.cell?_alloc_new]; rfl
  have b1 : W1.cell? ⟨w.heap.size, 1, none⟩ = some (.int .i64 v) := by rw [hW1, World.cell?_alloc_new]; rfl
  have hR := refRight_any A n c zs W1 hn (row_gr hz g1) hsh
  have hV := fun W => refValue_any v W
  have hd : decide (okR ⟨zs, v⟩) = (decide (okLbs zs) && decide (okV v)) := by rw [← Bool.decide_and]; rfl
  rw [hd]
  clear hd hz hsh
  generalize decide (okLbs zs) = p at hR ⊢
  generalize decide (okV v) = q at hV ⊢
  replace g1 := Lib.hid g1
  replace hV := Lib.hid hV
  replace hR := Lib.hid hR
  go_enter Tryz.func9, Tryz.ntmps9
  go_upto_region 1 with fail
  rw [← hW1]
  clear hW1
  cases p with
  | false =>
    go_wp2_with fail
    refine hR.out.mono ?_
    rintro e w2 ⟨rfl, g2⟩
    go_wp2
    go_ret
    exact ⟨rfl, gr_trans g1.out g2⟩
  | true =>
    go_wp2_with fail
    refine hR.out.mono ?_
    rintro e w2 ⟨rfl, g2⟩
    have c1 := gr_cell g2 b1
    clear b0 b1
    go_wp2_with fail
    refine (hV.out _).mono ?_
    rintro e w3 ⟨rfl, rfl⟩
    go_wp2
    go_ret
    exact ⟨rfl, gr_trans g1.out g2⟩
set_option maxHeartbeats 8000000 in
set_option maxRecDepth 100000 in
theorem refCost_any (A : Option Addr) (n c : Nat) (zs : List Lb) (v : Int) (w : World) (hL : LightL zs) (hr : Row w A n 2 (sR lblC zs)) :
    Calls Tryz.prog 12 #[.agg #[.slice A n c, .int .i64 v]] w fun e w' => e = .returned (.int .i64 (costR ⟨zs, v⟩)) ∧ Gr w w' := by
  have hl : zs.length = n := by have := hr.1; rw [sR_len lblC 2 lblC_len] at this; omega
  obtain ⟨W1, hW1⟩ : ∃ W1, W1 = w.alloc (.cells #[.slice A n c, .int .i64 v] 24) := ⟨_, rfl⟩
  have g1 : Gr w W1 := by rw [hW1]; exact gr_alloc _ _ _
  have b0 : W1.cell? ⟨w.heap.size, 0, none⟩ = some (.slice A n c) := by rw [hW1, World.cell?_alloc_new]; rfl
  have hr1 := row_gr hr g1
  have hn20 : n ≤ 20 := by rw [← hl]; exact hL.1
  have hend : ((zs.map fun x => 8 + x.n.length + x.v.length).sum + 16 : Nat) = costR ⟨zs, v⟩ := by show _ = 16 + (zs.map fun x => 8 + x.n.length + x.v.length).sum; omega
  replace hr1 := Lib.hid hr1
  replace hl := Lib.hid hl
  replace g1 := Lib.hid g1
  replace hL := Lib.hid hL
  replace hend := Lib.hid hend
  clear hr
  go_enter Tryz.func12, Tryz.ntmps12
  go_upto_region 1 with fail
  rw [← hW1]
  clear hW1
  go_wp2
  replace b0 := Lib.hid b0
  go_loopw [3, 4] (fun s iv wr => ∃ (k S : Nat), k ≤ n ∧ iv = .int .i64 k ∧ s = .int .i64 S ∧ S ≤ 10000 ∧ Hid (S = ((zs.take k).map fun x => 8 + x.n.length + x.v.length).sum + 16) ∧ Hid (Gr W1 wr)) (fun _ iv _ => n - (intOf iv).toNat)
  case atStart => exact ⟨0, 16, Nat.zero_le _, rfl, rfl, by decide, by show _ = _; simp, gr_refl _ _⟩
  case round =>
    obtain ⟨k, S, hk, rfl, rfl, hS, hs, hg⟩ := hrel
    have bh := gr_cell hg.out b0.out
    by_cases hlt : k < n
    · obtain ⟨x, B, o, hx, rfl, hBlt, hc⟩ := rowS_elem lblC_len (row_gr hr1.out hg.out) (by decide) hlt
      obtain ⟨c0, c1⟩ := two_cells hc
      have hki : (k : Int) < (n : Int) := by omega
      have hk0 : (0 : Int) ≤ (k : Int) := by omega
      have hxl := hL.out.2 x (List.mem_of_getElem? hx)
      have hct := cost_take hx
      have hle := cost_le hL.out (k + 1)
      have hle2 : (zs.take (k + 1)).length ≤ 20 := by rw [List.length_take]; have := hL.out.1; omega
      have hb : S + (8 + x.n.length + x.v.length) ≤ 10000 := by rw [hs.out, Nat.add_right_comm, ← hct]; omega
      have hS2 : S + (8 + x.n.length + x.v.length) = ((zs.take (k + 1)).map fun x => 8 + x.n.length + x.v.length).sum + 16 := by rw [hs.out, hct]; omega
      replace hS2 := Lib.hid hS2
      clear hct hle hle2 hc hx
      have d0 : ∀ p : Grown wr, p.wd.cell? ⟨w.heap.size, 0, none⟩ = some (.slice (some ⟨B, o, none⟩) n c) := fun p => cell_to (gr_cell hg.out b0.out) p
      have d1 : ∀ p : Grown wr, p.wd.cell? ⟨B, o + k * 2, none⟩ = some (.string (txt x.n)) := fun p => cell_to c0 p
      have d2 : ∀ p : Grown wr, p.wd.cell? ⟨B, o + k * 2 + 1, none⟩ = some (.string (txt x.v)) := fun p => cell_to c1 p
      clear c0 c1
      go_wp2_with fail
      refine wp_region_quiet_gr (by kernel_rfl) (by kernel_rfl) ?_
      repeat (go_big_quiet_step (fail))
      refine wpQuiet_nil ?_
      intro wq hwq
      obtain ⟨⟨wp, gq⟩, rfl⟩ := hwq
      clear d0 d1 d2
      go_wp2
      go_roundw
      case rel => exact ⟨k + 1, S + (8 + x.n.length + x.v.length), by omega, by go_num, by first | rfl | (congr 1; omega), hb, hS2.out, gr_trans hg.out gq⟩
      case measure => simp [intOf]; omega
    · obtain rfl : k = n := by omega
      have hs2 := hs.out
      rw [List.take_of_length_le (by rw [hl.out]; exact Nat.le_refl _), hend.out] at hs2
      replace hs2 := Lib.hid hs2
      go_wp2
      go_ret
      exact ⟨by rw [hs2.out]; rfl, gr_trans g1.out hg.out⟩

end Go.Proofs.YtcinhaaibnailaaGreat
