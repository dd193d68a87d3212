/-
  One reply as bytes and back: what the laws' first call wants. No condition.
-/
import Derived.Test.YtbnacoakjhhndaaAskBack
import Derived.Test.YtbnacoakjhhndaaBuilderAid
namespace Go.Proofs.Ytbnacoakjhhndaa
open Go.RowKit

theorem builderLen_any (b : Nat) (l : List UInt8) (w : World) (h : Bld b l w) : Calls Try.prog 35 #[.pointer (some ⟨b, 0, none⟩)] w fun e w' => e = .returned (.int .i64 l.length) ∧ w' = w := by
  have := Try.Builder_Len_f b b _ w h.1
  rw [Lib.byteCells_length] at this
  exact this
theorem be3 : beI 3 = [0, 0, 0, 3] := by decide +kernel
def repB : List UInt8 := [0, 0, 0, 0, 3, 4, 112, 51, 46, 48, 0]
def repV : Value := .agg #[.int .i64 0, .int .i64 3, .string (txt [112, 51, 46, 48]), .slice none 0 0]
theorem below_le9 {B B' : Nat} {w w' : World} (h : Below B w w') (hB : B' ≤ B) : Below B' w w' := ⟨h.os, h.tape, h.output, h.size, fun k hk => h.block k (Nat.lt_of_lt_of_le hk hB)⟩
theorem below_cell {B : Nat} {w w' : World} {a : Addr} {v : Value} (h : Below B w w') (hc : w.cell? a = some v) (hb : a.block < B) : w'.cell? a = some v := (h.cell hb).trans hc
set_option maxHeartbeats 16000000 in
set_option maxRecDepth 100000 in
theorem reply0_any (w : World) : Calls Try.prog 16 #[repV] w fun e w' => e = .returned (.tuple #[.string (txt (Crc.frm repB)), .int .i64 0]) ∧ Gr w w' := by
  unfold repV
  obtain ⟨W1, hW1⟩ : ∃ W1, W1 = w.alloc (.cells #[.int .i64 0, .int .i64 3, .string (txt [112, 51, 46, 48]), .slice none 0 0] 45) := ⟨_, rfl⟩
  have g1 : Gr w W1 := by rw [hW1]; exact gr_alloc _ _ _
  have hs1 : W1.heap.size = w.heap.size + 1 := by rw [hW1]; simp
  have hc : ∀ j x, (#[.int .i64 0, .int .i64 3, .string (txt [112, 51, 46, 48]), .slice none 0 0] : Array Value)[j]? = some x → W1.cell? ⟨w.heap.size, j, none⟩ = some x := fun j x hj => by rw [hW1, World.cell?_alloc_new]; exact hj
  obtain ⟨W2, hW2⟩ : ∃ W2, W2 = W1.alloc (.cells #[.pointer none, .slice none 0 0] 67) := ⟨_, rfl⟩
  have hbld := bld_new W1
  rw [← hW2] at hbld
  have g2 : Gr W1 W2 := by rw [hW2]; exact gr_alloc _ _ _
  have hC : ∀ W, Below W1.heap.size W2 W → (W.cell? ⟨w.heap.size, 0, none⟩ = some (.int .i64 0) ∧ W.cell? ⟨w.heap.size, 1, none⟩ = some (.int .i64 3) ∧ W.cell? ⟨w.heap.size, 2, none⟩ = some (.string (txt [112, 51, 46, 48])) ∧ W.cell? ⟨w.heap.size, 3, none⟩ = some (.slice none 0 0)) := fun W h =>
    ⟨below_cell h (gr_cell g2 (hc 0 _ rfl)) (by simp only; omega), below_cell h (gr_cell g2 (hc 1 _ rfl)) (by simp only; omega), below_cell h (gr_cell g2 (hc 2 _ rfl)) (by simp only; omega), below_cell h (gr_cell g2 (hc 3 _ rfl)) (by simp only; omega)⟩
  have G2 : Gr w W2 := gr_trans g1 g2
  have d0 := hc 0 _ rfl
  have d1 := hc 1 _ rfl
  have d2 := hc 2 _ rfl
  have d3 := hc 3 _ rfl
  obtain ⟨B, hB⟩ : ∃ B, B = W1.heap.size := ⟨_, rfl⟩
  rw [← hB] at hbld hC
  have hBw : w.heap.size ≤ B := by omega
  have hbs : B ≤ W2.heap.size := hbld.2
  have num3 := fun W => anum_any 3 W
  rw [be3] at num3
  replace hbld := Lib.hid hbld
  replace hC := Lib.hid hC
  replace G2 := Lib.hid G2
  replace num3 := Lib.hid num3
  clear hc g1 g2 hs1
  go_enter Try.func16, Try.ntmps16
  go_upto_region 1 with fail
  rw [← hW1]
  clear hW1
  go_upto_region 4 with fail
  rw [← hW2, ← hB]
  clear hW2 hB d0 d1 d2 d3
  obtain ⟨d0, d1, d2, d3⟩ := hC.out W2 (Below.refl _ _)
  have hw := writeByte_any B [] 0 0 rfl W2 hbld.out (by decide)
  replace hw := Lib.hid hw
  go_wp2_with fail
  refine hw.out.mono ?_
  rintro e w3 ⟨rfl, hb3, hk3⟩
  have bel3 := hk3.bel
  clear d0 d1 d2 d3 hw hbld hk3
  obtain ⟨d0, d1, d2, d3⟩ := hC.out w3 bel3
  replace hb3 := Lib.hid hb3
  replace bel3 := Lib.hid bel3
  go_wp2_with fail
  refine (num3.out _).mono ?_
  rintro e w4 ⟨rfl, g4⟩
  have hb4 := bld_gr hb3.out g4
  have bel4 := below_gr bel3.out g4 (Nat.le_trans hbs bel3.out.size) (by simp)
  have hw := writeString_any B _ [0, 0, 0, 3] w4 hb4 (by decide) (by decide)
  clear d0 d1 d2 d3 g4 hb3 bel3
  obtain ⟨d0, d1, d2, d3⟩ := hC.out w4 bel4
  replace hw := Lib.hid hw
  replace bel4 := Lib.hid bel4
  clear hb4
  go_wp2_with fail
  refine hw.out.mono ?_
  rintro e w5 ⟨rfl, hb5, hk5⟩
  have bel5 := bel4.out.trans hk5.bel
  have hw2 := writeByte_any B _ 4 4 rfl w5 hb5 (by decide)
  clear d0 d1 d2 d3 hw hk5 bel4 hb5
  obtain ⟨d0, d1, d2, d3⟩ := hC.out w5 bel5
  replace hw2 := Lib.hid hw2
  replace bel5 := Lib.hid bel5
  go_wp2_with fail
  refine hw2.out.mono ?_
  rintro e w6 ⟨rfl, hb6, hk6⟩
  have bel6 := bel5.out.trans hk6.bel
  have hw3 := writeString_any B _ [112, 51, 46, 48] w6 hb6 (by decide) (by decide)
  clear d0 d1 d2 d3 hw2 hk6 bel5 hb6
  obtain ⟨d0, d1, d2, d3⟩ := hC.out w6 bel6
  replace hw3 := Lib.hid hw3
  replace bel6 := Lib.hid bel6
  go_wp2_with fail
  refine hw3.out.mono ?_
  rintro e w7 ⟨rfl, hb7, hk7⟩
  have bel7 := bel6.out.trans hk7.bel
  have hw4 := writeByte_any B _ 0 0 rfl w7 hb7 (by decide)
  clear d0 d1 d2 d3 hw3 hk7 bel6 hb7
  obtain ⟨d0, d1, d2, d3⟩ := hC.out w7 bel7
  replace hw4 := Lib.hid hw4
  replace bel7 := Lib.hid bel7
  go_wp2_with fail
  refine hw4.out.mono ?_
  rintro e w8 ⟨rfl, hb8, hk8⟩
  have bel8 := bel7.out.trans hk8.bel
  have hb8' : Bld B repB w8 := hb8
  have hln := builderLen_any B repB w8 hb8'
  have hst := builderString_any B repB w8 hb8'
  clear d0 d1 d2 d3 hw4 hk8 bel7 hb8 hb8'
  obtain ⟨d0, d1, d2, d3⟩ := hC.out w8 bel8
  replace hln := Lib.hid hln
  replace hst := Lib.hid hst
  replace bel8 := Lib.hid bel8
  go_wp2
  refine wp_loop_rounds 1 ?_
  rw [rounds_succ]
  go_wp2_with fail
  refine hln.out.mono ?_
  rintro e w9 ⟨rfl, rfl⟩
  have hl11 : repB.length = 11 := rfl
  rw [hl11]
  go_wp2_with fail
  refine hst.out.mono ?_
  rintro e w10 ⟨rfl, hb10, hk10⟩
  have bel10 := bel8.out.trans hk10.bel
  have hf := frame_any (txt repB) w10 (by rw [txt_size]; decide)
  rw [txt_data] at hf
  replace hf := Lib.hid hf
  replace bel10 := Lib.hid bel10
  clear hb10 hk10 bel8 hst hln
  go_wp2_with fail
  refine hf.out.mono ?_
  rintro e w11 ⟨rfl, g11⟩
  go_wp2
  go_ret2
  exact ⟨rfl, gr_trans (gr_of_below ((gr_below G2.out).trans (below_le9 bel10.out hBw)) (Nat.le_refl _)) g11⟩
end Go.Proofs.Ytbnacoakjhhndaa
