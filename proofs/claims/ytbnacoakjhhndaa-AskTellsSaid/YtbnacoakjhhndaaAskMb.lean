/-
  Several facts, one behind the other; no condition but bounds (soft): What the document's High and Value answer (as GuardRef's, for a seat without frames). No condition but bounds on the lengths. Labels that may be are few and short. No condition. The document's own: may a row be, what does it take. No condition but bounds on the lengths. The document's Put of a row that may be. No condition. What the document's Sum and Frame answer. No condition but bounds on the lengths. leporellolaw23.bytes of a request that may be. No condition.
-/
import Derived.Test.YtbnacoakjhhndaaRowPut
import Derived.Deep.OwnRows
import Derived.Laws.OwnMore
import Derived.Test.YtbnacoakjhhndaaAskMa
import Derived.Test.YtbnacoakjhhndaaRefRight
import Derived.Test.YtbnacoakjhhndaaGuardFrame
import Derived.Test.YtbnacoakjhhndaaAskRight
namespace Go.Proofs.Ytbnacoakjhhndaa
open Go.RowKit

theorem infoByteN : (Try.prog.info? 5).map (fun i => (i.zero, i.size, i.bytes)) = some (some (.int .u8 0), 1, 1) := by kernel_rfl
/-! ### Value -/
/-! ### High -/
theorem i64_and255 (n : Int) : bits .and .i64 n 255 = n % 256 := by
  have h255 : (BitVec.ofInt 64 255).toNat = 2 ^ 8 - 1 := by decide
  have key : (BitVec.ofInt 64 n &&& BitVec.ofInt 64 255).toNat = (n % ((2 ^ 64 : Nat) : Int)).toNat % 2 ^ 8 := by
    rw [BitVec.toNat_and, BitVec.toNat_ofInt, h255, Nat.and_two_pow_sub_one_eq_mod]
  show IntKind.i64.wrap ((BitVec.ofInt 64 n &&& BitVec.ofInt 64 255).toNat : Nat) = n % 256
  rw [key, IntKind.wrap_i64]
  omega
/-- Zeros, and behind them the last t bytes. -/
def hiL (v n t : Nat) : List UInt8 := List.replicate (n - t) 0 ++ (Crc.be n v).drop (n - t)
theorem hiL_len (v n t : Nat) (h : t ≤ n) : (hiL v n t).length = n := by unfold hiL; rw [List.length_append, List.length_replicate, List.length_drop, Crc.be_length]; omega
theorem hiL_zero (v n : Nat) : hiL v n 0 = List.replicate n 0 := by
  unfold hiL
  rw [Nat.sub_zero, List.drop_of_length_le (by rw [Crc.be_length]; exact Nat.le_refl _), List.append_nil]
theorem hiL_all (v n : Nat) : hiL v n n = Crc.be n v := by unfold hiL; simp
theorem hiL_set (v n t : Nat) (h : t < n) : (hiL v n t).set (n - 1 - t) (UInt8.ofNat (v / 256 ^ t)) = hiL v n (t + 1) := by
  apply List.ext_getElem?
  intro j
  have hl := hiL_len v n t (by omega)
  have hbl := Crc.be_length n v
  rw [List.getElem?_set]
  unfold hiL
  by_cases hj : j < n
  · by_cases h1 : n - 1 - t = j
    · rw [if_pos h1, if_pos (by unfold hiL at hl; omega)]
      rw [List.getElem?_append_right (by simp; omega), List.getElem?_drop]
      have e1 : n - (t + 1) + (j - (List.replicate (n - (t + 1)) (0 : UInt8)).length) = j := by simp; omega
      rw [e1]
      unfold Crc.be
      rw [List.getElem?_map, List.getElem?_range hj]
      have e2 : n - 1 - j = t := by omega
      simp only [Option.map_some, e2]
      rw [Nat.pow_mul]
    · rw [if_neg h1]
      by_cases h2 : j < n - (t + 1)
      · rw [List.getElem?_append_left (by simp; omega), List.getElem?_append_left (by simp; omega)]
        rw [List.getElem?_replicate, List.getElem?_replicate, if_pos (by omega), if_pos h2]
      · rw [List.getElem?_append_right (by simp; omega), List.getElem?_append_right (by simp; omega), List.getElem?_drop, List.getElem?_drop]
        congr 1
        simp
        omega
  · rw [if_neg (by omega)]
    rw [List.getElem?_eq_none (by simp [hbl]; omega), List.getElem?_eq_none (by simp [hbl]; omega)]
set_option maxHeartbeats 2000000 in
set_option maxRecDepth 100000 in
theorem refHigh_any (v n : Nat) (w : World) (hn : n ≤ 8) (hv : v < 281474976710656) : Calls Try.prog 30 #[.int .i64 v, .int .i64 n] w fun e w' => e = .returned (.string (txt (Crc.be n v))) ∧ Gr w w' := by
  have hmk := run_make_row' (P := Try.prog) 38 5 (.int .u8 0) 1 Try.underlying38 infoByteN rfl .i64 .i64 n (by omega) (by omega) w
  have hb0 : (w.alloc (.cells (madeCells #[.int .u8 0] n) 5)).ownsRow w.heap.size 5 1 (.slice (some ⟨w.heap.size, 0, none⟩) n n) n ((hiL v n 0).map byteV) := by
    have h := World.ownsRow_lit (e := 5) (size := 1) w (madeCells #[.int .u8 0] n) n (Nat.le_refl _) (by unfold maxLen; omega) (by rw [← Array.length_toList, toList_madeCells_one]; simp)
    rw [toList_madeCells_one] at h
    rw [hiL_zero, List.map_replicate]
    exact h
  have hg0 := gr_alloc w (.cells (madeCells #[.int .u8 0] n) 5) none
  generalize hW1 : w.alloc (.cells (madeCells #[.int .u8 0] n) 5) = W1 at *
  clear hW1
  replace hb0 := Lib.hid hb0
  go_enter Try.func30, Try.ntmps30
  go_wp2
  go_loopw [0, 6] (fun vv kv wr => ∃ (t x : Nat), t ≤ n ∧ Hid (x = v / 256 ^ t) ∧ x < 281474976710656 ∧ vv = .int .i64 x ∧ kv = .int .i64 ((n : Int) - 1 - (t : Int)) ∧ Hid (wr.ownsRow w.heap.size 5 1 (.slice (some ⟨w.heap.size, 0, none⟩) n n) n ((hiL v n t).map byteV)) ∧ Hid (Below w.heap.size w wr)) (fun _ kv _ => (intOf kv + 1).toNat)
  case atStart => exact ⟨0, v, Nat.zero_le _, by simp [Hid], hv, rfl, by simp, hb0.out, gr_below hg0⟩
  case round =>
    obtain ⟨t, x, ht, hx, hxb, rfl, rfl, hown, hbel⟩ := hrel
    by_cases hlt : t < n
    · obtain ⟨k, hk⟩ : ∃ k : Nat, k = n - 1 - t := ⟨_, rfl⟩
      have hki : (n : Int) - 1 - (t : Int) = (k : Int) := by omega
      have hkn : k < n := by omega
      have hfz := hown.out.frozenAt k
      have hcl := hown.out.cellAt k (by omega)
      have hl := hiL_len v n t ht
      rw [List.getElem?_map, List.getElem?_eq_getElem (by omega), Option.map_some] at hcl
      have hcl2 : ∃ old, wr.cell? ⟨w.heap.size, k, none⟩ = some old := ⟨_, hcl⟩
      clear hcl
      obtain ⟨old, hold⟩ := hcl2
      have hst := hown.out.stored k (byteV (UInt8.ofNat x))
      have hset := hiL_set v n t hlt
      rw [← hx.out, ← hk] at hset
      rw [← List.map_set, hset] at hst
      obtain ⟨hst1, hst2⟩ := hst
      have hbv : byteV (UInt8.ofNat x) = .int .u8 ((x : Int) % 256) := by
        unfold byteV
        congr 1
      rw [hbv] at hst1 hst2
      have hbel2 := below_gr hbel.out hst2 hbel.out.size (fun q hq => by cases hq; exact Nat.le_refl _)
      have hand := i64_and255 (x : Int)
      have hx2 : x / 256 = v / 256 ^ (t + 1) := by rw [hx.out, Nat.pow_succ, Nat.div_div_eq_div_mul]
      have hkI : (k : Int) < (n : Int) := by omega
      have hk0 : (0 : Int) ≤ (k : Int) := by omega
      rw [hki]
      replace hk := Lib.hid hk
      replace hki := Lib.hid hki
      replace hx2 := Lib.hid hx2
      replace hst1 := Lib.hid hst1
      replace hbel2 := Lib.hid hbel2
      clear hst2 hset hbv hl
      go_wp2
      go_roundw
      case rel => exact ⟨t + 1, x / 256, by omega, hx2, by omega, by go_num, by have := hki.out; go_num, hst1.out, hbel2.out⟩
      case measure => have := hki.out; simp [intOf]
    · obtain rfl : t = n := by omega
      have hown' := hown.out
      rw [hiL_all] at hown'
      have hcv := run_string_own (P := Try.prog) wr 38 9 5 Try.underlying38 Try.underlying5 Try.underlying9 hown'
      have hki : (t : Int) - 1 - (t : Int) = -1 := by omega
      rw [hki]
      clear hown'
      go_wp2
      go_ret
      exact ⟨rfl, gr_of_below hbel.out (Nat.le_refl _)⟩
end Go.Proofs.Ytbnacoakjhhndaa
namespace Go.Proofs.Ytbnacoakjhhndaa
open Go.RowKit

theorem isName_len {l : List UInt8} (h : isName l = true) : l.length ≤ 120 := by
  have h1 := chunks_le4 l
  unfold isName at h
  rw [Bool.and_eq_true] at h
  have h2 := of_decide_eq_true h.2
  omega
theorem okLbs_short {zs : List Lb} (h : okLbs zs) : ∀ x ∈ zs, x.n.length ≤ 1000000 ∧ x.v.length ≤ 1000000 := fun x hx => by
  obtain ⟨h1, h2, h3⟩ := h.2.1 x hx
  have := isName_len h1
  omega
theorem okLbs_light {zs : List Lb} (h : okLbs zs) : LightL zs := ⟨by have := h.1; omega, fun x hx => by
  obtain ⟨h1, h2, h3⟩ := h.2.1 x hx
  have := isName_len h1
  omega⟩
end Go.Proofs.Ytbnacoakjhhndaa
namespace Go.Proofs.Ytbnacoakjhhndaa
open Go.RowKit

end Go.Proofs.Ytbnacoakjhhndaa
namespace Go.Proofs.Ytbnacoakjhhndaa
open Go.RowKit

theorem refHigh1 (v : Nat) (w : World) (hv : v < 256) : Calls Try.prog 30 #[.int .i64 v, .int .i64 1] w fun e w' => e = .returned (.string (txt [UInt8.ofNat v])) ∧ Gr w w' := by
  have h := refHigh_any v 1 w (by decide) (by omega)
  have h1 : Crc.be 1 v = [UInt8.ofNat v] := by simp [Crc.be]
  rw [h1] at h
  exact h
theorem lbsL_next {zs : List Lb} {k : Nat} {x : Lb} (hx : zs[k]? = some x) : lbsL (zs.take (k + 1)) = lbsL (zs.take k) ++ ([UInt8.ofNat x.n.length] ++ x.n ++ [UInt8.ofNat x.v.length] ++ x.v) := by
  obtain ⟨h1, h2⟩ := List.getElem?_eq_some_iff.1 hx
  rw [List.take_succ_eq_append_getElem h1, h2]
  simp [lbsL, lbL, lenT]
set_option maxHeartbeats 8000000 in
set_option maxRecDepth 100000 in
theorem refPut_any (A : Option Addr) (n c : Nat) (zs : List Lb) (v : Int) (w : World) (hok : okR ⟨zs, v⟩) (hr : Row w A n 2 (sR lblC zs)) :
    Calls Try.prog 31 #[.agg #[.slice A n c, .int .i64 v]] w fun e w' => e = .returned (.string (txt (rowL ⟨zs, v⟩))) ∧ Gr w w' := by
  have hl : zs.length = n := by have := hr.1; rw [sR_len lblC 2 lblC_len] at this; omega
  obtain ⟨W1, hW1⟩ : ∃ W1, W1 = w.alloc (.cells #[.slice A n c, .int .i64 v] 51) := ⟨_, rfl⟩
  have g1 : Gr w W1 := by rw [hW1]; exact gr_alloc _ _ _
  have b0 : W1.cell? ⟨w.heap.size, 0, none⟩ = some (.slice A n c) := by rw [hW1, World.cell?_alloc_new]; rfl
  have b1 : W1.cell? ⟨w.heap.size, 1, none⟩ = some (.int .i64 v) := by rw [hW1, World.cell?_alloc_new]; rfl
  have hr1 := row_gr hr g1
  have hn8 : n ≤ 8 := by rw [← hl]; exact hok.1.1
  have hlt9 := okLbs_light hok.1
  obtain ⟨M, hM⟩ : ∃ M : Nat, v + 1000000000000 = (M : Int) := ⟨(v + 1000000000000).toNat, by have := hok.2; unfold okV at this; simp only at this; omega⟩
  have hMb : M < 281474976710656 := by have := hok.2; unfold okV at this; simp only at this; omega
  have hfin : UInt8.ofNat n :: (lbsL zs ++ Crc.be 6 M) = rowL ⟨zs, v⟩ := by unfold rowL; simp only; rw [hl, hM]; rfl
  replace hfin := Lib.hid hfin
  replace hr1 := Lib.hid hr1
  replace hl := Lib.hid hl
  replace g1 := Lib.hid g1
  replace hlt9 := Lib.hid hlt9
  have hokz : Hid (okLbs zs) := hok.1
  replace hM := Lib.hid hM
  clear hr hok
  go_enter Try.func31, Try.ntmps31
  go_upto_region 1 with fail
  rw [← hW1]
  clear hW1
  go_wp2_with fail
  refine (refHigh1 n W1 (by omega)).mono ?_
  rintro e w2 ⟨rfl, g2⟩
  replace b0 := Lib.hid (gr_cell g2 b0)
  replace b1 := Lib.hid (gr_cell g2 b1)
  go_wp2
  go_loopw [3, 4] (fun s iv wr => ∃ k : Nat, k ≤ n ∧ iv = .int .i64 k ∧ s = .string (txt (UInt8.ofNat n :: lbsL (zs.take k))) ∧ Hid (Gr w2 wr)) (fun _ iv _ => n - (intOf iv).toNat)
  case atStart => exact ⟨0, Nat.zero_le _, rfl, rfl, gr_refl _ _⟩
  case round =>
    obtain ⟨k, hk, rfl, rfl, hg⟩ := hrel
    have bh := gr_cell hg.out b0.out
    by_cases hlt : k < n
    · obtain ⟨x, B, o, hx, rfl, hBlt, hc⟩ := rowS_elem lblC_len (row_gr (row_gr hr1.out g2) hg.out) (by decide) hlt
      obtain ⟨c0, c1⟩ := two_cells hc
      have hki : (k : Int) < (n : Int) := by omega
      have hk0 : (0 : Int) ≤ (k : Int) := by omega
      have hxl := hlt9.out.2 x (List.mem_of_getElem? hx)
      obtain ⟨hx1, hx2⟩ := hxl
      have hnx := lbsL_next hx
      replace hnx := Lib.hid hnx
      have hbd := lbsL_take_le hokz.out k
      have hbx : (UInt8.ofNat n :: lbsL (zs.take k)).length ≤ 1457 := by rw [List.length_cons]; omega
      have hs1 : (9223372036854775807 < (lbsL (zs.take k)).length + 1 + 1) = False := eq_false (by omega)
      have hs2 : (9223372036854775807 < (lbsL (zs.take k)).length + 1 + 1 + x.n.length) = False := eq_false (by omega)
      have hs3 : (9223372036854775807 < (lbsL (zs.take k)).length + (x.n.length + 1) + 1 + 1) = False := eq_false (by omega)
      have hs4 : (9223372036854775807 < (lbsL (zs.take k)).length + (x.n.length + (1 + 1)) + 1 + x.v.length) = False := eq_false (by omega)
      clear hx hc hbd
      go_upto_region 6 with fail
      obtain ⟨w5, hw5⟩ : ∃ w5, w5 = wr.alloc (.cells #[.string (txt x.n), .string (txt x.v)] 41) := ⟨_, rfl⟩
      have g5 : Gr wr w5 := by rw [hw5]; exact gr_alloc _ _ _
      have e0 : w5.cell? ⟨wr.heap.size, 0, none⟩ = some (.string (txt x.n)) := by rw [hw5, World.cell?_alloc_new]; rfl
      have e1 : w5.cell? ⟨wr.heap.size, 1, none⟩ = some (.string (txt x.v)) := by rw [hw5, World.cell?_alloc_new]; rfl
      have d0 : ∀ p : Grown w5, p.wd.cell? ⟨wr.heap.size, 0, none⟩ = some (.string (txt x.n)) := fun p => cell_to e0 p
      have d1 : ∀ p : Grown w5, p.wd.cell? ⟨wr.heap.size, 1, none⟩ = some (.string (txt x.v)) := fun p => cell_to e1 p
      rw [← hw5]
      clear hw5 e0 e1 c0 c1 bh
      refine wp_region_quiet_gr (by kernel_rfl) (by kernel_rfl) ?_
      repeat (go_big_quiet_step ((go_at_call 30; exact calls_gr (refHigh1 _ _ (by omega)))))
      refine wpQuiet_nil ?_
      intro wq hwq
      obtain ⟨⟨wp, gq⟩, rfl⟩ := hwq
      clear d0 d1
      go_wp2
      go_roundw
      case rel => exact ⟨k + 1, by omega, by go_num, by rw [hnx.out]; simp [List.append_assoc], gr_trans hg.out (gr_trans g5 gq)⟩
      case measure => simp [intOf]; omega
    · obtain rfl : k = n := by omega
      have hf2 := hfin.out
      have hz : zs.take k = zs := List.take_of_length_le (by rw [hl.out]; exact Nat.le_refl _)
      rw [hz]
      have bv := gr_cell hg.out b1.out
      have hM2 := hM.out
      have hw6 : IntKind.i64.wrap (M : Int) = (M : Int) := IntWalk.i64_in _ (by omega)
      have hbd := lbsL_take_le hokz.out k
      rw [hz] at hbd
      have hbe : (Crc.be 6 M).length = 6 := Crc.be_length 6 M
      have hs5 : (9223372036854775807 < (lbsL zs).length + 1 + (Crc.be 6 M).length) = False := eq_false (by omega)
      have hs6 : (9223372036854775807 < (lbsL zs).length + 1 + 6) = False := eq_false (by omega)
      clear hbd
      replace hf2 := Lib.hid hf2
      go_wp2_with fail
      refine (refHigh_any M 6 _ (by decide) hMb).mono ?_
      rintro e w6 ⟨rfl, g6⟩
      go_wp2
      go_ret
      exact ⟨by rw [← hf2.out]; simp, gr_trans g1.out (gr_trans g2 (gr_trans hg.out g6))⟩
end Go.Proofs.Ytbnacoakjhhndaa
namespace Go.Proofs.Ytbnacoakjhhndaa
open Go.RowKit

theorem and1b : ∀ n, n < 256 → bits .and .u8 ((n : Nat) : Int) 1 = ((n % 2 : Nat) : Int) := by decide +kernel
theorem ref_out (Y m : Nat) (b : UInt8) (hY : Y < 4294967296) : bits .xor .u32 ((Y : Int) / 2147483648) (bits .and .u8 ((b.toNat : Int) / 2 ^ (7 - m)) 1 % 4294967296) = (((Y / 2147483648 + b.toNat / 2 ^ (7 - m) % 2) % 2 : Nat) : Int) := by
  have hb := b.toNat_lt
  have h0 : ((b.toNat : Int) / 2 ^ (7 - m)) = ((b.toNat / 2 ^ (7 - m) : Nat) : Int) := by simp
  have h1 := and1b (b.toNat / 2 ^ (7 - m)) (Nat.lt_of_le_of_lt (Nat.div_le_self _ _) (by omega))
  rw [h0, h1]
  have h2 : (((b.toNat / 2 ^ (7 - m) % 2 : Nat) : Int) % 4294967296) = ((b.toNat / 2 ^ (7 - m) % 2 : Nat) : Int) := by omega
  rw [h2]
  have h3 := Crc.out_eq Y (b.toNat / 2 ^ (7 - m)) hY
  rw [Crc.and1] at h3
  have h4 : ((Y : Int) / 2147483648) = ((Y / 2147483648 : Nat) : Int) := rfl
  rw [h4]
  exact h3
set_option maxHeartbeats 1000000 in
set_option maxRecDepth 100000 in
theorem refSum_any (s : ByteArray) (w : World) (hs : s.size ≤ maxLen) :
    Calls Try.prog 45 #[.string s] w fun e w' => e = .returned (.int .u32 (Crc.sum s.data.toList)) ∧ w = w' := by
  unfold maxLen at hs
  go_enter Try.func45, Try.ntmps45
  go_wp2
  go_loop [3, 4] (fun x i => ∃ (k X : Nat), k ≤ s.size ∧ i = .int .i64 k ∧ x = .int .u32 X ∧ X < 4294967296 ∧ Hid (X = Crc.run 4294967295 (Crc.bitsL (s.data.toList.take k)))) (fun _ i => s.size - (intOf i).toNat)
  case atStart => exact ⟨0, 4294967295, Nat.zero_le _, rfl, rfl, by decide, Lib.hid rfl⟩
  case round =>
    obtain ⟨k, X, hk, rfl, rfl, hX, HX⟩ := hrel
    by_cases hlt : k < s.size
    · go_wp2
      go_loop [3, 5] (fun x j => ∃ (m Y : Nat), m ≤ 8 ∧ j = .int .i64 (7 - (m : Int)) ∧ x = .int .u32 Y ∧ Y < 4294967296 ∧ Hid (Y = Crc.run X ((Crc.bitsB s[k]).take m))) (fun _ j => (intOf j + 1).toNat)
      case atStart => exact ⟨0, X, Nat.zero_le _, rfl, rfl, hX, Lib.hid rfl⟩
      case round =>
        obtain ⟨m, Y, hm, rfl, rfl, hY, HY⟩ := hrel
        by_cases hlm : m < 8
        · have h70 : (0 : Int) ≤ 7 - (m : Int) := by omega
          have h7n : (7 - (m : Int)).toNat = 7 - m := by omega
          by_cases ho : (Y / 2147483648 + s[k].toNat / 2 ^ (7 - m) % 2) % 2 = 1
          · have hof : (bits .xor .u32 ((Y : Int) / 2147483648) (bits .and .u8 ((s[k].toNat : Int) / 2 ^ (7 - m)) 1 % 4294967296) == 1) = true := by
              rw [ref_out Y m s[k] hY, ho]; rfl
            have HO := Lib.hid ho
            clear ho
            go_wp2
            go_round
            case rel => exact ⟨m + 1, Crc.stp Y (s[k].toNat / 2 ^ (7 - m) % 2), by omega, by go_num, by rw [Crc.step_yes Y m _ HO.out, Crc.flip_walk], Crc.stp_lt, Lib.hid (by rw [Crc.run_bit _ _ _ hlm, HY.out])⟩
            case measure => simp [intOf]; omega
          · have hof : (bits .xor .u32 ((Y : Int) / 2147483648) (bits .and .u8 ((s[k].toNat : Int) / 2 ^ (7 - m)) 1 % 4294967296) == 1) = false := by
              rw [ref_out Y m s[k] hY]; exact Crc.not_one ho
            have HO := Lib.hid ho
            clear ho
            go_wp2
            go_round
            case rel => exact ⟨m + 1, Crc.stp Y (s[k].toNat / 2 ^ (7 - m) % 2), by omega, by go_num, by rw [Crc.step_no Y m _ HO.out]; rfl, Crc.stp_lt, Lib.hid (by rw [Crc.run_bit _ _ _ hlm, HY.out])⟩
            case measure => simp [intOf]; omega
        · obtain rfl : m = 8 := by omega
          go_wp2
          go_round
          case rel => exact ⟨k + 1, Y, by omega, by go_num, rfl, hY, Lib.hid (by rw [HY.out, HX.out]; exact (Crc.run_byte _ _ _ (by simpa using hlt)).symm)⟩
          case measure => simp [intOf]; omega
    · go_wp2
      go_ret
      refine ⟨?_, rfl⟩
      rw [HX.out, List.take_of_length_le (by simp; omega)]
      rfl
theorem refHigh2 (v : Nat) (w : World) (hv : v < 281474976710656) : Calls Try.prog 30 #[.int .i64 v, .int .i64 2] w fun e w' => e = .returned (.string (txt (Crc.be 2 v))) ∧ Gr w w' := refHigh_any v 2 w (by decide) hv
theorem refHigh4 (v : Nat) (w : World) (hv : v < 281474976710656) : Calls Try.prog 30 #[.int .i64 v, .int .i64 4] w fun e w' => e = .returned (.string (txt (Crc.be 4 v))) ∧ Gr w w' := refHigh_any v 4 w (by decide) hv

/-! ### Frame -/
set_option maxHeartbeats 2000000 in
set_option maxRecDepth 100000 in
theorem refFrame_any (l : List UInt8) (w : World) (hl : l.length ≤ 12000) : Calls Try.prog 32 #[.string (txt l)] w fun e w' => e = .returned (.string (txt (Crc.frm l))) ∧ Gr w w' := by
  have hm2 : (txt (Crc.be 2 l.length)).size ≤ maxLen := by rw [txt_size, Crc.be_length]; unfold maxLen; omega
  have hm : (txt l).size ≤ maxLen := by rw [txt_size]; unfold maxLen; omega
  have s1 := Crc.sum_lt (Crc.be 2 l.length)
  have s2 := Crc.sum_lt l
  have hc1 := refSum_any (txt (Crc.be 2 l.length)) 
  have hc2 := refSum_any (txt l)
  rw [txt_data] at hc1 hc2
  go_enter Try.func32, Try.ntmps32
  go_wp2_with fail
  refine (refHigh2 _ _ (by omega)).mono ?_
  rintro e w1 ⟨rfl, g1⟩
  go_wp2_with fail
  refine (hc1 _ hm2).mono ?_
  rintro e w2 ⟨rfl, rfl⟩
  go_wp2_with fail
  refine (refHigh4 _ _ (by omega)).mono ?_
  rintro e w2 ⟨rfl, g2⟩
  go_wp2_with fail
  refine (hc2 _ hm).mono ?_
  rintro e w3 ⟨rfl, rfl⟩
  go_wp2_with fail
  refine (refHigh4 _ _ (by omega)).mono ?_
  rintro e w3 ⟨rfl, g3⟩
  go_wp2
  go_ret
  refine ⟨?_, gr_trans (gr_trans g1 g2) g3⟩
  simp only [Crc.frm, Crc.head, List.append_assoc]
  rfl
end Go.Proofs.Ytbnacoakjhhndaa
namespace Go.Proofs.Ytbnacoakjhhndaa
open Go.RowKit

set_option maxHeartbeats 16000000 in
set_option maxRecDepth 100000 in
theorem lawBytes_any (A : Option Addr) (n c : Nat) (q : Aq) (w : World) (h : AqOk w A n c q) (ho : okA q) : Calls Try.prog 14 #[aqV A n c q] w fun e w' => e = .returned (.string (txt (askL q))) ∧ Gr w w' := by
  obtain ⟨⟨k1, k2⟩, ⟨a1, a2⟩, ⟨d1, d2⟩, hbb, ht9, hrr, _⟩ := okA_num ho
  obtain ⟨k, hk⟩ : ∃ k : Nat, q.kind = (k : Int) := ⟨q.kind.toNat, by omega⟩
  obtain ⟨aN, ha⟩ : ∃ aN : Nat, q.a = (aN : Int) := ⟨q.a.toNat, by omega⟩
  obtain ⟨dN, hd⟩ : ∃ dN : Nat, q.c = (dN : Int) := ⟨q.c.toNat, by omega⟩
  have hkr : 1 ≤ k ∧ k ≤ 6 := by omega
  have hbody : UInt8.ofNat k :: (midL q ++ (Crc.be 4 aN ++ (Crc.be 4 dN ++ q.t))) = bodyL q := by
    unfold bodyL
    rw [ha, hd, hk]
    rfl
  have hml := midL_len ho
  have hbl := bodyL_len ho
  have cF := fun W => refFrame_any (bodyL q) W (by omega)
  rw [show Crc.frm (bodyL q) = askL q from rfl] at cF
  have cK := fun W => refHigh1 k W (by omega)
  have c1 := fun (v : Nat) (hv : v ≤ 1000000000) W => refHigh_any v 4 W (by decide) (by omega)
  have cB : k ≠ 1 → ∃ bN : Nat, q.b = (bN : Int) ∧ midL q = Crc.be 4 bN ∧ ∀ W, Calls Try.prog 30 #[.int .i64 (bN : Int), .int .i64 4] W fun e w' => e = .returned (.string (txt (Crc.be 4 bN))) ∧ Gr W w' := fun e => by
    have := hbb (by omega)
    refine ⟨q.b.toNat, by omega, ?_, fun W => refHigh_any q.b.toNat 4 W (by decide) (by omega)⟩
    unfold midL
    rw [if_neg (by omega)]
  have cP : k = 1 → ∀ W, Gr w W → Calls Try.prog 31 #[.agg #[.slice A n c, .int .i64 q.b]] W fun e w' => e = .returned (.string (txt (midL q))) ∧ Gr W w' := fun e W g => by
    have hp := refPut_any A n c q.l q.b W (hrr (by omega)).1 (row_gr h.row g)
    unfold midL
    rw [if_pos (by omega)]
    exact hp
  unfold aqV
  rw [hk]
  obtain ⟨q0, zs, t, a, b, d⟩ := q
  simp only at *
  subst ha hd
  rw [← hbody] at cF
  clear hk hbb hrr hbl h ho
  generalize midL ⟨q0, zs, t, (aN : Int), b, (dN : Int)⟩ = M at *
  generalize askL ⟨q0, zs, t, (aN : Int), b, (dN : Int)⟩ = F at *
  have haN : aN ≤ 1000000000 := by omega
  have hdN : dN ≤ 1000000000 := by omega
  have hs1 : (9223372036854775807 < 1 + M.length) = False := eq_false (by omega)
  have hs2 : (9223372036854775807 < M.length + 1 + 4) = False := eq_false (by omega)
  have hs3 : (9223372036854775807 < M.length + 4 + 1 + 4) = False := eq_false (by omega)
  have hs4 : (9223372036854775807 < M.length + (4 + 4) + 1 + t.length) = False := eq_false (by omega)
  clear hbody
  replace cF := Lib.hid cF
  replace cK := Lib.hid cK
  replace c1 := Lib.hid c1
  replace cB := Lib.hid cB
  replace cP := Lib.hid cP
  obtain ⟨W1, hW1⟩ : ∃ W1, W1 = w.alloc (.cells #[.int .i64 (k : Int), .slice A n c, .string (txt t), .int .i64 (aN : Int), .int .i64 b, .int .i64 (dN : Int)] 24) := ⟨_, rfl⟩
  have g1 : Gr w W1 := by rw [hW1]; exact gr_alloc _ _ _
  have hbx0 : AqB W1 w.heap.size (k : Int) A n c t (aN : Int) b (dN : Int) := by rw [hW1]; exact blk_new w _
  replace g1 := Lib.hid g1
  obtain ⟨b0, b1, b2, b3, b4, b5⟩ := aqb_cells hbx0
  replace hbx0 := Lib.hid hbx0
  go_enter Try.func14, Try.ntmps14
  go_upto_region 1 with fail
  rw [← hW1]
  clear hW1
  go_wp2_with fail
  refine (cK.out _).mono ?_
  rintro e w2 ⟨rfl, g2⟩
  have hb2 : AqB w2 w.heap.size (k : Int) A n c t (aN : Int) b (dN : Int) := gr_blk g2 hbx0.out (by simp)
  have G2 := gr_trans g1.out g2
  clear b0 b1 b2 b3 b4 b5 hbx0 g2 cK
  obtain ⟨b0, b1, b2, b3, b4, b5⟩ := aqb_cells hb2
  replace hb2 := Lib.hid hb2
  by_cases ck : k = 1
  · have cP2 := cP.out ck _ G2
    have hk1 : ((k : Int) == 1) = true := eqT (by omega)
    replace cP2 := Lib.hid cP2
    replace G2 := Lib.hid G2
    clear ck cP cB
    go_wp2_with fail
    refine cP2.out.mono ?_
    rintro e w3 ⟨rfl, g3⟩
    have hb3 : AqB w3 w.heap.size (k : Int) A n c t (aN : Int) b (dN : Int) := gr_blk g3 hb2.out (by simp)
    have G3 := gr_trans G2.out g3
    clear b0 b1 b2 b3 b4 b5 hb2 g3 G2 cP2
    obtain ⟨b0, b1, b2, b3, b4, b5⟩ := aqb_cells hb3
    have e2 : ∀ p : Grown w3, p.wd.cell? ⟨w.heap.size, 2, none⟩ = some (.string (txt t)) := fun p => cell_to b2 p
    have e3 : ∀ p : Grown w3, p.wd.cell? ⟨w.heap.size, 3, none⟩ = some (.int .i64 (aN : Int)) := fun p => cell_to b3 p
    have e5 : ∀ p : Grown w3, p.wd.cell? ⟨w.heap.size, 5, none⟩ = some (.int .i64 (dN : Int)) := fun p => cell_to b5 p
    replace G3 := Lib.hid G3
    clear b0 b1 b2 b3 b4 b5 hb3 hk1
    go_upto_region 5 with fail
    refine wp_region_quiet_gr (by kernel_rfl) (by kernel_rfl) ?_
    repeat (go_big_quiet_step (first | (go_at_call 30; exact calls_gr (c1.out _ (by assumption) _)) | (go_at_call 32; exact calls_gr (cF.out _))))
    refine wpQuiet_nil ?_
    intro wq hwq
    obtain ⟨⟨wp, gq⟩, rfl⟩ := hwq
    go_wp2
    go_ret
    exact ⟨rfl, gr_trans G3.out gq⟩
  · obtain ⟨bN, hbN, hM, cB2⟩ := cB.out ck
    have hk1 : ((k : Int) == 1) = false := eqF (by omega)
    rw [← hM] at cB2
    subst hbN
    replace cB2 := Lib.hid cB2
    replace G2 := Lib.hid G2
    clear ck cP cB hM
    go_wp2_with fail
    refine (cB2.out _).mono ?_
    rintro e w3 ⟨rfl, g3⟩
    have hb3 : AqB w3 w.heap.size (k : Int) A n c t (aN : Int) (bN : Int) (dN : Int) := gr_blk g3 hb2.out (by simp)
    have G3 := gr_trans G2.out g3
    clear b0 b1 b2 b3 b4 b5 hb2 g3 G2 cB2
    obtain ⟨b0, b1, b2, b3, b4, b5⟩ := aqb_cells hb3
    have e2 : ∀ p : Grown w3, p.wd.cell? ⟨w.heap.size, 2, none⟩ = some (.string (txt t)) := fun p => cell_to b2 p
    have e3 : ∀ p : Grown w3, p.wd.cell? ⟨w.heap.size, 3, none⟩ = some (.int .i64 (aN : Int)) := fun p => cell_to b3 p
    have e5 : ∀ p : Grown w3, p.wd.cell? ⟨w.heap.size, 5, none⟩ = some (.int .i64 (dN : Int)) := fun p => cell_to b5 p
    replace G3 := Lib.hid G3
    clear b0 b1 b2 b3 b4 b5 hb3 hk1
    go_upto_region 5 with fail
    refine wp_region_quiet_gr (by kernel_rfl) (by kernel_rfl) ?_
    repeat (go_big_quiet_step (first | (go_at_call 30; exact calls_gr (c1.out _ (by assumption) _)) | (go_at_call 32; exact calls_gr (cF.out _))))
    refine wpQuiet_nil ?_
    intro wq hwq
    obtain ⟨⟨wp, gq⟩, rfl⟩ := hwq
    go_wp2
    go_ret
    exact ⟨rfl, gr_trans G3.out gq⟩
end Go.Proofs.Ytbnacoakjhhndaa
