/-
  What the document's High and Value answer (as GuardRef's, for a seat without frames). No condition but bounds on the lengths. (soft)
-/
import Derived.Test.YtbnacoakjhhndaaGreatRowPut
import Derived.Deep.OwnRows
import Derived.Laws.OwnMore
namespace Go.Proofs.YtbnacoakjhhndaaGreat
open Go.RowKit

theorem infoByteN : (Tryz.prog.info? 5).map (fun i => (i.zero, i.size, i.bytes)) = some (some (.int .u8 0), 1, 1) := by kernel_rfl
/-! ### Value -/
/-! ### High -/
theorem i64_and255 (n : Int) : bits .and .i64 n 255 = n % 256 := by
  have h255 : (BitVec.ofInt 64 255).toNat = 2 ^ 8 - 1 := by decide
  have key : (BitVec.ofInt 64 n &&& BitVec.ofInt 64 255).toNat = (n % ((2 ^ 64 : Nat) : Int)).toNat % 2 ^ 8 := by
    rw [BitVec.toNat_and, BitVec.toNat_ofInt, h255, Nat.and_two_pow_sub_one_eq_mod]
  show IntKind.i64.wrap ((BitVec.ofInt 64 n &&& BitVec.ofInt 64 255).toNat : Nat) = n % 256
  rw [key, IntKind.wrap_i64]
  omega
/-- Zeros, and behind them the last t bytes. -/
def hiL (v n t : Nat) : List UInt8 := List.replicate (n - t) 0 ++ (Crc.be n v).drop (n - t)
theorem hiL_len (v n t : Nat) (h : t ≤ n) : (hiL v n t).length = n := by unfold hiL; rw [List.length_append, List.length_replicate, List.length_drop, Crc.be_length]; omega
theorem hiL_zero (v n : Nat) : hiL v n 0 = List.replicate n 0 := by
  unfold hiL
  rw [Nat.sub_zero, List.drop_of_length_le (by rw [Crc.be_length]; exact Nat.le_refl _), List.append_nil]
theorem hiL_all (v n : Nat) : hiL v n n = Crc.be n v := by unfold hiL; simp
theorem hiL_set (v n t : Nat) (h : t < n) : (hiL v n t).set (n - 1 - t) (UInt8.ofNat (v / 256 ^ t)) = hiL v n (t + 1) := by
  apply List.ext_getElem?
  intro j
  have hl := hiL_len v n t (by omega)
  have hbl := Crc.be_length n v
  rw [List.getElem?_set]
  unfold hiL
  by_cases hj : j < n
  · by_cases h1 : n - 1 - t = j
    · rw [if_pos h1, if_pos (by unfold hiL at hl; omega)]
      rw [List.getElem?_append_right (by simp; omega), List.getElem?_drop]
      have e1 : n - (t + 1) + (j - (List.replicate (n - (t + 1)) (0 : UInt8)).length) = j := by simp; omega
      rw [e1]
      unfold Crc.be
      rw [List.getElem?_map, List.getElem?_range hj]
      have e2 : n - 1 - j = t := by omega
      simp only [Option.map_some, e2]
      rw [Nat.pow_mul]
    · rw [if_neg h1]
      by_cases h2 : j < n - (t + 1)
      · rw [List.getElem?_append_left (by simp; omega), List.getElem?_append_left (by simp; omega)]
        rw [List.getElem?_replicate, List.getElem?_replicate, if_pos (by omega), if_pos h2]
      · rw [List.getElem?_append_right (by simp; omega), List.getElem?_append_right (by simp; omega), List.getElem?_drop, List.getElem?_drop]
        congr 1
        simp
        omega
  · rw [if_neg (by omega)]
    rw [List.getElem?_eq_none (by simp [hbl]; omega), List.getElem?_eq_none (by simp [hbl]; omega)]
set_option maxHeartbeats 2000000 in
set_option maxRecDepth 100000 in
theorem refHigh_any (v n : Nat) (w : World) (hn : n ≤ 8) (hv : v < 281474976710656) : Calls Tryz.prog 8 #[.int .i64 v, .int .i64 n] w fun e w' => e = .returned (.string (txt (Crc.be n v))) ∧ Gr w w' := by
  have hmk := run_make_row' (P := Tryz.prog) 62 5 (.int .u8 0) 1 Tryz.underlying62 infoByteN rfl .i64 .i64 n (by omega) (by omega) w
  have hb0 : (w.alloc (.cells (madeCells #[.int .u8 0] n) 5)).ownsRow w.heap.size 5 1 (.slice (some ⟨w.heap.size, 0, none⟩) n n) n ((hiL v n 0).map byteV) := by
    have h := World.ownsRow_lit (e := 5) (size := 1) w (madeCells #[.int .u8 0] n) n (Nat.le_refl _) (by unfold maxLen; omega) (by rw [← Array.length_toList, toList_madeCells_one]; simp)
    rw [toList_madeCells_one] at h
    rw [hiL_zero, List.map_replicate]
    exact h
  have hg0 := gr_alloc w (.cells (madeCells #[.int .u8 0] n) 5) none
  generalize hW1 : w.alloc (.cells (madeCells #[.int .u8 0] n) 5) = W1 at *
  clear hW1
  replace hb0 := Lib.hid hb0
  go_enter Tryz.func8, Tryz.ntmps8
  go_wp2
  go_loopw [0, 6] (fun vv kv wr => ∃ (t x : Nat), t ≤ n ∧ Hid (x = v / 256 ^ t) ∧ x < 281474976710656 ∧ vv = .int .i64 x ∧ kv = .int .i64 ((n : Int) - 1 - (t : Int)) ∧ Hid (wr.ownsRow w.heap.size 5 1 (.slice (some ⟨w.heap.size, 0, none⟩) n n) n ((hiL v n t).map byteV)) ∧ Hid (Below w.heap.size w wr)) (fun _ kv _ => (intOf kv + 1).toNat)
  case atStart => exact ⟨0, v, Nat.zero_le _, by simp [Hid], hv, rfl, by simp, hb0.out, gr_below hg0⟩
  case round =>
    obtain ⟨t, x, ht, hx, hxb, rfl, rfl, hown, hbel⟩ := hrel
    by_cases hlt : t < n
    · obtain ⟨k, hk⟩ : ∃ k : Nat, k = n - 1 - t := ⟨_, rfl⟩
      have hki : (n : Int) - 1 - (t : Int) = (k : Int) := by omega
      have hkn : k < n := by omega
      have hfz := hown.out.frozenAt k
      have hcl := hown.out.cellAt k (by omega)
      have hl := hiL_len v n t ht
      rw [List.getElem?_map, List.getElem?_eq_getElem (by omega), Option.map_some] at hcl
      have hcl2 : ∃ old, wr.cell? ⟨w.heap.size, k, none⟩ = some old := ⟨_, hcl⟩
      clear hcl
      obtain ⟨old, hold⟩ := hcl2
      have hst := hown.out.stored k (byteV (UInt8.ofNat x))
      have hset := hiL_set v n t hlt
      rw [← hx.out, ← hk] at hset
      rw [← List.map_set, hset] at hst
      obtain ⟨hst1, hst2⟩ := hst
      have hbv : byteV (UInt8.ofNat x) = .int .u8 ((x : Int) % 256) := by
        unfold byteV
        congr 1
      rw [hbv] at hst1 hst2
      have hbel2 := below_gr hbel.out hst2 hbel.out.size (fun q hq => by cases hq; exact Nat.le_refl _)
      have hand := i64_and255 (x : Int)
      have hx2 : x / 256 = v / 256 ^ (t + 1) := by rw [hx.out, Nat.pow_succ, Nat.div_div_eq_div_mul]
      have hkI : (k : Int) < (n : Int) := by omega
      have hk0 : (0 : Int) ≤ (k : Int) := by omega
      rw [hki]
      replace hk := Lib.hid hk
      replace hki := Lib.hid hki
      replace hx2 := Lib.hid hx2
      replace hst1 := Lib.hid hst1
      replace hbel2 := Lib.hid hbel2
      clear hst2 hset hbv hl
      go_wp2
      go_roundw
      case rel => exact ⟨t + 1, x / 256, by omega, hx2, by omega, by go_num, by have := hki.out; go_num, hst1.out, hbel2.out⟩
      case measure => have := hki.out; simp [intOf]
    · obtain rfl : t = n := by omega
      have hown' := hown.out
      rw [hiL_all] at hown'
      have hcv := run_string_own (P := Tryz.prog) wr 62 9 5 Tryz.underlying62 Tryz.underlying5 Tryz.underlying9 hown'
      have hki : (t : Int) - 1 - (t : Int) = -1 := by omega
      rw [hki]
      clear hown'
      go_wp2
      go_ret
      exact ⟨rfl, gr_of_below hbel.out (Nat.le_refl _)⟩
end Go.Proofs.YtbnacoakjhhndaaGreat
