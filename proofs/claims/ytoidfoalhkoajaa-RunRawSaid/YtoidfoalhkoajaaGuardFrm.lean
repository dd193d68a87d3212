/-
  What the document's Sum and Frame answer. No condition but bounds on the lengths.
-/
import Derived.Test.YtoidfoalhkoajaaGuardFrame
import Derived.Test.YtoidfoalhkoajaaRefNum
import Derived.Deep.OwnRows
import Derived.Laws.OwnMore
namespace Go.Proofs.Ytoidfoalhkoajaa
open Go.RowKit

theorem and1b : ∀ n, n < 256 → bits .and .u8 ((n : Nat) : Int) 1 = ((n % 2 : Nat) : Int) := by decide +kernel
theorem ref_out (Y m : Nat) (b : UInt8) (hY : Y < 4294967296) : bits .xor .u32 ((Y : Int) / 2147483648) (bits .and .u8 ((b.toNat : Int) / 2 ^ (7 - m)) 1 % 4294967296) = (((Y / 2147483648 + b.toNat / 2 ^ (7 - m) % 2) % 2 : Nat) : Int) := by
  have hb := b.toNat_lt
  have h0 : ((b.toNat : Int) / 2 ^ (7 - m)) = ((b.toNat / 2 ^ (7 - m) : Nat) : Int) := by simp
  have h1 := and1b (b.toNat / 2 ^ (7 - m)) (Nat.lt_of_le_of_lt (Nat.div_le_self _ _) (by omega))
  rw [h0, h1]
  have h2 : (((b.toNat / 2 ^ (7 - m) % 2 : Nat) : Int) % 4294967296) = ((b.toNat / 2 ^ (7 - m) % 2 : Nat) : Int) := by omega
  rw [h2]
  have h3 := Crc.out_eq Y (b.toNat / 2 ^ (7 - m)) hY
  rw [Crc.and1] at h3
  have h4 : ((Y : Int) / 2147483648) = ((Y / 2147483648 : Nat) : Int) := rfl
  rw [h4]
  exact h3
set_option maxHeartbeats 1000000 in
set_option maxRecDepth 100000 in
theorem refSum_any (s : ByteArray) (w : World) (hs : s.size ≤ maxLen) :
    Calls Try.prog 42 #[.string s] w fun e w' => e = .returned (.int .u32 (Crc.sum s.data.toList)) ∧ w = w' := by
  unfold maxLen at hs
  go_enter Try.func42, Try.ntmps42
  go_wp2
  go_loop [3, 4] (fun x i => ∃ (k X : Nat), k ≤ s.size ∧ i = .int .i64 k ∧ x = .int .u32 X ∧ X < 4294967296 ∧ Hid (X = Crc.run 4294967295 (Crc.bitsL (s.data.toList.take k)))) (fun _ i => s.size - (intOf i).toNat)
  case atStart => exact ⟨0, 4294967295, Nat.zero_le _, rfl, rfl, by decide, Lib.hid rfl⟩
  case round =>
    obtain ⟨k, X, hk, rfl, rfl, hX, HX⟩ := hrel
    by_cases hlt : k < s.size
    · go_wp2
      go_loop [3, 5] (fun x j => ∃ (m Y : Nat), m ≤ 8 ∧ j = .int .i64 (7 - (m : Int)) ∧ x = .int .u32 Y ∧ Y < 4294967296 ∧ Hid (Y = Crc.run X ((Crc.bitsB s[k]).take m))) (fun _ j => (intOf j + 1).toNat)
      case atStart => exact ⟨0, X, Nat.zero_le _, rfl, rfl, hX, Lib.hid rfl⟩
      case round =>
        obtain ⟨m, Y, hm, rfl, rfl, hY, HY⟩ := hrel
        by_cases hlm : m < 8
        · have h70 : (0 : Int) ≤ 7 - (m : Int) := by omega
          have h7n : (7 - (m : Int)).toNat = 7 - m := by omega
          by_cases ho : (Y / 2147483648 + s[k].toNat / 2 ^ (7 - m) % 2) % 2 = 1
          · have hof : (bits .xor .u32 ((Y : Int) / 2147483648) (bits .and .u8 ((s[k].toNat : Int) / 2 ^ (7 - m)) 1 % 4294967296) == 1) = true := by
              rw [ref_out Y m s[k] hY, ho]; rfl
            have HO := Lib.hid ho
            clear ho
            go_wp2
            go_round
            case rel => exact ⟨m + 1, Crc.stp Y (s[k].toNat / 2 ^ (7 - m) % 2), by omega, by go_num, by rw [Crc.step_yes Y m _ HO.out, Crc.flip_walk], Crc.stp_lt, Lib.hid (by rw [Crc.run_bit _ _ _ hlm, HY.out])⟩
            case measure => simp [intOf]; omega
          · have hof : (bits .xor .u32 ((Y : Int) / 2147483648) (bits .and .u8 ((s[k].toNat : Int) / 2 ^ (7 - m)) 1 % 4294967296) == 1) = false := by
              rw [ref_out Y m s[k] hY]; exact Crc.not_one ho
            have HO := Lib.hid ho
            clear ho
            go_wp2
            go_round
            case rel => exact ⟨m + 1, Crc.stp Y (s[k].toNat / 2 ^ (7 - m) % 2), by omega, by go_num, by rw [Crc.step_no Y m _ HO.out]; rfl, Crc.stp_lt, Lib.hid (by rw [Crc.run_bit _ _ _ hlm, HY.out])⟩
            case measure => simp [intOf]; omega
        · obtain rfl : m = 8 := by omega
          go_wp2
          go_round
          case rel => exact ⟨k + 1, Y, by omega, by go_num, rfl, hY, Lib.hid (by rw [HY.out, HX.out]; exact (Crc.run_byte _ _ _ (by simpa using hlt)).symm)⟩
          case measure => simp [intOf]; omega
    · go_wp2
      go_ret
      refine ⟨?_, rfl⟩
      rw [HX.out, List.take_of_length_le (by simp; omega)]
      rfl
theorem refHigh2 (v : Nat) (w : World) (hv : v < 281474976710656) : Calls Try.prog 36 #[.int .i64 v, .int .i64 2] w fun e w' => e = .returned (.string (txt (Crc.be 2 v))) ∧ Gr w w' := refHigh_any v 2 w (by decide) hv
theorem refHigh4 (v : Nat) (w : World) (hv : v < 281474976710656) : Calls Try.prog 36 #[.int .i64 v, .int .i64 4] w fun e w' => e = .returned (.string (txt (Crc.be 4 v))) ∧ Gr w w' := refHigh_any v 4 w (by decide) hv

/-! ### Frame -/
set_option maxHeartbeats 2000000 in
set_option maxRecDepth 100000 in
theorem refFrame_any (l : List UInt8) (w : World) (hl : l.length ≤ 12000) : Calls Try.prog 35 #[.string (txt l)] w fun e w' => e = .returned (.string (txt (Crc.frm l))) ∧ Gr w w' := by
  have hm2 : (txt (Crc.be 2 l.length)).size ≤ maxLen := by rw [txt_size, Crc.be_length]; unfold maxLen; omega
  have hm : (txt l).size ≤ maxLen := by rw [txt_size]; unfold maxLen; omega
  have s1 := Crc.sum_lt (Crc.be 2 l.length)
  have s2 := Crc.sum_lt l
  have hc1 := refSum_any (txt (Crc.be 2 l.length)) 
  have hc2 := refSum_any (txt l)
  rw [txt_data] at hc1 hc2
  go_enter Try.func35, Try.ntmps35
  go_wp2_with fail
  refine (refHigh2 _ _ (by omega)).mono ?_
  rintro e w1 ⟨rfl, g1⟩
  go_wp2_with fail
  refine (hc1 _ hm2).mono ?_
  rintro e w2 ⟨rfl, rfl⟩
  go_wp2_with fail
  refine (refHigh4 _ _ (by omega)).mono ?_
  rintro e w2 ⟨rfl, g2⟩
  go_wp2_with fail
  refine (hc2 _ hm).mono ?_
  rintro e w3 ⟨rfl, rfl⟩
  go_wp2_with fail
  refine (refHigh4 _ _ (by omega)).mono ?_
  rintro e w3 ⟨rfl, g3⟩
  go_wp2
  go_ret
  refine ⟨?_, gr_trans (gr_trans g1 g2) g3⟩
  simp only [Crc.frm, Crc.head, List.append_assoc]
  rfl
end Go.Proofs.Ytoidfoalhkoajaa
