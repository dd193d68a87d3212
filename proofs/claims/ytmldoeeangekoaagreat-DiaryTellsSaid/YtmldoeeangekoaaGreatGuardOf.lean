/-
  What the sum of bytes is (guard.Of, and the document's Sum): the register behind all bits. No condition.
-/
import Derived.Test.YtmldoeeangekoaaGreatProg
import Derived.Test.YtmldoeeangekoaaGreatAid
import Derived.Test.YtmldoeeangekoaaGreatGuardMath
namespace Go.Proofs.YtmldoeeangekoaaGreat
open Go.RowKit

namespace Crc
theorem and1 (n : Nat) : bits .and .u32 (n % 4294967296 : Nat) 1 = ((n % 2 : Nat) : Int) := by
  have h := u32_and_nat (n % 4294967296) 1 (by omega) (by decide)
  rw [show ((1 : Nat) : Int) = 1 from rfl] at h
  rw [h, nat_mask1]
  congr 1
  omega
theorem out_eq (Y n : Nat) (hY : Y < 4294967296) : bits .xor .u32 ((Y / 2147483648 : Nat) : Int) (bits .and .u32 ((n % 4294967296 : Nat) : Int) 1) = (((Y / 2147483648 + n % 2) % 2 : Nat) : Int) := by
  rw [and1, u32_xor_nat _ _ (by omega) (by omega)]
  congr 1
  have h1 : Y / 2147483648 < 2 := by omega
  have h2 : n % 2 < 2 := by omega
  generalize Y / 2147483648 = a at *
  generalize n % 2 = b at *
  have ha : a = 0 ∨ a = 1 := by omega
  have hb : b = 0 ∨ b = 1 := by omega
  rcases ha with rfl | rfl <;> rcases hb with rfl | rfl <;> rfl
theorem flip_eq (Y : Nat) : bits .xor .u32 ((Y * 2 % 4294967296 : Nat) : Int) 4104977171 = (((Y * 2 % 4294967296) ^^^ 4104977171 : Nat) : Int) := by
  have h := u32_xor_nat (Y * 2 % 4294967296) 4104977171 (by omega) (by decide)
  exact h

theorem pow_cast (b : UInt8) (m : Nat) : ((b.toNat : Int) / 2 ^ (7 - m) % 4294967296) = ((b.toNat / 2 ^ (7 - m) % 4294967296 : Nat) : Int) := by
  simp

/-- The test of a round, and what it leaves. -/
theorem out_walk (Y m : Nat) (b : UInt8) (hY : Y < 4294967296) : bits .xor .u32 ((Y : Int) / 2147483648) (bits .and .u32 ((b.toNat : Int) / 2 ^ (7 - m) % 4294967296) 1) = (((Y / 2147483648 + b.toNat / 2 ^ (7 - m) % 2) % 2 : Nat) : Int) := by
  rw [pow_cast]
  exact out_eq Y _ hY
theorem flip_walk (Y : Nat) : bits .xor .u32 ((Y : Int) * 2 % 4294967296) 4104977171 = (((Y * 2 % 4294967296) ^^^ 4104977171 : Nat) : Int) := by
  rw [← flip_eq]
  rfl

theorem not_one {z : Nat} (h : ¬ z = 1) : ((z : Int) == 1) = false := by
  simp; omega
theorem step_yes (Y m : Nat) (b : UInt8) (h : (Y / 2147483648 + b.toNat / 2 ^ (7 - m) % 2) % 2 = 1) : stp Y (b.toNat / 2 ^ (7 - m) % 2) = (Y * 2 % 4294967296) ^^^ 4104977171 := by
  unfold stp; rw [if_pos h]
theorem step_no (Y m : Nat) (b : UInt8) (h : ¬ (Y / 2147483648 + b.toNat / 2 ^ (7 - m) % 2) % 2 = 1) : stp Y (b.toNat / 2 ^ (7 - m) % 2) = Y * 2 % 4294967296 := by
  unfold stp; rw [if_neg h]
theorem run_bit (X m : Nat) (b : UInt8) (hm : m < 8) : run X ((bitsB b).take (m + 1)) = stp (run X ((bitsB b).take m)) (b.toNat / 2 ^ (7 - m) % 2) := by
  have hl : m < (bitsB b).length := by rw [bitsB_length]; exact hm
  rw [List.take_succ_eq_append_getElem hl, run_append]
  have : (bitsB b)[m] = b.toNat / 2 ^ (7 - m) % 2 := by simp [bitsB]
  rw [this]
  rfl
theorem run_byte (X : Nat) (l : List UInt8) (k : Nat) (hk : k < l.length) : run X (bitsL (l.take (k + 1))) = run (run X (bitsL (l.take k))) ((bitsB l[k]).take 8) := by
  have h8 : (bitsB l[k]).take 8 = bitsB l[k] := List.take_of_length_le (by rw [bitsB_length]; exact Nat.le_refl _)
  rw [List.take_succ_eq_append_getElem hk, bitsL_append, run_append, h8]
  congr 1
end Crc

set_option maxHeartbeats 1000000 in
theorem of_any (s : ByteArray) (w : World) (hs : s.size ≤ maxLen) :
    Calls Tryz.prog 120 #[.string s] w fun e w' => e = .returned (.int .u32 (Crc.sum s.data.toList)) ∧ w = w' := by
  unfold maxLen at hs
  go_enter Tryz.func120, Tryz.ntmps120
  go_wp2
  go_loop [3, 10] (fun x i => ∃ (k X : Nat), k ≤ s.size ∧ i = .int .i64 k ∧ x = .int .u32 X ∧ X < 4294967296 ∧ Hid (X = Crc.run 4294967295 (Crc.bitsL (s.data.toList.take k)))) (fun _ i => s.size - (intOf i).toNat)
  case atStart => exact ⟨0, 4294967295, Nat.zero_le _, rfl, rfl, by decide, Lib.hid rfl⟩
  case round =>
    obtain ⟨k, X, hk, rfl, rfl, hX, HX⟩ := hrel
    by_cases hlt : k < s.size
    · go_wp2
      go_loop [3, 13] (fun x j => ∃ (m Y : Nat), m ≤ 8 ∧ j = .int .i64 m ∧ x = .int .u32 Y ∧ Y < 4294967296 ∧ Hid (Y = Crc.run X ((Crc.bitsB s[k]).take m))) (fun _ j => 8 - (intOf j).toNat)
      case atStart => exact ⟨0, X, Nat.zero_le _, rfl, rfl, hX, Lib.hid rfl⟩
      case round =>
        obtain ⟨m, Y, hm, rfl, rfl, hY, HY⟩ := hrel
        by_cases hlm : m < 8
        · by_cases ho : (Y / 2147483648 + s[k].toNat / 2 ^ (7 - m) % 2) % 2 = 1
          · have hof : (bits .xor .u32 ((Y : Int) / 2147483648) (bits .and .u32 ((s[k].toNat : Int) / 2 ^ (7 - m) % 4294967296) 1) == 1) = true := by
              rw [Crc.out_walk Y m s[k] hY, ho]; rfl
            have HO := Lib.hid ho
            clear ho
            go_wp2
            go_round
            case rel => exact ⟨m + 1, Crc.stp Y (s[k].toNat / 2 ^ (7 - m) % 2), by omega, by go_num, by rw [Crc.step_yes Y m _ HO.out, Crc.flip_walk], Crc.stp_lt, Lib.hid (by rw [Crc.run_bit _ _ _ hlm, HY.out])⟩
            case measure => simp [intOf]; omega
          · have hof : (bits .xor .u32 ((Y : Int) / 2147483648) (bits .and .u32 ((s[k].toNat : Int) / 2 ^ (7 - m) % 4294967296) 1) == 1) = false := by
              rw [Crc.out_walk Y m s[k] hY]; exact Crc.not_one ho
            have HO := Lib.hid ho
            clear ho
            go_wp2
            go_round
            case rel => exact ⟨m + 1, Crc.stp Y (s[k].toNat / 2 ^ (7 - m) % 2), by omega, by go_num, by rw [Crc.step_no Y m _ HO.out]; rfl, Crc.stp_lt, Lib.hid (by rw [Crc.run_bit _ _ _ hlm, HY.out])⟩
            case measure => simp [intOf]; omega
        · obtain rfl : m = 8 := by omega
          go_wp2
          go_round
          case rel => exact ⟨k + 1, Y, by omega, by go_num, rfl, hY, Lib.hid (by rw [HY.out, HX.out]; exact (Crc.run_byte _ _ _ (by simpa using hlt)).symm)⟩
          case measure => simp [intOf]; omega
    · go_wp2
      go_ret
      refine ⟨?_, rfl⟩
      rw [HX.out, List.take_of_length_le (by simp; omega)]
      rfl
end Go.Proofs.YtmldoeeangekoaaGreat
