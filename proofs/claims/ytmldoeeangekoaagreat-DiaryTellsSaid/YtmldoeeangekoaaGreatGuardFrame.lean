/-
  What guard.Frame answers; a frame is taken apart as it was; the first call of the laws of chapter 14. No condition.
-/
import Derived.Test.YtmldoeeangekoaaGreatGuardTake
namespace Go.Proofs.YtmldoeeangekoaaGreat
open Go.RowKit

namespace Crc
def head (n : Nat) : List UInt8 := be 2 n ++ be 4 (sum (be 2 n))
def frm (L : List UInt8) : List UInt8 := head L.length ++ (L ++ be 4 (sum L))
theorem head_length (n : Nat) : (head n).length = 6 := by simp [head, be_length]
theorem frm_length (L : List UInt8) : (frm L).length = L.length + 10 := by simp [frm, head_length, be_length]; omega
attribute [go_sem] be_length frm_length head_length
theorem be2 (n : Nat) : be 2 n = [UInt8.ofNat (n / 256), UInt8.ofNat n] := by simp [be, List.range, List.range.loop]

/-- What Take answers of a text that begins with a right head. -/
theorem take_head (n : Nat) (M : List UInt8) (hn : n < 65536) : take (head n ++ M) =
    if M.length < 4 + n then ([], [], 2) else if 12000 < n then ([], [], 10) else if be 4 (sum (M.take n)) ≠ (M.drop n).take 4 then ([], [], 10) else (M.take n, M.drop (4 + n), 0) := by
  have h1 : (head n ++ M).take 2 = be 2 n := by simp [head, be_length]
  have h2 : ((head n ++ M).drop 2).take 4 = be 4 (sum (be 2 n)) := by simp [head, be_length]
  have h3 : (head n ++ M).drop 6 = M := by
    rw [List.drop_append, head_length, List.drop_eq_nil_of_le (by rw [head_length]; exact Nat.le_refl _)]; rfl
  have h4 : ((head n ++ M).getD 0 0).toNat * 256 + ((head n ++ M).getD 1 0).toNat = n := by
    have e : head n ++ M = UInt8.ofNat (n / 256) :: UInt8.ofNat n :: (be 4 (sum (be 2 n)) ++ M) := by simp [head, be2]
    rw [e]
    simp
    omega
  have h5 : (head n ++ M).length = 6 + M.length := by simp [head_length]
  unfold take
  rw [h1, h2, h4, h3, h5, if_neg (by omega), if_neg (by simp)]
  have h6 : (head n ++ M).drop (10 + n) = M.drop (4 + n) := by
    rw [show 10 + n = 6 + (4 + n) from by omega, ← List.drop_drop, h3]
  rw [h6]
  by_cases hc : M.length < 4 + n
  · rw [if_pos (by omega), if_pos hc]
  · rw [if_neg (by omega), if_neg hc]

theorem take_frm (L R : List UInt8) (h : L.length ≤ 12000) : take (frm L ++ R) = (L, R, 0) := by
  unfold frm
  rw [List.append_assoc, take_head _ _ (by omega)]
  rw [if_neg (by simp [be_length]; omega), if_neg (by omega)]
  have h1 : (L ++ be 4 (sum L) ++ R).take L.length = L := by simp
  have h2 : ((L ++ be 4 (sum L) ++ R).drop L.length).take 4 = be 4 (sum L) := by simp [be_length]
  have h3 : (L ++ be 4 (sum L) ++ R).drop (4 + L.length) = R := by
    have e : 4 + L.length = (L ++ be 4 (sum L)).length := by simp [be_length]; omega
    rw [e, List.drop_left]
  rw [h1, h2, h3, if_neg (by simp)]
end Crc

set_option maxHeartbeats 2000000 in
theorem frame_any (s : ByteArray) (w : World) (hs : s.size ≤ 12000) :
    Calls Tryz.prog 42 #[.string s] w fun e w' => e = .returned (.tuple #[.string (txt (Crc.frm s.data.toList)), .int .i64 0]) ∧ Gr w w' := by
  have hsi : (s.size : Int) ≤ 12000 := by omega
  have hm : s.size ≤ maxLen := by unfold maxLen; omega
  have hm2 : (txt (Crc.be 2 s.size)).size ≤ maxLen := by rw [txt_size, Crc.be_length]; unfold maxLen; omega
  go_enter Tryz.func42, Tryz.ntmps42
  go_wp2_with fail
  refine (num2 _ _ (by omega)).mono ?_
  rintro e w1 ⟨rfl, g1⟩
  go_wp2_with fail
  refine (of_any _ _ hm2).mono ?_
  rintro e w2 ⟨rfl, rfl⟩
  go_wp2_with fail
  refine (num4 _ _ (Crc.sum_lt _)).mono ?_
  rintro e w2 ⟨rfl, g2⟩
  go_wp2_with fail
  refine (of_any _ _ hm).mono ?_
  rintro e w3 ⟨rfl, rfl⟩
  go_wp2_with fail
  refine (num4 _ _ (Crc.sum_lt _)).mono ?_
  rintro e w3 ⟨rfl, g3⟩
  go_wp2
  go_ret2
  refine ⟨?_, gr_trans (gr_trans g1 g2) g3⟩
  have hz : s.data.toList.length = s.size := by simp
  obtain ⟨l, rfl⟩ : ∃ l, s = txt l := ⟨_, (txt_of s).symm⟩
  simp only [txt_data, txt_append, txt_size] at *
  simp only [Crc.frm, Crc.head, List.append_assoc]
  rfl

theorem frame_long (s : ByteArray) (w : World) (hs : 12000 < s.size) (_hm : s.size ≤ maxLen) :
    Calls Tryz.prog 42 #[.string s] w fun e w' => e = .returned (.tuple #[.string (txt []), .int .i64 1]) ∧ Gr w w' := by
  have hsi : (12000 : Int) < s.size := by omega
  go_enter Tryz.func42, Tryz.ntmps42
  go_wp2
  go_ret2
  exact ⟨rfl, gr_refl _ _⟩

end Go.Proofs.YtmldoeeangekoaaGreat
