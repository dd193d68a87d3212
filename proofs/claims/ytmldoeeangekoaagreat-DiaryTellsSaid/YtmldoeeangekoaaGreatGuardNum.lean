/-
  What guard.num answers: a number's bytes, the highest first. No condition.
-/
import Derived.Test.YtmldoeeangekoaaGreatGuardOf
namespace Go.Proofs.YtmldoeeangekoaaGreat
open Go.RowKit

theorem infoByte : (Tryz.prog.info? 5).map (fun i => (i.zero, i.size, i.bytes)) = some (some (.int .u8 0), 1, 1) := by kernel_rfl

theorem be_get (k v j : Nat) (hj : j < k) : (Crc.be k v).take (j + 1) = (Crc.be k v).take j ++ [UInt8.ofNat (v / 2 ^ (8 * (k - 1 - j)))] := by
  have hl : j < (Crc.be k v).length := by rw [Crc.be_length]; exact hj
  rw [List.take_succ_eq_append_getElem hl]
  congr 1
  simp [Crc.be]
theorem byteV_mod (v n : Nat) : byteV (UInt8.ofNat (v / 2 ^ n)) = .int .u8 ((v : Int) / 2 ^ n % 256) := by
  unfold byteV
  congr 1

set_option maxHeartbeats 1000000 in
theorem num_any (v k : Nat) (w : World) (_hv : v < 4294967296) (hk : k ≤ 4) :
    Calls Tryz.prog 119 #[.int .u32 v, .int .i64 k] w fun e w' => e = .returned (.string (txt (Crc.be k v))) ∧ Gr w w' := by
  obtain ⟨ii, hi, hz0, hz1, hz2⟩ := info_parts infoByte
  go_enter Tryz.func119, Tryz.ntmps119
  go_wp2
  go_loopw [5, 8] (fun o i wr => ∃ (j : Nat), j ≤ k ∧ i = .int .i64 j ∧ wr.ownsRow w.heap.size 5 1 o j (((Crc.be k v).take j).map byteV) ∧ Below w.heap.size w wr) (fun _ i _ => k - (intOf i).toNat)
  case atStart => exact ⟨0, Nat.zero_le _, rfl, World.ownsRow_nil _ _ _ _, Below.refl _ _⟩
  case round =>
    obtain ⟨j, hj, rfl, hown, hbel⟩ := hrel
    replace hown := Lib.hid hown
    by_cases hlt : j < k
    · have hs := hbel.size
      go_wp2_with (at_builtin; refine wpList_append_own _ rfl _ _ 98 rfl w.heap.size 5 ii (.int .u8 0) 1 1 Tryz.underlying98 hi hz0 hz1 hz2 rfl (by decide) u5 _ _ rfl (hown.out.alloc _) ⟨wr.heap.size, 0, none⟩ 1 1 [byteV (UInt8.ofNat (v / 2 ^ (8 * (k - 1 - j))))] rfl ?c0 ?c1 ?c2 ?c3 ?c4 ?c5 ?_; rotate_right; intro v' W4 hown4 hgrow _nl; clear _nl; have hb4 := below_append hown.out hgrow hs; clear hgrow; replace hown4 := Lib.hid hown4)
      case c0 => rfl
      case c1 => rw [byteV_mod]; exact cell_one_new _ _ _
      case c2 => simp [byteV, Value.oneCell']
      case c3 => unfold maxLen; omega
      case c4 => omega
      case c5 => simp; omega
      go_roundw
      case rel => exact ⟨j + 1, by omega, by go_num, by rw [be_get k v j hlt, List.map_append]; exact hown4.out, hbel.trans hb4⟩
      case measure => simp [intOf]; omega
    · obtain rfl : j = k := by omega
      have hown' := hown.out
      rw [List.take_of_length_le (by rw [Crc.be_length]; exact Nat.le_refl _)] at hown'
      have hcv := run_string_own (P := Tryz.prog) wr 98 9 5 Tryz.underlying98 Tryz.underlying5 Tryz.underlying9 hown'
      clear hown'
      go_wp2
      go_ret
      exact ⟨rfl, gr_of_below hbel (Nat.le_refl _)⟩
theorem num4 (v : Nat) (w : World) (hv : v < 4294967296) :
    Calls Tryz.prog 119 #[.int .u32 v, .int .i64 4] w fun e w' => e = .returned (.string (txt (Crc.be 4 v))) ∧ Gr w w' := num_any v 4 w hv (by decide)
theorem num2 (v : Nat) (w : World) (hv : v < 4294967296) :
    Calls Tryz.prog 119 #[.int .u32 v, .int .i64 2] w fun e w' => e = .returned (.string (txt (Crc.be 2 v))) ∧ Gr w w' := num_any v 2 w hv (by decide)
end Go.Proofs.YtmldoeeangekoaaGreat
