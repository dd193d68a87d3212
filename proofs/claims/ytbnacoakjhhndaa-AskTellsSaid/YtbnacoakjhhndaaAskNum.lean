/-
  What request.num answers, of every number. No condition.
-/
import Derived.Test.YtbnacoakjhhndaaAskRead
namespace Go.Proofs.Ytbnacoakjhhndaa
open Go.RowKit

/-- Four bytes of a number, the highest first. -/
def bI (v : Int) (i : Nat) : UInt8 := UInt8.ofNat (v / 2 ^ (8 * (4 - 1 - i)) % 256).toNat
def beI (v : Int) : List UInt8 := (List.range 4).map (bI v)
theorem beI_len (v : Int) : (beI v).length = 4 := by simp [beI]
theorem bI_val (v : Int) (i : Nat) : byteV (bI v i) = .int .u8 (v / 2 ^ (8 * (4 - 1 - i)) % 256) := by
  unfold byteV bI
  generalize v / 2 ^ (8 * (4 - 1 - i)) = x
  have h1 : 0 ≤ x % 256 := Int.emod_nonneg _ (by decide)
  have h2 : x % 256 < 256 := Int.emod_lt_of_pos _ (by decide)
  congr 1
  rw [UInt8.toNat_ofNat']
  omega
theorem beI_get (v : Int) (j : Nat) (hj : j < 4) : (beI v).take (j + 1) = (beI v).take j ++ [bI v j] := by
  rw [List.take_succ_eq_append_getElem (by rw [beI_len]; exact hj)]
  simp [beI]
theorem beI_nat (v : Nat) : beI v = Crc.be 4 v := by
  unfold beI Crc.be
  refine List.map_congr_left fun i _ => ?_
  unfold bI
  have : ((v : Int) / 2 ^ (8 * (4 - 1 - i)) % 256).toNat = v / 2 ^ (8 * (4 - 1 - i)) % 256 := by
    rw [show ((2 : Int) ^ (8 * (4 - 1 - i))) = ((2 ^ (8 * (4 - 1 - i)) : Nat) : Int) from by simp]
    omega
  rw [this]
  apply UInt8.toNat_inj.1
  simp [UInt8.toNat_ofNat']
theorem beI_of (v : Int) (h : 0 ≤ v) : beI v = Crc.be 4 v.toNat := by
  have := beI_nat v.toNat
  rwa [Int.toNat_of_nonneg h] at this
set_option maxHeartbeats 4000000 in
set_option maxRecDepth 100000 in
theorem anum_any (v : Int) (w : World) :
    Calls Try.prog 19 #[.int .i64 v] w fun e w' => e = .returned (.string (txt (beI v))) ∧ Gr w w' := by
  obtain ⟨ii, hi, hz0, hz1, hz2⟩ := info_parts infoByte
  go_enter Try.func19, Try.ntmps19
  go_wp2
  go_loopw [3, 5] (fun o i wr => ∃ (j : Nat), j ≤ 4 ∧ i = .int .i64 j ∧ wr.ownsRow w.heap.size 5 1 o j (((beI v).take j).map byteV) ∧ Below w.heap.size w wr) (fun _ i _ => 4 - (intOf i).toNat)
  case atStart => exact ⟨0, Nat.zero_le _, rfl, World.ownsRow_nil _ _ _ _, Below.refl _ _⟩
  case round =>
    obtain ⟨j, hj, rfl, hown, hbel⟩ := hrel
    replace hown := Lib.hid hown
    by_cases hlt : j < 4
    · have hs := hbel.size
      go_wp2_with (at_builtin; refine wpList_append_own _ rfl _ _ 38 rfl w.heap.size 5 ii (.int .u8 0) 1 1 Try.underlying38 hi hz0 hz1 hz2 rfl (by decide) u3 _ _ rfl (hown.out.alloc _) ⟨wr.heap.size, 0, none⟩ 1 1 [byteV (bI v j)] rfl ?c0 ?c1 ?c2 ?c3 ?c4 ?c5 ?_; rotate_right; intro v' W4 hown4 hgrow _nl; clear _nl; have hb4 := below_append hown.out hgrow hs; clear hgrow; replace hown4 := Lib.hid hown4)
      case c0 => rfl
      case c1 => rw [bI_val]; exact cell_one_new _ _ _
      case c2 => simp [byteV, Value.oneCell']
      case c3 => unfold maxLen; omega
      case c4 => omega
      case c5 => simp; omega
      go_roundw
      case rel => exact ⟨j + 1, by omega, by go_num, by rw [beI_get v j hlt, List.map_append]; exact hown4.out, hbel.trans hb4⟩
      case measure => simp [intOf]; omega
    · obtain rfl : j = 4 := by omega
      have hown' := hown.out
      rw [List.take_of_length_le (by rw [beI_len]; exact Nat.le_refl _)] at hown'
      have hcv := run_string_own (P := Try.prog) wr 38 9 5 Try.underlying38 Try.underlying5 Try.underlying9 hown'
      clear hown'
      go_wp2
      go_ret
      exact ⟨rfl, gr_of_below hbel (Nat.le_refl _)⟩
end Go.Proofs.Ytbnacoakjhhndaa
