/-
  What diary.num and diary.value answer of numbers of four bytes. No condition but these bounds.
-/
import Derived.Test.YtmldoeeangekoaaGreatDiaryMath
namespace Go.Proofs.YtmldoeeangekoaaGreat
open Go.RowKit

set_option maxHeartbeats 4000000 in
set_option maxRecDepth 100000 in
theorem dnum_any (v : Nat) (w : World) (_hv : v < 4294967296) :
    Calls Tryz.prog 43 #[.int .i64 v] w fun e w' => e = .returned (.string (txt (Crc.be 4 v))) ∧ Gr w w' := by
  obtain ⟨ii, hi, hz0, hz1, hz2⟩ := info_parts infoByte
  go_enter Tryz.func43, Tryz.ntmps43
  go_wp2
  go_loopw [3, 5] (fun o i wr => ∃ (j : Nat), j ≤ 4 ∧ i = .int .i64 j ∧ wr.ownsRow w.heap.size 5 1 o j (((Crc.be 4 v).take j).map byteV) ∧ Below w.heap.size w wr) (fun _ i _ => 4 - (intOf i).toNat)
  case atStart => exact ⟨0, Nat.zero_le _, rfl, World.ownsRow_nil _ _ _ _, Below.refl _ _⟩
  case round =>
    obtain ⟨j, hj, rfl, hown, hbel⟩ := hrel
    replace hown := Lib.hid hown
    by_cases hlt : j < 4
    · have hs := hbel.size
      go_wp2_with (at_builtin; refine wpList_append_own _ rfl _ _ 98 rfl w.heap.size 5 ii (.int .u8 0) 1 1 Tryz.underlying98 hi hz0 hz1 hz2 rfl (by decide) u3 _ _ rfl (hown.out.alloc _) ⟨wr.heap.size, 0, none⟩ 1 1 [byteV (UInt8.ofNat (v / 2 ^ (8 * (4 - 1 - j))))] rfl ?c0 ?c1 ?c2 ?c3 ?c4 ?c5 ?_; rotate_right; intro v' W4 hown4 hgrow _nl; clear _nl; have hb4 := below_append hown.out hgrow hs; clear hgrow; replace hown4 := Lib.hid hown4)
      case c0 => rfl
      case c1 => rw [byteV_mod]; exact cell_one_new _ _ _
      case c2 => simp [byteV, Value.oneCell']
      case c3 => unfold maxLen; omega
      case c4 => omega
      case c5 => simp; omega
      go_roundw
      case rel => exact ⟨j + 1, by omega, by go_num, by rw [be_get 4 v j hlt, List.map_append]; exact hown4.out, hbel.trans hb4⟩
      case measure => simp [intOf]; omega
    · obtain rfl : j = 4 := by omega
      have hown' := hown.out
      rw [List.take_of_length_le (by rw [Crc.be_length]; exact Nat.le_refl _)] at hown'
      have hcv := run_string_own (P := Tryz.prog) wr 98 9 5 Tryz.underlying98 Tryz.underlying5 Tryz.underlying9 hown'
      clear hown'
      go_wp2
      go_ret
      exact ⟨rfl, gr_of_below hbel (Nat.le_refl _)⟩
theorem dor (x y : Nat) (hx : x < 4294967296) (hy : y < 256) : bits .or .i64 ((x : Int) * 256) (y : Int) = ((x * 256 + y : Nat) : Int) := by
  rw [bits_join .i64 62 (by decide) (fun n h0 h1 => IntWalk.i64_in _ (by omega)) 8 _ _ (by omega) (by omega) (by omega) (by omega) (by omega) (by omega)]
  simp
set_option maxHeartbeats 4000000 in
set_option maxRecDepth 100000 in
theorem dvalue_any (l : List UInt8) (w : World) (hl : l.length ≤ 4) : Calls Tryz.prog 126 #[.string (txt l)] w fun e w' => e = .returned (.int .i64 (dvN l)) ∧ w = w' := by
  go_enter Tryz.func126, Tryz.ntmps126
  go_wp2
  go_loop [3, 7] (fun x i => ∃ (k X : Nat), k ≤ l.length ∧ i = .int .i64 k ∧ x = .int .i64 X ∧ X < 256 ^ 4 ∧ Hid (X = dvN (l.take k))) (fun _ i => l.length - (intOf i).toNat)
  case atStart => exact ⟨0, 0, Nat.zero_le _, rfl, rfl, by decide, Lib.hid rfl⟩
  case round =>
    obtain ⟨k, X, hk, rfl, rfl, hX, HX⟩ := hrel
    by_cases hlt : k < l.length
    · have hv := dvN_lt (l.take (k + 1))
      have hs := dvN_snoc (l.take k) l[k]
      rw [← List.take_succ_eq_append_getElem hlt, ← HX.out] at hs
      have h6 : dvN (l.take (k + 1)) < 256 ^ 4 := Nat.lt_of_lt_of_le hv (Nat.pow_le_pow_right (by omega) (by simp; omega))
      have hb := l[k].toNat_lt
      have hki : (k : Int) < (l.length : Int) := by omega
      have hX2 : X * 256 + l[k].toNat < 4294967296 := by rw [← hs]; exact h6
      have hXs : X < 4294967296 := by omega
      have hget : (txt l)[k]'(by rw [txt_size]; exact hlt) = l[k] := by show l.toArray[k] = l[k]; simp
      have hor := dor X l[k].toNat (by omega) (by omega)
      have hwx : IntKind.i64.wrap ((X : Int) * 256) = (X : Int) * 256 := IntWalk.i64_in _ (by omega)
      replace hs := Lib.hid hs
      replace h6 := Lib.hid h6
      clear hv
      go_wp2
      go_round
      case rel => exact ⟨k + 1, _, by omega, by go_num, rfl, by rw [← hs.out]; exact h6.out, Lib.hid hs.out.symm⟩
      case measure => simp [intOf]; omega
    · obtain rfl : k = l.length := by omega
      have hx := HX.out
      rw [List.take_length] at hx
      subst hx
      go_wp2
      go_ret
      exact ⟨rfl, rfl⟩
end Go.Proofs.YtmldoeeangekoaaGreat
