/-
  What the document's Sum, High, Value, Frame and Take answer. No condition but bounds on the lengths. (soft)
-/
import Derived.Test.YtmldoeeangekoaaGreatGuardFrame
import Derived.Deep.OwnRows
import Derived.Laws.OwnMore
namespace Go.Proofs.YtmldoeeangekoaaGreat
open Go.RowKit

theorem and1b : ∀ n, n < 256 → bits .and .u8 ((n : Nat) : Int) 1 = ((n % 2 : Nat) : Int) := by decide +kernel
theorem ref_out (Y m : Nat) (b : UInt8) (hY : Y < 4294967296) : bits .xor .u32 ((Y : Int) / 2147483648) (bits .and .u8 ((b.toNat : Int) / 2 ^ (7 - m)) 1 % 4294967296) = (((Y / 2147483648 + b.toNat / 2 ^ (7 - m) % 2) % 2 : Nat) : Int) := by
  have hb := b.toNat_lt
  have h0 : ((b.toNat : Int) / 2 ^ (7 - m)) = ((b.toNat / 2 ^ (7 - m) : Nat) : Int) := by simp
  have h1 := and1b (b.toNat / 2 ^ (7 - m)) (Nat.lt_of_le_of_lt (Nat.div_le_self _ _) (by omega))
  rw [h0, h1]
  have h2 : (((b.toNat / 2 ^ (7 - m) % 2 : Nat) : Int) % 4294967296) = ((b.toNat / 2 ^ (7 - m) % 2 : Nat) : Int) := by omega
  rw [h2]
  have h3 := Crc.out_eq Y (b.toNat / 2 ^ (7 - m)) hY
  rw [Crc.and1] at h3
  have h4 : ((Y : Int) / 2147483648) = ((Y / 2147483648 : Nat) : Int) := rfl
  rw [h4]
  exact h3
set_option maxHeartbeats 1000000 in
set_option maxRecDepth 100000 in
theorem refSum_any (s : ByteArray) (w : World) (hs : s.size ≤ maxLen) :
    Calls Tryz.prog 124 #[.string s] w fun e w' => e = .returned (.int .u32 (Crc.sum s.data.toList)) ∧ w = w' := by
  unfold maxLen at hs
  go_enter Tryz.func124, Tryz.ntmps124
  go_wp2
  go_loop [3, 4] (fun x i => ∃ (k X : Nat), k ≤ s.size ∧ i = .int .i64 k ∧ x = .int .u32 X ∧ X < 4294967296 ∧ Hid (X = Crc.run 4294967295 (Crc.bitsL (s.data.toList.take k)))) (fun _ i => s.size - (intOf i).toNat)
  case atStart => exact ⟨0, 4294967295, Nat.zero_le _, rfl, rfl, by decide, Lib.hid rfl⟩
  case round =>
    obtain ⟨k, X, hk, rfl, rfl, hX, HX⟩ := hrel
    by_cases hlt : k < s.size
    · go_wp2
      go_loop [3, 5] (fun x j => ∃ (m Y : Nat), m ≤ 8 ∧ j = .int .i64 (7 - (m : Int)) ∧ x = .int .u32 Y ∧ Y < 4294967296 ∧ Hid (Y = Crc.run X ((Crc.bitsB s[k]).take m))) (fun _ j => (intOf j + 1).toNat)
      case atStart => exact ⟨0, X, Nat.zero_le _, rfl, rfl, hX, Lib.hid rfl⟩
      case round =>
        obtain ⟨m, Y, hm, rfl, rfl, hY, HY⟩ := hrel
        by_cases hlm : m < 8
        · have h70 : (0 : Int) ≤ 7 - (m : Int) := by omega
          have h7n : (7 - (m : Int)).toNat = 7 - m := by omega
          by_cases ho : (Y / 2147483648 + s[k].toNat / 2 ^ (7 - m) % 2) % 2 = 1
          · have hof : (bits .xor .u32 ((Y : Int) / 2147483648) (bits .and .u8 ((s[k].toNat : Int) / 2 ^ (7 - m)) 1 % 4294967296) == 1) = true := by
              rw [ref_out Y m s[k] hY, ho]; rfl
            have HO := Lib.hid ho
            clear ho
            go_wp2
            go_round
            case rel => exact ⟨m + 1, Crc.stp Y (s[k].toNat / 2 ^ (7 - m) % 2), by omega, by go_num, by rw [Crc.step_yes Y m _ HO.out, Crc.flip_walk], Crc.stp_lt, Lib.hid (by rw [Crc.run_bit _ _ _ hlm, HY.out])⟩
            case measure => simp [intOf]; omega
          · have hof : (bits .xor .u32 ((Y : Int) / 2147483648) (bits .and .u8 ((s[k].toNat : Int) / 2 ^ (7 - m)) 1 % 4294967296) == 1) = false := by
              rw [ref_out Y m s[k] hY]; exact Crc.not_one ho
            have HO := Lib.hid ho
            clear ho
            go_wp2
            go_round
            case rel => exact ⟨m + 1, Crc.stp Y (s[k].toNat / 2 ^ (7 - m) % 2), by omega, by go_num, by rw [Crc.step_no Y m _ HO.out]; rfl, Crc.stp_lt, Lib.hid (by rw [Crc.run_bit _ _ _ hlm, HY.out])⟩
            case measure => simp [intOf]; omega
        · obtain rfl : m = 8 := by omega
          go_wp2
          go_round
          case rel => exact ⟨k + 1, Y, by omega, by go_num, rfl, hY, Lib.hid (by rw [HY.out, HX.out]; exact (Crc.run_byte _ _ _ (by simpa using hlt)).symm)⟩
          case measure => simp [intOf]; omega
    · go_wp2
      go_ret
      refine ⟨?_, rfl⟩
      rw [HX.out, List.take_of_length_le (by simp; omega)]
      rfl

/-! ### Value -/
def valN (l : List UInt8) : Nat := l.foldl (fun v b => v * 256 + b.toNat) 0
theorem valN_snoc (l : List UInt8) (b : UInt8) : valN (l ++ [b]) = valN l * 256 + b.toNat := by simp [valN]
theorem foldN_lt : ∀ (l : List UInt8) (a : Nat), l.foldl (fun v b => v * 256 + b.toNat) a < (a + 1) * 256 ^ l.length := by
  intro l
  induction l with
  | nil => intro a; simp
  | cons b t ih =>
    intro a
    have hb := b.toNat_lt
    refine Nat.lt_of_lt_of_le (ih (a * 256 + b.toNat)) ?_
    rw [List.length_cons, Nat.pow_succ, Nat.mul_comm (256 ^ t.length) 256, ← Nat.mul_assoc]
    exact Nat.mul_le_mul_right _ (by omega)
theorem valN_lt (l : List UInt8) : valN l < 256 ^ l.length := by
  have := foldN_lt l 0
  simpa [valN] using this
set_option maxHeartbeats 1000000 in
set_option maxRecDepth 100000 in
theorem refValue_any (l : List UInt8) (w : World) (hl : l.length ≤ 6) : Calls Tryz.prog 50 #[.string (txt l)] w fun e w' => e = .returned (.int .i64 (valN l)) ∧ w = w' := by
  go_enter Tryz.func50, Tryz.ntmps50
  go_wp2
  go_loop [3, 4] (fun x i => ∃ (k X : Nat), k ≤ l.length ∧ i = .int .i64 k ∧ x = .int .i64 X ∧ X < 256 ^ 6 ∧ Hid (X = valN (l.take k))) (fun _ i => l.length - (intOf i).toNat)
  case atStart => exact ⟨0, 0, Nat.zero_le _, rfl, rfl, by decide, Lib.hid rfl⟩
  case round =>
    obtain ⟨k, X, hk, rfl, rfl, hX, HX⟩ := hrel
    by_cases hlt : k < l.length
    · have hv := valN_lt (l.take (k + 1))
      have hs := valN_snoc (l.take k) l[k]
      rw [← List.take_succ_eq_append_getElem hlt, ← HX.out] at hs
      have h6 : valN (l.take (k + 1)) < 256 ^ 6 := Nat.lt_of_lt_of_le hv (Nat.pow_le_pow_right (by omega) (by simp; omega))
      have hb := l[k].toNat_lt
      have hki : (k : Int) < (l.length : Int) := by omega
      have hX2 : X * 256 + l[k].toNat < 281474976710656 := by rw [← hs]; exact h6
      have hXs : X < 281474976710656 := by omega
      have hget : (txt l)[k]'(by rw [txt_size]; exact hlt) = l[k] := by show l.toArray[k] = l[k]; simp
      replace hs := Lib.hid hs
      replace h6 := Lib.hid h6
      clear hv
      go_wp2
      go_round
      case rel => exact ⟨k + 1, _, by omega, by go_num, rfl, by rw [← hs.out]; exact h6.out, Lib.hid hs.out.symm⟩
      case measure => simp [intOf]; omega
    · obtain rfl : k = l.length := by omega
      have hx := HX.out
      rw [List.take_length] at hx
      subst hx
      go_wp2
      go_ret
      exact ⟨rfl, rfl⟩

/-! ### High -/
theorem i64_and255 (n : Int) : bits .and .i64 n 255 = n % 256 := by
  have h255 : (BitVec.ofInt 64 255).toNat = 2 ^ 8 - 1 := by decide
  have key : (BitVec.ofInt 64 n &&& BitVec.ofInt 64 255).toNat = (n % ((2 ^ 64 : Nat) : Int)).toNat % 2 ^ 8 := by
    rw [BitVec.toNat_and, BitVec.toNat_ofInt, h255, Nat.and_two_pow_sub_one_eq_mod]
  show IntKind.i64.wrap ((BitVec.ofInt 64 n &&& BitVec.ofInt 64 255).toNat : Nat) = n % 256
  rw [key, IntKind.wrap_i64]
  omega
/-- Zeros, and behind them the last t bytes. -/
def hiL (v n t : Nat) : List UInt8 := List.replicate (n - t) 0 ++ (Crc.be n v).drop (n - t)
theorem hiL_len (v n t : Nat) (h : t ≤ n) : (hiL v n t).length = n := by unfold hiL; rw [List.length_append, List.length_replicate, List.length_drop, Crc.be_length]; omega
theorem hiL_zero (v n : Nat) : hiL v n 0 = List.replicate n 0 := by
  unfold hiL
  rw [Nat.sub_zero, List.drop_of_length_le (by rw [Crc.be_length]; exact Nat.le_refl _), List.append_nil]
theorem hiL_all (v n : Nat) : hiL v n n = Crc.be n v := by unfold hiL; simp
theorem hiL_set (v n t : Nat) (h : t < n) : (hiL v n t).set (n - 1 - t) (UInt8.ofNat (v / 256 ^ t)) = hiL v n (t + 1) := by
  apply List.ext_getElem?
  intro j
  have hl := hiL_len v n t (by omega)
  have hbl := Crc.be_length n v
  rw [List.getElem?_set]
  unfold hiL
  by_cases hj : j < n
  · by_cases h1 : n - 1 - t = j
    · rw [if_pos h1, if_pos (by unfold hiL at hl; omega)]
      rw [List.getElem?_append_right (by simp; omega), List.getElem?_drop]
      have e1 : n - (t + 1) + (j - (List.replicate (n - (t + 1)) (0 : UInt8)).length) = j := by simp; omega
      rw [e1]
      unfold Crc.be
      rw [List.getElem?_map, List.getElem?_range hj]
      have e2 : n - 1 - j = t := by omega
      simp only [Option.map_some, e2]
      rw [Nat.pow_mul]
    · rw [if_neg h1]
      by_cases h2 : j < n - (t + 1)
      · rw [List.getElem?_append_left (by simp; omega), List.getElem?_append_left (by simp; omega)]
        rw [List.getElem?_replicate, List.getElem?_replicate, if_pos (by omega), if_pos h2]
      · rw [List.getElem?_append_right (by simp; omega), List.getElem?_append_right (by simp; omega), List.getElem?_drop, List.getElem?_drop]
        congr 1
        simp
        omega
  · rw [if_neg (by omega)]
    rw [List.getElem?_eq_none (by simp [hbl]; omega), List.getElem?_eq_none (by simp [hbl]; omega)]
set_option maxHeartbeats 2000000 in
set_option maxRecDepth 100000 in
theorem refHigh_any (v n : Nat) (w : World) (hn : n ≤ 8) (hv : v < 281474976710656) : Calls Tryz.prog 46 #[.int .i64 v, .int .i64 n] w fun e w' => e = .returned (.string (txt (Crc.be n v))) ∧ Gr w w' := by
  have hmk := run_make_row' (P := Tryz.prog) 98 5 (.int .u8 0) 1 Tryz.underlying98 infoByte rfl .i64 .i64 n (by omega) (by omega) w
  have hb0 : (w.alloc (.cells (madeCells #[.int .u8 0] n) 5)).ownsRow w.heap.size 5 1 (.slice (some ⟨w.heap.size, 0, none⟩) n n) n ((hiL v n 0).map byteV) := by
    have h := World.ownsRow_lit (e := 5) (size := 1) w (madeCells #[.int .u8 0] n) n (Nat.le_refl _) (by unfold maxLen; omega) (by rw [← Array.length_toList, toList_madeCells_one]; simp)
    rw [toList_madeCells_one] at h
    rw [hiL_zero, List.map_replicate]
    exact h
  have hg0 := gr_alloc w (.cells (madeCells #[.int .u8 0] n) 5) none
  generalize hW1 : w.alloc (.cells (madeCells #[.int .u8 0] n) 5) = W1 at *
  clear hW1
  replace hb0 := Lib.hid hb0
  go_enter Tryz.func46, Tryz.ntmps46
  go_wp2
  go_loopw [0, 6] (fun vv kv wr => ∃ (t x : Nat), t ≤ n ∧ Hid (x = v / 256 ^ t) ∧ x < 281474976710656 ∧ vv = .int .i64 x ∧ kv = .int .i64 ((n : Int) - 1 - (t : Int)) ∧ Hid (wr.ownsRow w.heap.size 5 1 (.slice (some ⟨w.heap.size, 0, none⟩) n n) n ((hiL v n t).map byteV)) ∧ Hid (Below w.heap.size w wr)) (fun _ kv _ => (intOf kv + 1).toNat)
  case atStart => exact ⟨0, v, Nat.zero_le _, by simp [Hid], hv, rfl, by simp, hb0.out, gr_below hg0⟩
  case round =>
    obtain ⟨t, x, ht, hx, hxb, rfl, rfl, hown, hbel⟩ := hrel
    by_cases hlt : t < n
    · obtain ⟨k, hk⟩ : ∃ k : Nat, k = n - 1 - t := ⟨_, rfl⟩
      have hki : (n : Int) - 1 - (t : Int) = (k : Int) := by omega
      have hkn : k < n := by omega
      have hfz := hown.out.frozenAt k
      have hcl := hown.out.cellAt k (by omega)
      have hl := hiL_len v n t ht
      rw [List.getElem?_map, List.getElem?_eq_getElem (by omega), Option.map_some] at hcl
      have hcl2 : ∃ old, wr.cell? ⟨w.heap.size, k, none⟩ = some old := ⟨_, hcl⟩
      clear hcl
      obtain ⟨old, hold⟩ := hcl2
      have hst := hown.out.stored k (byteV (UInt8.ofNat x))
      have hset := hiL_set v n t hlt
      rw [← hx.out, ← hk] at hset
      rw [← List.map_set, hset] at hst
      obtain ⟨hst1, hst2⟩ := hst
      have hbv : byteV (UInt8.ofNat x) = .int .u8 ((x : Int) % 256) := by
        unfold byteV
        congr 1
      rw [hbv] at hst1 hst2
      have hbel2 := below_gr hbel.out hst2 hbel.out.size (fun q hq => by cases hq; exact Nat.le_refl _)
      have hand := i64_and255 (x : Int)
      have hx2 : x / 256 = v / 256 ^ (t + 1) := by rw [hx.out, Nat.pow_succ, Nat.div_div_eq_div_mul]
      have hkI : (k : Int) < (n : Int) := by omega
      have hk0 : (0 : Int) ≤ (k : Int) := by omega
      rw [hki]
      replace hk := Lib.hid hk
      replace hki := Lib.hid hki
      replace hx2 := Lib.hid hx2
      replace hst1 := Lib.hid hst1
      replace hbel2 := Lib.hid hbel2
      clear hst2 hset hbv hl
      go_wp2
      go_roundw
      case rel => exact ⟨t + 1, x / 256, by omega, hx2, by omega, by go_num, by have := hki.out; go_num, hst1.out, hbel2.out⟩
      case measure => have := hki.out; simp [intOf]
    · obtain rfl : t = n := by omega
      have hown' := hown.out
      rw [hiL_all] at hown'
      have hcv := run_string_own (P := Tryz.prog) wr 98 9 5 Tryz.underlying98 Tryz.underlying5 Tryz.underlying9 hown'
      have hki : (t : Int) - 1 - (t : Int) = -1 := by omega
      rw [hki]
      clear hown'
      go_wp2
      go_ret
      exact ⟨rfl, gr_of_below hbel.out (Nat.le_refl _)⟩
theorem refHigh2 (v : Nat) (w : World) (hv : v < 281474976710656) : Calls Tryz.prog 46 #[.int .i64 v, .int .i64 2] w fun e w' => e = .returned (.string (txt (Crc.be 2 v))) ∧ Gr w w' := refHigh_any v 2 w (by decide) hv
theorem refHigh4 (v : Nat) (w : World) (hv : v < 281474976710656) : Calls Tryz.prog 46 #[.int .i64 v, .int .i64 4] w fun e w' => e = .returned (.string (txt (Crc.be 4 v))) ∧ Gr w w' := refHigh_any v 4 w (by decide) hv

/-! ### Frame -/
set_option maxHeartbeats 2000000 in
set_option maxRecDepth 100000 in
theorem refFrame_any (l : List UInt8) (w : World) (hl : l.length ≤ 12000) : Calls Tryz.prog 45 #[.string (txt l)] w fun e w' => e = .returned (.string (txt (Crc.frm l))) ∧ Gr w w' := by
  have hm2 : (txt (Crc.be 2 l.length)).size ≤ maxLen := by rw [txt_size, Crc.be_length]; unfold maxLen; omega
  have hm : (txt l).size ≤ maxLen := by rw [txt_size]; unfold maxLen; omega
  have s1 := Crc.sum_lt (Crc.be 2 l.length)
  have s2 := Crc.sum_lt l
  have hc1 := refSum_any (txt (Crc.be 2 l.length)) 
  have hc2 := refSum_any (txt l)
  rw [txt_data] at hc1 hc2
  go_enter Tryz.func45, Tryz.ntmps45
  go_wp2_with fail
  refine (refHigh2 _ _ (by omega)).mono ?_
  rintro e w1 ⟨rfl, g1⟩
  go_wp2_with fail
  refine (hc1 _ hm2).mono ?_
  rintro e w2 ⟨rfl, rfl⟩
  go_wp2_with fail
  refine (refHigh4 _ _ (by omega)).mono ?_
  rintro e w2 ⟨rfl, g2⟩
  go_wp2_with fail
  refine (hc2 _ hm).mono ?_
  rintro e w3 ⟨rfl, rfl⟩
  go_wp2_with fail
  refine (refHigh4 _ _ (by omega)).mono ?_
  rintro e w3 ⟨rfl, g3⟩
  go_wp2
  go_ret
  refine ⟨?_, gr_trans (gr_trans g1 g2) g3⟩
  simp only [Crc.frm, Crc.head, List.append_assoc]
  rfl

/-! ### Take -/
theorem len4 {x : List UInt8} (h : x.length = 4) : ∃ a b c d, x = [a, b, c, d] := by
  match x, h with
  | [a, b, c, d], _ => exact ⟨a, b, c, d, rfl⟩
theorem be_val {x : List UInt8} (h : x.length = 4) : Crc.be 4 (valN x) = x := by
  obtain ⟨a, b, c, d, rfl⟩ := len4 h
  have ha := a.toNat_lt
  have hb := b.toNat_lt
  have hc := c.toNat_lt
  have hd := d.toNat_lt
  have hv : valN [a, b, c, d] = ((a.toNat * 256 + b.toNat) * 256 + c.toNat) * 256 + d.toNat := by simp [valN]
  rw [hv]
  simp only [Crc.be, List.range, List.range.loop, List.map, Nat.reduceSub, Nat.reduceMul, Nat.reducePow, Nat.div_one]
  have k : ∀ (n : Nat) (u : UInt8), n % 256 = u.toNat → UInt8.ofNat n = u := fun n u h => by
    apply UInt8.toNat_inj.1
    rw [← h]
    simp
  rw [k _ a (by omega), k _ b (by omega), k _ c (by omega), k _ d (by omega)]
theorem val_be (s : Nat) (h : s < 4294967296) : valN (Crc.be 4 s) = s := by
  simp only [Crc.be, List.range, List.range.loop, List.map, Nat.reduceSub, Nat.reduceMul, Nat.reducePow, Nat.div_one, valN, List.foldl]
  simp
  omega
theorem val_sum {x : List UInt8} {s : Nat} (h : x.length = 4) (hs : s < 4294967296) : valN x = s ↔ Crc.be 4 s = x := by
  constructor
  · rintro rfl; exact be_val h
  · rintro rfl; exact val_be s hs
theorem val2 {L : List UInt8} (h : 6 ≤ L.length) : valN (L.take 2) = (L.getD 0 0).toNat * 256 + (L.getD 1 0).toNat := by
  match L, h with
  | a :: b :: t, _ => simp [valN]
theorem sumL (l : List UInt8) (w : World) (h : l.length ≤ 1000000) : Calls Tryz.prog 124 #[.string (txt l)] w fun e w' => e = .returned (.int .u32 (Crc.sum l)) ∧ w = w' := by
  have := refSum_any (txt l) w (by rw [txt_size]; unfold maxLen; omega)
  rwa [txt_data] at this
def TakePost (L : List UInt8) (w : World) (e : Ending) (w' : World) : Prop := e = .returned (.tuple #[.string (txt (Crc.take L).1), .string (txt (Crc.take L).2.1), .int .i64 (Crc.take L).2.2]) ∧ Gr w w'
set_option maxHeartbeats 8000000 in
set_option maxRecDepth 100000 in
theorem refTake_any (L : List UInt8) (w : World) (hL : L.length ≤ 1000000) : Calls Tryz.prog 49 #[.string (txt L)] w (TakePost L w) := by
  by_cases c1 : L.length < 6
  · have hfin : Crc.take L = ([], [], 2) := by unfold Crc.take; rw [if_pos c1]
    have hi1 : (L.length : Int) < 6 := by omega
    replace hfin := Lib.hid hfin
    go_enter Tryz.func49, Tryz.ntmps49
    go_wp2
    go_ret3
    exact ⟨by rw [hfin.out]; rfl, gr_refl _ _⟩
  · have hi1 : (6 : Int) ≤ (L.length : Int) := by omega
    have hi1' : ((L.length : Int) < 6) = False := by simp; omega
    have hi2 : (2 : Int) ≤ (L.length : Int) := by omega
    have x1 : (txt L).extract 0 2 = txt (L.take 2) := str_eq (by rw [Lib.extract_data, txt_data]; rfl)
    have x2 : (txt L).extract 2 6 = txt ((L.drop 2).take 4) := str_eq (by rw [Lib.extract_data, txt_data])
    have hl2 : (L.take 2).length = 2 := by rw [List.length_take]; omega
    have hl4 : ((L.drop 2).take 4).length = 4 := by rw [List.length_take, List.length_drop]; omega
    have hn := val2 (show 6 ≤ L.length by omega)
    obtain ⟨N, hN⟩ : ∃ N, N = valN (L.take 2) := ⟨_, rfl⟩
    have hNlt : N < 65536 := by have := valN_lt (L.take 2); rw [hl2] at this; rw [hN]; simpa using this
    have hcv1 := fun w => refValue_any (L.take 2) w (by omega)
    have hcv2 := fun w => refValue_any ((L.drop 2).take 4) w (by omega)
    have hcs1 := fun w => sumL (L.take 2) w (by omega)
    rw [← hN] at hn
    have hcv1' : ∀ w, Calls Tryz.prog 50 #[.string (txt (L.take 2))] w fun e w' => e = .returned (.int .i64 N) ∧ w = w' := by rw [hN]; exact hcv1
    have hs1 := Crc.sum_lt (L.take 2)
    have hiff := val_sum hl4 hs1
    clear hcv1
    by_cases c2 : valN ((L.drop 2).take 4) = Crc.sum (L.take 2)
    · have hb2 := hiff.1 c2
      rw [c2] at hcv2
      have hwr := IntWalk.i64_in ((Crc.sum (L.take 2) : Nat) : Int) (by omega)
      have hq : (((Crc.sum (L.take 2) : Nat) : Int) != IntKind.i64.wrap ((Crc.sum (L.take 2) : Nat) : Int)) = false := by rw [hwr]; simp
      by_cases c3 : L.length < 10 + N
      · have hi3 : (L.length : Int) < 10 + (N : Int) := by omega
        have hfin : Crc.take L = ([], [], 2) := by
          unfold Crc.take
          rw [if_neg c1, if_neg (by simpa using hb2), ← hn, if_pos c3]
        replace hfin := Lib.hid hfin
        replace hn := Lib.hid hn
        replace hN := Lib.hid hN
        replace hb2 := Lib.hid hb2
        clear hiff
        generalize Crc.sum (L.take 2) = S at *
        generalize L.take 2 = L2 at *
        generalize (L.drop 2).take 4 = L4 at *
        go_enter Tryz.func49, Tryz.ntmps49
        go_wp2_with fail
        refine (hcv1' _).mono ?_
        rintro e w1 ⟨rfl, rfl⟩
        go_wp2_with fail
        go_region_held3 (fun w' => Gr w w') (first | assumption | exact gr_drew _ _) (first | (go_at_call 50; refine (hcv2 _).mono ?_; rintro e w' ⟨rfl, rfl⟩) | (go_at_call 124; refine (hcs1 _).mono ?_; rintro e w' ⟨rfl, rfl⟩))
        go_wp2
        go_ret3
        exact ⟨by rw [hfin.out]; rfl, by assumption⟩
      · have hi3 : ((L.length : Int) < 10 + (N : Int)) = False := by simp; omega
        have hi3b : (10 : Int) + (N : Int) ≤ (L.length : Int) := by omega
        by_cases c4 : 12000 < N
        · have hi4 : decide ((12000 : Int) < (N : Int)) = true := by simp; omega
          have hi4b : (12000 : Int) < (N : Int) := by omega
          have hfin : Crc.take L = ([], [], 10) := by
            unfold Crc.take
            rw [if_neg c1, if_neg (by simpa using hb2), ← hn, if_neg c3, if_pos c4]
          replace hfin := Lib.hid hfin
          replace hn := Lib.hid hn
          replace hN := Lib.hid hN
          replace hb2 := Lib.hid hb2
          clear hiff
          generalize Crc.sum (L.take 2) = S at *
          generalize L.take 2 = L2 at *
          generalize (L.drop 2).take 4 = L4 at *
          go_enter Tryz.func49, Tryz.ntmps49
          go_wp2_with fail
          refine (hcv1' _).mono ?_
          rintro e w1 ⟨rfl, rfl⟩
          go_wp2_with fail
          go_region_held3 (fun w' => Gr w w') (first | assumption | exact gr_drew _ _) (first | (go_at_call 50; refine (hcv2 _).mono ?_; rintro e w' ⟨rfl, rfl⟩) | (go_at_call 124; refine (hcs1 _).mono ?_; rintro e w' ⟨rfl, rfl⟩))
          go_wp2
          go_quiet (fail)
          go_wp2
          go_ret3
          exact ⟨by rw [hfin.out]; rfl, gr_trans (by assumption) (gr_drewN _ _ _)⟩
        · have hi4 : decide ((12000 : Int) < (N : Int)) = false := by simp; omega
          have hi4b : (N : Int) ≤ 12000 := by omega
          have hi4c : ((12000 : Int) < (N : Int)) = False := by simp; omega
          have x3 : (txt L).extract (6 + N) (10 + N) = txt ((L.drop (6 + N)).take 4) := str_eq (by rw [Lib.extract_data, txt_data]; congr 1; omega)
          have x4 : (txt L).extract 6 (6 + N) = txt ((L.drop 6).take N) := str_eq (by rw [Lib.extract_data, txt_data]; congr 1; omega)
          have x5 : (txt L).extract (10 + N) L.length = txt (L.drop (10 + N)) := by
            have := ext_end (txt L) (10 + N)
            rw [txt_size, txt_data] at this
            exact str_eq this
          have hl5 : ((L.drop (6 + N)).take 4).length = 4 := by rw [List.length_take, List.length_drop]; omega
          have hl6 : ((L.drop 6).take N).length ≤ 1000000 := by rw [List.length_take, List.length_drop]; omega
          have hcv3 := fun w => refValue_any ((L.drop (6 + N)).take 4) w (by omega)
          have hcs2 := fun w => sumL ((L.drop 6).take N) w hl6
          have hs2 := Crc.sum_lt ((L.drop 6).take N)
          have hiff2 := val_sum hl5 hs2
          have hdd : (L.drop 6).drop N = L.drop (6 + N) := by rw [List.drop_drop]
          have k1 : (6 : Int) + (N : Int) ≤ (L.length : Int) := by omega
          have k2 : (6 + (N : Int)).toNat = 6 + N := by omega
          have k3 : (10 + (N : Int)).toNat = 10 + N := by omega
          have k4 : (0 : Int) ≤ 6 + (N : Int) := by omega
          have k5 : (0 : Int) ≤ 10 + (N : Int) := by omega
          have k6 : (6 : Int) + (N : Int) ≤ 10 + (N : Int) := by omega
          have k7 : (6 : Int) ≤ 6 + (N : Int) := by omega
          have k8 : 6 + N ≤ 10 + N := by omega
          have kw1 : IntKind.i64.wrap (6 + (N : Int)) = 6 + (N : Int) := IntWalk.i64_in _ (by omega)
          have kw2 : IntKind.i64.wrap (10 + (N : Int)) = 10 + (N : Int) := IntWalk.i64_in _ (by omega)
          have k9 : 6 + N ≤ L.length := by omega
          have k10 : 10 + N ≤ L.length := by omega
          by_cases c5 : valN ((L.drop (6 + N)).take 4) = Crc.sum ((L.drop 6).take N)
          · have hb5 := hiff2.1 c5
            rw [c5] at hcv3
            have hwr2 := IntWalk.i64_in ((Crc.sum ((L.drop 6).take N) : Nat) : Int) (by omega)
            have hq2 : (((Crc.sum ((L.drop 6).take N) : Nat) : Int) != IntKind.i64.wrap ((Crc.sum ((L.drop 6).take N) : Nat) : Int)) = false := by rw [hwr2]; simp
            have hfin : Crc.take L = ((L.drop 6).take N, L.drop (10 + N), 0) := by
              unfold Crc.take
              rw [if_neg c1, if_neg (by simpa using hb2), ← hn, if_neg c3, if_neg c4, if_neg (by rw [hdd]; simpa using hb5)]
            replace hfin := Lib.hid hfin
            replace hn := Lib.hid hn
            replace hN := Lib.hid hN
            replace hb2 := Lib.hid hb2
            replace hb5 := Lib.hid hb5
            clear hiff hiff2 hdd
            generalize Crc.sum (L.take 2) = S at *
            generalize L.take 2 = L2 at *
            generalize (L.drop 2).take 4 = L4 at *
            generalize Crc.sum ((L.drop 6).take N) = S2 at *
            generalize (L.drop 6).take N = L6 at *
            generalize (L.drop (6 + N)).take 4 = L7 at *
            go_enter Tryz.func49, Tryz.ntmps49
            go_wp2_with fail
            refine (hcv1' _).mono ?_
            rintro e w1 ⟨rfl, rfl⟩
            go_wp2_with fail
            go_region_held3 (fun w' => Gr w w') (first | assumption | exact gr_drew _ _) (first | (go_at_call 50; refine (hcv2 _).mono ?_; rintro e w' ⟨rfl, rfl⟩) | (go_at_call 124; refine (hcs1 _).mono ?_; rintro e w' ⟨rfl, rfl⟩))
            go_wp2
            go_region_held3 (fun w' => Gr w w') (first | assumption | exact gr_trans (gr_drew _ _) (gr_drew _ _)) (first | (go_at_call 50; refine (hcv3 _).mono ?_; rintro e w' ⟨rfl, rfl⟩) | (go_at_call 124; refine (hcs2 _).mono ?_; rintro e w' ⟨rfl, rfl⟩))
            go_wp2
            go_quiet (fail)
            go_wp2
            go_ret3
            exact ⟨by rw [hfin.out]; rfl, gr_trans (by assumption) (gr_drewN _ _ _)⟩
          · have hb5 : Crc.be 4 (Crc.sum ((L.drop 6).take N)) ≠ (L.drop (6 + N)).take 4 := fun h => c5 (hiff2.2 h)
            have hwr2 := IntWalk.i64_in ((Crc.sum ((L.drop 6).take N) : Nat) : Int) (by omega)
            have hq2 : (((valN ((L.drop (6 + N)).take 4) : Nat) : Int) != IntKind.i64.wrap ((Crc.sum ((L.drop 6).take N) : Nat) : Int)) = true := by rw [hwr2, bne_iff_ne]; omega
            have hfin : Crc.take L = ([], [], 10) := by
              unfold Crc.take
              rw [if_neg c1, if_neg (by simpa using hb2), ← hn, if_neg c3, if_neg c4, if_pos (by rw [hdd]; exact hb5)]
            replace hfin := Lib.hid hfin
            replace hn := Lib.hid hn
            replace hN := Lib.hid hN
            replace hb2 := Lib.hid hb2
            replace hb5 := Lib.hid hb5
            clear hiff hiff2 hdd
            generalize Crc.sum (L.take 2) = S at *
            generalize L.take 2 = L2 at *
            generalize (L.drop 2).take 4 = L4 at *
            generalize Crc.sum ((L.drop 6).take N) = S2 at *
            generalize (L.drop 6).take N = L6 at *
            generalize (L.drop (6 + N)).take 4 = L7 at *
            generalize valN L7 = V7 at *
            go_enter Tryz.func49, Tryz.ntmps49
            go_wp2_with fail
            refine (hcv1' _).mono ?_
            rintro e w1 ⟨rfl, rfl⟩
            go_wp2_with fail
            go_region_held3 (fun w' => Gr w w') (first | assumption | exact gr_drew _ _) (first | (go_at_call 50; refine (hcv2 _).mono ?_; rintro e w' ⟨rfl, rfl⟩) | (go_at_call 124; refine (hcs1 _).mono ?_; rintro e w' ⟨rfl, rfl⟩))
            go_wp2
            go_region_held3 (fun w' => Gr w w') (first | assumption | exact gr_trans (gr_drew _ _) (gr_drew _ _)) (first | (go_at_call 50; refine (hcv3 _).mono ?_; rintro e w' ⟨rfl, rfl⟩) | (go_at_call 124; refine (hcs2 _).mono ?_; rintro e w' ⟨rfl, rfl⟩))
            go_wp2
            go_ret3
            exact ⟨by rw [hfin.out]; rfl, by assumption⟩
    · have hb2 : Crc.be 4 (Crc.sum (L.take 2)) ≠ (L.drop 2).take 4 := fun h => c2 (hiff.2 h)
      have hwr := IntWalk.i64_in ((Crc.sum (L.take 2) : Nat) : Int) (by omega)
      have hq : (((valN ((L.drop 2).take 4) : Nat) : Int) != IntKind.i64.wrap ((Crc.sum (L.take 2) : Nat) : Int)) = true := by rw [hwr, bne_iff_ne]; omega
      have hfin : Crc.take L = ([], [], 10) := by
        unfold Crc.take
        rw [if_neg c1, if_pos hb2]
      replace hfin := Lib.hid hfin
      replace hn := Lib.hid hn
      replace hN := Lib.hid hN
      replace hb2 := Lib.hid hb2
      clear hiff
      generalize Crc.sum (L.take 2) = S at *
      generalize L.take 2 = L2 at *
      generalize (L.drop 2).take 4 = L4 at *
      generalize valN L4 = V4 at *
      go_enter Tryz.func49, Tryz.ntmps49
      go_wp2_with fail
      refine (hcv1' _).mono ?_
      rintro e w1 ⟨rfl, rfl⟩
      go_wp2_with fail
      go_region_held3 (fun w' => Gr w w') (first | assumption | exact gr_drew _ _) (first | (go_at_call 50; refine (hcv2 _).mono ?_; rintro e w' ⟨rfl, rfl⟩) | (go_at_call 124; refine (hcs1 _).mono ?_; rintro e w' ⟨rfl, rfl⟩))
      go_wp2
      go_ret3
      exact ⟨by rw [hfin.out]; rfl, by assumption⟩
end Go.Proofs.YtmldoeeangekoaaGreat
