/-
  The document's Take, over RefNum and GuardFrm. No condition but a bound on the length. (not built yet)
-/
import Derived.Test.YtoidfoalhkoajaaGuardFrm
import Derived.Deep.RegionHeld3
import Derived.BigQuiet
namespace Go.Proofs.Ytoidfoalhkoajaa
open Go.RowKit

abbrev valN := dvN
theorem rvalue13_any (l : List UInt8) (w : World) (hl : l.length ≤ 6) : Calls Try.prog 41 #[.string (txt l)] w fun e w' => e = .returned (.int .i64 (valN l)) ∧ w = w' := refNum_any l w hl
theorem foldN_lt : ∀ (l : List UInt8) (a : Nat), l.foldl (fun v b => v * 256 + b.toNat) a < (a + 1) * 256 ^ l.length := by
  intro l
  induction l with
  | nil => intro a; simp
  | cons b t ih =>
    intro a
    have hb := b.toNat_lt
    refine Nat.lt_of_lt_of_le (ih (a * 256 + b.toNat)) ?_
    rw [List.length_cons, Nat.pow_succ, Nat.mul_comm (256 ^ t.length) 256, ← Nat.mul_assoc]
    exact Nat.mul_le_mul_right _ (by omega)
theorem valN_lt (l : List UInt8) : valN l < 256 ^ l.length := by
  have := foldN_lt l 0
  simpa [valN, dvN] using this
/-! ### Take -/
theorem len4 {x : List UInt8} (h : x.length = 4) : ∃ a b c d, x = [a, b, c, d] := by
  match x, h with
  | [a, b, c, d], _ => exact ⟨a, b, c, d, rfl⟩
theorem be_val {x : List UInt8} (h : x.length = 4) : Crc.be 4 (valN x) = x := by
  obtain ⟨a, b, c, d, rfl⟩ := len4 h
  have ha := a.toNat_lt
  have hb := b.toNat_lt
  have hc := c.toNat_lt
  have hd := d.toNat_lt
  have hv : valN [a, b, c, d] = ((a.toNat * 256 + b.toNat) * 256 + c.toNat) * 256 + d.toNat := by simp [valN, dvN]
  rw [hv]
  simp only [Crc.be, List.range, List.range.loop, List.map, Nat.reduceSub, Nat.reduceMul, Nat.reducePow, Nat.div_one]
  have k : ∀ (n : Nat) (u : UInt8), n % 256 = u.toNat → UInt8.ofNat n = u := fun n u h => by
    apply UInt8.toNat_inj.1
    rw [← h]
    simp
  rw [k _ a (by omega), k _ b (by omega), k _ c (by omega), k _ d (by omega)]
theorem val_be (s : Nat) (h : s < 4294967296) : valN (Crc.be 4 s) = s := by
  simp only [Crc.be, List.range, List.range.loop, List.map, Nat.reduceSub, Nat.reduceMul, Nat.reducePow, Nat.div_one, valN, dvN, List.foldl]
  simp
  omega
theorem val_sum {x : List UInt8} {s : Nat} (h : x.length = 4) (hs : s < 4294967296) : valN x = s ↔ Crc.be 4 s = x := by
  constructor
  · rintro rfl; exact be_val h
  · rintro rfl; exact val_be s hs
theorem val2 {L : List UInt8} (h : 6 ≤ L.length) : valN (L.take 2) = (L.getD 0 0).toNat * 256 + (L.getD 1 0).toNat := by
  match L, h with
  | a :: b :: t, _ => simp [valN, dvN]
theorem sumL (l : List UInt8) (w : World) (h : l.length ≤ 1000000) : Calls Try.prog 42 #[.string (txt l)] w fun e w' => e = .returned (.int .u32 (Crc.sum l)) ∧ w = w' := by
  have := refSum_any (txt l) w (by rw [txt_size]; unfold maxLen; omega)
  rwa [txt_data] at this
def TakePost (L : List UInt8) (w : World) (e : Ending) (w' : World) : Prop := e = .returned (.tuple #[.string (txt (Crc.take L).1), .string (txt (Crc.take L).2.1), .int .i64 (Crc.take L).2.2]) ∧ Gr w w'
set_option maxHeartbeats 8000000 in
set_option maxRecDepth 100000 in
theorem refTake_any (L : List UInt8) (w : World) (hL : L.length ≤ 1000000) : Calls Try.prog 22 #[.string (txt L)] w (TakePost L w) := by
  by_cases c1 : L.length < 6
  · have hfin : Crc.take L = ([], [], 2) := by unfold Crc.take; rw [if_pos c1]
    have hi1 : (L.length : Int) < 6 := by omega
    replace hfin := Lib.hid hfin
    go_enter Try.func22, Try.ntmps22
    go_wp2
    go_ret3
    exact ⟨by rw [hfin.out]; rfl, gr_refl _ _⟩
  · have hi1 : (6 : Int) ≤ (L.length : Int) := by omega
    have hi1' : ((L.length : Int) < 6) = False := by simp; omega
    have hi2 : (2 : Int) ≤ (L.length : Int) := by omega
    have x1 : (txt L).extract 0 2 = txt (L.take 2) := str_eq (by rw [Lib.extract_data, txt_data]; rfl)
    have x2 : (txt L).extract 2 6 = txt ((L.drop 2).take 4) := str_eq (by rw [Lib.extract_data, txt_data])
    have hl2 : (L.take 2).length = 2 := by rw [List.length_take]; omega
    have hl4 : ((L.drop 2).take 4).length = 4 := by rw [List.length_take, List.length_drop]; omega
    have hn := val2 (show 6 ≤ L.length by omega)
    obtain ⟨N, hN⟩ : ∃ N, N = valN (L.take 2) := ⟨_, rfl⟩
    have hNlt : N < 65536 := by have := valN_lt (L.take 2); rw [hl2] at this; rw [hN]; simpa using this
    have hcv1 := fun w => rvalue13_any (L.take 2) w (by omega)
    have hcv2 := fun w => rvalue13_any ((L.drop 2).take 4) w (by omega)
    have hcs1 := fun w => sumL (L.take 2) w (by omega)
    rw [← hN] at hn
    have hcv1' : ∀ w, Calls Try.prog 41 #[.string (txt (L.take 2))] w fun e w' => e = .returned (.int .i64 N) ∧ w = w' := by rw [hN]; exact hcv1
    have hs1 := Crc.sum_lt (L.take 2)
    have hiff := val_sum hl4 hs1
    clear hcv1
    by_cases c2 : valN ((L.drop 2).take 4) = Crc.sum (L.take 2)
    · have hb2 := hiff.1 c2
      rw [c2] at hcv2
      have hwr := IntWalk.i64_in ((Crc.sum (L.take 2) : Nat) : Int) (by omega)
      have hq : (((Crc.sum (L.take 2) : Nat) : Int) != IntKind.i64.wrap ((Crc.sum (L.take 2) : Nat) : Int)) = false := by rw [hwr]; simp
      by_cases c3 : L.length < 10 + N
      · have hi3 : (L.length : Int) < 10 + (N : Int) := by omega
        have hfin : Crc.take L = ([], [], 2) := by
          unfold Crc.take
          rw [if_neg c1, if_neg (by simpa using hb2), ← hn, if_pos c3]
        replace hfin := Lib.hid hfin
        replace hn := Lib.hid hn
        replace hN := Lib.hid hN
        replace hb2 := Lib.hid hb2
        clear hiff
        generalize Crc.sum (L.take 2) = S at *
        generalize L.take 2 = L2 at *
        generalize (L.drop 2).take 4 = L4 at *
        go_enter Try.func22, Try.ntmps22
        go_wp2_with fail
        refine (hcv1' _).mono ?_
        rintro e w1 ⟨rfl, rfl⟩
        go_wp2_with fail
        go_region_held3 (fun w' => Gr w w') (first | assumption | exact gr_drew _ _) (first | (go_at_call 41; refine (hcv2 _).mono ?_; rintro e w' ⟨rfl, rfl⟩) | (go_at_call 42; refine (hcs1 _).mono ?_; rintro e w' ⟨rfl, rfl⟩))
        go_wp2
        go_ret3
        exact ⟨by rw [hfin.out]; rfl, by assumption⟩
      · have hi3 : ((L.length : Int) < 10 + (N : Int)) = False := by simp; omega
        have hi3b : (10 : Int) + (N : Int) ≤ (L.length : Int) := by omega
        by_cases c4 : 12000 < N
        · have hi4 : decide ((12000 : Int) < (N : Int)) = true := by simp; omega
          have hi4b : (12000 : Int) < (N : Int) := by omega
          have hfin : Crc.take L = ([], [], 10) := by
            unfold Crc.take
            rw [if_neg c1, if_neg (by simpa using hb2), ← hn, if_neg c3, if_pos c4]
          replace hfin := Lib.hid hfin
          replace hn := Lib.hid hn
          replace hN := Lib.hid hN
          replace hb2 := Lib.hid hb2
          clear hiff
          generalize Crc.sum (L.take 2) = S at *
          generalize L.take 2 = L2 at *
          generalize (L.drop 2).take 4 = L4 at *
          go_enter Try.func22, Try.ntmps22
          go_wp2_with fail
          refine (hcv1' _).mono ?_
          rintro e w1 ⟨rfl, rfl⟩
          go_wp2_with fail
          go_region_held3 (fun w' => Gr w w') (first | assumption | exact gr_drew _ _) (first | (go_at_call 41; refine (hcv2 _).mono ?_; rintro e w' ⟨rfl, rfl⟩) | (go_at_call 42; refine (hcs1 _).mono ?_; rintro e w' ⟨rfl, rfl⟩))
          go_wp2
          go_quiet (fail)
          go_wp2
          go_ret3
          exact ⟨by rw [hfin.out]; rfl, gr_trans (by assumption) (gr_drewN _ _ _)⟩
        · have hi4 : decide ((12000 : Int) < (N : Int)) = false := by simp; omega
          have hi4b : (N : Int) ≤ 12000 := by omega
          have hi4c : ((12000 : Int) < (N : Int)) = False := by simp; omega
          have x3 : (txt L).extract (6 + N) (10 + N) = txt ((L.drop (6 + N)).take 4) := str_eq (by rw [Lib.extract_data, txt_data]; congr 1; omega)
          have x4 : (txt L).extract 6 (6 + N) = txt ((L.drop 6).take N) := str_eq (by rw [Lib.extract_data, txt_data]; congr 1; omega)
          have x5 : (txt L).extract (10 + N) L.length = txt (L.drop (10 + N)) := by
            have := ext_end (txt L) (10 + N)
            rw [txt_size, txt_data] at this
            exact str_eq this
          have hl5 : ((L.drop (6 + N)).take 4).length = 4 := by rw [List.length_take, List.length_drop]; omega
          have hl6 : ((L.drop 6).take N).length ≤ 1000000 := by rw [List.length_take, List.length_drop]; omega
          have hcv3 := fun w => rvalue13_any ((L.drop (6 + N)).take 4) w (by omega)
          have hcs2 := fun w => sumL ((L.drop 6).take N) w hl6
          have hs2 := Crc.sum_lt ((L.drop 6).take N)
          have hiff2 := val_sum hl5 hs2
          have hdd : (L.drop 6).drop N = L.drop (6 + N) := by rw [List.drop_drop]
          have k1 : (6 : Int) + (N : Int) ≤ (L.length : Int) := by omega
          have k2 : (6 + (N : Int)).toNat = 6 + N := by omega
          have k3 : (10 + (N : Int)).toNat = 10 + N := by omega
          have k4 : (0 : Int) ≤ 6 + (N : Int) := by omega
          have k5 : (0 : Int) ≤ 10 + (N : Int) := by omega
          have k6 : (6 : Int) + (N : Int) ≤ 10 + (N : Int) := by omega
          have k7 : (6 : Int) ≤ 6 + (N : Int) := by omega
          have k8 : 6 + N ≤ 10 + N := by omega
          have kw1 : IntKind.i64.wrap (6 + (N : Int)) = 6 + (N : Int) := IntWalk.i64_in _ (by omega)
          have kw2 : IntKind.i64.wrap (10 + (N : Int)) = 10 + (N : Int) := IntWalk.i64_in _ (by omega)
          have k9 : 6 + N ≤ L.length := by omega
          have k10 : 10 + N ≤ L.length := by omega
          by_cases c5 : valN ((L.drop (6 + N)).take 4) = Crc.sum ((L.drop 6).take N)
          · have hb5 := hiff2.1 c5
            rw [c5] at hcv3
            have hwr2 := IntWalk.i64_in ((Crc.sum ((L.drop 6).take N) : Nat) : Int) (by omega)
            have hq2 : (((Crc.sum ((L.drop 6).take N) : Nat) : Int) != IntKind.i64.wrap ((Crc.sum ((L.drop 6).take N) : Nat) : Int)) = false := by rw [hwr2]; simp
            have hfin : Crc.take L = ((L.drop 6).take N, L.drop (10 + N), 0) := by
              unfold Crc.take
              rw [if_neg c1, if_neg (by simpa using hb2), ← hn, if_neg c3, if_neg c4, if_neg (by rw [hdd]; simpa using hb5)]
            replace hfin := Lib.hid hfin
            replace hn := Lib.hid hn
            replace hN := Lib.hid hN
            replace hb2 := Lib.hid hb2
            replace hb5 := Lib.hid hb5
            clear hiff hiff2 hdd
            generalize Crc.sum (L.take 2) = S at *
            generalize L.take 2 = L2 at *
            generalize (L.drop 2).take 4 = L4 at *
            generalize Crc.sum ((L.drop 6).take N) = S2 at *
            generalize (L.drop 6).take N = L6 at *
            generalize (L.drop (6 + N)).take 4 = L7 at *
            go_enter Try.func22, Try.ntmps22
            go_wp2_with fail
            refine (hcv1' _).mono ?_
            rintro e w1 ⟨rfl, rfl⟩
            go_wp2_with fail
            go_region_held3 (fun w' => Gr w w') (first | assumption | exact gr_drew _ _) (first | (go_at_call 41; refine (hcv2 _).mono ?_; rintro e w' ⟨rfl, rfl⟩) | (go_at_call 42; refine (hcs1 _).mono ?_; rintro e w' ⟨rfl, rfl⟩))
            go_wp2
            go_region_held3 (fun w' => Gr w w') (first | assumption | exact gr_trans (gr_drew _ _) (gr_drew _ _)) (first | (go_at_call 41; refine (hcv3 _).mono ?_; rintro e w' ⟨rfl, rfl⟩) | (go_at_call 42; refine (hcs2 _).mono ?_; rintro e w' ⟨rfl, rfl⟩))
            go_wp2
            go_quiet (fail)
            go_wp2
            go_ret3
            exact ⟨by rw [hfin.out]; rfl, gr_trans (by assumption) (gr_drewN _ _ _)⟩
          · have hb5 : Crc.be 4 (Crc.sum ((L.drop 6).take N)) ≠ (L.drop (6 + N)).take 4 := fun h => c5 (hiff2.2 h)
            have hwr2 := IntWalk.i64_in ((Crc.sum ((L.drop 6).take N) : Nat) : Int) (by omega)
            have hq2 : (((valN ((L.drop (6 + N)).take 4) : Nat) : Int) != IntKind.i64.wrap ((Crc.sum ((L.drop 6).take N) : Nat) : Int)) = true := by rw [hwr2, bne_iff_ne]; omega
            have hfin : Crc.take L = ([], [], 10) := by
              unfold Crc.take
              rw [if_neg c1, if_neg (by simpa using hb2), ← hn, if_neg c3, if_neg c4, if_pos (by rw [hdd]; exact hb5)]
            replace hfin := Lib.hid hfin
            replace hn := Lib.hid hn
            replace hN := Lib.hid hN
            replace hb2 := Lib.hid hb2
            replace hb5 := Lib.hid hb5
            clear hiff hiff2 hdd
            generalize Crc.sum (L.take 2) = S at *
            generalize L.take 2 = L2 at *
            generalize (L.drop 2).take 4 = L4 at *
            generalize Crc.sum ((L.drop 6).take N) = S2 at *
            generalize (L.drop 6).take N = L6 at *
            generalize (L.drop (6 + N)).take 4 = L7 at *
            generalize valN L7 = V7 at *
            go_enter Try.func22, Try.ntmps22
            go_wp2_with fail
            refine (hcv1' _).mono ?_
            rintro e w1 ⟨rfl, rfl⟩
            go_wp2_with fail
            go_region_held3 (fun w' => Gr w w') (first | assumption | exact gr_drew _ _) (first | (go_at_call 41; refine (hcv2 _).mono ?_; rintro e w' ⟨rfl, rfl⟩) | (go_at_call 42; refine (hcs1 _).mono ?_; rintro e w' ⟨rfl, rfl⟩))
            go_wp2
            go_region_held3 (fun w' => Gr w w') (first | assumption | exact gr_trans (gr_drew _ _) (gr_drew _ _)) (first | (go_at_call 41; refine (hcv3 _).mono ?_; rintro e w' ⟨rfl, rfl⟩) | (go_at_call 42; refine (hcs2 _).mono ?_; rintro e w' ⟨rfl, rfl⟩))
            go_wp2
            go_ret3
            exact ⟨by rw [hfin.out]; rfl, by assumption⟩
    · have hb2 : Crc.be 4 (Crc.sum (L.take 2)) ≠ (L.drop 2).take 4 := fun h => c2 (hiff.2 h)
      have hwr := IntWalk.i64_in ((Crc.sum (L.take 2) : Nat) : Int) (by omega)
      have hq : (((valN ((L.drop 2).take 4) : Nat) : Int) != IntKind.i64.wrap ((Crc.sum (L.take 2) : Nat) : Int)) = true := by rw [hwr, bne_iff_ne]; omega
      have hfin : Crc.take L = ([], [], 10) := by
        unfold Crc.take
        rw [if_neg c1, if_pos hb2]
      replace hfin := Lib.hid hfin
      replace hn := Lib.hid hn
      replace hN := Lib.hid hN
      replace hb2 := Lib.hid hb2
      clear hiff
      generalize Crc.sum (L.take 2) = S at *
      generalize L.take 2 = L2 at *
      generalize (L.drop 2).take 4 = L4 at *
      generalize valN L4 = V4 at *
      go_enter Try.func22, Try.ntmps22
      go_wp2_with fail
      refine (hcv1' _).mono ?_
      rintro e w1 ⟨rfl, rfl⟩
      go_wp2_with fail
      go_region_held3 (fun w' => Gr w w') (first | assumption | exact gr_drew _ _) (first | (go_at_call 41; refine (hcv2 _).mono ?_; rintro e w' ⟨rfl, rfl⟩) | (go_at_call 42; refine (hcs1 _).mono ?_; rintro e w' ⟨rfl, rfl⟩))
      go_wp2
      go_ret3
      exact ⟨by rw [hfin.out]; rfl, by assumption⟩
end Go.Proofs.Ytoidfoalhkoajaa
