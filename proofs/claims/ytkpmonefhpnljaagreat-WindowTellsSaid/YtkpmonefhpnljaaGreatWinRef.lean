/-
  What the document's Window and Fn answer. No condition but bounds of the machine's numbers.
-/
import Derived.Test.YtkpmonefhpnljaaGreatWinOf
import Derived.Test.YtkpmonefhpnljaaGreatWinRate
namespace Go.Proofs.YtkpmonefhpnljaaGreat
open Go.RowKit

set_option maxHeartbeats 4000000 in
set_option maxRecDepth 100000 in
theorem refWin_any (A : Option Addr) (n c : Nat) (zs : List (Int × Int)) (t d : Int) (w : World) (hn : n ≤ 9223372036854775807) (hr : PtRow w A n zs) (ht : -9223372036854775808 ≤ t ∧ t ≤ 9223372036854775807) (hd : -9223372036854775808 ≤ d ∧ d ≤ 9223372036854775807) :
    Calls Tryz.prog 6 #[.slice A n c, .int .i64 t, .int .i64 d] w (OfPost zs t d w) := by
  have hl := pt_len hr
  have cR := refPoints_any A n c zs w hn hr
  obtain ⟨ii, hi, hz0, hz1, hz2⟩ := info_parts infoPt
  obtain ⟨ht1, ht2⟩ := ht
  obtain ⟨hd1, hd2⟩ := hd
  cases hrb : rightB zs with
  | false =>
    have hm : mayWin zs t d = false := by unfold mayWin; rw [hrb]; rfl
    rw [hrb] at cR
    replace cR := Lib.hid cR
    replace hm := Lib.hid hm
    replace hl := Lib.hid hl
    replace hrb := Lib.hid hrb
    clear hr
    go_enter Tryz.func6, Tryz.ntmps6
    go_wp2_with fail
    refine cR.out.mono ?_
    rintro e W1 ⟨rfl, g1⟩
    go_wp2
    go_ret
    exact of_none hm.out g1
  | true =>
    rw [hrb] at cR
    replace cR := Lib.hid cR
    by_cases hbad : t < 0 ∨ 1000000000 < t ∨ d < 0 ∨ 1000000000 < d
    · have hm := Lib.hid (mayWin_no (zs := zs) hbad)
      have hcs : t < 0 ∨ (¬ t < 0 ∧ 1000000000 < t) ∨ (¬ t < 0 ∧ ¬ 1000000000 < t ∧ d < 0) ∨ (¬ t < 0 ∧ ¬ 1000000000 < t ∧ ¬ d < 0 ∧ 1000000000 < d) := by omega
      replace hl := Lib.hid hl
      replace hrb := Lib.hid hrb
      clear hr hbad
      rcases hcs with h | ⟨h, h2⟩ | ⟨h, h2, h3⟩ | ⟨h, h2, h3, h4⟩
      all_goals
        go_enter Tryz.func6, Tryz.ntmps6
        go_wp2_with fail
        refine cR.out.mono ?_
        rintro e W1 ⟨rfl, g1⟩
        go_wp2
        go_ret
        exact of_none hm.out g1
    · have t0 : 0 ≤ t := by omega
      have t1 : t ≤ 1000000000 := by omega
      have d0 : 0 ≤ d := by omega
      have d1 : d ≤ 1000000000 := by omega
      have hm : mayWin zs t d = true := by
        unfold mayWin
        rw [hrb, Bool.true_and, Bool.and_eq_true]
        exact ⟨decide_eq_true ⟨t0, t1⟩, decide_eq_true ⟨d0, d1⟩⟩
      have hof : ofP zs t d = zs.filter (inWin t d) := if_pos hm
      have h25 : n ≤ 25 := by rw [← hl]; exact (right_iff.1 hrb).1
      replace hr := Lib.hid hr
      replace hl := Lib.hid hl
      replace hrb := Lib.hid hrb
      replace hm := Lib.hid hm
      replace hof := Lib.hid hof
      clear hbad
      go_enter Tryz.func6, Tryz.ntmps6
      go_wp2_with fail
      refine cR.out.mono ?_
      rintro e W1 ⟨rfl, g1⟩
      have bel1 := Lib.hid (gr_below g1)
      clear g1
      go_wp2_with fail
      go_loopw [7, 8] (fun ov i wr => ∃ k : Nat, k ≤ n ∧ i = .int .i64 k ∧ Hid (wr.ownsRow w.heap.size 43 2 ov ((zs.take k).filter (inWin t d)).length (pcs ((zs.take k).filter (inWin t d)))) ∧ Hid (Below w.heap.size w wr)) (fun _ i _ => n - (intOf i).toNat)
      case atStart => exact ⟨0, Nat.zero_le _, rfl, World.ownsRow_nil _ _ _ _, bel1.out⟩
      case round =>
        obtain ⟨k, hk, rfl, hown, hbel⟩ := hrel
        have hs := hbel.out.size
        by_cases hlt : k < n
        · obtain ⟨⟨T, V⟩, B, o, hx, rfl, hB, hc1, hc2⟩ := pt_elem (pt_gr hr.out (gr_of_below hbel.out (Nat.le_refl _))) hlt
          have hki : (k : Int) < (n : Int) := by omega
          have hk0 : (0 : Int) ≤ (k : Int) := by omega
          have hfn := filter_next (inWin t d) hx
          have hfl : ((zs.take k).filter (inWin t d)).length ≤ 25 := by
            have h1 := List.length_filter_le (inWin t d) (zs.take k)
            have h2 := List.length_take_le k zs
            omega
          generalize (zs.take k).filter (inWin t d) = F at *
          replace hx := Lib.hid hx
          have hwr : IntKind.i64.wrap (t - d) = t - d := IntWalk.i64_in _ (by omega)
          by_cases hin : t - d < T ∧ T ≤ t
          · have hp : inWin t d (T, V) = true := by unfold inWin; rw [decide_eq_true hin.1, decide_eq_true hin.2]; rfl
            rw [hp, if_pos rfl] at hfn
            replace hfn := Lib.hid hfn
            obtain ⟨hin1, hin2⟩ := hin
            clear hp
            go_wp2_with (at_builtin; refine wpList_append_own _ rfl _ _ 22 rfl w.heap.size 43 ii (.agg #[.int .i64 0, .int .i64 0]) 2 16 Tryz.underlying22 hi hz0 hz1 hz2 rfl (by decide) u7 _ _ rfl (hown.out.alloc _) ⟨wr.heap.size, 0, none⟩ 1 1 [.int .i64 T, .int .i64 V] rfl rfl ?c1 ?c2 ?c3 ?c4 ?c5 ?_; rotate_right; intro v' W4 hown4 hgrow _nl; clear _nl; have hb4 := hbel.out.trans (below_append hown.out hgrow hbel.out.size); clear hgrow; replace hown4 := Lib.hid hown4; replace hb4 := Lib.hid hb4)
            case c2 => simp [Value.oneCell']
            case c3 => unfold maxLen; omega
            case c4 => omega
            case c5 => omega
            go_roundw
            case rel =>
              refine ⟨k + 1, by omega, by go_num, ?_, hb4.out⟩
              have := hown4.out
              rw [hfn.out, pcs_append, List.length_append]
              exact this
            case measure => simp [intOf]; omega
          · have hp : inWin t d (T, V) = false := by
              unfold inWin
              rw [Bool.and_eq_false_iff]
              by_cases h1 : t - d < T
              · exact Or.inr (decide_eq_false fun h2 => hin ⟨h1, h2⟩)
              · exact Or.inl (decide_eq_false h1)
            rw [hp, if_neg (by simp), List.append_nil] at hfn
            replace hfn := Lib.hid hfn
            clear hp
            have hcs : ¬ t - d < T ∨ (t - d < T ∧ ¬ T ≤ t) := by omega
            clear hin
            rcases hcs with h1 | ⟨h1, h2⟩
            all_goals
              go_wp2
              go_roundw
              case rel => exact ⟨k + 1, by omega, by go_num, by rw [hfn.out]; exact hown.out, hbel.out⟩
              case measure => simp [intOf]; omega
        · obtain rfl : k = n := by omega
          have ho := hown.out
          rw [List.take_of_length_le (Nat.le_of_eq hl.out), ← hof.out] at ho
          replace ho := Lib.hid ho
          go_wp2
          go_ret
          exact ⟨_, rfl, ho.out, gr_of_below hbel.out (Nat.le_refl _)⟩
def fnB (s : List UInt8) : Bool := s == sumL || s == minL || s == maxL || s == countL || s == avgL || s == lastL || s == incL || s == rateL
theorem refFn_no (s : List UInt8) (h0 : ¬ s = sumL) (h1 : ¬ s = avgL) (h2 : ¬ s = minL) (h3 : ¬ s = maxL) (h4 : ¬ s = countL) (h5 : ¬ s = lastL) (h6 : ¬ s = incL) (h7 : ¬ s = rateL) (w : World) : Calls Tryz.prog 16 #[.string (txt s)] w fun e w' => e = .returned (.bool false) ∧ w = w' := by
  have t0 : (s == [115, 117, 109, 95, 111, 118, 101, 114]) = false := eqL h0
  have t1 : (s == [97, 118, 103, 95, 111, 118, 101, 114]) = false := eqL h1
  have t2 : (s == [109, 105, 110, 95, 111, 118, 101, 114]) = false := eqL h2
  have t3 : (s == [109, 97, 120, 95, 111, 118, 101, 114]) = false := eqL h3
  have t4 : (s == [99, 111, 117, 110, 116, 95, 111, 118, 101, 114]) = false := eqL h4
  have t5 : (s == [108, 97, 115, 116, 95, 111, 118, 101, 114]) = false := eqL h5
  have t6 : (s == [105, 110, 99, 114, 101, 97, 115, 101]) = false := eqL h6
  have t7 : (s == [114, 97, 116, 101]) = false := eqL h7
  go_enter Tryz.func16, Tryz.ntmps16
  go_wp2
  go_ret
  exact ⟨rfl, rfl⟩
theorem refFn_yes (s : List UInt8) (h : s = sumL ∨ s = avgL ∨ s = minL ∨ s = maxL ∨ s = countL ∨ s = lastL ∨ s = incL ∨ s = rateL) (w : World) : Calls Tryz.prog 16 #[.string (txt s)] w fun e w' => e = .returned (.bool true) ∧ w = w' := by
  unfold sumL avgL minL maxL countL lastL incL rateL at h
  rcases h with rfl | rfl | rfl | rfl | rfl | rfl | rfl | rfl
  all_goals
    go_enter Tryz.func16, Tryz.ntmps16
    go_wp2
    go_ret
    exact ⟨rfl, rfl⟩
end Go.Proofs.YtkpmonefhpnljaaGreat
