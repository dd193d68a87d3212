/-
  window.Do of every name and of all points: what the document's Over says. No condition but a bound on the length.
-/
import Derived.Test.YtkpmonefhpnljaaGreatWinOver
import Derived.Test.YtkpmonefhpnljaaGreatBookMath
namespace Go.Proofs.YtkpmonefhpnljaaGreat
open Go.RowKit

set_option maxHeartbeats 2000000 in
theorem do_none (s : List UInt8) (A : Option Addr) (n c : Nat) (w : World) (hs : ¬ IsFn s) : Do3 s A n c w 0 false 1 := by
  unfold IsFn at hs
  have cF := fun W => fn_none s (fun h => hs (by simp [h])) (fun h => hs (by simp [h])) (fun h => hs (by simp [h])) (fun h => hs (by simp [h])) (fun h => hs (by simp [h])) (fun h => hs (by simp [h])) (fun h => hs (by simp [h])) (fun h => hs (by simp [h])) W
  obtain ⟨S, hS⟩ : ∃ S, S = txt s := ⟨_, rfl⟩
  unfold Do3
  rw [← hS] at cF ⊢
  replace cF := Lib.hid cF
  clear hS
  go_enter Tryz.func10, Tryz.ntmps10
  go_wp2_with fail
  refine (cF.out _).mono ?_
  rintro e W1 ⟨rfl, g1⟩
  go_wp2
  go_ret3
  exact ⟨rfl, g1⟩
set_option maxHeartbeats 2000000 in
theorem do_bad (s : List UInt8) (t : TypeId) (v : Value) (A : Option Addr) (n c : Nat) (zs : List (Int × Int)) (cF : ∀ W, Calls Tryz.prog 20 #[.string (txt s)] W fun e w' => e = .returned (.iface t v) ∧ Gr W w') (w : World) (hn : n ≤ 9223372036854775807) (hr : PtRow w A n zs) (hrb : rightB zs = false) : Do3 s A n c w 0 false 1 := by
  have cR := fun W (g : Gr w W) => winRight_any A n c zs W hn (pt_gr hr g)
  rw [hrb] at cR
  obtain ⟨S, hS⟩ : ∃ S, S = txt s := ⟨_, rfl⟩
  unfold Do3
  rw [← hS] at cF ⊢
  replace cF := Lib.hid cF
  replace cR := Lib.hid cR
  clear hS hr hrb
  go_enter Tryz.func10, Tryz.ntmps10
  go_wp2_with fail
  refine (cF.out _).mono ?_
  rintro e W1 ⟨rfl, g1⟩
  go_wp2_with fail
  refine (cR.out _ g1).mono ?_
  rintro e W2 ⟨rfl, g2⟩
  go_wp2
  go_ret3
  exact ⟨rfl, gr_trans g1 g2⟩
set_option maxHeartbeats 2000000 in
theorem do_zero (s : List UInt8) (t : TypeId) (v : Value) (A : Option Addr) (c : Nat) (cF : ∀ W, Calls Tryz.prog 20 #[.string (txt s)] W fun e w' => e = .returned (.iface t v) ∧ Gr W w') (w : World) : Do3 s A 0 c w 0 false 0 := by
  have cR := fun W => winRight_any A 0 c [] W (by omega) (row_zero _ _ _)
  rw [show rightB [] = true by decide] at cR
  obtain ⟨S, hS⟩ : ∃ S, S = txt s := ⟨_, rfl⟩
  unfold Do3
  rw [← hS] at cF ⊢
  replace cF := Lib.hid cF
  replace cR := Lib.hid cR
  clear hS
  go_enter Tryz.func10, Tryz.ntmps10
  go_wp2_with fail
  refine (cF.out _).mono ?_
  rintro e W1 ⟨rfl, g1⟩
  go_wp2_with fail
  refine (cR.out _).mono ?_
  rintro e W2 ⟨rfl, g2⟩
  go_wp2
  go_ret3
  exact ⟨rfl, gr_trans g1 g2⟩
theorem change_bad (A : Option Addr) (n c : Nat) (w : World) (h2 : 2 ≤ n) (hn : n ≤ 25)
    (hrs : ∀ W, Gr w W → Calls Tryz.prog 74 #[.slice A n c] W fun e w' => e = .returned (.tuple #[.int .i64 0, .int .i64 4]) ∧ Gr W w') :
    Calls Tryz.prog 22 #[.agg #[.bool true], .slice A n c] w fun e w' => e = .returned (.tuple #[.int .i64 0, .bool false, .int .i64 4]) ∧ Gr w w' := by
  have hnl : ((n : Int) < 2) = False := by simp; omega
  replace hrs := Lib.hid hrs
  go_enter Tryz.func22, Tryz.ntmps22
  go_wp2_with fail
  refine (hrs.out _ (gr_alloc w _ none)).mono ?_
  rintro e W2 ⟨rfl, g2⟩
  have g3 := Lib.hid (gr_trans (gr_alloc w _ none) g2)
  clear g2
  go_wp2
  go_ret3
  exact ⟨rfl, g3.out⟩
theorem fn_of {s : List UInt8} (h : IsFn s) : ∃ t v, ∀ W, Calls Tryz.prog 20 #[.string (txt s)] W fun e w' => e = .returned (.iface t v) ∧ Gr W w' := by
  rcases h with rfl | rfl | rfl | rfl | rfl | rfl | rfl | rfl
  · exact ⟨_, _, fn_sum⟩
  · exact ⟨_, _, fn_avg⟩
  · exact ⟨_, _, fn_min⟩
  · exact ⟨_, _, fn_max⟩
  · exact ⟨_, _, fn_count⟩
  · exact ⟨_, _, fn_last⟩
  · exact ⟨_, _, fn_inc⟩
  · exact ⟨_, _, fn_rate⟩
theorem over_of {s : List UInt8} {zs : List (Int × Int)} {v : Int} {b : Bool} {e : Int} {A : Option Addr} {n c : Nat} {w : World} (h : overV s zs = (v, b, e)) (k : Do3 s A n c w v b e) : Calls Tryz.prog 10 #[.string (txt s), .slice A n c] w (OverPost s zs w) := by
  unfold OverPost
  rw [h]
  exact k
theorem finP_eq {p : Int × Int} (h : p.2 ≠ 0 → p.1 = 0) : finP p = (p.1, p.2 == 0, p.2) := by
  unfold finP
  by_cases hz : p.2 = 0
  · rw [if_pos hz, hz]; rfl
  · rw [if_neg hz, h hz, eqF hz]
theorem over_main_v {s : List UInt8} {zs : List (Int × Int)} (hs : IsFn s) (hrb : rightB zs = true) (h0 : 0 < zs.length) (h2 : zs.length < 2 → ¬ s = incL ∧ ¬ s = rateL) : overV s zs = finP (ovP s zs) := by
  unfold overV
  rw [if_neg (by simp [hs, hrb]), if_neg]
  rintro (h | ⟨h, h3 | h3⟩)
  · omega
  · exact (h2 h).1 h3
  · exact (h2 h).2 h3
theorem over_short {s : List UInt8} {zs : List (Int × Int)} (hs : IsFn s) (hrb : rightB zs = true) (h2 : zs.length < 2) (h : s = incL ∨ s = rateL) : overV s zs = (0, false, 0) := by
  unfold overV
  rw [if_neg (by simp [hs, hrb]), if_pos (Or.inr ⟨h2, h⟩)]
theorem do_all (s : List UInt8) (A : Option Addr) (n c : Nat) (zs : List (Int × Int)) (w : World) (hn : n ≤ 9223372036854775807) (hr : PtRow w A n zs) : Calls Tryz.prog 10 #[.string (txt s), .slice A n c] w (OverPost s zs w) := by
  have hl := pt_len hr
  by_cases hs : IsFn s
  · obtain ⟨t, v, cF⟩ := fn_of hs
    cases hrb : rightB zs with
    | false =>
      refine over_of (v := 0) (b := false) (e := 1) ?_ (do_bad s t v A n c zs cF w hn hr hrb)
      unfold overV
      rw [if_pos (Or.inr hrb)]
    | true =>
      rcases Nat.eq_zero_or_pos n with rfl | h0
      · refine over_of (v := 0) (b := false) (e := 0) ?_ (do_zero s t v A c cF w)
        unfold overV
        rw [if_neg (by simp [hs, hrb]), if_pos (Or.inl hl)]
      · obtain ⟨h25, hV, hnl⟩ := pts_facts hr hrb
        have hs2 := hs
        rcases hs with rfl | rfl | rfl | rfl | rfl | rfl | rfl | rfl
        · have ho := over_main_v hs2 hrb (by omega) (fun _ => by decide)
          have hp : ovP sumL zs = sumV n (nums zs) := by rw [← hl]; rfl
          have hz : (sumV n (nums zs)).2 ≠ 0 → (sumV n (nums zs)).1 = 0 := by unfold sumV; split <;> (try split) <;> simp
          rw [hp, finP_eq hz] at ho
          refine over_of ho (do_f_sum sumL _ A n c zs w h0 (by omega) hrb hr fn_sum (fun A' c' W h => ?_))
          unfold sumV
          rw [if_neg (by simp; exact ⟨by omega, hV⟩)]
          split
          · next h1 => exact sum_ok A' n c' (nums zs) W (by omega) h hV h1
          · next h1 => exact sum_over A' n c' (nums zs) W (by omega) h hV h1
        · have ho := over_main_v hs2 hrb (by omega) (fun _ => by decide)
          have hp : ovP avgL zs = meanV n (nums zs) := by rw [← hl]; rfl
          have hm : meanV n (nums zs) = ((nums zs).sum.tdiv n, 0) := by
            unfold meanV
            rw [if_neg (by omega), if_neg (by simp; exact ⟨by omega, hV⟩)]
          rw [hp, hm] at ho
          exact over_of ho (do_avg A n c zs w h0 hr hrb)
        · have ho := over_main_v hs2 hrb (by omega) (fun _ => by decide)
          exact over_of ho (do_min A n c zs w h0 hr hrb)
        · have ho := over_main_v hs2 hrb (by omega) (fun _ => by decide)
          exact over_of ho (do_max A n c zs w h0 hr hrb)
        · have ho := over_main_v hs2 hrb (by omega) (fun _ => by decide)
          have hp : ovP countL zs = ((n : Int), 0) := by rw [← hl]; rfl
          rw [hp] at ho
          exact over_of ho (do_count A n c zs w h0 hr hrb)
        · have ho := over_main_v hs2 hrb (by omega) (fun _ => by decide)
          have hp : ovP lastL zs = ((nums zs).getD (n - 1) 0, 0) := by rw [nums_at, ← hl]; rfl
          rw [hp] at ho
          exact over_of ho (do_last A n c zs w h0 hr hrb)
        · have hd := do_inc A n c zs w hn hr
          have e : doInc zs = incV zs := by unfold doInc; rw [if_pos hrb]
          unfold DoIncPost at hd
          rw [e] at hd
          rcases Nat.lt_or_ge n 2 with h2 | h2
          · refine over_of (over_short hs2 hrb (by omega) (Or.inl rfl)) ?_
            have e2 : incV zs = (0, false, 0) := by unfold incV; rw [if_pos (by omega)]
            rw [e2] at hd
            exact hd
          · have ho := over_main_v hs2 hrb (by omega) (fun h => by omega)
            have hp : ovP incL zs = riseV zs := rfl
            have hz : (riseV zs).2 ≠ 0 → (riseV zs).1 = 0 := by unfold riseV; split <;> simp
            rw [hp, finP_eq hz] at ho
            have e2 : incV zs = ((riseV zs).1, decide ((riseV zs).2 = 0), (riseV zs).2) := by unfold incV; rw [if_neg (by omega)]
            rw [e2] at hd
            refine over_of ho ?_
            have e3 : ((riseV zs).2 == 0) = decide ((riseV zs).2 = 0) := by
              by_cases h : (riseV zs).2 = 0
              · rw [h]; rfl
              · rw [eqF h, decide_eq_false h]
            rw [e3]
            exact hd
        · rcases Nat.lt_or_ge n 2 with h2 | h2
          · refine over_of (over_short hs2 hrb (by omega) (Or.inr rfl)) ?_
            obtain rfl : n = 1 := by omega
            exact do_change A 1 c zs 0 false 0 w (by omega) (by omega) hr hrb (fun W _ => change_one A c W)
          · have ho := over_main_v hs2 hrb (by omega) (fun h => by omega)
            have hp : ovP rateL zs = if (riseV zs).2 = 0 then ((rateP zs).1.tdiv (pT zs (n - 1) - pT zs 0), (rateP zs).2) else (0, 4) := by rw [← hl]; rfl
            by_cases hz : (riseV zs).2 = 0
            · rw [if_pos hz] at hp
              obtain ⟨m, rfl⟩ : ∃ m, n = m + 1 := ⟨n - 1, by omega⟩
              have hzz : (rateP zs).2 ≠ 0 → (rateP zs).1.tdiv (pT zs (m + 1 - 1) - pT zs 0) = 0 := fun h => by
                have : (rateP zs).1 = 0 := by
                  revert h
                  have hR : rateP zs = if tooBig (riseV zs).1 1000 = true then (0, 4) else ((riseV zs).1 * 1000, 0) := by
                    unfold rateP doV
                    rw [if_neg (by simp; exact ⟨riseV_in zs, by unfold In; omega⟩)]
                    rfl
                  rw [hR]
                  split <;> simp
                rw [this]
                exact Int.zero_tdiv _
              rw [hp, finP_eq hzz] at ho
              exact over_of ho (do_rate A m c zs w (by omega) hr hrb hz)
            · rw [if_neg hz] at hp
              rw [hp] at ho
              have h4 : riseV zs = (0, 4) := by
                have := riseV_or zs
                unfold riseV at hz ⊢
                split <;> simp_all
              refine over_of ho (do_change A n c zs 0 false 4 w h0 (by omega) hr hrb (fun W g => change_bad A n c W h2 (by omega) (fun W' g' => ?_)))
              have := rise_any A n c zs W' (by omega) (by omega) (pt_gr hr (gr_trans g g')) (fun k hk => (okP_iff.1 ((right_iff.1 hrb).2 k (by rw [hl]; exact hk))).2.2.1)
              unfold RisePost at this
              rw [h4] at this
              exact this
  · refine over_of (v := 0) (b := false) (e := 1) ?_ (do_none s A n c w hs)
    unfold overV
    rw [if_pos (Or.inl hs)]
set_option maxHeartbeats 4000000 in
set_option maxRecDepth 100000 in
/-- The document's Over. -/
theorem over_any (s : List UInt8) (A : Option Addr) (n c : Nat) (zs : List (Int × Int)) (w : World) (hn : n ≤ 9223372036854775807) (hr : PtRow w A n zs) : Calls Tryz.prog 11 #[.string (txt s), .slice A n c] w (OverPost s zs w) := by
  have hl := pt_len hr
  have cP := refPoints_any A n c zs w hn hr
  by_cases hs : IsFn s
  · have cF := refFn_yes s hs w
    cases hrb : rightB zs with
    | false =>
      have ho : overV s zs = (0, false, 1) := by unfold overV; rw [if_pos (Or.inr hrb)]
      rw [hrb] at cP
      unfold OverPost
      rw [ho]
      obtain ⟨S, hS⟩ : ∃ S, S = txt s := ⟨_, rfl⟩
      rw [← hS] at cF ⊢
      replace cP := Lib.hid cP
      replace cF := Lib.hid cF
      clear hS hr hrb hs
      go_enter Tryz.func11, Tryz.ntmps11
      go_wp2_with fail
      refine cF.out.mono ?_
      rintro e W1 ⟨rfl, hW1⟩
      subst hW1
      go_wp2_with fail
      refine cP.out.mono ?_
      rintro e W2 ⟨rfl, g2⟩
      go_wp2
      go_ret3
      exact ⟨rfl, g2⟩
    | true =>
      by_cases hb : n = 0 ∨ (n < 2 ∧ (s = incL ∨ s = rateL))
      · have ho : overV s zs = (0, false, 0) := by unfold overV; rw [if_neg (by simp [hs, hrb]), if_pos (by rw [hl]; exact hb)]
        rw [hrb] at cP
        unfold OverPost
        rw [ho]
        rcases hb with rfl | ⟨h2, hb⟩
        · obtain ⟨S, hS⟩ : ∃ S, S = txt s := ⟨_, rfl⟩
          rw [← hS] at cF ⊢
          replace cP := Lib.hid cP
          replace cF := Lib.hid cF
          clear hS hr hrb hs
          go_enter Tryz.func11, Tryz.ntmps11
          go_wp2_with fail
          refine cF.out.mono ?_
          rintro e W1 ⟨rfl, hW1⟩
          subst hW1
          go_wp2_with fail
          refine cP.out.mono ?_
          rintro e W2 ⟨rfl, g2⟩
          go_wp2
          go_ret3
          exact ⟨rfl, g2⟩
        · by_cases hz : n = 0
          · subst hz
            obtain ⟨S, hS⟩ : ∃ S, S = txt s := ⟨_, rfl⟩
            rw [← hS] at cF ⊢
            replace cP := Lib.hid cP
            replace cF := Lib.hid cF
            clear hS hr hrb hs
            go_enter Tryz.func11, Tryz.ntmps11
            go_wp2_with fail
            refine cF.out.mono ?_
            rintro e W1 ⟨rfl, hW1⟩
            subst hW1
            go_wp2_with fail
            refine cP.out.mono ?_
            rintro e W2 ⟨rfl, g2⟩
            go_wp2
            go_ret3
            exact ⟨rfl, g2⟩
          · obtain rfl : n = 1 := by omega
            replace cP := Lib.hid cP
            replace cF := Lib.hid cF
            clear hr hrb hs
            unfold incL rateL at hb
            rcases hb with rfl | rfl
            all_goals
              go_enter Tryz.func11, Tryz.ntmps11
              go_wp2_with fail
              refine cF.out.mono ?_
              rintro e W1 ⟨rfl, hW1⟩
              subst hW1
              go_wp2_with fail
              refine cP.out.mono ?_
              rintro e W2 ⟨rfl, g2⟩
              go_wp2
              go_ret3
              exact ⟨rfl, g2⟩
      · have h0 : 0 < n := by omega
        have h2 : n < 2 → ¬ s = incL ∧ ¬ s = rateL := fun h => ⟨fun h3 => hb (Or.inr ⟨h, Or.inl h3⟩), fun h3 => hb (Or.inr ⟨h, Or.inr h3⟩)⟩
        have hm := over_main s A n c zs w hs hr hrb h0 h2
        unfold MainPost at hm
        rw [← over_main_v hs hrb (by omega) (by rw [hl]; exact h2)] at hm
        exact hm
  · have ho : overV s zs = (0, false, 1) := by unfold overV; rw [if_pos (Or.inl hs)]
    unfold OverPost
    rw [ho]
    unfold IsFn at hs
    have cF := refFn_no s (fun h => hs (by simp [h])) (fun h => hs (by simp [h])) (fun h => hs (by simp [h])) (fun h => hs (by simp [h])) (fun h => hs (by simp [h])) (fun h => hs (by simp [h])) (fun h => hs (by simp [h])) (fun h => hs (by simp [h])) w
    obtain ⟨S, hS⟩ : ∃ S, S = txt s := ⟨_, rfl⟩
    rw [← hS] at cF ⊢
    replace cF := Lib.hid cF
    clear hS hr cP hs
    go_enter Tryz.func11, Tryz.ntmps11
    go_wp2_with fail
    refine cF.out.mono ?_
    rintro e W1 ⟨rfl, hW1⟩
    subst hW1
    go_wp2
    go_ret3
    exact ⟨rfl, gr_refl _ _⟩
end Go.Proofs.YtkpmonefhpnljaaGreat
