/-
  What the document's Over answers of every name and of all points. No condition but a bound on the length.
-/
import Derived.Test.YtkpmonefhpnljaaGreatWinRef
import Derived.Test.YtkpmonefhpnljaaGreatWinEachMath
import Derived.Test.YtkpmonefhpnljaaGreatWinFn
import Derived.Test.YtkpmonefhpnljaaGreatFixedRefDo
import Derived.Test.YtkpmonefhpnljaaGreatFixedRefSum
namespace Go.Proofs.YtkpmonefhpnljaaGreat
open Go.RowKit

def finP (p : Int × Int) : Int × Bool × Int := if p.2 = 0 then (p.1, true, 0) else (0, false, p.2)
def ovP (s : List UInt8) (zs : List (Int × Int)) : Int × Int :=
  if s = sumL then sumV zs.length (nums zs) else if s = avgL then meanV zs.length (nums zs) else if s = minL then (Lib.minOf (nums zs), 0) else if s = maxL then (Lib.maxOf (nums zs), 0)
  else if s = countL then ((zs.length : Int), 0) else if s = lastL then (pV zs (zs.length - 1), 0) else if s = incL then riseV zs
  else if (riseV zs).2 = 0 then ((rateP zs).1.tdiv (pT zs (zs.length - 1) - pT zs 0), (rateP zs).2) else (0, 4)
def IsFn (s : List UInt8) : Prop := s = sumL ∨ s = avgL ∨ s = minL ∨ s = maxL ∨ s = countL ∨ s = lastL ∨ s = incL ∨ s = rateL
instance (s : List UInt8) : Decidable (IsFn s) := by unfold IsFn; exact inferInstance
def overV (s : List UInt8) (zs : List (Int × Int)) : Int × Bool × Int :=
  if ¬ IsFn s ∨ rightB zs = false then (0, false, 1) else if zs.length = 0 ∨ (zs.length < 2 ∧ (s = incL ∨ s = rateL)) then (0, false, 0) else finP (ovP s zs)
def OverPost (s : List UInt8) (zs : List (Int × Int)) (w : World) (e : Ending) (w' : World) : Prop := e = ret3 (overV s zs).1 (overV s zs).2.1 (overV s zs).2.2 ∧ Gr w w'
def mnK (zs : List (Int × Int)) (k : Nat) : Int := Lib.minOf ((nums zs).take (max k 1))
def mxK (zs : List (Int × Int)) (k : Nat) : Int := Lib.maxOf ((nums zs).take (max k 1))
def ovB (zs : List (Int × Int)) (k : Nat) : Bool := (rds zs (k - 1)).any fun x => !inB x
def grK (zs : List (Int × Int)) (k : Nat) : Int := (rds zs (k - 1)).sum
theorem nums_at (zs : List (Int × Int)) (k : Nat) : (nums zs).getD k 0 = pV zs k := by
  unfold nums pV
  rw [List.getD_eq_getElem?_getD, List.getD_eq_getElem?_getD, List.getElem?_map]
  cases zs[k]? <;> rfl
theorem nums_len (zs : List (Int × Int)) : (nums zs).length = zs.length := by simp [nums]
theorem mnK_step {zs : List (Int × Int)} {k : Nat} (hk : k < zs.length) : mnK zs (k + 1) = min (mnK zs k) (pV zs k) := by
  unfold mnK
  rcases Nat.eq_zero_or_pos k with rfl | h
  · show Lib.minOf ((nums zs).take 1) = min (Lib.minOf ((nums zs).take 1)) _
    rw [Lib.minOf_one, nums_at]; simp
  · rw [Nat.max_eq_left (by omega), Nat.max_eq_left (by omega), Lib.minOf_step _ _ h (by rw [nums_len]; exact hk), nums_at]
theorem mxK_step {zs : List (Int × Int)} {k : Nat} (hk : k < zs.length) : mxK zs (k + 1) = max (mxK zs k) (pV zs k) := by
  unfold mxK
  rcases Nat.eq_zero_or_pos k with rfl | h
  · show Lib.maxOf ((nums zs).take 1) = max (Lib.maxOf ((nums zs).take 1)) _
    rw [Lib.maxOf_one, nums_at]; simp
  · rw [Nat.max_eq_left (by omega), Nat.max_eq_left (by omega), Lib.maxOf_step _ _ h (by rw [nums_len]; exact hk), nums_at]
theorem mnK_all {zs : List (Int × Int)} (h : 0 < zs.length) : mnK zs zs.length = Lib.minOf (nums zs) := by
  unfold mnK; rw [List.take_of_length_le]; rw [nums_len]; omega
theorem mxK_all {zs : List (Int × Int)} (h : 0 < zs.length) : mxK zs zs.length = Lib.maxOf (nums zs) := by
  unfold mxK; rw [List.take_of_length_le]; rw [nums_len]; omega
theorem mnK_zero (zs : List (Int × Int)) : mnK zs 0 = pV zs 0 := by
  show Lib.minOf ((nums zs).take 1) = _
  rw [Lib.minOf_one, nums_at]
theorem mxK_zero (zs : List (Int × Int)) : mxK zs 0 = pV zs 0 := by
  show Lib.maxOf ((nums zs).take 1) = _
  rw [Lib.maxOf_one, nums_at]
theorem rds_next {zs : List (Int × Int)} {k : Nat} (h : 0 < k) : rds zs (k + 1 - 1) = rds zs (k - 1) ++ [rd zs k] := by
  have := rds_succ zs (k - 1)
  rw [show k - 1 + 1 = k by omega] at this
  exact this
theorem ovB_next {zs : List (Int × Int)} {k : Nat} (h : 0 < k) : ovB zs (k + 1) = (ovB zs k || !inB (rd zs k)) := by
  unfold ovB; rw [rds_next h, List.any_append]; simp
theorem grK_next {zs : List (Int × Int)} {k : Nat} (h : 0 < k) : grK zs (k + 1) = grK zs k + rd zs k := by
  unfold grK; rw [rds_next h, List.sum_append]; simp
theorem grK_rng {zs : List (Int × Int)} {k : Nat} (hk : k ≤ zs.length) (h25 : zs.length ≤ 25) (hV : ∀ j, j < zs.length → In (pV zs j)) : -2000000000000 * (k : Int) ≤ grK zs k ∧ grK zs k ≤ 2000000000000 * (k : Int) := by
  induction k with
  | zero => simp [grK, rds]
  | succ k ih =>
    rcases Nat.eq_zero_or_pos k with rfl | h
    · simp [grK, rds]
    · rw [grK_next h]
      have := ih (by omega)
      have h2 := rd_rng (zs := zs) (i := k) (hV _ (by omega)) (hV _ (by omega))
      omega
theorem riseV_ov (zs : List (Int × Int)) : riseV zs = if ovB zs zs.length = true ∨ ¬ In (grK zs zs.length) then (0, 4) else (grK zs zs.length, 0) := by
  unfold riseV ovB grK
  by_cases h : ∀ x ∈ rds zs (zs.length - 1), In x
  · have h1 : ((rds zs (zs.length - 1)).any fun x => !inB x) = false := by
      rw [List.any_eq_false]
      intro x hx
      rw [(inB_iff x).2 (h x hx)]; simp
    rw [h1]
    by_cases h2 : In (rds zs (zs.length - 1)).sum
    · rw [if_pos ⟨h, h2⟩, if_neg (by simp [h2])]
    · rw [if_neg (fun h3 => h2 h3.2), if_pos (Or.inr h2)]
  · have h1 : ((rds zs (zs.length - 1)).any fun x => !inB x) = true := by
      rw [List.any_eq_true]
      apply Classical.byContradiction
      intro hn
      apply h
      intro x hx
      apply (inB_iff x).1
      cases hb : inB x with
      | true => rfl
      | false => exact absurd ⟨x, hx, by rw [hb]; rfl⟩ hn
    rw [if_neg (fun h3 => h h3.1), if_pos (Or.inl h1)]
theorem inB_true {x : Int} (h : In x) : inB x = true := (inB_iff x).2 h
theorem inB_false {x : Int} (h : ¬ In x) : inB x = false := by
  cases hb : inB x with
  | false => rfl
  | true => exact absurd ((inB_iff x).1 hb) h
theorem fin_zero (a : Int) : finP (a, 0) = (a, true, 0) := rfl
theorem fin_not (a : Int) {b : Int} (h : ¬ b = 0) : finP (a, b) = (0, false, b) := by unfold finP; rw [if_neg h]
def OvInv (w : World) (zs : List (Int × Int)) (k : Nat) (ov : Value) (wr : World) : Prop := wr.ownsRow w.heap.size 3 1 ov k (((nums zs).take k).map (.int .i64)) ∧ Below w.heap.size w wr
theorem nums_take {zs : List (Int × Int)} {k : Nat} (hk : k < zs.length) : (nums zs).take (k + 1) = (nums zs).take k ++ [pV zs k] := by
  have h : k < (nums zs).length := by rw [nums_len]; exact hk
  rw [List.take_succ_eq_append_getElem h, ← nums_at, List.getD_eq_getElem?_getD, List.getElem?_eq_getElem h]
  rfl
theorem ov_step {w W4 W5 : World} {zs : List (Int × Int)} {k : Nat} {v' : Value} {V : Int} (h : (nums zs).take (k + 1) = (nums zs).take k ++ [V]) (ho : W4.ownsRow w.heap.size 3 1 v' (k + 1) (((nums zs).take k).map (.int .i64) ++ [.int .i64 V])) (hb : Below w.heap.size w W4) (g : Gr W4 W5) : OvInv w zs (k + 1) v' W5 := by
  refine ⟨?_, below_gr hb g hb.size (by simp)⟩
  rw [h, List.map_append]
  exact ho.kept g (by cases v'.ownBlock <;> simp)
def MainPost (s : List UInt8) (zs : List (Int × Int)) (w : World) (e : Ending) (w' : World) : Prop := e = ret3 (finP (ovP s zs)).1 (finP (ovP s zs)).2.1 (finP (ovP s zs)).2.2 ∧ Gr w w'
set_option maxHeartbeats 200000000 in
set_option maxRecDepth 100000 in
theorem over_main (s : List UInt8) (A : Option Addr) (n c : Nat) (zs : List (Int × Int)) (w : World) (hs : IsFn s) (hr : PtRow w A n zs) (hrb : rightB zs = true) (h0 : 0 < n) (h2 : n < 2 → ¬ s = incL ∧ ¬ s = rateL) :
    Calls Tryz.prog 11 #[.string (txt s), .slice A n c] w (MainPost s zs w) := by
  have hl := pt_len hr
  have h25 : n ≤ 25 := by rw [← hl]; exact (right_iff.1 hrb).1
  have hV : ∀ k, k < zs.length → In (pV zs k) := fun k hk => (okP_iff.1 ((right_iff.1 hrb).2 k hk)).2.2.1
  have cP := refPoints_any A n c zs w (by omega) hr
  rw [hrb] at cP
  have cF := refFn_yes s hs w
  obtain ⟨ii, hi, hz0, hz1, hz2⟩ := info_parts infoInt
  obtain ⟨B, o, rfl, _, _, _⟩ := pt_cell hr h0
  have hn0 : ((n : Int) == 0) = false := eqF (by omega)
  have hnp : (0 : Int) < (n : Int) := by omega
  replace hr := Lib.hid hr
  replace hl := Lib.hid hl
  replace hV := Lib.hid hV
  replace cP := Lib.hid cP
  replace cF := Lib.hid cF
  replace hs := Lib.hid hs
  replace hrb := Lib.hid hrb
  obtain ⟨SS, hSS⟩ : ∃ SS, SS = txt s := ⟨_, rfl⟩
  have h2f : n < 2 → (s == [105, 110, 99, 114, 101, 97, 115, 101]) = false ∧ (s == [114, 97, 116, 101]) = false := fun h => ⟨eqL (h2 h).1, eqL (h2 h).2⟩
  clear h2
  replace h2f := Lib.hid h2f
  clear hSS
  go_enter Tryz.func11, Tryz.ntmps11
  go_wp2_with fail
  refine cF.out.mono ?_
  rintro e W1 ⟨rfl, hW1⟩
  subst hW1
  go_wp2_with fail
  refine cP.out.mono ?_
  rintro e W2 ⟨rfl, g2⟩
  replace g2 := Lib.hid g2
  go_upto_region 3 with fail
  go_cut [39] (fun s39 wx => s39 = .bool false ∧ W2 = wx)
  case first =>
    by_cases hlt : n < 2
    · obtain ⟨f1, f2⟩ := h2f.out hlt
      have hlti : (n : Int) < 2 := by omega
      go_wp2_with fail
      go_meet
      exact ⟨rfl, rfl⟩
    · have hlti : ¬ (n : Int) < 2 := by omega
      go_wp2_with fail
      go_meet
      exact ⟨rfl, rfl⟩
  case rest =>
  obtain ⟨rfl, rfl⟩ := hcut
  have hc0 : W2.cell? ⟨B, o + 1, none⟩ = some (.int .i64 (pV zs 0)) := by
    have := (pt_cells (pt_gr hr.out g2.out) (k := 0) h0).2
    simpa using this
  obtain ⟨V0, hV0⟩ : ∃ V0, V0 = pV zs 0 := ⟨_, rfl⟩
  rw [← hV0] at hc0
  have hm0 : V0 = mnK zs 0 := by rw [hV0, mnK_zero]
  have hx0 : V0 = mxK zs 0 := by rw [hV0, mxK_zero]
  replace hV0 := Lib.hid hV0
  replace hm0 := Lib.hid hm0
  replace hx0 := Lib.hid hx0
  go_wp2_with fail
  go_quiet (fail)
  go_wp2_with fail
  go_loopw [7, 8, 9, 10, 11, 12] (fun ov lv mv gv bv iv wr => ∃ (k : Nat) (a b g : Int) (x : Bool), k ≤ n ∧ iv = .int .i64 k ∧ lv = .int .i64 a ∧ mv = .int .i64 b ∧ gv = .int .i64 g ∧ bv = .bool x ∧ Hid (a = mnK zs k) ∧ Hid (b = mxK zs k) ∧ Hid (g = grK zs k) ∧ Hid (x = ovB zs k) ∧ Hid (OvInv w zs k ov wr)) (fun _ _ _ _ _ iv _ => n - (intOf iv).toNat)
  case atStart => exact ⟨0, V0, V0, 0, false, Nat.zero_le _, rfl, rfl, rfl, rfl, rfl, hm0.out, hx0.out, rfl, rfl, World.ownsRow_nil _ _ _ _, gr_below (gr_trans g2.out (gr_drewN _ _ _))⟩
  case round =>
    obtain ⟨k, a, b, g, x, hk, rfl, rfl, rfl, rfl, rfl, ha, hb, hg, hx, hinv⟩ := hrel
    have hss := hinv.out.2.size
    have hrw := pt_gr hr.out (gr_of_below hinv.out.2 (Nat.le_refl _))
    by_cases hlt : k < n
    · obtain ⟨_, hc2⟩ := pt_cells hrw hlt
      have hki : (k : Int) < (n : Int) := by omega
      have hk0 : (0 : Int) ≤ (k : Int) := by omega
      have hnx := nums_take (zs := zs) (k := k) (by rw [hl.out]; exact hlt)
      have hmn := mnK_step (zs := zs) (k := k) (by rw [hl.out]; exact hlt)
      have hmx := mxK_step (zs := zs) (k := k) (by rw [hl.out]; exact hlt)
      rw [← ha.out] at hmn
      rw [← hb.out] at hmx
      have hc2f : ∀ W', Below w.heap.size w W' → W'.cell? ⟨B, o + k * 2 + 1, none⟩ = some (.int .i64 (pV zs k)) := fun W' h => (pt_cells (pt_gr hr.out (gr_of_below h (Nat.le_refl _))) hlt).2
      have hprev : 0 < k → ∀ W', Below w.heap.size w W' → W'.cell? ⟨B, o + (k - 1) * 2 + 1, none⟩ = some (.int .i64 (pV zs (k - 1))) := fun h W' h2 => (pt_cells (pt_gr hr.out (gr_of_below h2 (Nat.le_refl _))) (k := k - 1) (by omega)).2
      have hv2 := hV.out k (by rw [hl.out]; exact hlt)
      have hv1 : 0 < k → In (pV zs (k - 1)) := fun h => hV.out (k - 1) (by rw [hl.out]; omega)
      have hgr := grK_rng (zs := zs) (k := k) (by rw [hl.out]; omega) (by rw [hl.out]; exact h25) hV.out
      rw [← hg.out] at hgr
      have hD : rd zs k = if pV zs (k - 1) ≤ pV zs k then pV zs k - pV zs (k - 1) else pV zs k := rfl
      have hon : 0 < k → ovB zs (k + 1) = (x || !inB (rd zs k)) := fun h => by rw [ovB_next h, hx.out]
      have hgn : 0 < k → grK zs (k + 1) = g + rd zs k := fun h => by rw [grK_next h, hg.out]
      generalize rd zs k = D at *
      generalize pV zs (k - 1) = P at *
      generalize pV zs k = V at *
      replace hnx := Lib.hid hnx
      replace hc2f := Lib.hid hc2f
      replace hmn := Lib.hid hmn
      replace hmx := Lib.hid hmx
      have hown := Lib.hid hinv.out.1
      have hbel := Lib.hid hinv.out.2
      unfold In at hv2 hv1
      obtain ⟨v0, v1⟩ := hv2
      obtain ⟨gr0, gr1⟩ := hgr
      by_cases hkz : 0 < k
      · have hkp : (0 : Int) < (k : Int) := by omega
        have y0 : (0 : Int) ≤ (k : Int) - 1 := by omega
        have y0' : (1 : Int) ≤ (k : Int) := by omega
        have y1 : (k : Int) - 1 < (n : Int) := by omega
        have y2 : ((k : Int) - 1).toNat = k - 1 := by omega
        have hp2 := Lib.hid (hprev hkz)
        have hon2 := hon hkz
        have hgn2 := hgn hkz
        obtain ⟨p0, p1⟩ := hv1 hkz
        clear hprev hon hgn hv1
        by_cases hge : P ≤ V
        · rw [if_pos hge] at hD
          subst hD
          have hgd : -9223372036854775808 ≤ g + (V - P) ∧ g + (V - P) ≤ 9223372036854775807 := by omega
          have hgw : IntKind.i64.wrap (g + (V - P)) = g + (V - P) := IntWalk.i64_in _ hgd
          cases x with
          | true =>
            rw [Bool.true_or] at hon2
            replace hon2 := Lib.hid hon2
            replace hgn2 := Lib.hid hgn2
            go_wp2_with (at_builtin; refine wpList_append_own _ rfl _ _ 57 rfl w.heap.size 3 ii (.int .i64 0) 1 8 Tryz.underlying57 hi hz0 hz1 hz2 rfl (by decide) u7 _ _ rfl (hown.out.alloc _) ⟨wr.heap.size, 0, none⟩ 1 1 [.int .i64 V] rfl rfl ?c1b ?c2b ?c3b ?c4b ?c5b ?_; rotate_right; intro v' W4 hown4 hgrow _nl; clear _nl; have hb4 := hbel.out.trans (below_append hown.out hgrow hbel.out.size); have d2 := hc2f.out _ hb4; have d3 := hp2.out _ hb4; clear hgrow; replace hown4 := Lib.hid hown4; replace hb4 := Lib.hid hb4)
            try (case c1b => exact cell_one_new _ _ _)
            case c2b => simp [Value.oneCell']
            case c3b => unfold maxLen; omega
            case c4b => omega
            case c5b => first | omega | (simp; omega)
            go_quiet (fail)
            go_wp2_with fail
            go_quiet (fail)
            go_wp2_with fail
            go_quiet (fail)
            go_wp2_with fail
            go_roundw
            case rel => exact ⟨k + 1, _, _, _, _, by omega, by go_num, rfl, rfl, rfl, rfl, hmn.out.symm, hmx.out.symm, hgn2.out.symm, hon2.out.symm, ov_step hnx.out hown4.out hb4.out (by first | exact gr_trans (gr_trans (gr_drewN _ _ _) (gr_drewN _ _ _)) (gr_drewN _ _ _) | exact gr_trans (gr_drewN _ _ _) (gr_drewN _ _ _) | exact gr_drewN _ _ _)⟩
            case measure => simp [intOf]; omega
          | false =>
            by_cases hin : In (V - P)
            · rw [inB_true hin] at hon2
              replace hon2 := Lib.hid hon2
              replace hgn2 := Lib.hid hgn2
              go_wp2_with (at_builtin; refine wpList_append_own _ rfl _ _ 57 rfl w.heap.size 3 ii (.int .i64 0) 1 8 Tryz.underlying57 hi hz0 hz1 hz2 rfl (by decide) u7 _ _ rfl (hown.out.alloc _) ⟨wr.heap.size, 0, none⟩ 1 1 [.int .i64 V] rfl rfl ?c1c ?c2c ?c3c ?c4c ?c5c ?_; rotate_right; intro v' W4 hown4 hgrow _nl; clear _nl; have hb4 := hbel.out.trans (below_append hown.out hgrow hbel.out.size); have d2 := hc2f.out _ hb4; have d3 := hp2.out _ hb4; clear hgrow; replace hown4 := Lib.hid hown4; replace hb4 := Lib.hid hb4)
              try (case c1c => exact cell_one_new _ _ _)
              case c2c => simp [Value.oneCell']
              case c3c => unfold maxLen; omega
              case c4c => omega
              case c5c => first | omega | (simp; omega)
              go_quiet (fail)
              go_wp2_with fail
              go_quiet (fail)
              go_wp2_with fail
              go_quiet (fail)
              go_wp2_with fail
              refine (refValue_yes _ _ hin).mono ?_
              rintro e W5 ⟨rfl, hW5⟩
              subst hW5
              go_wp2
              go_roundw
              case rel => exact ⟨k + 1, _, _, _, _, by omega, by go_num, rfl, rfl, rfl, rfl, hmn.out.symm, hmx.out.symm, hgn2.out.symm, hon2.out.symm, ov_step hnx.out hown4.out hb4.out (by first | exact gr_trans (gr_trans (gr_drewN _ _ _) (gr_drewN _ _ _)) (gr_drewN _ _ _) | exact gr_trans (gr_drewN _ _ _) (gr_drewN _ _ _) | exact gr_drewN _ _ _)⟩
              case measure => simp [intOf]; omega
            · rw [inB_false hin] at hon2
              replace hon2 := Lib.hid hon2
              replace hgn2 := Lib.hid hgn2
              go_wp2_with (at_builtin; refine wpList_append_own _ rfl _ _ 57 rfl w.heap.size 3 ii (.int .i64 0) 1 8 Tryz.underlying57 hi hz0 hz1 hz2 rfl (by decide) u7 _ _ rfl (hown.out.alloc _) ⟨wr.heap.size, 0, none⟩ 1 1 [.int .i64 V] rfl rfl ?c1d ?c2d ?c3d ?c4d ?c5d ?_; rotate_right; intro v' W4 hown4 hgrow _nl; clear _nl; have hb4 := hbel.out.trans (below_append hown.out hgrow hbel.out.size); have d2 := hc2f.out _ hb4; have d3 := hp2.out _ hb4; clear hgrow; replace hown4 := Lib.hid hown4; replace hb4 := Lib.hid hb4)
              try (case c1d => exact cell_one_new _ _ _)
              case c2d => simp [Value.oneCell']
              case c3d => unfold maxLen; omega
              case c4d => omega
              case c5d => first | omega | (simp; omega)
              go_quiet (fail)
              go_wp2_with fail
              go_quiet (fail)
              go_wp2_with fail
              go_quiet (fail)
              go_wp2_with fail
              refine (refValue_no _ _ hin).mono ?_
              rintro e W5 ⟨rfl, hW5⟩
              subst hW5
              go_wp2
              go_roundw
              case rel => exact ⟨k + 1, _, _, _, _, by omega, by go_num, rfl, rfl, rfl, rfl, hmn.out.symm, hmx.out.symm, hgn2.out.symm, hon2.out.symm, ov_step hnx.out hown4.out hb4.out (by first | exact gr_trans (gr_trans (gr_drewN _ _ _) (gr_drewN _ _ _)) (gr_drewN _ _ _) | exact gr_trans (gr_drewN _ _ _) (gr_drewN _ _ _) | exact gr_drewN _ _ _)⟩
              case measure => simp [intOf]; omega
        · rw [if_neg hge] at hD
          subst hD
          have hgd : -9223372036854775808 ≤ g + (D) ∧ g + (D) ≤ 9223372036854775807 := by omega
          have hgw : IntKind.i64.wrap (g + (D)) = g + (D) := IntWalk.i64_in _ hgd
          cases x with
          | true =>
            rw [Bool.true_or] at hon2
            replace hon2 := Lib.hid hon2
            replace hgn2 := Lib.hid hgn2
            go_wp2_with (at_builtin; refine wpList_append_own _ rfl _ _ 57 rfl w.heap.size 3 ii (.int .i64 0) 1 8 Tryz.underlying57 hi hz0 hz1 hz2 rfl (by decide) u7 _ _ rfl (hown.out.alloc _) ⟨wr.heap.size, 0, none⟩ 1 1 [.int .i64 D] rfl rfl ?c1e ?c2e ?c3e ?c4e ?c5e ?_; rotate_right; intro v' W4 hown4 hgrow _nl; clear _nl; have hb4 := hbel.out.trans (below_append hown.out hgrow hbel.out.size); have d2 := hc2f.out _ hb4; have d3 := hp2.out _ hb4; clear hgrow; replace hown4 := Lib.hid hown4; replace hb4 := Lib.hid hb4)
            try (case c1e => exact cell_one_new _ _ _)
            case c2e => simp [Value.oneCell']
            case c3e => unfold maxLen; omega
            case c4e => omega
            case c5e => first | omega | (simp; omega)
            go_quiet (fail)
            go_wp2_with fail
            go_quiet (fail)
            go_wp2_with fail
            go_roundw
            case rel => exact ⟨k + 1, _, _, _, _, by omega, by go_num, rfl, rfl, rfl, rfl, hmn.out.symm, hmx.out.symm, hgn2.out.symm, hon2.out.symm, ov_step hnx.out hown4.out hb4.out (by first | exact gr_trans (gr_trans (gr_drewN _ _ _) (gr_drewN _ _ _)) (gr_drewN _ _ _) | exact gr_trans (gr_drewN _ _ _) (gr_drewN _ _ _) | exact gr_drewN _ _ _)⟩
            case measure => simp [intOf]; omega
          | false =>
            by_cases hin : In (D)
            · rw [inB_true hin] at hon2
              replace hon2 := Lib.hid hon2
              replace hgn2 := Lib.hid hgn2
              go_wp2_with (at_builtin; refine wpList_append_own _ rfl _ _ 57 rfl w.heap.size 3 ii (.int .i64 0) 1 8 Tryz.underlying57 hi hz0 hz1 hz2 rfl (by decide) u7 _ _ rfl (hown.out.alloc _) ⟨wr.heap.size, 0, none⟩ 1 1 [.int .i64 D] rfl rfl ?c1f ?c2f ?c3f ?c4f ?c5f ?_; rotate_right; intro v' W4 hown4 hgrow _nl; clear _nl; have hb4 := hbel.out.trans (below_append hown.out hgrow hbel.out.size); have d2 := hc2f.out _ hb4; have d3 := hp2.out _ hb4; clear hgrow; replace hown4 := Lib.hid hown4; replace hb4 := Lib.hid hb4)
              try (case c1f => exact cell_one_new _ _ _)
              case c2f => simp [Value.oneCell']
              case c3f => unfold maxLen; omega
              case c4f => omega
              case c5f => first | omega | (simp; omega)
              go_quiet (fail)
              go_wp2_with fail
              go_quiet (fail)
              go_wp2_with fail
              refine (refValue_yes _ _ hin).mono ?_
              rintro e W5 ⟨rfl, hW5⟩
              subst hW5
              go_wp2
              go_roundw
              case rel => exact ⟨k + 1, _, _, _, _, by omega, by go_num, rfl, rfl, rfl, rfl, hmn.out.symm, hmx.out.symm, hgn2.out.symm, hon2.out.symm, ov_step hnx.out hown4.out hb4.out (by first | exact gr_trans (gr_trans (gr_drewN _ _ _) (gr_drewN _ _ _)) (gr_drewN _ _ _) | exact gr_trans (gr_drewN _ _ _) (gr_drewN _ _ _) | exact gr_drewN _ _ _)⟩
              case measure => simp [intOf]; omega
            · rw [inB_false hin] at hon2
              replace hon2 := Lib.hid hon2
              replace hgn2 := Lib.hid hgn2
              go_wp2_with (at_builtin; refine wpList_append_own _ rfl _ _ 57 rfl w.heap.size 3 ii (.int .i64 0) 1 8 Tryz.underlying57 hi hz0 hz1 hz2 rfl (by decide) u7 _ _ rfl (hown.out.alloc _) ⟨wr.heap.size, 0, none⟩ 1 1 [.int .i64 D] rfl rfl ?c1g ?c2g ?c3g ?c4g ?c5g ?_; rotate_right; intro v' W4 hown4 hgrow _nl; clear _nl; have hb4 := hbel.out.trans (below_append hown.out hgrow hbel.out.size); have d2 := hc2f.out _ hb4; have d3 := hp2.out _ hb4; clear hgrow; replace hown4 := Lib.hid hown4; replace hb4 := Lib.hid hb4)
              try (case c1g => exact cell_one_new _ _ _)
              case c2g => simp [Value.oneCell']
              case c3g => unfold maxLen; omega
              case c4g => omega
              case c5g => first | omega | (simp; omega)
              go_quiet (fail)
              go_wp2_with fail
              go_quiet (fail)
              go_wp2_with fail
              refine (refValue_no _ _ hin).mono ?_
              rintro e W5 ⟨rfl, hW5⟩
              subst hW5
              go_wp2
              go_roundw
              case rel => exact ⟨k + 1, _, _, _, _, by omega, by go_num, rfl, rfl, rfl, rfl, hmn.out.symm, hmx.out.symm, hgn2.out.symm, hon2.out.symm, ov_step hnx.out hown4.out hb4.out (by first | exact gr_trans (gr_trans (gr_drewN _ _ _) (gr_drewN _ _ _)) (gr_drewN _ _ _) | exact gr_trans (gr_drewN _ _ _) (gr_drewN _ _ _) | exact gr_drewN _ _ _)⟩
              case measure => simp [intOf]; omega
      · have hkz0 : k = 0 := by omega
        subst hkz0
        have e1 : g = grK zs (0 + 1) := hg.out
        have e2 : x = ovB zs (0 + 1) := hx.out
        replace e1 := Lib.hid e1
        replace e2 := Lib.hid e2
        clear hprev hon hgn hv1 hD
        have hc3 := Lib.hid (show ∀ W', Below w.heap.size w W' → W'.cell? ⟨B, o + 1, none⟩ = some (.int .i64 V) from fun W' h => by simpa using hc2f.out W' h)
        have hc3w := hc3.out _ hbel.out
        go_wp2_with (at_builtin; refine wpList_append_own _ rfl _ _ 57 rfl w.heap.size 3 ii (.int .i64 0) 1 8 Tryz.underlying57 hi hz0 hz1 hz2 rfl (by decide) u7 _ _ rfl (hown.out.alloc _) ⟨wr.heap.size, 0, none⟩ 1 1 [.int .i64 V] rfl rfl ?c1h ?c2h ?c3h ?c4h ?c5h ?_; rotate_right; intro v' W4 hown4 hgrow _nl; clear _nl; have hb4 := hbel.out.trans (below_append hown.out hgrow hbel.out.size); have d2 := hc2f.out _ hb4; have d4 := hc3.out _ hb4; clear hgrow; replace hown4 := Lib.hid hown4; replace hb4 := Lib.hid hb4)
        try (case c1h => exact cell_one_new _ _ _)
        case c2h => simp [Value.oneCell']
        case c3h => unfold maxLen; omega
        case c4h => omega
        case c5h => first | omega | (simp; omega)
        go_quiet (fail)
        go_wp2_with fail
        go_roundw
        case rel => exact ⟨0 + 1, _, _, _, _, by omega, by go_num, rfl, rfl, rfl, rfl, hmn.out.symm, hmx.out.symm, e1.out, e2.out, ov_step hnx.out hown4.out hb4.out (by first | exact gr_trans (gr_drewN _ _ _) (gr_drewN _ _ _) | exact gr_drewN _ _ _ | exact gr_refl _ _)⟩
        case measure => simp [intOf]; omega
    · obtain rfl : k = n := by omega
      have ha2 : a = Lib.minOf (nums zs) := by rw [ha.out, ← hl.out, mnK_all (by rw [hl.out]; exact h0)]
      have hb2 : b = Lib.maxOf (nums zs) := by rw [hb.out, ← hl.out, mxK_all (by rw [hl.out]; exact h0)]
      have hris := riseV_ov zs
      rw [hl.out, ← hx.out, ← hg.out] at hris
      have hrow := hinv.out.1
      rw [List.take_of_length_le (by rw [nums_len, hl.out]; exact Nat.le_refl _)] at hrow
      obtain ⟨oA, oc, rfl, _, _⟩ := own_open hrow
      have hrow2 := row_own hrow
      have cS := refSum_any oA k oc (nums zs) wr (by unfold maxLen; omega) hrow2
      have cM := refMean_any oA k oc (nums zs) wr (by unfold maxLen; omega) hrow2
      have gw : Gr w wr := gr_of_below hinv.out.2 (Nat.le_refl _)
      have hi2 := hs.out
      unfold IsFn sumL avgL minL maxL countL lastL incL rateL at hi2
      replace gw := Lib.hid gw
      replace cS := Lib.hid cS
      replace cM := Lib.hid cM
      replace ha2 := Lib.hid ha2
      replace hb2 := Lib.hid hb2
      replace hris := Lib.hid hris
      replace hrw := Lib.hid hrw
      clear hrow hrow2
      rcases hi2 with rfl | rfl | rfl | rfl | rfl | rfl | rfl | rfl
      · have hp : ovP [115, 117, 109, 95, 111, 118, 101, 114] zs = sumV k (nums zs) := by rw [← hl.out]; rfl
        generalize sumV k (nums zs) = p at *
        obtain ⟨p1, p2⟩ := p
        replace hp := Lib.hid hp
        by_cases hz : p2 = 0
        · subst hz
          go_wp2_with fail
          refine cS.out.mono ?_
          rintro e W5 ⟨rfl, hW5⟩
          subst hW5
          go_wp2
          go_ret3
          exact ⟨by rw [hp.out]; rfl, gw.out⟩
        · have nz : (p2 == 0) = false := eqF hz
          have hf := Lib.hid (fin_not p1 hz)
          go_wp2_with fail
          refine cS.out.mono ?_
          rintro e W5 ⟨rfl, hW5⟩
          subst hW5
          go_wp2
          go_ret3
          exact ⟨by rw [hp.out, hf.out]; rfl, gw.out⟩
      · have hp : ovP [97, 118, 103, 95, 111, 118, 101, 114] zs = meanV k (nums zs) := by rw [← hl.out]; rfl
        generalize meanV k (nums zs) = p at *
        obtain ⟨p1, p2⟩ := p
        replace hp := Lib.hid hp
        by_cases hz : p2 = 0
        · subst hz
          go_wp2_with fail
          refine cM.out.mono ?_
          rintro e W5 ⟨rfl, hW5⟩
          subst hW5
          go_wp2
          go_ret3
          exact ⟨by rw [hp.out]; rfl, gw.out⟩
        · have nz : (p2 == 0) = false := eqF hz
          have hf := Lib.hid (fin_not p1 hz)
          go_wp2_with fail
          refine cM.out.mono ?_
          rintro e W5 ⟨rfl, hW5⟩
          subst hW5
          go_wp2
          go_ret3
          exact ⟨by rw [hp.out, hf.out]; rfl, gw.out⟩
      · have hp : ovP [109, 105, 110, 95, 111, 118, 101, 114] zs = (Lib.minOf (nums zs), 0) := rfl
        rw [← ha2.out] at hp
        replace hp := Lib.hid hp
        go_wp2
        go_ret3
        exact ⟨by rw [hp.out]; rfl, gw.out⟩
      · have hp : ovP [109, 97, 120, 95, 111, 118, 101, 114] zs = (Lib.maxOf (nums zs), 0) := rfl
        rw [← hb2.out] at hp
        replace hp := Lib.hid hp
        go_wp2
        go_ret3
        exact ⟨by rw [hp.out]; rfl, gw.out⟩
      · have hp : ovP [99, 111, 117, 110, 116, 95, 111, 118, 101, 114] zs = ((k : Int), 0) := by rw [← hl.out]; rfl
        replace hp := Lib.hid hp
        go_wp2
        go_ret3
        exact ⟨by rw [hp.out]; rfl, gw.out⟩
      · have hp : ovP [108, 97, 115, 116, 95, 111, 118, 101, 114] zs = (pV zs (k - 1), 0) := by rw [← hl.out]; rfl
        obtain ⟨_, hcl⟩ := pt_cells hrw.out (k := k - 1) (by omega)
        generalize pV zs (k - 1) = V at *
        replace hp := Lib.hid hp
        have y0 : (0 : Int) ≤ (k : Int) - 1 := by omega
        have y0' : (1 : Int) ≤ (k : Int) := by omega
        have y1 : (k : Int) - 1 < (k : Int) := by omega
        have y2 : ((k : Int) - 1).toNat = k - 1 := by omega
        go_wp2
        go_ret3
        exact ⟨by rw [hp.out]; rfl, gw.out⟩
      · have hp : ovP [105, 110, 99, 114, 101, 97, 115, 101] zs = riseV zs := rfl
        rw [hris.out] at hp
        cases x with
        | true =>
          rw [if_pos (Or.inl rfl)] at hp
          replace hp := Lib.hid hp
          go_wp2
          go_ret3
          exact ⟨by rw [hp.out]; rfl, gw.out⟩
        | false =>
          by_cases hin : In g
          · rw [if_neg (by simp [hin])] at hp
            replace hp := Lib.hid hp
            go_wp2_with fail
            refine (refValue_yes _ _ hin).mono ?_
            rintro e W5 ⟨rfl, hW5⟩
            subst hW5
            go_wp2
            go_ret3
            exact ⟨by rw [hp.out]; rfl, gw.out⟩
          · rw [if_pos (Or.inr hin)] at hp
            replace hp := Lib.hid hp
            go_wp2_with fail
            refine (refValue_no _ _ hin).mono ?_
            rintro e W5 ⟨rfl, hW5⟩
            subst hW5
            go_wp2
            go_ret3
            exact ⟨by rw [hp.out]; rfl, gw.out⟩
      · have h2k : 2 ≤ k := by
          rcases Nat.lt_or_ge k 2 with h | h
          · have := (h2f.out h).2; simp at this
          · exact h
        have hp : ovP [114, 97, 116, 101] zs = if (riseV zs).2 = 0 then ((rateP zs).1.tdiv (pT zs (k - 1) - pT zs 0), (rateP zs).2) else (0, 4) := by rw [← hl.out]; rfl
        have hrp : rateP zs = doV [42] (riseV zs).1 1000 := rfl
        rw [hrp] at hp
        cases x with
        | true =>
          rw [show riseV zs = (0, 4) by rw [hris.out, if_pos (Or.inl rfl)]] at hp
          rw [if_neg (by simp)] at hp
          replace hp := Lib.hid hp
          go_wp2
          go_ret3
          exact ⟨by rw [hp.out]; rfl, gw.out⟩
        | false =>
          by_cases hin : In g
          · rw [show riseV zs = (g, 0) by rw [hris.out, if_neg (by simp [hin])]] at hp
            have cD := refDo_42 g 1000 wr hin (by omega)
            have hp2 : ovP [114, 97, 116, 101] zs = ((doV [42] g 1000).1.tdiv (pT zs (k - 1) - pT zs 0), (doV [42] g 1000).2) := by rw [hp]; rfl
            clear hp hrp
            unfold RefPost ret2 at cD
            have hpI : In (doV [42] g 1000).1 := doV_in _ _ _
            generalize doV [42] g 1000 = p at *
            obtain ⟨p1, p2⟩ := p
            have hlt2 := right_times hrb.out (k - 1) (by omega) (by rw [hl.out]; omega)
            have ht0 := okP_iff.1 ((right_iff.1 hrb.out).2 0 (by rw [hl.out]; omega))
            have htm := okP_iff.1 ((right_iff.1 hrb.out).2 (k - 1) (by rw [hl.out]; omega))
            have hcm := (pt_cells hrw.out (k := k - 1) (by omega)).1
            have hc00 : wr.cell? ⟨B, o, none⟩ = some (.int .i64 (pT zs 0)) := by
              have := (pt_cells hrw.out (k := 0) (by omega)).1
              simpa using this
            obtain ⟨t00, t01, _⟩ := ht0
            obtain ⟨tm0, tm1, _⟩ := htm
            generalize pT zs 0 = T0 at *
            generalize pT zs (k - 1) = T1 at *
            obtain ⟨D, hDD⟩ : ∃ D, D = T1 - T0 := ⟨_, rfl⟩
            have sm : IntKind.i64.wrap (T1 - T0) = D := by rw [hDD]; exact IntWalk.i64_in _ (by omega)
            have sm2 : wrap64 (T1 - T0) = D := by rw [hDD]; unfold wrap64; omega
            have nzD : (D == 0) = false := eqF (by omega)
            have nzD2 : ¬ D = 0 := by omega
            have hw : wrap64 (p1.tdiv D) = p1.tdiv D := wrap_in (in_tdiv hpI)
            rw [← hDD] at hp2
            clear hDD hlt2
            replace hw := Lib.hid hw
            replace hpI := Lib.hid hpI
            replace cD := Lib.hid cD
            have y0 : (0 : Int) ≤ (k : Int) - 1 := by omega
            have y0' : (1 : Int) ≤ (k : Int) := by omega
            have y1 : (k : Int) - 1 < (k : Int) := by omega
            have y2 : ((k : Int) - 1).toNat = k - 1 := by omega
            by_cases hz : p2 = 0
            · subst hz
              replace hp2 := Lib.hid hp2
              go_wp2_with fail
              refine (refValue_yes _ _ hin).mono ?_
              rintro e W5 ⟨rfl, hW5⟩
              subst hW5
              go_wp2_with fail
              refine cD.out.mono ?_
              rintro e W6 ⟨rfl, hW6⟩
              subst hW6
              go_wp2_with fail
              go_quiet (fail)
              go_wp2
              go_ret3
              exact ⟨by rw [hp2.out, hw.out]; rfl, gr_trans gw.out (gr_drewN _ _ _)⟩
            · have nz : (p2 == 0) = false := eqF hz
              have hf := Lib.hid (fin_not (p1.tdiv D) hz)
              replace hp2 := Lib.hid hp2
              go_wp2_with fail
              refine (refValue_yes _ _ hin).mono ?_
              rintro e W5 ⟨rfl, hW5⟩
              subst hW5
              go_wp2_with fail
              refine cD.out.mono ?_
              rintro e W6 ⟨rfl, hW6⟩
              subst hW6
              go_wp2_with fail
              go_quiet (fail)
              go_wp2
              go_ret3
              exact ⟨by rw [hp2.out, hf.out]; rfl, gr_trans gw.out (gr_drewN _ _ _)⟩
          · rw [show riseV zs = (0, 4) by rw [hris.out, if_pos (Or.inr hin)]] at hp
            rw [if_neg (by simp)] at hp
            replace hp := Lib.hid hp
            go_wp2_with fail
            refine (refValue_no _ _ hin).mono ?_
            rintro e W5 ⟨rfl, hW5⟩
            subst hW5
            go_wp2
            go_ret3
            exact ⟨by rw [hp.out]; rfl, gw.out⟩
end Go.Proofs.YtkpmonefhpnljaaGreat
