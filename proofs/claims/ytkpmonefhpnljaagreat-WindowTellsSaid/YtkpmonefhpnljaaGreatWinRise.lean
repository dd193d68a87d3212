/-
  How much points rose: what window.rise answers. No condition but that the points may be.
-/
import Derived.Test.YtkpmonefhpnljaaGreatWinOf
import Derived.Test.YtkpmonefhpnljaaGreatFixedSum
import Derived.Test.YtkpmonefhpnljaaGreatFixedDo
namespace Go.Proofs.YtkpmonefhpnljaaGreat
open Go.RowKit

theorem infoInt : (Tryz.prog.info? 3).map (fun i => (i.zero, i.size, i.bytes)) = some (some (.int .i64 0), 1, 8) := by kernel_rfl
def rd (zs : List (Int × Int)) (i : Nat) : Int := if pV zs (i - 1) ≤ pV zs i then pV zs i - pV zs (i - 1) else pV zs i
def rds (zs : List (Int × Int)) (k : Nat) : List Int := (List.range k).map fun j => rd zs (j + 1)
theorem rds_succ (zs : List (Int × Int)) (k : Nat) : rds zs (k + 1) = rds zs k ++ [rd zs (k + 1)] := by unfold rds; rw [List.range_succ, List.map_append]; rfl
theorem rds_len (zs : List (Int × Int)) (k : Nat) : (rds zs k).length = k := by simp [rds]
/-- Sum, or the error. -/
def riseV (zs : List (Int × Int)) : Int × Int := if (∀ x ∈ rds zs (zs.length - 1), In x) ∧ In (rds zs (zs.length - 1)).sum then ((rds zs (zs.length - 1)).sum, 0) else (0, 4)
def RisePost (zs : List (Int × Int)) (w : World) (e : Ending) (w' : World) : Prop := e = .returned (.tuple #[.int .i64 (riseV zs).1, .int .i64 (riseV zs).2]) ∧ Gr w w'
theorem rd_rng {zs : List (Int × Int)} {i : Nat} (h1 : In (pV zs (i - 1))) (h2 : In (pV zs i)) : -2000000000000 ≤ rd zs i ∧ rd zs i ≤ 2000000000000 := by
  unfold rd In at *
  split <;> omega

set_option maxHeartbeats 4000000 in
set_option maxRecDepth 100000 in
theorem rise_any (A : Option Addr) (n c : Nat) (zs : List (Int × Int)) (w : World) (hn1 : 1 ≤ n) (hn : n ≤ 25) (hr : PtRow w A n zs) (hV : ∀ k, k < n → In (pV zs k)) :
    Calls Tryz.prog 74 #[.slice A n c] w (RisePost zs w) := by
  have hl := pt_len hr
  obtain ⟨ii, hi, hz0, hz1, hz2⟩ := info_parts infoInt
  replace hr := Lib.hid hr
  replace hl := Lib.hid hl
  replace hV := Lib.hid hV
  go_enter Tryz.func74, Tryz.ntmps74
  go_wp2
  go_loopw [4, 5] (fun ov i wr => ∃ k : Nat, 1 ≤ k ∧ k ≤ n ∧ i = .int .i64 k ∧ Hid (∀ x ∈ rds zs (k - 1), In x) ∧ Hid (wr.ownsRow w.heap.size 3 1 ov (k - 1) ((rds zs (k - 1)).map (.int .i64))) ∧ Hid (Below w.heap.size w wr)) (fun _ i _ => n - (intOf i).toNat)
  case atStart => exact ⟨1, Nat.le_refl _, hn1, rfl, (by intro x hx; simp [rds] at hx), World.ownsRow_nil _ _ _ _, Below.refl _ _⟩
  case round =>
    obtain ⟨k, hk1, hk, rfl, hall, hown, hbel⟩ := hrel
    have hs := hbel.out.size
    by_cases hlt : k < n
    · have hrw := pt_gr hr.out (gr_of_below hbel.out (Nat.le_refl _))
      obtain ⟨B, o, rfl, hB, _, hc2⟩ := pt_cell hrw hlt
      have hp2 := (pt_cells hrw (k := k - 1) (by omega)).2
      have hki : (k : Int) < (n : Int) := by omega
      have hk0 : (0 : Int) ≤ (k : Int) := by omega
      have y0 : (0 : Int) ≤ (k : Int) - 1 := by omega
      have y0' : (1 : Int) ≤ (k : Int) := by omega
      have y1 : (k : Int) - 1 < (n : Int) := by omega
      have y2 : ((k : Int) - 1).toNat = k - 1 := by omega
      have hrds : rds zs k = rds zs (k - 1) ++ [rd zs k] := by
        have := rds_succ zs (k - 1)
        rwa [show k - 1 + 1 = k by omega] at this
      have hrd := rd_rng (zs := zs) (i := k) (hV.out _ (by omega)) (hV.out _ hlt)
      have hv1 := hV.out (k - 1) (by omega)
      have hv2 := hV.out k hlt
      have hD : rd zs k = if pV zs (k - 1) ≤ pV zs k then pV zs k - pV zs (k - 1) else pV zs k := rfl
      have hbad : ¬ In (rd zs k) → riseV zs = (0, 4) := fun h => by
        unfold riseV
        rw [if_neg]
        rintro ⟨h1, _⟩
        apply h
        refine h1 _ ?_
        unfold rds
        rw [List.mem_map]
        exact ⟨k - 1, List.mem_range.2 (by rw [hl.out]; omega), by rw [show k - 1 + 1 = k by omega]⟩
      generalize rd zs k = D at *
      generalize pV zs (k - 1) = P at *
      generalize pV zs k = V at *
      unfold In at hv1 hv2
      obtain ⟨p0, p1⟩ := hv1
      obtain ⟨v0, v1⟩ := hv2
      obtain ⟨r0, r1⟩ := hrd
      replace hrds := Lib.hid hrds
      have fin : ∀ (W' : World) (v' : Value), W'.ownsRow w.heap.size 3 1 v' (k - 1 + 1) ((rds zs (k - 1)).map (.int .i64) ++ [.int .i64 D]) → In D → Below w.heap.size w W' → ∃ k' : Nat, 1 ≤ k' ∧ k' ≤ n ∧ Value.int .i64 ((k : Int) + 1) = .int .i64 k' ∧ Hid (∀ x ∈ rds zs (k' - 1), In x) ∧ Hid (W'.ownsRow w.heap.size 3 1 v' (k' - 1) ((rds zs (k' - 1)).map (.int .i64))) ∧ Hid (Below w.heap.size w W') := fun W' v' h1 h2 h3 => by
        refine ⟨k + 1, by omega, by omega, by go_num, ?_, ?_, h3⟩
        · intro x hx
          rw [show k + 1 - 1 = k by omega, hrds.out] at hx
          rcases List.mem_append.1 hx with hx | hx
          · exact hall.out x hx
          · simp at hx; subst hx; exact h2
        · rw [show k + 1 - 1 = k by omega, hrds.out, List.map_append]
          rwa [show k - 1 + 1 = k by omega] at h1
      replace fin := Lib.hid fin
      by_cases hge : P ≤ V
      · rw [if_pos hge] at hD
        subst hD
        by_cases hin : In (V - P)
        · replace hbad := Lib.hid hbad
          go_wp2_with fail
          go_quiet (fail)
          go_wp2_with fail
          go_quiet (fail)
          go_wp2_with fail
          refine (right_yes _ _ hin).mono ?_
          rintro e W3 ⟨rfl, hW⟩
          have g3 : Gr wr W3 := by
            rw [← hW]
            first | exact gr_drewN _ _ _ | exact gr_trans (gr_drewN _ _ _) (gr_drewN _ _ _)
          replace hW := Lib.hid hW
          have hown3 := Lib.hid (hown.out.kept g3 (by cases u4.ownBlock <;> simp))
          have hbel3 := Lib.hid (below_gr hbel.out g3 hs (by simp))
          clear g3
          go_wp2_with (at_builtin; refine wpList_append_own _ rfl _ _ 57 rfl w.heap.size 3 ii (.int .i64 0) 1 8 Tryz.underlying57 hi hz0 hz1 hz2 rfl (by decide) u4 _ _ rfl (hown3.out.alloc _) ⟨W3.heap.size, 0, none⟩ 1 1 [.int .i64 (V - P)] rfl rfl ?c1 ?c2 ?c3 ?c4 ?c5 ?_; rotate_right; intro v' W4 hown4 hgrow _nl; clear _nl; have hb4 := hbel3.out.trans (below_append hown3.out hgrow hbel3.out.size); clear hgrow; replace hown4 := Lib.hid hown4; replace hb4 := Lib.hid hb4)
          case c1 => exact cell_one_new _ _ _
          case c2 => simp [Value.oneCell']
          case c3 => unfold maxLen; omega
          case c4 => omega
          case c5 => have := hbel3.out.size; simp; omega
          go_roundw
          case rel => exact fin.out _ _ hown4.out hin hb4.out
          case measure => simp [intOf]; omega
        · have hb := Lib.hid (hbad hin)
          clear hbad
          go_wp2_with fail
          go_quiet (fail)
          go_wp2_with fail
          go_quiet (fail)
          go_wp2_with fail
          refine (right_no _ _ hin).mono ?_
          rintro e W3 ⟨rfl, hW⟩
          have g3 : Gr wr W3 := by
            rw [← hW]
            first | exact gr_drewN _ _ _ | exact gr_trans (gr_drewN _ _ _) (gr_drewN _ _ _)
          replace hW := Lib.hid hW
          have hbel3 := Lib.hid (below_gr hbel.out g3 hs (by simp))
          clear g3
          go_wp2
          go_ret2
          unfold RisePost
          rw [hb.out]
          exact ⟨rfl, gr_of_below hbel3.out (Nat.le_refl _)⟩
      · rw [if_neg hge] at hD
        subst hD
        by_cases hin : In D
        · replace hbad := Lib.hid hbad
          go_wp2_with fail
          go_quiet (fail)
          go_wp2_with fail
          refine (right_yes _ _ hin).mono ?_
          rintro e W3 ⟨rfl, hW⟩
          have g3 : Gr wr W3 := by
            rw [← hW]
            first | exact gr_drewN _ _ _ | exact gr_trans (gr_drewN _ _ _) (gr_drewN _ _ _)
          replace hW := Lib.hid hW
          have hown3 := Lib.hid (hown.out.kept g3 (by cases u4.ownBlock <;> simp))
          have hbel3 := Lib.hid (below_gr hbel.out g3 hs (by simp))
          clear g3
          go_wp2_with (at_builtin; refine wpList_append_own _ rfl _ _ 57 rfl w.heap.size 3 ii (.int .i64 0) 1 8 Tryz.underlying57 hi hz0 hz1 hz2 rfl (by decide) u4 _ _ rfl (hown3.out.alloc _) ⟨W3.heap.size, 0, none⟩ 1 1 [.int .i64 (D)] rfl rfl ?c1 ?c2 ?c3 ?c4 ?c5 ?_; rotate_right; intro v' W4 hown4 hgrow _nl; clear _nl; have hb4 := hbel3.out.trans (below_append hown3.out hgrow hbel3.out.size); clear hgrow; replace hown4 := Lib.hid hown4; replace hb4 := Lib.hid hb4)
          case c1 => exact cell_one_new _ _ _
          case c2 => simp [Value.oneCell']
          case c3 => unfold maxLen; omega
          case c4 => omega
          case c5 => have := hbel3.out.size; simp; omega
          go_roundw
          case rel => exact fin.out _ _ hown4.out hin hb4.out
          case measure => simp [intOf]; omega
        · have hb := Lib.hid (hbad hin)
          clear hbad
          go_wp2_with fail
          go_quiet (fail)
          go_wp2_with fail
          refine (right_no _ _ hin).mono ?_
          rintro e W3 ⟨rfl, hW⟩
          have g3 : Gr wr W3 := by
            rw [← hW]
            first | exact gr_drewN _ _ _ | exact gr_trans (gr_drewN _ _ _) (gr_drewN _ _ _)
          replace hW := Lib.hid hW
          have hbel3 := Lib.hid (below_gr hbel.out g3 hs (by simp))
          clear g3
          go_wp2
          go_ret2
          unfold RisePost
          rw [hb.out]
          exact ⟨rfl, gr_of_below hbel3.out (Nat.le_refl _)⟩
    · obtain rfl : k = n := by omega
      have hnn := hl.out
      obtain ⟨AA, cc, rfl, hxl, hxs⟩ := own_open hown.out
      have hro := row_own hown.out
      have hlen := rds_len zs (k - 1)
      have hresE : riseV zs = if (∀ x ∈ rds zs (k - 1), In x) ∧ In (rds zs (k - 1)).sum then ((rds zs (k - 1)).sum, 0) else (0, 4) := by unfold riseV; rw [hnn]
      replace hro := Lib.hid hro
      replace hresE := Lib.hid hresE
      clear hxl hxs
      by_cases hsum : In (rds zs (k - 1)).sum
      · have hres : riseV zs = ((rds zs (k - 1)).sum, 0) := by rw [hresE.out, if_pos ⟨hall.out, hsum⟩]
        replace hres := Lib.hid hres
        go_wp2_with fail
        refine (sum_ok _ _ _ _ _ (by omega) hro.out hall.out hsum).mono ?_
        rintro e W3 ⟨rfl, rfl⟩
        go_wp2
        go_ret2
        unfold RisePost
        rw [hres.out]
        exact ⟨rfl, gr_of_below hbel.out (Nat.le_refl _)⟩
      · have hres : riseV zs = (0, 4) := by rw [hresE.out, if_neg (fun h => hsum h.2)]
        replace hres := Lib.hid hres
        go_wp2_with fail
        refine (sum_over _ _ _ _ _ (by omega) hro.out hall.out hsum).mono ?_
        rintro e W3 ⟨rfl, rfl⟩
        go_wp2
        go_ret2
        unfold RisePost
        rw [hres.out]
        exact ⟨rfl, gr_of_below hbel.out (Nat.le_refl _)⟩
end Go.Proofs.YtkpmonefhpnljaaGreat
