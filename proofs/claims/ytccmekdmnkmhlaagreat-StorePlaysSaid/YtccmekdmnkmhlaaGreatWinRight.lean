/-
  What window.Right answers. No condition but a bound on the length.
-/
import Derived.Test.YtccmekdmnkmhlaaGreatPointsRight
namespace Go.Proofs.YtccmekdmnkmhlaaGreat
open Go.RowKit

theorem right_yes' (a : Int) (w : World) (h : In a) : Calls Tryz.prog 23 #[.int .i64 a] w fun e w' => e = .returned (.bool true) ∧ w' = w := (right_yes a w h).mono fun _ _ ⟨a, b⟩ => ⟨a, b.symm⟩
theorem right_no' (a : Int) (w : World) (h : ¬ In a) : Calls Tryz.prog 23 #[.int .i64 a] w fun e w' => e = .returned (.bool false) ∧ w' = w := (right_no a w h).mono fun _ _ ⟨a, b⟩ => ⟨a, b.symm⟩
set_option maxHeartbeats 4000000 in
set_option maxRecDepth 100000 in
theorem winRight_any (A : Option Addr) (n c : Nat) (zs : List (Int × Int)) (w : World) (hn : n ≤ 9223372036854775807) (hr : PtRow w A n zs) :
    Calls Tryz.prog 40 #[.slice A n c] w fun e w' => e = .returned (.bool (rightB zs)) ∧ Gr w w' := by
  have hl := pt_len hr
  by_cases c25 : (n : Int) ≤ 25
  · replace hr := Lib.hid hr
    replace hl := Lib.hid hl
    go_enter Tryz.func40, Tryz.ntmps40
    go_wp2
    go_loopw [10] (fun i wr => ∃ k : Nat, k ≤ n ∧ i = .int .i64 k ∧ Hid (okTo zs k) ∧ Hid (Gr w wr)) (fun i _ => n - (intOf i).toNat)
    case atStart => exact ⟨0, Nat.zero_le _, rfl, (fun j hj => by omega), gr_refl _ _⟩
    case round =>
      obtain ⟨k, hk, rfl, hok, hg⟩ := hrel
      by_cases hlt : k < n
      · obtain ⟨B, o, rfl, hB, hc1, hc2⟩ := pt_cell (pt_gr hr.out hg.out) hlt
        have hki : (k : Int) < (n : Int) := by omega
        have hk0 : (0 : Int) ≤ (k : Int) := by omega
        have hyes : (0 ≤ pT zs k ∧ pT zs k ≤ 1000000000 ∧ In (pV zs k) ∧ (k = 0 ∨ pT zs (k - 1) < pT zs k)) → okTo zs (k + 1) := fun h => okTo_succ hok.out (okP_iff.2 h)
        have hno : ¬ (0 ≤ pT zs k ∧ pT zs k ≤ 1000000000 ∧ In (pV zs k) ∧ (k = 0 ∨ pT zs (k - 1) < pT zs k)) → rightB zs = false := fun h => right_noP (by rw [hl.out]; exact hlt) (by
          cases hb : okP zs k with
          | false => rfl
          | true => exact absurd (okP_iff.1 hb) h)
        have hprev0 : 0 < k → wr.cell? ⟨B, o + (k - 1) * 2, none⟩ = some (.int .i64 (pT zs (k - 1))) := fun h => (pt_cells (pt_gr hr.out hg.out) (k := k - 1) (by omega)).1
        generalize pT zs (k - 1) = P at *
        generalize pT zs k = T at *
        generalize pV zs k = V at *
        obtain ⟨W2, hW2⟩ : ∃ W2, W2 = wr.alloc (.cells #[.int .i64 T, .int .i64 V] 75) := ⟨_, rfl⟩
        have hx0 : W2.cell? ⟨wr.heap.size, 0, none⟩ = some (.int .i64 T) := by rw [hW2, World.cell?_alloc_new]; rfl
        have hx1 : W2.cell? ⟨wr.heap.size, 1, none⟩ = some (.int .i64 V) := by rw [hW2, World.cell?_alloc_new]; rfl
        have hprev : 0 < k → W2.cell? ⟨B, o + (k - 1) * 2, none⟩ = some (.int .i64 P) := fun h => by rw [hW2]; exact gr_cell (gr_alloc wr _ none) (hprev0 h)
        have hg2 : Gr w W2 := by rw [hW2]; exact gr_trans hg.out (gr_alloc wr _ none)
        replace hg2 := Lib.hid hg2
        clear hprev0
        go_wp2_with fail
        rw [← hW2]
        replace hW2 := Lib.hid hW2
        by_cases t0 : T < 0
        · have hf := Lib.hid (hno (by omega))
          clear hno hyes hprev
          go_quiet (fail)
          go_wp2
          go_ret
          exact ⟨by rw [hf.out]; rfl, gr_trans hg2.out (gr_drewN _ _ _)⟩
        · have t0' : decide (T < 0) = false := decide_eq_false t0
          by_cases t1 : 1000000000 < T
          · have hf := Lib.hid (hno (by omega))
            clear hno hyes hprev t0
            go_quiet (fail)
            go_wp2
            go_ret
            exact ⟨by rw [hf.out]; rfl, gr_trans hg2.out (gr_drewN _ _ _)⟩
          · have t1' : decide (1000000000 < T) = false := decide_eq_false t1
            by_cases hV : In V
            · by_cases hk1 : 0 < k
              · have k1 : decide ((0 : Int) < (k : Int)) = true := decide_eq_true (by omega)
                have k1n : decide (0 < k) = true := decide_eq_true hk1
                have hp := hprev hk1
                have y0 : (0 : Int) ≤ (k : Int) - 1 := by omega
                have y0' : (1 : Int) ≤ (k : Int) := by omega
                have y1 : (k : Int) - 1 < (n : Int) := by omega
                have y2 : ((k : Int) - 1).toNat = k - 1 := by omega
                have y3 : IntKind.i64.wrap ((k : Int) - 1) = (k : Int) - 1 := IntWalk.i64_in _ (by omega)
                by_cases hTP : T ≤ P
                · have d3 : decide (T ≤ P) = true := decide_eq_true hTP
                  have hf := Lib.hid (hno (by omega))
                  clear hno hyes hprev
                  go_quiet ((go_at_call 23; exact Calls.quiet_of_same (right_yes' _ _ hV)))
                  go_wp2
                  go_ret
                  exact ⟨by rw [hf.out]; rfl, gr_trans hg2.out (gr_drewN _ _ _)⟩
                · have d3 : decide (T ≤ P) = false := decide_eq_false hTP
                  have hok2 := Lib.hid (hyes ⟨by omega, by omega, hV, Or.inr (by omega)⟩)
                  clear hno hyes hprev
                  go_quiet ((go_at_call 23; exact Calls.quiet_of_same (right_yes' _ _ hV)))
                  go_wp2
                  go_roundw
                  case rel => exact ⟨k + 1, by omega, by go_num, hok2.out, gr_trans hg2.out (gr_drewN _ _ _)⟩
                  case measure => simp [intOf]; omega
              · have k1 : decide ((0 : Int) < (k : Int)) = false := decide_eq_false (by omega)
                have k1n : decide (0 < k) = false := decide_eq_false hk1
                have hok2 := Lib.hid (hyes ⟨by omega, by omega, hV, Or.inl (by omega)⟩)
                clear hno hyes hprev
                go_quiet ((go_at_call 23; exact Calls.quiet_of_same (right_yes' _ _ hV)))
                go_wp2
                go_roundw
                case rel => exact ⟨k + 1, by omega, by go_num, hok2.out, gr_trans hg2.out (gr_drewN _ _ _)⟩
                case measure => simp [intOf]; omega
            · have hf := Lib.hid (hno (fun h => hV h.2.2.1))
              clear hno hyes hprev
              go_quiet ((go_at_call 23; exact Calls.quiet_of_same (right_no' _ _ hV)))
              go_wp2
              go_ret
              exact ⟨by rw [hf.out]; rfl, gr_trans hg2.out (gr_drewN _ _ _)⟩
      · obtain rfl : k = n := by omega
        have hres : rightB zs = true := right_yesP (by rw [hl.out]; omega) (by rw [hl.out]; exact hok.out)
        replace hres := Lib.hid hres
        go_wp2
        go_ret
        exact ⟨by rw [hres.out]; rfl, hg.out⟩
  · have hres : rightB zs = false := by
      cases hb : rightB zs with
      | false => rfl
      | true => have := (right_iff.1 hb).1; omega
    replace hres := Lib.hid hres
    have c' : 25 < (n : Int) := by omega
    clear c25 hl
    go_enter Tryz.func40, Tryz.ntmps40
    go_wp2
    go_ret
    exact ⟨by rw [hres.out]; rfl, gr_refl _ _⟩
end Go.Proofs.YtccmekdmnkmhlaaGreat
