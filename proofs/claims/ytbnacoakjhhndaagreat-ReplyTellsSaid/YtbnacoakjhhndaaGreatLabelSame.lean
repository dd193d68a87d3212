/-
  Two lists of labels, are they alike. No condition but bounds on the lengths. (soft)
-/
import Derived.Test.YtbnacoakjhhndaaGreatLabelCmp
namespace Go.Proofs.YtbnacoakjhhndaaGreat
open Go.RowKit

theorem take_next {α : Type} {a b : List α} {k : Nat} {x y : α} (h : a.take k = b.take k) (hx : a[k]? = some x) (hy : b[k]? = some y) (e : x = y) : a.take (k + 1) = b.take (k + 1) := by
  obtain ⟨h1, h2⟩ := List.getElem?_eq_some_iff.1 hx
  obtain ⟨h3, h4⟩ := List.getElem?_eq_some_iff.1 hy
  rw [List.take_succ_eq_append_getElem h1, List.take_succ_eq_append_getElem h3, h, h2, h4, e]
set_option maxHeartbeats 8000000 in
set_option maxRecDepth 100000 in
theorem sameLabels_any (A B : Option Addr) (n m ca cb : Nat) (zs ys : List Lb) (w : World) (hn : n ≤ 1000000000) (hm : m ≤ 1000000000) (hz : Row w A n 2 (sR lblC zs)) (hy : Row w B m 2 (sR lblC ys)) :
    Calls Tryz.prog 33 #[.slice A n ca, .slice B m cb] w fun e w' => e = .returned (.bool (decide (zs = ys))) ∧ Gr w w' := by
  have hl : zs.length = n := by have := hz.1; rw [sR_len lblC 2 lblC_len] at this; omega
  have hk : ys.length = m := by have := hy.1; rw [sR_len lblC 2 lblC_len] at this; omega
  obtain ⟨R, hR⟩ : ∃ R, R = decide (zs = ys) := ⟨_, rfl⟩
  rw [← hR]
  replace hz := Lib.hid hz
  replace hy := Lib.hid hy
  replace hl := Lib.hid hl
  replace hk := Lib.hid hk
  replace hR := Lib.hid hR
  go_enter Tryz.func33, Tryz.ntmps33
  by_cases hnm : n = m
  · subst hnm
    go_wp2
    go_loopw [5] (fun i wr => ∃ k : Nat, k ≤ n ∧ i = .int .i64 k ∧ Hid (zs.take k = ys.take k) ∧ Hid (Gr w wr)) (fun i _ => n - (intOf i).toNat)
    case atStart => exact ⟨0, Nat.zero_le _, rfl, rfl, gr_refl _ _⟩
    case round =>
      obtain ⟨k, hkn, rfl, ht, hg⟩ := hrel
      by_cases hlt : k < n
      · obtain ⟨x, gA, oA, hx, rfl, _, ha⟩ := rowS_elem lblC_len (row_gr hz.out hg.out) (by decide) hlt
        obtain ⟨y, gB, oB, hyy, rfl, _, hb⟩ := rowS_elem lblC_len (row_gr hy.out hg.out) (by decide) hlt
        have hki : (k : Int) < (n : Int) := by omega
        have hk0 : (0 : Int) ≤ (k : Int) := by omega
        obtain ⟨a0, a1⟩ := two_cells ha
        obtain ⟨b0, b1⟩ := two_cells hb
        clear ha hb
        have hne : x ≠ y → R = false := fun h => by
          rw [hR.out]
          refine decide_eq_false (fun e => h ?_)
          rw [e, hyy] at hx
          exact (Option.some.inj hx).symm
        by_cases hxn : x.n = y.n
        · have q1 : (x.n == y.n) = true := by rw [hxn]; exact beq_self_eq_true _
          by_cases hxv : x.v = y.v
          · have q2 : (x.v == y.v) = true := by rw [hxv]; exact beq_self_eq_true _
            have hxy : x = y := by cases x; cases y; simp_all
            have ht2 := take_next ht.out hx hyy hxy
            replace ht2 := Lib.hid ht2
            clear hne hxy hxn hxv hx hyy
            go_wp2_with fail
            go_quiet (fail)
            go_wp2
            go_roundw
            case rel => exact ⟨k + 1, by omega, by go_num, ht2.out, gr_trans hg.out (gr_drewN _ _ _)⟩
            case measure => simp [intOf]; omega
          · have q2 : (x.v == y.v) = false := beq_eq_false_iff_ne.2 hxv
            have hf := hne (fun e => hxv (by rw [e]))
            replace hf := Lib.hid hf
            clear hne hxn hxv hx hyy
            go_wp2_with fail
            go_quiet (fail)
            go_wp2
            go_ret
            exact ⟨by rw [hf.out]; rfl, gr_trans hg.out (gr_drewN _ _ _)⟩
        · have q1 : (x.n == y.n) = false := beq_eq_false_iff_ne.2 hxn
          have hf := hne (fun e => hxn (by rw [e]))
          replace hf := Lib.hid hf
          clear hne hxn hx hyy
          go_wp2_with fail
          go_quiet (fail)
          go_wp2
          go_ret
          exact ⟨by rw [hf.out]; rfl, gr_trans hg.out (gr_drewN _ _ _)⟩
      · obtain rfl : k = n := by omega
        have hf : R = true := by
          rw [hR.out]
          refine decide_eq_true ?_
          have h1 := ht.out
          rwa [List.take_of_length_le (by rw [hl.out]; exact Nat.le_refl _), List.take_of_length_le (by rw [hk.out]; exact Nat.le_refl _)] at h1
        replace hf := Lib.hid hf
        go_wp2
        go_ret
        exact ⟨by rw [hf.out]; rfl, hg.out⟩
  · have hb : ((n : Int) == (m : Int)) = false := eqF (by omega)
    have hb2 : ((n : Int) != (m : Int)) = true := by rw [bne_iff_ne]; omega
    have hb3 : (n == m) = false := beq_eq_false_iff_ne.2 hnm
    have hf : R = false := by rw [hR.out]; exact decide_eq_false (fun e => hnm (by rw [← hl.out, ← hk.out, e]))
    replace hf := Lib.hid hf
    go_wp2
    go_ret
    exact ⟨by rw [hf.out]; rfl, gr_refl _ _⟩
end Go.Proofs.YtbnacoakjhhndaaGreat
