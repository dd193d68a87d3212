/-
  What the book's SameTexts answers: whether two lists of texts are the same. No condition.
-/
import Derived.Test.YtbkhopfoabdeiaaProg
import Derived.Test.YtbkhopfoabdeiaaAid
namespace Go.Proofs.Ytbkhopfoabdeiaa
open Go.RowKit

theorem take_eq_step {α : Type} {xs ys : List α} {k : Nat} {x y : α} (h : xs.take k = ys.take k) (hx : xs[k]? = some x) (hy : ys[k]? = some y) (e : x = y) : xs.take (k + 1) = ys.take (k + 1) := by
  obtain ⟨h1, h2⟩ := List.getElem?_eq_some_iff.1 hx
  obtain ⟨h3, h4⟩ := List.getElem?_eq_some_iff.1 hy
  rw [List.take_succ_eq_append_getElem h1, List.take_succ_eq_append_getElem h3, h, h2, h4, e]

set_option maxHeartbeats 1000000 in
theorem sameTexts_any (A B : Option Addr) (n m ca cb : Nat) (xs ys : List ByteArray) (w : World) (hn : n ≤ maxLen) (hm : m ≤ maxLen) (hx : Row w A n 1 (xs.map .string)) (hy : Row w B m 1 (ys.map .string)) :
    Calls Try.prog 19 #[.slice A n ca, .slice B m cb] w fun e w' => e = .returned (.bool (decide (xs = ys))) ∧ Gr w w' := by
  unfold maxLen at hn hm
  have hxl : xs.length = n := by simpa using hx.1
  have hyl : ys.length = m := by simpa using hy.1
  by_cases hnm : n = m
  · subst hnm
    replace hxl := Lib.hid hxl
    replace hyl := Lib.hid hyl
    replace hx := Lib.hid hx
    replace hy := Lib.hid hy
    have hnn : ((n : Int) != (n : Int)) = false := by simp
    go_enter Try.func19, Try.ntmps19
    go_wp2
    go_loopw [5] (fun i wr => ∃ k : Nat, k ≤ n ∧ i = .int .i64 k ∧ Hid (xs.take k = ys.take k) ∧ Gr w wr) (fun i _ => n - (intOf i).toNat)
    case atStart => exact ⟨0, Nat.zero_le _, rfl, rfl, gr_refl _ _⟩
    case round =>
      obtain ⟨k, hk, rfl, heq, hg⟩ := hrel
      by_cases hlt : k < n
      · obtain ⟨x, hxk⟩ : ∃ x, xs[k]? = some x := ⟨_, List.getElem?_eq_getElem (by rw [hxl.out]; exact hlt)⟩
        obtain ⟨y, hyk⟩ : ∃ y, ys[k]? = some y := ⟨_, List.getElem?_eq_getElem (by rw [hyl.out]; exact hlt)⟩
        obtain ⟨Ba, oa, rfl, hba, hca⟩ := hx.out.2 k (.string x) (by simp [hxk])
        obtain ⟨Bb, ob, rfl, hbb, hcb⟩ := hy.out.2 k (.string y) (by simp [hyk])
        have hca' := gr_cell hg hca
        have hcb' := gr_cell hg hcb
        clear hca hcb
        have hki : (k : Int) < n := by omega
        have hk0 : (0 : Int) ≤ k := by omega
        replace hxk := Lib.hid hxk
        replace hyk := Lib.hid hyk
        replace hg := Lib.hid hg
        by_cases hxy : x = y
        · subst hxy
          go_wp2_with fail
          go_quiet (fail)
          go_wp2
          go_roundw
          case rel => exact ⟨k + 1, by omega, by go_num, take_eq_step heq hxk.out hyk.out rfl, gr_trans hg.out (gr_drewN _ _ _)⟩
          case measure => simp [intOf]; omega
        · have hne : (x.toList == y.toList) = false := by
            rw [beq_eq_false_iff_ne]
            intro h
            rw [Lib.toList_data, Lib.toList_data] at h
            exact hxy (by rw [← txt_of x, ← txt_of y, h])
          have hfin : decide (xs = ys) = false := by
            rw [decide_eq_false_iff_not]
            rintro rfl
            have := hxk.out.symm.trans hyk.out
            exact hxy (Option.some.inj this)
          replace hfin := Lib.hid hfin
          replace hxy := Lib.hid hxy
          go_wp2_with fail
          go_quiet (fail)
          go_wp2
          go_ret
          exact ⟨by rw [hfin.out]; rfl, gr_trans hg.out (gr_drewN _ _ _)⟩
      · obtain rfl : k = n := by omega
        have hfin : decide (xs = ys) = true := by
          rw [decide_eq_true_iff]
          have h := heq.out
          rw [List.take_of_length_le (by rw [hxl.out]; exact Nat.le_refl _), List.take_of_length_le (by rw [hyl.out]; exact Nat.le_refl _)] at h
          exact h
        replace hfin := Lib.hid hfin
        go_wp2
        go_ret
        exact ⟨by rw [hfin.out]; rfl, hg⟩
  · have hfin : decide (xs = ys) = false := by
      rw [decide_eq_false_iff_not]
      rintro rfl
      omega
    have hnf : ((n : Int) == (m : Int)) = false := eqF (by omega)
    have hnf2 : (n == m) = false := by rw [beq_eq_false_iff_ne]; exact hnm
    replace hfin := Lib.hid hfin
    clear hxl hyl
    go_enter Try.func19, Try.ntmps19
    go_wp2
    go_ret
    exact ⟨by rw [hfin.out]; rfl, gr_refl _ _⟩
end Go.Proofs.Ytbkhopfoabdeiaa
