/-
  How two lists of labels stand: slices.CompareFunc by label.order, label.Compare, label.Same. No condition but a bound on the lengths.
-/
import Derived.Test.YtccmekdmnkmhlaaGreatLabelOrd
namespace Go.Proofs.YtccmekdmnkmhlaaGreat
open Go.RowKit

def cmpLs : List Lb → List Lb → Int
  | [], [] => 0
  | [], _ :: _ => -1
  | _ :: _, [] => 1
  | x :: a, y :: b => if cmpLb x y = 0 then cmpLs a b else cmpLb x y
theorem cmpLs_refl : ∀ a : List Lb, cmpLs a a = 0 := by
  intro a
  induction a with
  | nil => rfl
  | cons x a ih => simp [cmpLs, cmpLb_refl, ih]
theorem cmpLs_eq : ∀ {a b : List Lb}, cmpLs a b = 0 → a = b := by
  intro a
  induction a with
  | nil => intro b h; cases b with
    | nil => rfl
    | cons y b => simp [cmpLs] at h
  | cons x a ih =>
    intro b h
    cases b with
    | nil => simp [cmpLs] at h
    | cons y b =>
      unfold cmpLs at h
      by_cases hc : cmpLb x y = 0
      · rw [if_pos hc] at h
        rw [cmpLb_eq hc, ih h]
      · rw [if_neg hc] at h
        exact absurd h hc
theorem cmpLs_drop {a b : List Lb} {k : Nat} {x y : Lb} (hx : a[k]? = some x) (hy : b[k]? = some y) : cmpLs (a.drop k) (b.drop k) = if cmpLb x y = 0 then cmpLs (a.drop (k + 1)) (b.drop (k + 1)) else cmpLb x y := by
  obtain ⟨h1, h2⟩ := List.getElem?_eq_some_iff.1 hx
  obtain ⟨h3, h4⟩ := List.getElem?_eq_some_iff.1 hy
  rw [List.drop_eq_getElem_cons h1, List.drop_eq_getElem_cons h3, h2, h4]
  rfl
theorem two_cells {w : World} {B o : Nat} {x : Lb} (h : ∀ j, j < 2 → w.cell? ⟨B, o + j, none⟩ = (lblC x)[j]?) : w.cell? ⟨B, o, none⟩ = some (.string (txt x.n)) ∧ w.cell? ⟨B, o + 1, none⟩ = some (.string (txt x.v)) := ⟨h 0 (by decide), h 1 (by decide)⟩
set_option maxHeartbeats 8000000 in
set_option maxRecDepth 100000 in
theorem lcmpF_any (A B : Option Addr) (n m ca cb : Nat) (zs ys : List Lb) (w : World) (hn : n ≤ 1000000000) (hm : m ≤ 1000000000) (hz : Row w A n 2 (sR lblC zs)) (hy : Row w B m 2 (sR lblC ys)) :
    Calls Tryz.prog 96 #[.slice A n ca, .slice B m cb, .func (.func 97) #[] #[]] w fun e w' => e = .returned (.int .i64 (cmpLs zs ys)) ∧ Gr w w' := by
  have hl : zs.length = n := by have := hz.1; rw [sR_len lblC 2 lblC_len] at this; omega
  have hk : ys.length = m := by have := hy.1; rw [sR_len lblC 2 lblC_len] at this; omega
  replace hz := Lib.hid hz
  replace hy := Lib.hid hy
  replace hl := Lib.hid hl
  replace hk := Lib.hid hk
  obtain ⟨C, hC⟩ : ∃ C, C = cmpLs zs ys := ⟨_, rfl⟩
  rw [← hC]
  replace hC := Lib.hid hC
  go_enter Tryz.func96, Tryz.ntmps96
  go_wp2
  go_loopw [13] (fun iv wr => ∃ k : Nat, k ≤ n ∧ k ≤ m ∧ iv = .int .i64 k ∧ Hid (C = cmpLs (zs.drop k) (ys.drop k)) ∧ Hid (Gr w wr)) (fun iv _ => n - (intOf iv).toNat)
  case atStart => exact ⟨0, Nat.zero_le _, Nat.zero_le _, rfl, hC.out, gr_refl _ _⟩
  case round =>
    obtain ⟨k, hkn, hkm, rfl, hc, hg⟩ := hrel
    by_cases hlt : k < n
    · obtain ⟨x, gA, oA, hx, rfl, _, ha⟩ := rowS_elem lblC_len (row_gr hz.out hg.out) (by decide) hlt
      obtain ⟨a0, a1⟩ := two_cells ha
      have hki : (k : Int) < (n : Int) := by omega
      have hk0 : (0 : Int) ≤ (k : Int) := by omega
      clear ha
      by_cases hlm : k < m
      · obtain ⟨y, gB, oB, hyy, rfl, _, hb⟩ := rowS_elem lblC_len (row_gr hy.out hg.out) (by decide) hlm
        obtain ⟨b0, b1⟩ := two_cells hb
        clear hb
        have hmi : (k : Int) < (m : Int) := by omega
        have hmf : ((m : Int) ≤ (k : Int)) = False := eq_false (by omega)
        have hd := cmpLs_drop hx hyy
        rw [← hc.out] at hd
        have hor : ∀ W, Calls Tryz.prog 97 #[.agg #[.string (txt x.n), .string (txt x.v)], .agg #[.string (txt y.n), .string (txt y.v)]] W fun e w' => e = .returned (.int .i64 (cmpLb x y)) ∧ Gr W w' := fun W => order_any x y W
        generalize cmpLb x y = r at hor hd
        replace hor := Lib.hid hor
        replace hd := Lib.hid hd
        replace hx := Lib.hid hx
        replace hyy := Lib.hid hyy
        by_cases hr : r = 0
        · subst hr
          have hd2 := hd.out
          rw [if_pos rfl] at hd2
          replace hd2 := Lib.hid hd2
          go_wp2_with fail
          refine (hor.out _).mono ?_
          rintro e w3 ⟨rfl, g3⟩
          go_wp2
          go_roundw
          case rel => exact ⟨k + 1, by omega, by omega, by go_num, hd2.out, gr_trans hg.out (gr_trans (gr_trans (gr_alloc _ _ _) (gr_alloc _ _ _)) g3)⟩
          case measure => simp [intOf]; omega
        · have hr1 : (r == 0) = false := eqF hr
          have hr2 : (r != 0) = true := by simpa using hr
          have hd2 := hd.out
          rw [if_neg hr] at hd2
          replace hd2 := Lib.hid hd2
          go_wp2_with fail
          refine (hor.out _).mono ?_
          rintro e w3 ⟨rfl, g3⟩
          go_wp2
          go_ret
          exact ⟨by rw [hd2.out]; rfl, gr_trans hg.out (gr_trans (gr_trans (gr_alloc _ _ _) (gr_alloc _ _ _)) g3)⟩
      · obtain rfl : k = m := by omega
        have hd : C = 1 := by
          rw [hc.out, show ys.drop k = [] from List.drop_eq_nil_of_le (by rw [hk.out]; exact Nat.le_refl _), List.drop_eq_getElem_cons (by rw [hl.out]; exact hlt)]
          rfl
        replace hd := Lib.hid hd
        go_wp2
        go_ret
        exact ⟨by rw [hd.out]; rfl, gr_trans hg.out (gr_alloc _ _ _)⟩
    · obtain rfl : k = n := by omega
      by_cases hlm : k < m
      · have hmi : (k : Int) < (m : Int) := by omega
        have hd : C = -1 := by
          rw [hc.out, show zs.drop k = [] from List.drop_eq_nil_of_le (by rw [hl.out]; exact Nat.le_refl _), List.drop_eq_getElem_cons (by rw [hk.out]; exact hlm)]
          rfl
        replace hd := Lib.hid hd
        go_wp2
        go_ret
        exact ⟨by rw [hd.out]; rfl, hg.out⟩
      · have hmf : ((k : Int) < (m : Int)) = False := eq_false (by omega)
        have hd : C = 0 := by
          rw [hc.out, show zs.drop k = [] from List.drop_eq_nil_of_le (by rw [hl.out]; exact Nat.le_refl _), show ys.drop k = [] from List.drop_eq_nil_of_le (by rw [hk.out]; omega)]
          rfl
        replace hd := Lib.hid hd
        go_wp2
        go_ret
        exact ⟨by rw [hd.out]; rfl, hg.out⟩
theorem lcompare_any (A B : Option Addr) (n m ca cb : Nat) (zs ys : List Lb) (w : World) (hn : n ≤ 1000000000) (hm : m ≤ 1000000000) (hz : Row w A n 2 (sR lblC zs)) (hy : Row w B m 2 (sR lblC ys)) :
    Calls Tryz.prog 41 #[.slice A n ca, .slice B m cb] w fun e w' => e = .returned (.int .i64 (cmpLs zs ys)) ∧ Gr w w' := by
  have hc := lcmpF_any A B n m ca cb zs ys w hn hm hz hy
  generalize cmpLs zs ys = r at *
  clear hz hy
  replace hc := Lib.hid hc
  go_enter Tryz.func41, Tryz.ntmps41
  go_wp2_with fail
  refine hc.out.mono ?_
  rintro e w3 ⟨rfl, g3⟩
  go_wp2
  go_ret
  exact ⟨rfl, g3⟩
theorem lsame_any (A B : Option Addr) (n m ca cb : Nat) (zs ys : List Lb) (w : World) (hn : n ≤ 1000000000) (hm : m ≤ 1000000000) (hz : Row w A n 2 (sR lblC zs)) (hy : Row w B m 2 (sR lblC ys)) :
    Calls Tryz.prog 117 #[.slice A n ca, .slice B m cb] w fun e w' => e = .returned (.bool (decide (zs = ys))) ∧ Gr w w' := by
  have hc := lcompare_any A B n m ca cb zs ys w hn hm hz hy
  have hq : (cmpLs zs ys == 0) = decide (zs = ys) := by
    by_cases h : zs = ys
    · subst h; rw [cmpLs_refl]; simp
    · rw [decide_eq_false h]
      exact eqF (fun k => h (cmpLs_eq k))
  generalize cmpLs zs ys = r at *
  generalize decide (zs = ys) = b at *
  clear hz hy
  replace hc := Lib.hid hc
  go_enter Tryz.func117, Tryz.ntmps117
  go_wp2_with fail
  refine hc.out.mono ?_
  rintro e w3 ⟨rfl, g3⟩
  go_wp2
  all_goals
    go_ret
    exact ⟨by first | rfl | simp_all, g3⟩
end Go.Proofs.YtccmekdmnkmhlaaGreat
