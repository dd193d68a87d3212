/-
  How the document compares texts and lists of labels. No condition but bounds on the lengths.
-/
import Derived.Test.YtbnacoakjhhndaaGreatLabelCmp
import Derived.Test.YtbnacoakjhhndaaGreatQuietGr
namespace Go.Proofs.YtbnacoakjhhndaaGreat
open Go.RowKit

theorem less_eq : ∀ (a b : List UInt8), Op.bytesLess a b = decide (ltT a b) := by
  intro a
  induction a with
  | nil => intro b; cases b with
    | nil => rfl
    | cons y b => rfl
  | cons x a ih =>
    intro b
    cases b with
    | nil => rfl
    | cons y b =>
      have h := ih b
      unfold ltT at h ⊢
      unfold Op.bytesLess Lib.compareBytes
      by_cases h1 : x < y
      · simp [h1]
      · by_cases h2 : y < x
        · have h3 : (x == y) = false := beq_eq_false_iff_ne.2 (fun e => by subst e; exact UInt8.lt_irrefl x h2)
          simp [h1, h2, h3]
        · have h3 : x = y := UInt8.le_antisymm (UInt8.not_lt.1 h2) (UInt8.not_lt.1 h1)
          subst h3
          simp only [h1, if_false]
          rw [← h]
          simp
set_option maxRecDepth 100000 in
theorem refTexts_any (a b : List UInt8) (w : World) : Calls Tryz.prog 117 #[.string (txt a), .string (txt b)] w fun e w' => e = .returned (.int .i64 (Lib.compareBytes a b)) ∧ w = w' := by
  have hl := less_eq a b
  have h1 := cb_one a b
  obtain ⟨C, hC⟩ : ∃ C, C = Lib.compareBytes a b := ⟨_, rfl⟩
  rw [← hC]
  rcases h1 with h | h | h
  · have q1 : Op.bytesLess a b = true := by rw [hl]; exact decide_eq_true (by unfold ltT; omega)
    have hc : C = -1 := by rw [hC, h]
    replace hc := Lib.hid hc
    clear hl h hC
    go_enter Tryz.func117, Tryz.ntmps117
    go_wp2
    go_ret
    exact ⟨by rw [hc.out]; rfl, rfl⟩
  · have q1 : Op.bytesLess a b = false := by rw [hl]; exact decide_eq_false (by unfold ltT; omega)
    have q2 : (a == b) = true := by rw [cb_eq h]; exact beq_self_eq_true _
    have hc : C = 0 := by rw [hC, h]
    replace hc := Lib.hid hc
    clear hl h hC
    go_enter Tryz.func117, Tryz.ntmps117
    go_wp2
    go_ret
    exact ⟨by rw [hc.out]; rfl, rfl⟩
  · have q1 : Op.bytesLess a b = false := by rw [hl]; exact decide_eq_false (by unfold ltT; omega)
    have q2 : (a == b) = false := beq_eq_false_iff_ne.2 (fun e => by rw [e, cb_refl] at h; omega)
    have hc : C = 1 := by rw [hC, h]
    replace hc := Lib.hid hc
    clear hl h hC
    go_enter Tryz.func117, Tryz.ntmps117
    go_wp2
    go_ret
    exact ⟨by rw [hc.out]; rfl, rfl⟩
set_option maxHeartbeats 8000000 in
set_option maxRecDepth 100000 in
theorem refCompare_any (A B : Option Addr) (n m ca cb : Nat) (zs ys : List Lb) (w : World) (hn : n ≤ 1000000000) (hm : m ≤ 1000000000) (hz : Row w A n 2 (sR lblC zs)) (hy : Row w B m 2 (sR lblC ys)) :
    Calls Tryz.prog 107 #[.slice A n ca, .slice B m cb] w fun e w' => e = .returned (.int .i64 (cmpLs zs ys)) ∧ Gr w w' := by
  have hl : zs.length = n := by have := hz.1; rw [sR_len lblC 2 lblC_len] at this; omega
  have hk : ys.length = m := by have := hy.1; rw [sR_len lblC 2 lblC_len] at this; omega
  replace hz := Lib.hid hz
  replace hy := Lib.hid hy
  replace hl := Lib.hid hl
  replace hk := Lib.hid hk
  obtain ⟨C, hC⟩ : ∃ C, C = cmpLs zs ys := ⟨_, rfl⟩
  rw [← hC]
  replace hC := Lib.hid hC
  go_enter Tryz.func107, Tryz.ntmps107
  go_wp2
  go_loopw [5] (fun iv wr => ∃ k : Nat, k ≤ n ∧ k ≤ m ∧ iv = .int .i64 k ∧ Hid (C = cmpLs (zs.drop k) (ys.drop k)) ∧ Hid (Gr w wr)) (fun iv _ => n - (intOf iv).toNat)
  case atStart => exact ⟨0, Nat.zero_le _, Nat.zero_le _, rfl, hC.out, gr_refl _ _⟩
  case round =>
    obtain ⟨k, hkn, hkm, rfl, hc, hg⟩ := hrel
    by_cases hlt : k < n
    · have hki : (k : Int) < (n : Int) := by omega
      have hk0 : (0 : Int) ≤ (k : Int) := by omega
      by_cases hlm : k < m
      · have hmi : (k : Int) < (m : Int) := by omega
        obtain ⟨x, gA, oA, hx, rfl, _, ha⟩ := rowS_elem lblC_len (row_gr hz.out hg.out) (by decide) hlt
        obtain ⟨a0, a1⟩ := two_cells ha
        obtain ⟨y, gB, oB, hyy, rfl, _, hb⟩ := rowS_elem lblC_len (row_gr hy.out hg.out) (by decide) hlm
        obtain ⟨b0, b1⟩ := two_cells hb
        clear ha hb
        have p0 : ∀ p : Grown wr, p.wd.cell? ⟨gA, oA + k * 2, none⟩ = some (.string (txt x.n)) := fun p => cell_to a0 p
        have p2 : ∀ p : Grown wr, p.wd.cell? ⟨gB, oB + k * 2, none⟩ = some (.string (txt y.n)) := fun p => cell_to b0 p
        have hd := cmpLs_drop hx hyy
        rw [← hc.out] at hd
        have ht1 := fun W => refTexts_any x.n y.n W
        have ht2 := fun W => refTexts_any x.v y.v W
        have hcl : cmpLb x y = if Lib.compareBytes x.n y.n = 0 then Lib.compareBytes x.v y.v else Lib.compareBytes x.n y.n := rfl
        generalize Lib.compareBytes x.n y.n = r1 at ht1 hcl
        generalize Lib.compareBytes x.v y.v = r2 at ht2 hcl
        replace ht1 := Lib.hid ht1
        replace ht2 := Lib.hid ht2
        clear hx hyy
        by_cases hr1 : r1 = 0
        · subst hr1
          rw [if_pos rfl] at hcl
          rw [hcl] at hd
          replace hd := Lib.hid hd
          clear hcl
          go_wp2_with fail
          refine wp_region_quiet_gr (by kernel_rfl) (by kernel_rfl) ?_
          repeat (go_big_quiet_step ((go_at_call 117; exact calls_still (ht1.out _))))
          refine wpQuiet_nil ?_
          intro w2 hw2
          obtain ⟨⟨wP, gP⟩, rfl⟩ := hw2
          have p1 : ∀ p : Grown w2, p.wd.cell? ⟨gA, oA + k * 2 + 1, none⟩ = some (.string (txt x.v)) := fun p => cell_to (gr_cell gP a1) p
          have p3 : ∀ p : Grown w2, p.wd.cell? ⟨gB, oB + k * 2 + 1, none⟩ = some (.string (txt y.v)) := fun p => cell_to (gr_cell gP b1) p
          clear p0 p2 a0 a1 b0 b1
          go_wp2_with fail
          refine wp_region_quiet_gr (by kernel_rfl) (by kernel_rfl) ?_
          repeat (go_big_quiet_step ((go_at_call 117; exact calls_still (ht2.out _))))
          refine wpQuiet_nil ?_
          intro w3 hw3
          obtain ⟨⟨wP3, gP3⟩, rfl⟩ := hw3
          clear p1 p3
          by_cases hr2 : r2 = 0
          · subst hr2
            have hd2 := hd.out
            rw [if_pos rfl] at hd2
            replace hd2 := Lib.hid hd2
            go_wp2
            go_roundw
            case rel => exact ⟨k + 1, by omega, by omega, by go_num, hd2.out, gr_trans hg.out (gr_trans gP gP3)⟩
            case measure => simp [intOf]; omega
          · have hb1 : (r2 == 0) = false := eqF hr2
            have hb2 : (r2 != 0) = true := by simpa using hr2
            have hd2 := hd.out
            rw [if_neg hr2] at hd2
            replace hd2 := Lib.hid hd2
            go_wp2
            go_ret
            exact ⟨by rw [hd2.out]; rfl, gr_trans hg.out (gr_trans gP gP3)⟩
        · rw [if_neg hr1] at hcl
          rw [hcl, if_neg hr1] at hd
          have hb1 : (r1 == 0) = false := eqF hr1
          have hb2 : (r1 != 0) = true := by simpa using hr1
          replace hd := Lib.hid hd
          clear hcl
          go_wp2_with fail
          refine wp_region_quiet_gr (by kernel_rfl) (by kernel_rfl) ?_
          repeat (go_big_quiet_step ((go_at_call 117; exact calls_still (ht1.out _))))
          refine wpQuiet_nil ?_
          intro w2 hw2
          obtain ⟨⟨wP, gP⟩, rfl⟩ := hw2
          clear p0 p2 a0 a1 b0 b1
          go_wp2
          go_ret
          exact ⟨by rw [hd.out]; rfl, gr_trans hg.out gP⟩
      · obtain rfl : k = m := by omega
        have hd : C = 1 := by
          rw [hc.out, show ys.drop k = [] from List.drop_eq_nil_of_le (by rw [hk.out]; exact Nat.le_refl _), List.drop_eq_getElem_cons (by rw [hl.out]; exact hlt)]
          rfl
        have hnk : ((n : Int) < (k : Int)) = False := eq_false (by omega)
        replace hd := Lib.hid hd
        go_wp2
        go_ret
        exact ⟨by rw [hd.out]; rfl, hg.out⟩
    · obtain rfl : k = n := by omega
      by_cases hlm : k < m
      · have hmi : (k : Int) < (m : Int) := by omega
        have hd : C = -1 := by
          rw [hc.out, show zs.drop k = [] from List.drop_eq_nil_of_le (by rw [hl.out]; exact Nat.le_refl _), List.drop_eq_getElem_cons (by rw [hk.out]; exact hlm)]
          rfl
        replace hd := Lib.hid hd
        go_wp2
        go_ret
        exact ⟨by rw [hd.out]; rfl, hg.out⟩
      · obtain rfl : k = m := by omega
        have hd : C = 0 := by
          rw [hc.out, show zs.drop k = [] from List.drop_eq_nil_of_le (by rw [hl.out]; exact Nat.le_refl _), show ys.drop k = [] from List.drop_eq_nil_of_le (by rw [hk.out]; exact Nat.le_refl _)]
          rfl
        replace hd := Lib.hid hd
        go_wp2
        go_ret
        exact ⟨by rw [hd.out]; rfl, hg.out⟩
end Go.Proofs.YtbnacoakjhhndaaGreat
