/-
  leporellolaw23.Right: may a request be, as the document has it. No condition but bounds on the lengths.
-/
import Derived.Test.YtbnacoakjhhndaaAskLaw1
namespace Go.Proofs.Ytbnacoakjhhndaa
open Go.RowKit

set_option maxHeartbeats 8000000 in
set_option maxRecDepth 100000 in
theorem lright2 (A : Option Addr) (n c : Nat) (zs : List Lb) (t : List UInt8) (a b d : Int) (w : World) (hn : zs.length = n) (ht : t.length ≤ 1000000000) (hn9 : n ≤ 1000000000) : LawRight A n c ⟨2, zs, t, a, b, d⟩ w := by
  unfold LawRight aqV
  replace hn := Lib.hid hn
  have hte : (t.isEmpty = true ↔ t.length = 0) := by cases t <;> simp
  go_enter Try.func10, Try.ntmps10
  by_cases h0 : n = 0
  · have hn0 : ((n : Int) == 0) = true := eqT (by omega)
    by_cases ht0 : t = []
    · have hte0 : t.isEmpty = true := by rw [ht0]; rfl
      have htl : t.length = 0 := by rw [ht0]; rfl
      clear ht0 hte
      go_wp2
      have hn := hn.out
      all_goals
        go_ret
        refine ⟨congrArg (fun b => Ending.returned (.bool b)) ?_, gr_alloc _ _ _⟩
        rw [Bool.eq_iff_iff]
        (simp only [decide_eq_true_eq, okA_2, hn, Bool.false_eq_true, false_iff, true_iff, beq_iff_eq]) <;> omega
    · have hte0 : t.isEmpty = false := by rw [List.isEmpty_eq_false_iff]; exact ht0
      have htl : 0 < t.length := List.length_pos_iff.2 ht0
      clear ht0 hte
      go_wp2
      have hn := hn.out
      all_goals
        go_ret
        refine ⟨congrArg (fun b => Ending.returned (.bool b)) ?_, gr_alloc _ _ _⟩
        rw [Bool.eq_iff_iff]
        (simp only [decide_eq_true_eq, okA_2, hn, Bool.false_eq_true, false_iff, true_iff, beq_iff_eq]) <;> omega
  · have hn0 : ((n : Int) == 0) = false := eqF (by omega)
    clear hte
    go_wp2
    have hn := hn.out
    all_goals
      go_ret
      refine ⟨congrArg (fun b => Ending.returned (.bool b)) ?_, gr_alloc _ _ _⟩
      rw [Bool.eq_iff_iff]
      (simp only [decide_eq_true_eq, okA_2, hn, Bool.false_eq_true, false_iff, true_iff, beq_iff_eq]) <;> omega
set_option maxHeartbeats 8000000 in
set_option maxRecDepth 100000 in
theorem lright3 (A : Option Addr) (n c : Nat) (zs : List Lb) (t : List UInt8) (a b d : Int) (w : World) (hn : zs.length = n) (ht : t.length ≤ 1000000000) (hn9 : n ≤ 1000000000) : LawRight A n c ⟨3, zs, t, a, b, d⟩ w := by
  unfold LawRight aqV
  replace hn := Lib.hid hn
  have hte : (t.isEmpty = true ↔ t.length = 0) := by cases t <;> simp
  go_enter Try.func10, Try.ntmps10
  by_cases h0 : n = 0
  · have hn0 : ((n : Int) == 0) = true := eqT (by omega)
    by_cases ht0 : t = []
    · have hte0 : t.isEmpty = true := by rw [ht0]; rfl
      have htl : t.length = 0 := by rw [ht0]; rfl
      clear ht0 hte
      go_wp2
      have hn := hn.out
      all_goals
        go_ret
        refine ⟨congrArg (fun b => Ending.returned (.bool b)) ?_, gr_alloc _ _ _⟩
        rw [Bool.eq_iff_iff]
        (simp only [decide_eq_true_eq, okA_3, hn, Bool.false_eq_true, false_iff, true_iff, beq_iff_eq]) <;> omega
    · have hte0 : t.isEmpty = false := by rw [List.isEmpty_eq_false_iff]; exact ht0
      have htl : 0 < t.length := List.length_pos_iff.2 ht0
      clear ht0 hte
      go_wp2
      have hn := hn.out
      all_goals
        go_ret
        refine ⟨congrArg (fun b => Ending.returned (.bool b)) ?_, gr_alloc _ _ _⟩
        rw [Bool.eq_iff_iff]
        (simp only [decide_eq_true_eq, okA_3, hn, Bool.false_eq_true, false_iff, true_iff, beq_iff_eq]) <;> omega
  · have hn0 : ((n : Int) == 0) = false := eqF (by omega)
    clear hte
    go_wp2
    have hn := hn.out
    all_goals
      go_ret
      refine ⟨congrArg (fun b => Ending.returned (.bool b)) ?_, gr_alloc _ _ _⟩
      rw [Bool.eq_iff_iff]
      (simp only [decide_eq_true_eq, okA_3, hn, Bool.false_eq_true, false_iff, true_iff, beq_iff_eq]) <;> omega
set_option maxHeartbeats 8000000 in
set_option maxRecDepth 100000 in
theorem lright4 (A : Option Addr) (n c : Nat) (zs : List Lb) (t : List UInt8) (a b d : Int) (w : World) (hn : zs.length = n) (ht : t.length ≤ 1000000000) (hn9 : n ≤ 1000000000) : LawRight A n c ⟨4, zs, t, a, b, d⟩ w := by
  unfold LawRight aqV
  replace hn := Lib.hid hn
  have hte : (t.isEmpty = true ↔ t.length = 0) := by cases t <;> simp
  go_enter Try.func10, Try.ntmps10
  by_cases h0 : n = 0
  · have hn0 : ((n : Int) == 0) = true := eqT (by omega)
    by_cases ht0 : t = []
    · have hte0 : t.isEmpty = true := by rw [ht0]; rfl
      have htl : t.length = 0 := by rw [ht0]; rfl
      clear ht0 hte
      go_wp2
      have hn := hn.out
      all_goals
        go_ret
        refine ⟨congrArg (fun b => Ending.returned (.bool b)) ?_, gr_alloc _ _ _⟩
        rw [Bool.eq_iff_iff]
        (simp only [decide_eq_true_eq, okA_4, hn, Bool.false_eq_true, false_iff, true_iff, beq_iff_eq]) <;> omega
    · have hte0 : t.isEmpty = false := by rw [List.isEmpty_eq_false_iff]; exact ht0
      have htl : 0 < t.length := List.length_pos_iff.2 ht0
      clear ht0 hte
      go_wp2
      have hn := hn.out
      all_goals
        go_ret
        refine ⟨congrArg (fun b => Ending.returned (.bool b)) ?_, gr_alloc _ _ _⟩
        rw [Bool.eq_iff_iff]
        (simp only [decide_eq_true_eq, okA_4, hn, Bool.false_eq_true, false_iff, true_iff, beq_iff_eq]) <;> omega
  · have hn0 : ((n : Int) == 0) = false := eqF (by omega)
    clear hte
    go_wp2
    have hn := hn.out
    all_goals
      go_ret
      refine ⟨congrArg (fun b => Ending.returned (.bool b)) ?_, gr_alloc _ _ _⟩
      rw [Bool.eq_iff_iff]
      (simp only [decide_eq_true_eq, okA_4, hn, Bool.false_eq_true, false_iff, true_iff, beq_iff_eq]) <;> omega
set_option maxHeartbeats 8000000 in
set_option maxRecDepth 100000 in
theorem lright5 (A : Option Addr) (n c : Nat) (zs : List Lb) (t : List UInt8) (a b d : Int) (w : World) (hn : zs.length = n) (ht : t.length ≤ 1000000000) (hn9 : n ≤ 1000000000) : LawRight A n c ⟨5, zs, t, a, b, d⟩ w := by
  unfold LawRight aqV
  replace hn := Lib.hid hn
  have hte : (t.isEmpty = true ↔ t.length = 0) := by cases t <;> simp
  go_enter Try.func10, Try.ntmps10
  by_cases h0 : n = 0
  · have hn0 : ((n : Int) == 0) = true := eqT (by omega)
    by_cases ht0 : t = []
    · have hte0 : t.isEmpty = true := by rw [ht0]; rfl
      have htl : t.length = 0 := by rw [ht0]; rfl
      clear ht0 hte
      go_wp2
      have hn := hn.out
      all_goals
        go_ret
        refine ⟨congrArg (fun b => Ending.returned (.bool b)) ?_, gr_alloc _ _ _⟩
        rw [Bool.eq_iff_iff]
        (simp only [decide_eq_true_eq, okA_5, hn, Bool.false_eq_true, false_iff, true_iff, beq_iff_eq]) <;> omega
    · have hte0 : t.isEmpty = false := by rw [List.isEmpty_eq_false_iff]; exact ht0
      have htl : 0 < t.length := List.length_pos_iff.2 ht0
      clear ht0 hte
      go_wp2
      have hn := hn.out
      all_goals
        go_ret
        refine ⟨congrArg (fun b => Ending.returned (.bool b)) ?_, gr_alloc _ _ _⟩
        rw [Bool.eq_iff_iff]
        (simp only [decide_eq_true_eq, okA_5, hn, Bool.false_eq_true, false_iff, true_iff, beq_iff_eq]) <;> omega
  · have hn0 : ((n : Int) == 0) = false := eqF (by omega)
    clear hte
    go_wp2
    have hn := hn.out
    all_goals
      go_ret
      refine ⟨congrArg (fun b => Ending.returned (.bool b)) ?_, gr_alloc _ _ _⟩
      rw [Bool.eq_iff_iff]
      (simp only [decide_eq_true_eq, okA_5, hn, Bool.false_eq_true, false_iff, true_iff, beq_iff_eq]) <;> omega
set_option maxHeartbeats 8000000 in
set_option maxRecDepth 100000 in
theorem lright6 (A : Option Addr) (n c : Nat) (zs : List Lb) (t : List UInt8) (a b d : Int) (w : World) (hn : zs.length = n) (ht : t.length ≤ 1000000000) (hn9 : n ≤ 1000000000) : LawRight A n c ⟨6, zs, t, a, b, d⟩ w := by
  unfold LawRight aqV
  replace hn := Lib.hid hn
  have hte : (t.isEmpty = true ↔ t.length = 0) := by cases t <;> simp
  go_enter Try.func10, Try.ntmps10
  by_cases h0 : n = 0
  · have hn0 : ((n : Int) == 0) = true := eqT (by omega)
    by_cases ht0 : t = []
    · have hte0 : t.isEmpty = true := by rw [ht0]; rfl
      have htl : t.length = 0 := by rw [ht0]; rfl
      clear ht0 hte
      go_wp2
      have hn := hn.out
      all_goals
        go_ret
        refine ⟨congrArg (fun b => Ending.returned (.bool b)) ?_, gr_alloc _ _ _⟩
        rw [Bool.eq_iff_iff]
        (simp only [decide_eq_true_eq, okA_6, hn, Bool.false_eq_true, false_iff, true_iff, beq_iff_eq]) <;> omega
    · have hte0 : t.isEmpty = false := by rw [List.isEmpty_eq_false_iff]; exact ht0
      have htl : 0 < t.length := List.length_pos_iff.2 ht0
      clear ht0 hte
      go_wp2
      have hn := hn.out
      all_goals
        go_ret
        refine ⟨congrArg (fun b => Ending.returned (.bool b)) ?_, gr_alloc _ _ _⟩
        rw [Bool.eq_iff_iff]
        (simp only [decide_eq_true_eq, okA_6, hn, Bool.false_eq_true, false_iff, true_iff, beq_iff_eq]) <;> omega
  · have hn0 : ((n : Int) == 0) = false := eqF (by omega)
    clear hte
    go_wp2
    have hn := hn.out
    all_goals
      go_ret
      refine ⟨congrArg (fun b => Ending.returned (.bool b)) ?_, gr_alloc _ _ _⟩
      rw [Bool.eq_iff_iff]
      (simp only [decide_eq_true_eq, okA_6, hn, Bool.false_eq_true, false_iff, true_iff, beq_iff_eq]) <;> omega
set_option maxHeartbeats 8000000 in
set_option maxRecDepth 100000 in
theorem lrightO (A : Option Addr) (n c : Nat) (k : Int) (zs : List Lb) (t : List UInt8) (a b d : Int) (w : World) (h1 : k ≠ 1) (h2 : k ≠ 2) (h3 : k ≠ 3) (h4 : k ≠ 4) (h5 : k ≠ 5) (h6 : k ≠ 6) : LawRight A n c ⟨k, zs, t, a, b, d⟩ w := by
  unfold LawRight aqV
  have e1 := eqF h1
  have e2 := eqF h2
  have e3 := eqF h3
  have e4 := eqF h4
  have e5 := eqF h5
  have e6 := eqF h6
  have ho := Lib.hid (decide_eq_false (okA_o k zs t a b d h1 h2 h3 h4 h5 h6))
  clear h1 h2 h3 h4 h5 h6
  go_enter Try.func10, Try.ntmps10
  by_cases h0 : n = 0
  · have hn0 : ((n : Int) == 0) = true := eqT (by omega)
    by_cases ht0 : t = []
    · have hte0 : t.isEmpty = true := by rw [ht0]; rfl
      have htl : t.length = 0 := by rw [ht0]; rfl
      clear ht0
      go_wp2
      go_ret
      exact ⟨by rw [ho.out]; rfl, gr_alloc _ _ _⟩
    · have hte0 : t.isEmpty = false := by rw [List.isEmpty_eq_false_iff]; exact ht0
      have htl : 0 < t.length := List.length_pos_iff.2 ht0
      clear ht0
      go_wp2
      go_ret
      exact ⟨by rw [ho.out]; rfl, gr_alloc _ _ _⟩
  · have hn0 : ((n : Int) == 0) = false := eqF (by omega)
    by_cases ht0 : t = []
    · have hte0 : t.isEmpty = true := by rw [ht0]; rfl
      have htl : t.length = 0 := by rw [ht0]; rfl
      clear ht0
      go_wp2
      go_ret
      exact ⟨by rw [ho.out]; rfl, gr_alloc _ _ _⟩
    · have hte0 : t.isEmpty = false := by rw [List.isEmpty_eq_false_iff]; exact ht0
      have htl : 0 < t.length := List.length_pos_iff.2 ht0
      clear ht0
      go_wp2
      go_ret
      exact ⟨by rw [ho.out]; rfl, gr_alloc _ _ _⟩
theorem lawRight_any (A : Option Addr) (n c : Nat) (q : Aq) (w : World) (h : AqOk w A n c q) (hsh : ∀ x ∈ q.l, x.n.length ≤ 1000000 ∧ x.v.length ≤ 1000000) : Calls Try.prog 10 #[aqV A n c q] w fun e w' => e = .returned (.bool (decide (okA q))) ∧ Gr w w' := by
  obtain ⟨h1, h2, h3, h4, h5, h6, h7⟩ := h
  obtain ⟨k, zs, t, a, b, d⟩ := q
  simp only at h1 h3 h5 h6 h7 hsh
  by_cases k1 : k = 1
  · subst k1; exact lright1 A n c zs t a b d w h2 h5 hsh
  by_cases k2 : k = 2
  · subst k2; exact lright2 A n c zs t a b d w h1 h3 h2
  by_cases k3 : k = 3
  · subst k3; exact lright3 A n c zs t a b d w h1 h3 h2
  by_cases k4 : k = 4
  · subst k4; exact lright4 A n c zs t a b d w h1 h3 h2
  by_cases k5 : k = 5
  · subst k5; exact lright5 A n c zs t a b d w h1 h3 h2
  by_cases k6 : k = 6
  · subst k6; exact lright6 A n c zs t a b d w h1 h3 h2
  exact lrightO A n c k zs t a b d w k1 k2 k3 k4 k5 k6
end Go.Proofs.Ytbnacoakjhhndaa
