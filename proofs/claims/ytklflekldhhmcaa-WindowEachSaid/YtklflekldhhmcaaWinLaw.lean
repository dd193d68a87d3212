/-
  Plain facts on windows of points. No condition.
-/
import Derived.Test.YtklflekldhhmcaaWinOpen
import Derived.Test.YtklflekldhhmcaaAppendRow
namespace Go.Proofs.Ytklflekldhhmcaa
open Go.RowKit

theorem parts_law {t a b : Int} : ∀ {zs : List (Int × Int)}, zs.Pairwise (fun x y => x.1 < y.1) → 0 ≤ a → 0 ≤ b → zs.filter (inWin (t - b) a) ++ zs.filter (inWin t b) = zs.filter (inWin t (a + b))
  | [], _, _, _ => rfl
  | x :: xs, h, ha, hb => by
    rw [List.pairwise_cons] at h
    have ih := parts_law (t := t) (a := a) (b := b) h.2 ha hb
    by_cases c1 : t - b - a < x.1 ∧ x.1 ≤ t - b
    · have p1 : inWin (t - b) a x = true := by unfold inWin; rw [decide_eq_true c1.1, decide_eq_true c1.2]; rfl
      have p2 : ¬ inWin t b x = true := by unfold inWin; simp only [Bool.and_eq_true, decide_eq_true_eq]; omega
      have p3 : inWin t (a + b) x = true := by unfold inWin; simp only [Bool.and_eq_true, decide_eq_true_eq]; omega
      rw [List.filter_cons_of_pos p1, List.filter_cons_of_neg p2, List.filter_cons_of_pos p3, List.cons_append, ih]
    · have p1 : ¬ inWin (t - b) a x = true := by unfold inWin; simp only [Bool.and_eq_true, decide_eq_true_eq]; exact c1
      by_cases c2 : t - b < x.1 ∧ x.1 ≤ t
      · have p2 : inWin t b x = true := by unfold inWin; rw [decide_eq_true c2.1, decide_eq_true c2.2]; rfl
        have p3 : inWin t (a + b) x = true := by unfold inWin; simp only [Bool.and_eq_true, decide_eq_true_eq]; omega
        have h0 : xs.filter (inWin (t - b) a) = [] := by
          rw [List.filter_eq_nil_iff]
          intro y hy hp
          have := h.1 y hy
          unfold inWin at hp
          simp only [Bool.and_eq_true, decide_eq_true_eq] at hp
          omega
        rw [h0, List.nil_append] at ih
        rw [List.filter_cons_of_neg p1, List.filter_cons_of_pos p2, List.filter_cons_of_pos p3, h0, List.nil_append, ih]
      · have p2 : ¬ inWin t b x = true := by unfold inWin; simp only [Bool.and_eq_true, decide_eq_true_eq]; exact c2
        have p3 : ¬ inWin t (a + b) x = true := by unfold inWin; simp only [Bool.and_eq_true, decide_eq_true_eq]; omega
        rw [List.filter_cons_of_neg p1, List.filter_cons_of_neg p2, List.filter_cons_of_neg p3, ih]
theorem Below.mono_to {B C : Nat} {w w' : World} (h : Below C w w') (hBC : B ≤ C) : Below B w w' := ⟨h.os, h.tape, h.output, h.size, fun i hi => h.block i (by omega)⟩
theorem own_slice3 {w : World} {base : Nat} {e : TypeId} {v : Value} {n size : Nat} {xs : List Value} (h : w.ownsRow base e size v n xs) :
    ∃ A c, v = .slice A n c ∧ n ≤ c ∧ c ≤ 9223372036854775807 ∧ (A = none → c = 0) ∧ Row w A n size xs := by
  rcases h.2 with ⟨rfl, rfl⟩ | ⟨g, cap, cur, rfl, hg, hh, hn, hc, hs, hx⟩
  · exact ⟨none, 0, rfl, Nat.le_refl _, by omega, fun _ => rfl, row_own h⟩
  · exact ⟨_, cap, rfl, hn, by unfold maxLen at hc; omega, fun e => by simp at e, row_own h⟩
theorem pcs_one (zs : List (Int × Int)) : ∀ u ∈ pcs zs, u.oneCell' = true := by
  intro u hu
  unfold pcs at hu
  rw [List.mem_flatMap] at hu
  obtain ⟨x, _, hx⟩ := hu
  simp [pc] at hx
  rcases hx with rfl | rfl <;> simp [Value.oneCell']
end Go.Proofs.Ytklflekldhhmcaa
