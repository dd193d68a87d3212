/-
  Plain facts on points whose numbers never fall. No condition.
-/
import Derived.Test.YtklflekldhhmcaaWinLaw
namespace Go.Proofs.Ytklflekldhhmcaa
open Go.RowKit

/-- Numbers that never fall, none of them great. -/
structure Rises (zs : List (Int × Int)) : Prop where
  low : ∀ k, k < zs.length → 0 ≤ pV zs k
  high : ∀ k, k < zs.length → pV zs k ≤ 1000000000
  step : ∀ k, 0 < k → k < zs.length → pV zs (k - 1) ≤ pV zs k
theorem rises_sum {zs : List (Int × Int)} (h : Rises zs) : ∀ k, k < zs.length → (rds zs k).sum = pV zs k - pV zs 0
  | 0, _ => by simp [rds]
  | k + 1, hk => by
    have ih := rises_sum h k (by omega)
    have hs := h.step (k + 1) (by omega) hk
    rw [Nat.add_sub_cancel] at hs
    rw [rds_succ, List.sum_append, ih]
    have : rd zs (k + 1) = pV zs (k + 1) - pV zs k := by unfold rd; rw [Nat.add_sub_cancel, if_pos hs]
    rw [List.sum_singleton, this]
    omega
theorem rises_all {zs : List (Int × Int)} (h : Rises zs) {k : Nat} (hk : k < zs.length) : ∀ x ∈ rds zs k, In x := by
  intro x hx
  unfold rds at hx
  rw [List.mem_map] at hx
  obtain ⟨j, hj, rfl⟩ := hx
  have hj' := List.mem_range.1 hj
  have hs := h.step (j + 1) (by omega) (by omega)
  rw [Nat.add_sub_cancel] at hs
  have h1 := h.low j (by omega)
  have h2 := h.high (j + 1) (by omega)
  unfold rd In
  rw [Nat.add_sub_cancel, if_pos hs]
  omega
theorem rises_inc {zs : List (Int × Int)} (h : Rises zs) (h0 : 0 < zs.length) : (incV zs).1 = pV zs (zs.length - 1) - pV zs 0 ∧ (incV zs).2.2 = 0 ∧ (2 ≤ zs.length → (incV zs).2.1 = true) := by
  unfold incV
  by_cases h2 : zs.length < 2
  · rw [if_pos h2]
    have e : zs.length - 1 = 0 := by omega
    rw [e]
    exact ⟨by simp, rfl, fun h3 => by omega⟩
  · rw [if_neg h2]
    have hr : riseV zs = (pV zs (zs.length - 1) - pV zs 0, 0) := by
      have hs := rises_sum h (zs.length - 1) (by omega)
      have l1 := h.low (zs.length - 1) (by omega)
      have l2 := h.high (zs.length - 1) (by omega)
      have l3 := h.low 0 (by omega)
      have l4 := h.high 0 (by omega)
      unfold riseV
      rw [hs, if_pos ⟨rises_all h (by omega), by unfold In; omega⟩]
    rw [hr]
    exact ⟨rfl, rfl, fun _ => rfl⟩
theorem pV_take (zs : List (Int × Int)) {k j : Nat} (h : j < k) : pV (zs.take k) j = pV zs j ∧ pT (zs.take k) j = pT zs j := by
  unfold pV pT
  rw [List.getD_eq_getElem?_getD, List.getD_eq_getElem?_getD, List.getElem?_take, if_pos h]
  exact ⟨rfl, rfl⟩
theorem pV_drop (zs : List (Int × Int)) (i j : Nat) : pV (zs.drop i) j = pV zs (i + j) ∧ pT (zs.drop i) j = pT zs (i + j) := by
  unfold pV pT
  rw [List.getD_eq_getElem?_getD, List.getD_eq_getElem?_getD, List.getElem?_drop]
  exact ⟨rfl, rfl⟩
theorem right_take {zs : List (Int × Int)} (h : rightB zs = true) (k : Nat) : rightB (zs.take k) = true := by
  obtain ⟨h1, h2⟩ := right_iff.1 h
  refine right_yesP (by rw [List.length_take]; omega) fun j hj => ?_
  rw [List.length_take] at hj
  have hjk : j < k := by omega
  have := h2 j (by omega)
  rw [okP_iff] at this ⊢
  rw [(pV_take zs hjk).1, (pV_take zs hjk).2, (pV_take zs (show j - 1 < k by omega)).2]
  exact this
theorem right_drop {zs : List (Int × Int)} (h : rightB zs = true) (i : Nat) : rightB (zs.drop i) = true := by
  obtain ⟨h1, h2⟩ := right_iff.1 h
  refine right_yesP (by rw [List.length_drop]; omega) fun j hj => ?_
  rw [List.length_drop] at hj
  have := h2 (i + j) (by omega)
  rw [okP_iff] at this ⊢
  rw [(pV_drop zs i j).1, (pV_drop zs i j).2, (pV_drop zs i (j - 1)).2]
  refine ⟨this.1, this.2.1, this.2.2.1, ?_⟩
  rcases Nat.eq_zero_or_pos j with h0 | h0
  · exact Or.inl h0
  · rcases this.2.2.2 with h3 | h3
    · omega
    · right
      rwa [show i + (j - 1) = i + j - 1 by omega]
theorem rises_take {zs : List (Int × Int)} (h : Rises zs) (k : Nat) : Rises (zs.take k) := by
  constructor
  · intro j hj
    rw [List.length_take] at hj
    rw [(pV_take zs (show j < k by omega)).1]
    exact h.low j (by omega)
  · intro j hj
    rw [List.length_take] at hj
    rw [(pV_take zs (show j < k by omega)).1]
    exact h.high j (by omega)
  · intro j h0 hj
    rw [List.length_take] at hj
    rw [(pV_take zs (show j < k by omega)).1, (pV_take zs (show j - 1 < k by omega)).1]
    exact h.step j h0 (by omega)
theorem rises_drop {zs : List (Int × Int)} (h : Rises zs) (i : Nat) : Rises (zs.drop i) := by
  constructor
  · intro j hj
    rw [List.length_drop] at hj
    rw [(pV_drop zs i j).1]
    exact h.low _ (by omega)
  · intro j hj
    rw [List.length_drop] at hj
    rw [(pV_drop zs i j).1]
    exact h.high _ (by omega)
  · intro j h0 hj
    rw [List.length_drop] at hj
    rw [(pV_drop zs i j).1, (pV_drop zs i (j - 1)).1]
    have := h.step (i + j) (by omega) (by omega)
    rwa [show i + (j - 1) = i + j - 1 by omega]
theorem rises_do {zs : List (Int × Int)} (hr : rightB zs = true) (h : Rises zs) (h0 : 0 < zs.length) : (doInc zs).1 = pV zs (zs.length - 1) - pV zs 0 ∧ (doInc zs).2.2 = 0 ∧ (2 ≤ zs.length → (doInc zs).2.1 = true) := by
  unfold doInc
  rw [if_pos hr]
  exact rises_inc h h0
theorem cut_place3 (a : Int) (m : Nat) (hm : 0 < m) (hb : m ≤ 1000000000) : ∃ K : Nat, wrap64 (1 + (wrap64 (wrap64 (a.tmod (m : Int) + ((m : Int) + 1)) - 1)).tmod (m : Int)) = (K : Int) ∧ 1 ≤ K ∧ K ≤ m := by
  have h0 : (0 : Int) < m := by omega
  have h1 := Int.tmod_lt_of_pos a h0
  have h2 : -(m : Int) < a.tmod m := by
    rcases Int.le_total 0 a with ha | ha
    · have := Int.tmod_nonneg (m : Int) ha; omega
    · have h3 := Int.tmod_lt_of_pos (-a) h0
      rw [Int.neg_tmod] at h3
      omega
  have e : wrap64 (wrap64 (a.tmod (m : Int) + ((m : Int) + 1)) - 1) = a.tmod (m : Int) + (m : Int) := by unfold wrap64; omega
  rw [e]
  generalize a.tmod (m : Int) = t at *
  have h4 : 0 ≤ t + m := by omega
  have h5 := Int.tmod_nonneg (m : Int) h4
  have h6 := Int.tmod_lt_of_pos (t + m) h0
  generalize (t + (m : Int)).tmod m = q at *
  refine ⟨(1 + q).toNat, ?_, by omega, by omega⟩
  unfold wrap64
  omega
end Go.Proofs.Ytklflekldhhmcaa
