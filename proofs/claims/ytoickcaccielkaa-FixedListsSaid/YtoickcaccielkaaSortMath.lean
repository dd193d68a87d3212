/-
  Plain facts on sorted lists of numbers: the least, the greatest, a rank. No condition.
-/
import Derived.Test.YtoickcaccielkaaFixedRank
namespace Go.Proofs.Ytoickcaccielkaa

theorem sortI_perm (zs : List Int) : (sortI zs).Perm zs := List.mergeSort_perm _ _
theorem sortI_pair (zs : List Int) : (sortI zs).Pairwise (fun a b => a ≤ b) := by
  have h := List.pairwise_mergeSort (le := fun x y : Int => decide (x ≤ y)) (by intro a b c; simp; omega) (by intro a b; simp; omega) zs
  simpa [sortI] using h
theorem sortI_mono (zs : List Int) (i j : Nat) (hij : i ≤ j) (hj : j < zs.length) : (sortI zs).getD i 0 ≤ (sortI zs).getD j 0 := by
  have hl := sortI_length zs
  rw [List.getD_eq_getElem?_getD, List.getD_eq_getElem?_getD, List.getElem?_eq_getElem (by omega), List.getElem?_eq_getElem (by omega)]
  simp only [Option.getD_some]
  rcases Nat.lt_or_ge i j with h | h
  · exact List.pairwise_iff_getElem.1 (sortI_pair zs) i j (by omega) (by omega) h
  · have : i = j := by omega
    subst this; exact Int.le_refl _
theorem sortI_mem (zs : List Int) (i : Nat) (h : i < zs.length) : (sortI zs).getD i 0 ∈ zs := by
  have hl := sortI_length zs
  rw [List.getD_eq_getElem?_getD, List.getElem?_eq_getElem (by omega)]
  exact (sortI_perm zs).mem_iff.1 (List.getElem_mem _)
theorem sortI_idx (zs : List Int) (x : Int) (h : x ∈ zs) : ∃ i, i < zs.length ∧ (sortI zs).getD i 0 = x := by
  have hm := (sortI_perm zs).mem_iff.2 h
  obtain ⟨i, hi, rfl⟩ := List.getElem_of_mem hm
  exact ⟨i, by rw [← sortI_length zs]; exact hi, by rw [List.getD_eq_getElem?_getD, List.getElem?_eq_getElem hi]; rfl⟩
theorem sortI_least (zs : List Int) (L : Int) (h0 : 0 < zs.length) (hm : L ∈ zs) (hl : ∀ x ∈ zs, L ≤ x) : (sortI zs).getD 0 0 = L := by
  obtain ⟨i, hi, he⟩ := sortI_idx zs L hm
  have h1 := sortI_mono zs 0 i (Nat.zero_le _) hi
  have h2 := hl _ (sortI_mem zs 0 h0)
  omega
theorem sortI_most (zs : List Int) (L : Int) (h0 : 0 < zs.length) (hm : L ∈ zs) (hl : ∀ x ∈ zs, x ≤ L) : (sortI zs).getD (zs.length - 1) 0 = L := by
  obtain ⟨i, hi, he⟩ := sortI_idx zs L hm
  have h1 := sortI_mono zs i (zs.length - 1) (by omega) (by omega)
  have h2 := hl _ (sortI_mem zs (zs.length - 1) (by omega))
  omega
theorem sortI_count (zs : List Int) (k : Nat) (hk : k < zs.length) : k + 1 ≤ zs.countP (fun x => decide (x ≤ (sortI zs).getD k 0)) := by
  have hp := (sortI_perm zs).countP_eq (fun x => decide (x ≤ (sortI zs).getD k 0))
  rw [← hp]
  have hl := sortI_length zs
  have e : sortI zs = (sortI zs).take (k + 1) ++ (sortI zs).drop (k + 1) := (List.take_append_drop _ _).symm
  have h1 : ((sortI zs).take (k + 1)).countP (fun x => decide (x ≤ (sortI zs).getD k 0)) = k + 1 := by
    have h2 : ((sortI zs).take (k + 1)).length = k + 1 := by rw [List.length_take]; omega
    refine Eq.trans ?_ h2
    rw [List.countP_eq_length]
    intro x hx
    obtain ⟨i, hi, rfl⟩ := List.getElem_of_mem hx
    have hi' : i < k + 1 := by rw [h2] at hi; exact hi
    have h3 := sortI_mono zs i k (by omega) hk
    rw [List.getElem_take]
    rw [List.getD_eq_getElem?_getD, List.getElem?_eq_getElem (by omega)] at h3
    simpa using h3
  have h4 := congrArg (List.countP (fun x => decide (x ≤ (sortI zs).getD k 0))) e
  rw [List.countP_append] at h4
  omega
theorem rankI_zero (n : Nat) : rankI 0 n = 0 := by simp [rankI]
theorem rankI_hundred (n : Nat) (h : 0 < n) : rankI 100 n = n - 1 := by unfold rankI; omega
theorem rankI_mono (p q n : Nat) (h : p ≤ q) : rankI p n ≤ rankI q n := by
  unfold rankI
  have : p * n ≤ q * n := Nat.mul_le_mul_right n h
  omega
theorem rankI_share (p n : Nat) : p * n ≤ 100 * (rankI p n + 1) := by unfold rankI; omega
end Go.Proofs.Ytoickcaccielkaa
