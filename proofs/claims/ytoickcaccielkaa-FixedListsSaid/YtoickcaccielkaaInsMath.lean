/-
  Plain facts on a number laid into a sorted list. No condition.
-/
import Derived.Test.YtoickcaccielkaaSortMath
namespace Go.Proofs.Ytoickcaccielkaa

def SortedI (s : List Int) : Prop := s.Pairwise (fun a b => a ≤ b)
theorem ins_sorted {s : List Int} {k : Nat} {x : Int} (hs : SortedI s) (hk : k ≤ s.length) (h1 : ∀ y ∈ s.take k, y ≤ x) (h2 : ∀ y, s[k]? = some y → x < y) : SortedI (s.take k ++ [x] ++ s.drop k) := by
  have hd : ∀ y ∈ s.drop k, x ≤ y := by
    intro y hy
    obtain ⟨j, hj, rfl⟩ := List.getElem_of_mem hy
    rw [List.length_drop] at hj
    rw [List.getElem_drop]
    have h3 := h2 s[k] (List.getElem?_eq_getElem (by omega))
    rcases Nat.eq_zero_or_pos j with rfl | h0
    · simpa using Int.le_of_lt h3
    · have := List.pairwise_iff_getElem.1 hs k (k + j) (by omega) (by omega) (by omega)
      omega
  unfold SortedI at *
  rw [List.append_assoc, List.pairwise_append]
  refine ⟨hs.sublist (List.take_sublist _ _), ?_, ?_⟩
  · rw [List.singleton_append, List.pairwise_cons]
    exact ⟨hd, hs.sublist (List.drop_sublist _ _)⟩
  · intro a ha b hb
    rcases List.mem_append.1 hb with hb | hb
    · simp at hb; subst hb; exact h1 a ha
    · exact Int.le_trans (h1 a ha) (hd b hb)
theorem ins_perm (s : List Int) (k : Nat) (x : Int) {zs : List Int} (h : s.Perm zs) : (s.take k ++ [x] ++ s.drop k).Perm (zs ++ [x]) := by
  have h1 : (s.take k ++ [x] ++ s.drop k).Perm (s.take k ++ s.drop k ++ [x]) := by
    rw [List.append_assoc, List.append_assoc]
    exact List.Perm.append_left _ List.perm_append_comm
  rw [List.take_append_drop] at h1
  exact h1.trans (h.append_right [x])
theorem sorted_eq {s zs : List Int} (hs : SortedI s) (hp : s.Perm zs) : s = sortI zs := by
  exact List.Perm.eq_of_pairwise (le := fun a b : Int => a ≤ b) (fun a b _ _ h1 h2 => Int.le_antisymm h1 h2) hs (sortI_pair zs) (hp.trans (sortI_perm zs).symm)
theorem take_next {zs : List Int} {i : Nat} {x : Int} (h : zs[i]? = some x) : zs.take (i + 1) = zs.take i ++ [x] := by
  obtain ⟨h1, h2⟩ := List.getElem?_eq_some_iff.1 h
  rw [List.take_succ_eq_append_getElem h1, h2]
end Go.Proofs.Ytoickcaccielkaa
