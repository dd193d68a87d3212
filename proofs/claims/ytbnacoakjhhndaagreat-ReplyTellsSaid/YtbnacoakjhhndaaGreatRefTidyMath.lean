/-
  One label put among others that rise. No condition.
-/
import Derived.Test.YtbnacoakjhhndaaGreatLabelRight
namespace Go.Proofs.YtbnacoakjhhndaaGreat
open Go.RowKit

theorem rising_of_pair {l : List Lb} (h : l.Pairwise fun a b => ltT a.n b.n) : Rising l := by
  rw [rising_iff]
  intro i a b ha hb
  have h1 := List.pairwise_iff_getElem.1 h i (i + 1) (List.getElem?_eq_some_iff.1 ha).1 (List.getElem?_eq_some_iff.1 hb).1 (by omega)
  rw [(List.getElem?_eq_some_iff.1 ha).2, (List.getElem?_eq_some_iff.1 hb).2] at h1
  exact h1
theorem rising_ins {P : List Lb} (h : Rising P) {q : Nat} {x : Lb} (h1 : ∀ y ∈ P.take q, ltT y.n x.n) (h2 : ∀ y, P[q]? = some y → ltT x.n y.n) : Rising (P.take q ++ [x] ++ P.drop q) := by
  have hp := rising_pair h
  refine rising_of_pair ?_
  have h0 : (P.take q ++ P.drop q).Pairwise fun a b => ltT a.n b.n := by rw [List.take_append_drop]; exact hp
  rw [List.pairwise_append] at h0
  obtain ⟨ha, hb, hc⟩ := h0
  have hx : ∀ y ∈ P.drop q, ltT x.n y.n := by
    intro y hy
    by_cases hq : q < P.length
    · rw [List.drop_eq_getElem_cons hq] at hy hb
      have h3 := h2 _ (List.getElem?_eq_getElem hq)
      rcases List.mem_cons.1 hy with rfl | hy
      · exact h3
      · exact ltT_trans h3 ((List.pairwise_cons.1 hb).1 y hy)
    · rw [List.drop_eq_nil_of_le (by omega)] at hy
      simp at hy
  rw [List.append_assoc, List.singleton_append, List.pairwise_append]
  refine ⟨ha, ?_, ?_⟩
  · rw [List.pairwise_cons]; exact ⟨hx, hb⟩
  · intro a haa b hbb
    rcases List.mem_cons.1 hbb with rfl | hbb
    · exact h1 a haa
    · exact hc a haa b hbb
theorem ins_perm {P : List Lb} (q : Nat) (x : Lb) : (P.take q ++ [x] ++ P.drop q).Perm (P ++ [x]) := by
  have h1 : (P.take q ++ [x] ++ P.drop q).Perm (x :: (P.take q ++ P.drop q)) := by
    rw [List.append_assoc, List.singleton_append]
    exact List.perm_middle
  rw [List.take_append_drop] at h1
  exact h1.trans (List.perm_append_singleton x P).symm
theorem not_tidy_dup {zs z1 : List Lb} {i : Nat} {x y : Lb} (hp : z1.Perm (zs.take i)) (hx : zs[i]? = some x) (hy : y ∈ z1) (e : y.n = x.n) : ¬ okTidy zs := by
  rintro ⟨_, _, z2, h1, h2⟩
  have hn2 : (z2.map Lb.n).Nodup := by
    rw [List.Nodup, List.pairwise_map]
    exact (rising_pair h2).imp fun {a b} hab k => by rw [k] at hab; exact ltT_irr _ hab
  have hn : (zs.map Lb.n).Nodup := ((h1.map Lb.n).nodup_iff).1 hn2
  obtain ⟨hi, hxi⟩ := List.getElem?_eq_some_iff.1 hx
  have hz : zs = zs.take i ++ x :: zs.drop (i + 1) := by
    have := List.take_append_drop i zs
    rw [List.drop_eq_getElem_cons hi, hxi] at this
    exact this.symm
  rw [hz, List.map_append, List.map_cons, List.nodup_append] at hn
  exact hn.2.2 y.n (List.mem_map_of_mem (hp.mem_iff.1 hy)) x.n List.mem_cons_self e
theorem okTidy_of {zs z1 : List Lb} (hl : zs.length ≤ 8) (hp : z1.Perm zs) (hr : Rising z1) (hk : ∀ x ∈ zs, okLb x) : okTidy zs := ⟨hl, hk, z1, hp, hr⟩
end Go.Proofs.YtbnacoakjhhndaaGreat
