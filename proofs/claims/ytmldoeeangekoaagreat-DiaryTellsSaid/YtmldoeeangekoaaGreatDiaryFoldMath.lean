/-
  What notes come to, and the fewest that do. No condition.
-/
import Derived.Test.YtmldoeeangekoaaGreatDiaryClose
namespace Go.Proofs.YtmldoeeangekoaaGreat
open Go.RowKit

def s0M : StM := ⟨1, 0, [], [], 0⟩
/-- A note that opens. -/
def opN (c : Cur) : Nte := ⟨1, c⟩
/-- The fewest notes. -/
def fewM (s : StM) : List Nte :=
  (if 0 < s.next - 1 ∧ (s.op.any (fun y => y.id == s.next - 1)) = false then [⟨2, ⟨s.next - 1, 0, 0, 0, []⟩⟩] else []) ++ (if 0 < s.now then [⟨3, ⟨0, 0, 0, s.now, []⟩⟩] else []) ++ (if s.seg = [] then [] else [⟨4, ⟨0, s.pts, 0, 0, s.seg⟩⟩]) ++ s.op.map opN
/-- What holds of each state that notes come to. -/
structure InvM (s : StM) : Prop where
  nx : 1 ≤ s.next ∧ s.next ≤ 1000001
  nw : 0 ≤ s.now ∧ s.now ≤ 1000000000
  so : Sorted s.op
  ok : ∀ y ∈ s.op, okOpen (opN y) ∧ y.id < s.next
  sg : (s.seg = [] ∧ s.pts = 0) ∨ ((0 ≤ s.pts ∧ s.pts ≤ 1000) ∧ (1 ≤ s.seg.length ∧ s.seg.length ≤ 60))
theorem inv0 : InvM s0M := ⟨⟨by decide, by decide⟩, ⟨by decide, by decide⟩, List.Pairwise.nil, fun y hy => (List.not_mem_nil hy).elim, .inl ⟨rfl, rfl⟩⟩
theorem inv_ids {s : StM} (h : InvM s) : Ids s.op := fun y hy => (h.ok y hy).1.2.1
theorem inv_close {s : StM} (h : InvM s) {id : Int} (hid : 1 ≤ id ∧ id ≤ 1000000) : InvM (closeM s id) := by
  refine ⟨?_, h.nw, List.Pairwise.filter _ h.so, fun y hy => ?_, h.sg⟩
  · have := h.nx
    simp only [closeM]
    omega
  · obtain ⟨h1, h2⟩ := h.ok y (List.mem_filter.1 hy).1
    refine ⟨h1, ?_⟩
    simp only [closeM]
    omega
theorem insM_mem {x y : Cur} {zs : List Cur} (h : y ∈ insM x zs) : y = x ∨ y ∈ zs := by
  unfold insM at h
  rcases List.mem_append.1 h with h | h
  · exact .inr (List.mem_filter.1 h).1
  · rcases List.mem_cons.1 h with h | h
    · exact .inl h
    · exact .inr (List.mem_filter.1 h).1
theorem insM_sorted {x : Cur} {zs : List Cur} (h : Sorted zs) (hne : ∀ y ∈ zs, y.id ≠ x.id) : Sorted (insM x zs) := by
  unfold insM Sorted
  rw [List.pairwise_append]
  refine ⟨List.Pairwise.filter _ h, List.pairwise_cons.2 ⟨fun y hy => ?_, List.Pairwise.filter _ h⟩, fun a ha b hb => ?_⟩
  · obtain ⟨h1, h2⟩ := List.mem_filter.1 hy
    have := hne y h1
    simp at h2
    omega
  · have ha2 := (List.mem_filter.1 ha).2
    simp at ha2
    rcases List.mem_cons.1 hb with rfl | hb
    · exact ha2
    · have hb2 := (List.mem_filter.1 hb).2
      simp at hb2
      omega
theorem close_ne {s : StM} {id : Int} : ∀ y ∈ (closeM s id).op, y.id ≠ id := fun y hy => by
  have := (List.mem_filter.1 hy).2
  simpa using this
theorem inv_fold {s : StM} (h : InvM s) (x : Nte) : InvM (foldM s x) := by
  unfold foldM
  split
  · next ho =>
    have hc := inv_close h ho.2.1
    refine ⟨hc.nx, hc.nw, insM_sorted hc.so close_ne, fun y hy => ?_, hc.sg⟩
    rcases insM_mem hy with rfl | hy
    · refine ⟨⟨rfl, ho.2⟩, ?_⟩
      show x.c.id < max s.next (x.c.id + 1)
      omega
    · exact hc.ok y hy
  · split
    · next ho => exact inv_close h ho.2.1
    · split
      · next ho =>
        refine ⟨h.nx, ?_, List.Pairwise.filter _ h.so, fun y hy => h.ok y (List.mem_filter.1 hy).1, h.sg⟩
        have h1 := h.nw
        have h2 := ho.2.1
        show 0 ≤ max s.now x.c.tl ∧ max s.now x.c.tl ≤ 1000000000
        omega
      · split
        · next ho => exact ⟨h.nx, h.nw, h.so, h.ok, .inr ⟨ho.2.1, ho.2.2.1⟩⟩
        · exact h
theorem inv_folds : ∀ (l : List Nte) (s : StM), InvM s → InvM (l.foldl foldM s)
  | [], _, h => h
  | x :: l, s, h => inv_folds l _ (inv_fold h x)
theorem fold_up (s : StM) (x : Nte) : s.next ≤ (foldM s x).next ∧ s.now ≤ (foldM s x).now := by
  unfold foldM
  split
  · exact ⟨by simp only [closeM]; omega, Int.le_refl _⟩
  · split
    · exact ⟨by simp only [closeM]; omega, Int.le_refl _⟩
    · split
      · exact ⟨Int.le_refl _, by show s.now ≤ max _ _; omega⟩
      · split
        · exact ⟨Int.le_refl _, Int.le_refl _⟩
        · exact ⟨Int.le_refl _, Int.le_refl _⟩
theorem folds_up : ∀ (l : List Nte) (s : StM), s.next ≤ (l.foldl foldM s).next ∧ s.now ≤ (l.foldl foldM s).now
  | [], _ => ⟨Int.le_refl _, Int.le_refl _⟩
  | x :: l, s => by
    have h1 := fold_up s x
    have h2 := folds_up l (foldM s x)
    rw [List.foldl_cons]
    omega
theorem fold_len (s : StM) (x : Nte) : (foldM s x).op.length ≤ s.op.length + 1 := by
  have hf : ∀ p : Cur → Bool, (s.op.filter p).length ≤ s.op.length := fun p => List.length_filter_le _ _
  unfold foldM
  split
  · show (insM x.c (s.op.filter _)).length ≤ _
    unfold insM
    rw [List.length_append, List.length_cons]
    have h1 := hf (fun y => !(y.id == x.c.id))
    generalize s.op.filter (fun y => !(y.id == x.c.id)) = zs at *
    have h2 : (zs.filter (fun y => decide (y.id < x.c.id))).length + (zs.filter (fun y => !decide (y.id < x.c.id))).length = zs.length := by
      induction zs with
      | nil => rfl
      | cons a zs ih =>
        by_cases ha : a.id < x.c.id
        · simp only [List.filter_cons, ha, decide_true, Bool.not_true, if_true, List.length_cons]
          have := ih (by simp at h1; omega)
          simp only [Bool.false_eq_true, if_false]
          omega
        · simp only [List.filter_cons, ha, decide_false, Bool.not_false, if_true, List.length_cons]
          have := ih (by simp at h1; omega)
          simp only [Bool.false_eq_true, if_false]
          omega
    omega
  · split
    · exact Nat.le_succ_of_le (hf _)
    · split
      · exact Nat.le_succ_of_le (hf _)
      · split
        · exact Nat.le_succ _
        · exact Nat.le_succ _
theorem folds_len : ∀ (l : List Nte) (s : StM), (l.foldl foldM s).op.length ≤ s.op.length + l.length
  | [], _ => Nat.le_refl _
  | x :: l, s => by
    have h1 := fold_len s x
    have h2 := folds_len l (foldM s x)
    rw [List.foldl_cons, List.length_cons]
    omega
theorem fold_open {s : StM} {c : Cur} (h : okOpen (opN c)) (hb : ∀ y ∈ s.op, y.id < c.id) : foldM s (opN c) = { s with next := max s.next (c.id + 1), op := s.op ++ [c] } := by
  unfold foldM
  rw [if_pos h]
  have e1 : s.op.filter (fun y => !(y.id == c.id)) = s.op := List.filter_eq_self.2 fun y hy => by have := hb y hy; simp; omega
  have e2 : s.op.filter (fun y => decide (y.id < c.id)) = s.op := List.filter_eq_self.2 fun y hy => by simpa using hb y hy
  have e3 : s.op.filter (fun y => !decide (y.id < c.id)) = [] := List.filter_eq_nil_iff.2 fun y hy => by have := hb y hy; simp; omega
  show StM.mk (max s.next (c.id + 1)) s.now (insM c (s.op.filter (fun y => !(y.id == c.id)))) s.seg s.pts = _
  unfold insM
  rw [e1, e2, e3]
/-- The notes that open, one behind the other. -/
theorem fold_opens : ∀ (zs : List Cur) (s : StM), Sorted (s.op ++ zs) → (∀ y ∈ zs, okOpen (opN y)) → (zs.map opN).foldl foldM s = { s with next := zs.foldl (fun m y => max m (y.id + 1)) s.next, op := s.op ++ zs }
  | [], s, _, _ => by simp
  | c :: zs, s, h1, h2 => by
    have hb : ∀ y ∈ s.op, y.id < c.id := fun y hy => (List.pairwise_append.1 h1).2.2 y hy c (by simp)
    rw [List.map_cons, List.foldl_cons, fold_open (h2 c (by simp)) hb, fold_opens zs _ (by simpa using h1) (fun y hy => h2 y (by simp [hy]))]
    simp
theorem maxs_le : ∀ (zs : List Cur) (m n : Int), m ≤ n → (∀ y ∈ zs, y.id < n) → zs.foldl (fun m y => max m (y.id + 1)) m ≤ n
  | [], _, _, h, _ => h
  | y :: zs, m, n, h, h2 => maxs_le zs _ n (by have := h2 y (by simp); show max m (y.id + 1) ≤ n; omega) (fun z hz => h2 z (by simp [hz]))
theorem maxs_ge : ∀ (zs : List Cur) (m : Int), m ≤ zs.foldl (fun m y => max m (y.id + 1)) m
  | [], _ => Int.le_refl _
  | y :: zs, m => Int.le_trans (by omega) (maxs_ge zs (max m (y.id + 1)))
theorem maxs_mem : ∀ (zs : List Cur) (m : Int) (y : Cur), y ∈ zs → y.id + 1 ≤ zs.foldl (fun m y => max m (y.id + 1)) m
  | z :: zs, m, y, h => by
    rcases List.mem_cons.1 h with rfl | h
    · exact Int.le_trans (by omega) (maxs_ge zs (max m (y.id + 1)))
    · exact maxs_mem zs _ y h
theorem fold_few {s : StM} (h : InvM s) : (fewM s).foldl foldM s0M = s := by
  have hnx := h.nx
  have hnw := h.nw
  unfold fewM
  rw [List.foldl_append, List.foldl_append, List.foldl_append]
  -- the last number
  obtain ⟨m, hm, e1⟩ : ∃ m : Int, (m = s.next ∨ m = 1 ∧ (s.next = 1 ∨ ∃ y ∈ s.op, y.id = s.next - 1)) ∧ (if 0 < s.next - 1 ∧ (s.op.any (fun y => y.id == s.next - 1)) = false then [(⟨2, ⟨s.next - 1, 0, 0, 0, []⟩⟩ : Nte)] else []).foldl foldM s0M = ⟨m, 0, [], [], 0⟩ := by
    split
    · next hc =>
      refine ⟨s.next, .inl rfl, ?_⟩
      rw [List.foldl_cons, List.foldl_nil]
      unfold foldM
      have n1 : ¬ okOpen (⟨2, ⟨s.next - 1, 0, 0, 0, []⟩⟩ : Nte) := fun h => absurd h.1 (show ¬ (2 : Int) = 1 by decide)
      have n2 : okClose (⟨2, ⟨s.next - 1, 0, 0, 0, []⟩⟩ : Nte) := ⟨rfl, ⟨by show (1 : Int) ≤ s.next - 1; omega, by show s.next - 1 ≤ 1000000; omega⟩, rfl, rfl, rfl, rfl⟩
      rw [if_neg n1, if_pos n2]
      show StM.mk (max 1 (s.next - 1 + 1)) 0 [] [] 0 = _
      rw [show max (1 : Int) (s.next - 1 + 1) = s.next by omega]
    · next hc =>
      refine ⟨1, .inr ⟨rfl, ?_⟩, rfl⟩
      by_cases h1 : 0 < s.next - 1
      · right
        have h2 : ¬ (s.op.any (fun y => y.id == s.next - 1)) = false := fun h => hc ⟨h1, h⟩
        rw [Bool.not_eq_false, List.any_eq_true] at h2
        obtain ⟨y, hy, h3⟩ := h2
        exact ⟨y, hy, by simpa using h3⟩
      · left; omega
  rw [e1]
  have e2 : (if 0 < s.now then [(⟨3, ⟨0, 0, 0, s.now, []⟩⟩ : Nte)] else []).foldl foldM ⟨m, 0, [], [], 0⟩ = ⟨m, s.now, [], [], 0⟩ := by
    split
    · next hc =>
      rw [List.foldl_cons, List.foldl_nil]
      unfold foldM
      have n1 : ¬ okOpen (⟨3, ⟨0, 0, 0, s.now, []⟩⟩ : Nte) := fun h => absurd h.1 (show ¬ (3 : Int) = 1 by decide)
      have n2 : ¬ okClose (⟨3, ⟨0, 0, 0, s.now, []⟩⟩ : Nte) := fun h => absurd h.1 (show ¬ (3 : Int) = 2 by decide)
      have n3 : okClock (⟨3, ⟨0, 0, 0, s.now, []⟩⟩ : Nte) := ⟨rfl, hnw, rfl, rfl, rfl, rfl⟩
      rw [if_neg n1, if_neg n2, if_pos n3]
      show StM.mk m (max 0 s.now) [] [] 0 = _
      rw [show max (0 : Int) s.now = s.now by omega]
    · next hc =>
      show StM.mk m 0 [] [] 0 = _
      rw [show s.now = 0 by omega]
  rw [e2]
  have e3 : (if s.seg = [] then [] else [(⟨4, ⟨0, s.pts, 0, 0, s.seg⟩⟩ : Nte)]).foldl foldM ⟨m, s.now, [], [], 0⟩ = ⟨m, s.now, [], s.seg, s.pts⟩ := by
    split
    · next hc =>
      rcases h.sg with ⟨h1, h2⟩ | h1
      · show StM.mk m s.now [] [] 0 = _
        rw [h1, h2]
      · rw [hc] at h1
        simp at h1
    · next hc =>
      rcases h.sg with ⟨h1, h2⟩ | h1
      · exact absurd h1 hc
      · rw [List.foldl_cons, List.foldl_nil]
        unfold foldM
        have n1 : ¬ okOpen (⟨4, ⟨0, s.pts, 0, 0, s.seg⟩⟩ : Nte) := fun h => absurd h.1 (show ¬ (4 : Int) = 1 by decide)
        have n2 : ¬ okClose (⟨4, ⟨0, s.pts, 0, 0, s.seg⟩⟩ : Nte) := fun h => absurd h.1 (show ¬ (4 : Int) = 2 by decide)
        have n3 : ¬ okClock (⟨4, ⟨0, s.pts, 0, 0, s.seg⟩⟩ : Nte) := fun h => absurd h.1 (show ¬ (4 : Int) = 3 by decide)
        have n4 : okSeg (⟨4, ⟨0, s.pts, 0, 0, s.seg⟩⟩ : Nte) := ⟨rfl, h1.1, h1.2, rfl, rfl, rfl⟩
        rw [if_neg n1, if_neg n2, if_neg n3, if_pos n4]
  rw [e3, fold_opens s.op ⟨m, s.now, [], s.seg, s.pts⟩ (by simpa using h.so) (fun y hy => (h.ok y hy).1)]
  show StM.mk (s.op.foldl (fun m y => max m (y.id + 1)) m) s.now ([] ++ s.op) s.seg s.pts = s
  have e4 : s.op.foldl (fun m y => max m (y.id + 1)) m = s.next := by
    refine Int.le_antisymm (maxs_le _ _ _ ?_ (fun y hy => (h.ok y hy).2)) ?_
    · omega
    · rcases hm with rfl | ⟨rfl, h1 | ⟨y, hy, h1⟩⟩
      · exact maxs_ge _ _
      · rw [h1]; exact maxs_ge _ _
      · have := maxs_mem s.op 1 y hy
        omega
  rw [e4, List.nil_append]
end Go.Proofs.YtmldoeeangekoaaGreat
