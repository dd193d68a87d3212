/-
  Again and again, by the last piece; the texts of two patterns put together. Plain law.
-/
import Derived.Test.YtdccmmibfacpkaaPatMath4
namespace Go.Proofs.Ytdccmmibfacpkaa

theorem star_snoc {P : List Int → Prop} {u v : List Int} (h : Star P u) (k : P v) : Star P (u ++ v) := by
  induction h with
  | nil => rw [List.nil_append]; exact star_one k
  | cons hp _ ih => rw [List.append_assoc]; exact .cons hp ih
theorem star_last {P : List Int → Prop} {w : List Int} (h : Star P w) : w = [] ∨ ∃ u v, w = u ++ v ∧ v ≠ [] ∧ Star P u ∧ P v := by
  induction h with
  | nil => exact .inl rfl
  | @cons u v hp hs ih =>
    rcases ih with rfl | ⟨a, b, rfl, hb, ha, hpb⟩
    · rw [List.append_nil]
      by_cases hu : u = []
      · exact .inl hu
      · exact .inr ⟨[], u, rfl, hu, .nil, hp⟩
    · exact .inr ⟨u ++ a, b, (List.append_assoc _ _ _).symm, hb, .cons hp ha, hpb⟩
theorem star_take {P : List Int → Prop} {rs : List Int} {k : Nat} (hk : k ≤ rs.length) (h0 : 0 < k) :
    Star P (rs.take k) ↔ ∃ j, j < k ∧ Star P (rs.take j) ∧ P ((rs.drop j).take (k - j)) := by
  constructor
  · intro h
    rcases star_last h with e | ⟨u, v, e, hv, hu, hp⟩
    · have := congrArg List.length e
      rw [List.length_take, Nat.min_eq_left hk, List.length_nil] at this
      omega
    · have hl := congrArg List.length e
      rw [List.length_take, List.length_append] at hl
      have hvl : 0 < v.length := List.length_pos_iff.2 hv
      have h1 : (rs.take k).take u.length = u := by rw [e]; simp
      have h2 : (rs.take k).drop u.length = v := by rw [e]; simp
      rw [List.take_take, Nat.min_eq_left (by omega)] at h1
      rw [List.drop_take] at h2
      exact ⟨u.length, by omega, by rw [h1]; exact hu, by rw [h2]; exact hp⟩
  · rintro ⟨j, hj, hu, hp⟩
    have h := List.take_append_drop j (rs.take k)
    rw [List.take_take, Nat.min_eq_left (by omega), List.drop_take] at h
    rw [← h]
    exact star_snoc hu hp
/-- One and then the other, by where the first one ends. -/
theorem both_take {P Q : List Int → Prop} {rs : List Int} : (∃ a b, rs = a ++ b ∧ P a ∧ Q b) ↔ ∃ k, k ≤ rs.length ∧ P (rs.take k) ∧ Q (rs.drop k) := by
  constructor
  · rintro ⟨a, b, rfl, ha, hb⟩
    exact ⟨a.length, by simp, by simpa using ha, by simpa using hb⟩
  · rintro ⟨k, _, ha, hb⟩
    exact ⟨_, _, (List.take_append_drop k rs).symm, ha, hb⟩
theorem runes_both (p q : List UInt8) : runesOf (40 :: (p ++ 41 :: 40 :: (q ++ [41]))) = 40 :: (runesOf p ++ 41 :: 40 :: (runesOf q ++ [41])) := by
  rw [runes_cons 40 (by decide), runes_tail p 41 (by decide), runes_cons 41 (by decide), runes_cons 40 (by decide), runes_tail q 41 (by decide), runes_cons 41 (by decide), runes_nil]
  rfl
theorem runes_either (p q : List UInt8) : runesOf (40 :: (p ++ 41 :: 124 :: 40 :: (q ++ [41]))) = 40 :: (runesOf p ++ 41 :: 124 :: 40 :: (runesOf q ++ [41])) := by
  rw [runes_cons 40 (by decide), runes_tail p 41 (by decide), runes_cons 41 (by decide), runes_cons 124 (by decide), runes_cons 40 (by decide), runes_tail q 41 (by decide), runes_cons 41 (by decide), runes_nil]
  rfl
theorem runes_times (p : List UInt8) : runesOf (40 :: (p ++ [41, 42])) = 40 :: (runesOf p ++ [41, 42]) := by
  rw [runes_cons 40 (by decide), runes_tail p 41 (by decide), runes_cons 41 (by decide), runes_cons 42 (by decide), runes_nil]
  rfl
/-- A part of a row. -/
theorem row_part {w : World} {B n : Nat} {rs : List Int} (h : Row w (some ⟨B, 0, none⟩) n 1 (rs.map (.int .i32))) (k m : Nat) (hm : k + m ≤ n) : Row w (some ⟨B, k, none⟩) m 1 (((rs.drop k).take m).map (.int .i32)) := by
  have hl : rs.length = n := by simpa using h.1
  refine ⟨by simp; omega, fun j u hj => ?_⟩
  have hjm : j < m := by
    have := (List.getElem?_eq_some_iff.1 hj).1
    simp at this
    omega
  rw [List.getElem?_map, List.getElem?_take_of_lt hjm, List.getElem?_drop, ← List.getElem?_map] at hj
  obtain ⟨B', o, e, hb, hc⟩ := h.2 (k + j) u hj
  cases e
  exact ⟨B, k, rfl, hb, by rw [Nat.zero_add] at hc; exact hc⟩
/-- The row of what is reached, before the k-th round and within it. -/
def OutIs (x : T) (R : List Int) (k : Nat) (bs : List Bool) : Prop :=
  bs.length = R.length + 1 ∧ ∀ j, j ≤ R.length → ∃ b, bs[j]? = some b ∧ (j < k → (b = true ↔ Star (Lang x) (R.take j))) ∧ (k ≤ j → b = (j == 0))
def InIs (x : T) (R : List Int) (k m : Nat) (bs : List Bool) : Prop :=
  bs.length = R.length + 1 ∧ ∀ j, j ≤ R.length → ∃ b, bs[j]? = some b ∧ (j < k → (b = true ↔ Star (Lang x) (R.take j))) ∧ (k < j → b = (j == 0)) ∧
    (j = k → (b = true ↔ k = 0 ∨ ∃ i, i < m ∧ Star (Lang x) (R.take i) ∧ Lang x ((R.drop i).take (k - i))))
theorem out_in {x : T} {R : List Int} {k : Nat} {bs : List Bool} (h : OutIs x R k bs) : InIs x R k 0 bs := by
  refine ⟨h.1, fun j hj => ?_⟩
  obtain ⟨b, e, h1, h2⟩ := h.2 j hj
  refine ⟨b, e, h1, fun hk => h2 (by omega), fun hk => ?_⟩
  rw [h2 (by omega), hk]
  constructor
  · intro h; exact .inl (by simpa using h)
  · rintro (h | ⟨i, hi, _⟩)
    · simp [h]
    · omega
theorem in_out {x : T} {R : List Int} {k : Nat} {bs : List Bool} (h : InIs x R k k bs) : OutIs x R (k + 1) bs := by
  refine ⟨h.1, fun j hj => ?_⟩
  obtain ⟨b, e, h1, h2, h3⟩ := h.2 j hj
  refine ⟨b, e, fun hk => ?_, fun hk => h2 (by omega)⟩
  by_cases hjk : j < k
  · exact h1 hjk
  · obtain rfl : j = k := by omega
    rw [h3 rfl]
    by_cases h0 : j = 0
    · subst h0
      exact ⟨fun _ => by rw [List.take_zero]; exact .nil, fun _ => .inl rfl⟩
    · rw [star_take hj (by omega)]
      exact ⟨fun h => h.resolve_left h0, .inr⟩
theorem in_step {x : T} {R : List Int} {k m : Nat} {bs : List Bool} (h : InIs x R k m bs) (hk : k ≤ R.length) (hm : m < k) {c d v : Bool} (hc : bs[k]? = some c) (hd : bs[m]? = some d)
    (hv : v = true ↔ c = true ∨ (d = true ∧ Lang x ((R.drop m).take (k - m)))) : InIs x R k (m + 1) (bs.set k v) := by
  refine ⟨by rw [List.length_set]; exact h.1, fun j hj => ?_⟩
  obtain ⟨b, e, h1, h2, h3⟩ := h.2 j hj
  by_cases hjk : j = k
  · subst hjk
    obtain rfl : b = c := by rw [hc] at e; exact (Option.some.inj e).symm
    refine ⟨v, by rw [List.getElem?_set_self (by rw [h.1]; omega)], fun h => by omega, fun h => by omega, fun _ => ?_⟩
    obtain ⟨d', e', k1, _, _⟩ := h.2 m (by omega)
    obtain rfl : d = d' := by rw [hd] at e'; exact Option.some.inj e'
    rw [hv, h3 rfl, k1 hm]
    constructor
    · rintro ((h | ⟨i, hi, a, b⟩) | ⟨a, b⟩)
      · exact .inl h
      · exact .inr ⟨i, by omega, a, b⟩
      · exact .inr ⟨m, by omega, a, b⟩
    · rintro (h | ⟨i, hi, a, b⟩)
      · exact .inl (.inl h)
      · by_cases him : i = m
        · subst him; exact .inr ⟨a, b⟩
        · exact .inl (.inr ⟨i, by omega, a, b⟩)
  · exact ⟨b, by rw [List.getElem?_set_ne (fun e => hjk e.symm)]; exact e, h1, h2, fun h => absurd h hjk⟩
theorem in_get {x : T} {R : List Int} {k m : Nat} {bs : List Bool} (h : InIs x R k m bs) {j : Nat} (hj : j ≤ R.length) : ∃ b, bs[j]? = some b := by
  obtain ⟨b, e, _⟩ := h.2 j hj
  exact ⟨b, e⟩
theorem out_start (x : T) (R : List Int) : OutIs x R 0 ((List.replicate (R.length + 1) false).set 0 true) := by
  refine ⟨by simp, fun j hj => ?_⟩
  by_cases h0 : j = 0
  · subst h0
    exact ⟨true, by simp, fun h => by omega, fun _ => rfl⟩
  · refine ⟨false, by rw [List.getElem?_set_ne (fun e => h0 e.symm), List.getElem?_replicate, if_pos (by omega)], fun h => by omega, fun _ => ?_⟩
    exact (beq_eq_false_iff_ne.2 h0).symm
theorem out_end {x : T} {R : List Int} {bs : List Bool} (h : OutIs x R (R.length + 1) bs) : ∃ b, bs[R.length]? = some b ∧ (b = true ↔ Star (Lang x) R) := by
  obtain ⟨b, e, h1, _⟩ := h.2 R.length (Nat.le_refl _)
  have := h1 (by omega)
  rw [List.take_length] at this
  exact ⟨b, e, this⟩
theorem both_next {A B : Nat → Prop} {k : Nat} {v f1 f2 new : Bool} (hv : v = true ↔ ∃ i, i < k ∧ A i ∧ B i) (h1 : f1 = true ↔ A k) (h2 : f2 = true ↔ B k) (hn : new = (v || (f1 && f2))) : new = true ↔ ∃ i, i < k + 1 ∧ A i ∧ B i := by
  subst hn
  rw [Bool.or_eq_true, Bool.and_eq_true, hv, h1, h2]
  constructor
  · rintro (⟨i, hi, h⟩ | h)
    · exact ⟨i, by omega, h⟩
    · exact ⟨k, by omega, h⟩
  · rintro ⟨i, hi, h⟩
    by_cases e : i = k
    · subst e; exact .inr h
    · exact .inl ⟨i, by omega, h⟩
end Go.Proofs.Ytdccmmibfacpkaa
