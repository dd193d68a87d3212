/-
  A frame of which bits are turned, all of them among 32 that stand one behind the other, is not taken apart: in plain lists. No condition.
-/
import Derived.Test.YtbnacoakjhhndaaGreatGuardFrame
namespace Go.Proofs.YtbnacoakjhhndaaGreat
open Go
namespace Crc

theorem bitsB_inj {a b : UInt8} (h : bitsB a = bitsB b) : a = b := by
  apply UInt8.toNat_inj.1
  have ha := UInt8.toNat_lt a
  have hb := UInt8.toNat_lt b
  have h1 : ∀ m, m < 8 → a.toNat / 2 ^ (7 - m) % 2 = b.toNat / 2 ^ (7 - m) % 2 := by
    intro m hm
    have h2 : (bitsB a)[m]? = (bitsB b)[m]? := by rw [h]
    simpa [bitsB, List.getElem?_map, List.getElem?_range hm] using h2
  apply Nat.eq_of_testBit_eq
  intro i
  by_cases hi : i < 8
  · have h3 := h1 (7 - i) (by omega)
    rw [show 7 - (7 - i) = i from by omega] at h3
    rw [Nat.testBit_eq_decide_div_mod_eq, Nat.testBit_eq_decide_div_mod_eq, h3]
  · have hp : 256 ≤ 2 ^ i := by
      have : (2 : Nat) ^ 8 ≤ 2 ^ i := Nat.pow_le_pow_right (by omega) (by omega)
      simpa using this
    rw [Nat.testBit_lt_two_pow (by omega), Nat.testBit_lt_two_pow (by omega)]
theorem bitsL_inj {l m : List UInt8} (h : bitsL l = bitsL m) : l = m := by
  induction l generalizing m with
  | nil => cases m with
    | nil => rfl
    | cons b m =>
      have := congrArg List.length h
      rw [bitsL_length, bitsL_length] at this
      simp at this
  | cons a l ih => cases m with
    | nil =>
      have := congrArg List.length h
      rw [bitsL_length, bitsL_length] at this
      simp at this
    | cons b m =>
      have e : ∀ (x : UInt8) (r : List UInt8), bitsL (x :: r) = bitsB x ++ bitsL r := fun x r => by simp [bitsL]
      rw [e, e] at h
      obtain ⟨h1, h2⟩ := List.append_inj h (by rw [bitsB_length, bitsB_length])
      rw [bitsB_inj h1, ih h2]

theorem be4_of (l : List UInt8) (hl : l.length = 4) : ∃ c, c < 4294967296 ∧ l = be 4 c := by
  obtain ⟨h1, h2⟩ := bits32_num (bitsL l) (by rw [bitsL_length, hl]) (bitsL_lt l)
  refine ⟨num (bitsL l), h1, bitsL_inj ?_⟩
  rw [bits_be4, h2]

/-- Bytes with four behind them: not what the sum says, just if the register is not empty. -/
theorem not_valid {d c : List UInt8} (hc : c.length = 4) (h : run 4294967295 (bitsL (d ++ c)) ≠ 0) : be 4 (sum d) ≠ c := by
  obtain ⟨v, hv, rfl⟩ := be4_of c hc
  intro he
  apply h
  rw [← he]
  exact (valid_iff d (sum d) (sum_lt d)).2 rfl

/-- Two lists of bytes of one length, the bits the same but among 32; the one is right, the other is not the same: so it is not right. -/
theorem burst_wrong {u v : List UInt8} (hl : u.length = v.length) (k : Nat) (hw : ∀ p, p < k ∨ k + 32 ≤ p → (bitsL v)[p]? = (bitsL u)[p]?) (hne : v ≠ u) (hu : run 4294967295 (bitsL u) = 0) : run 4294967295 (bitsL v) ≠ 0 := by
  intro h
  apply hne
  exact bitsL_inj (run_tells (x := 4294967295) (bitsL v) (bitsL u) (by omega) (by rw [bitsL_length, bitsL_length, hl]) (bitsL_lt v) (bitsL_lt u) k hw (h.trans hu.symm))

theorem burst_take (S R : List UInt8) (hS : S.length ≤ 12000) (v : List UInt8) (k : Nat) (hl : v.length = (frm S).length) (hw : ∀ p, p < k ∨ k + 32 ≤ p → (bitsL v)[p]? = (bitsL (frm S))[p]?) (hne : v ≠ frm S) :
    take (v ++ R) = ([], [], 10) := by
  have hfl := frm_length S
  obtain ⟨h', m', rfl, hh⟩ : ∃ h' m', v = h' ++ m' ∧ h'.length = 6 := ⟨v.take 6, v.drop 6, (List.take_append_drop 6 v).symm, by simp; omega⟩
  have hm : m'.length = S.length + 4 := by simp at hl; omega
  have hwh : ∀ p, p < k ∨ k + 32 ≤ p → (bitsL h')[p]? = (bitsL (head S.length))[p]? := by
    intro p hp
    by_cases h48 : p < 48
    · have h1 := hw p hp
      rw [bitsL_append, List.getElem?_append_left (by rw [bitsL_length]; omega)] at h1
      unfold frm at h1
      rw [bitsL_append, List.getElem?_append_left (by rw [bitsL_length, head_length]; omega)] at h1
      exact h1
    · rw [List.getElem?_eq_none (by rw [bitsL_length]; omega), List.getElem?_eq_none (by rw [bitsL_length, head_length]; omega)]
  by_cases hhd : h' = head S.length
  · subst hhd
    have hmne : m' ≠ S ++ be 4 (sum S) := by
      rintro rfl
      exact hne rfl
    have hwm : ∀ p, p < k - 48 ∨ k - 48 + 32 ≤ p → (bitsL m')[p]? = (bitsL (S ++ be 4 (sum S)))[p]? := by
      intro p hp
      have h1 := hw (p + 48) (by omega)
      rw [bitsL_append, List.getElem?_append_right (by rw [bitsL_length, head_length]; omega)] at h1
      unfold frm at h1
      rw [bitsL_append, List.getElem?_append_right (by rw [bitsL_length, head_length]; omega)] at h1
      rw [bitsL_length, head_length] at h1
      simpa using h1
    have hr := burst_wrong (u := S ++ be 4 (sum S)) (v := m') (by simp [be_length]; omega) (k - 48) hwm hmne ((valid_iff S _ (sum_lt S)).2 rfl)
    have e : m' = m'.take S.length ++ m'.drop S.length := (List.take_append_drop _ _).symm
    rw [e] at hr
    have hnv := not_valid (d := m'.take S.length) (c := m'.drop S.length) (by simp; omega) hr
    rw [List.append_assoc, take_head _ _ (by omega), if_neg (by simp; omega), if_neg (by omega), if_pos]
    have e1 : (m' ++ R).take S.length = m'.take S.length := List.take_append_of_le_length (by omega)
    have e2 : ((m' ++ R).drop S.length).take 4 = m'.drop S.length := by
      rw [List.drop_append_of_le_length (by omega), List.take_append_of_le_length (by simp; omega)]
      exact List.take_of_length_le (by simp; omega)
    rw [e1, e2]
    exact hnv
  · have hr := burst_wrong (u := head S.length) (v := h') (by rw [hh, head_length]) k hwh hhd ((valid_iff (be 2 S.length) _ (sum_lt _)).2 rfl)
    have e : h' = h'.take 2 ++ h'.drop 2 := (List.take_append_drop _ _).symm
    rw [e] at hr
    have hnv := not_valid (d := h'.take 2) (c := h'.drop 2) (by simp; omega) hr
    unfold take
    rw [if_neg (by simp; omega), if_pos]
    have e1 : (h' ++ m' ++ R).take 2 = h'.take 2 := by rw [List.append_assoc]; exact List.take_append_of_le_length (by omega)
    have e2 : ((h' ++ m' ++ R).drop 2).take 4 = h'.drop 2 := by
      rw [List.append_assoc, List.drop_append_of_le_length (by omega), List.take_append_of_le_length (by simp; omega)]
      exact List.take_of_length_le (by simp; omega)
    rw [e1, e2]
    exact hnv

/-- What a loop over the bits of a number has turned so far. -/
structure Turned (l l' : List UInt8) (k i : Nat) (tb : Bool) : Prop where
  len : l'.length = l.length
  same : ∀ p, p < k ∨ k + i ≤ p → (bitsL l')[p]? = (bitsL l)[p]?
  diff : tb = true → ∃ p, p < k + i ∧ (bitsL l')[p]? ≠ (bitsL l)[p]?
theorem turned_start (l : List UInt8) (k : Nat) : Turned l l k 0 false := ⟨rfl, fun _ _ => rfl, fun h => by cases h⟩
theorem turned_skip {l l' : List UInt8} {k i : Nat} {tb : Bool} (h : Turned l l' k i tb) : Turned l l' k (i + 1) tb :=
  ⟨h.len, fun p hp => h.same p (by omega), fun ht => by obtain ⟨p, h1, h2⟩ := h.diff ht; exact ⟨p, by omega, h2⟩⟩
theorem turned_flip {l l' : List UInt8} {k i : Nat} {tb : Bool} (h : Turned l l' k i tb) {x : UInt8} (hx : l'[(k + i) / 8]? = some x) : Turned l (l'.set ((k + i) / 8) (flipB x ((k + i) % 8))) k (i + 1) true := by
  refine ⟨by rw [List.length_set]; exact h.len, fun p hp => ?_, fun _ => ⟨k + i, by omega, ?_⟩⟩
  · rw [bits_set l' (k + i) x hx, if_neg (by omega)]
    exact h.same p (by omega)
  · rw [bits_set l' (k + i) x hx, if_pos rfl, ← h.same (k + i) (by omega), bitsL_get, hx]
    simp
    omega
theorem turned_ne {l l' : List UInt8} {k i : Nat} (h : Turned l l' k i true) : l' ≠ l := by
  rintro rfl
  obtain ⟨p, _, h2⟩ := h.diff rfl
  exact h2 rfl
end Crc
end Go.Proofs.YtbnacoakjhhndaaGreat
