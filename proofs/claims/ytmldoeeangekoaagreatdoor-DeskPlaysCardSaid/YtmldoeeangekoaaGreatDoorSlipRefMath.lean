/-
  Plain facts on slips as the document reads and tells them. No condition, no program.
-/
import Derived.Test.YtmldoeeangekoaaGreatDoorSlipMath
import Derived.Test.YtmldoeeangekoaaGreatDoorSlipPages
namespace Go.Proofs.YtmldoeeangekoaaGreatDoor
open Go.Lib (decDigits)

/-! ### The numbers of digits, as the document reckons them -/
def capV (v : Nat) (c : UInt8) : Nat := min (v * 10 + (c.toNat - 48)) 100000000
def capL (l : List UInt8) : Nat := l.foldl capV 0
theorem capL_snoc (l : List UInt8) (c : UInt8) : capL (l ++ [c]) = capV (capL l) c := by simp [capL]
theorem capL_le (l : List UInt8) : capL l ≤ 100000000 := by
  have : ∀ (l : List UInt8) (v : Nat), v ≤ 100000000 → l.foldl capV v ≤ 100000000 := by
    intro l
    induction l with
    | nil => intro v h; exact h
    | cons c t ih => intro v _; exact ih _ (by unfold capV; omega)
  exact this l 0 (by omega)
theorem capL_dec : ∀ (u : Nat), u ≤ 100000000 → capL (decDigits u) = u := by
  intro u
  induction u using Nat.strongRecOn with
  | ind u ih =>
    intro hu
    have hd : ∀ d, d < 10 → (UInt8.ofNat (48 + d)).toNat - 48 = d := fun d hd => by
      have : (UInt8.ofNat (48 + d)).toNat = 48 + d := by simp; omega
      omega
    rw [decDigits]
    split
    · rename_i h
      simp only [capL, List.foldl, capV]
      rw [hd u h]
      omega
    · rename_i h
      rw [capL_snoc, ih (u / 10) (by omega) (by omega)]
      unfold capV
      rw [hd (u % 10) (by omega)]
      omega
/-- What the document answers of a text. -/
def UnIs (l : List UInt8) (a b : Int) (is : Bool) : Prop := (∃ m n : Nat, SlipOk m n ∧ l = slipL m n ∧ a = m ∧ b = n ∧ is = true) ∨ ((∀ m n : Nat, SlipOk m n → l ≠ slipL m n) ∧ a = 0 ∧ b = 0 ∧ is = false)
/-- Where the first dot stands. -/
theorem slip_dot {m n : Nat} {l : List UInt8} {D : Nat} (h : l = slipL m n) (hD : l[D]? = some 46) (hno : ∀ j, j < D → l[j]? ≠ some 46) : D = 1 + (decDigits m).length := by
  subst h
  have hs : slipL m n = (112 :: decDigits m) ++ 46 :: decDigits n := rfl
  have hl : (112 :: decDigits m : List UInt8).length = 1 + (decDigits m).length := by simp; omega
  rcases Nat.lt_trichotomy D (1 + (decDigits m).length) with h | h | h
  · exfalso
    rw [hs, List.getElem?_append_left (by omega)] at hD
    have hm := List.mem_of_getElem? hD
    simp only [List.mem_cons] at hm
    rcases hm with h1 | h1
    · exact absurd h1 (by decide)
    · exact dec_no_dot m _ h1 rfl
  · exact h
  · exfalso
    refine hno _ h ?_
    rw [hs, List.getElem?_append_right (by omega), hl]
    simp
theorem slip_parts (m n : Nat) : ((slipL m n).drop 1).take (decDigits m).length = decDigits m ∧ (slipL m n).drop (1 + (decDigits m).length + 1) = decDigits n := ⟨slip_cut0 m n, slip_cut1 m n⟩
/-- Every sign behind the first one is a digit, or it is the dot. -/
theorem slip_digits {m n : Nat} {l : List UInt8} (h : l = slipL m n) {i : Nat} {c : UInt8} (hi : l[i]? = some c) (h0 : 1 ≤ i) (hD : i ≠ 1 + (decDigits m).length) : 48 ≤ c.toNat ∧ c.toNat ≤ 57 := by
  subst h
  have hs : slipL m n = (112 :: decDigits m) ++ 46 :: decDigits n := rfl
  have hl : (112 :: decDigits m : List UInt8).length = 1 + (decDigits m).length := by simp; omega
  rcases Nat.lt_or_ge i (1 + (decDigits m).length) with h | h
  · obtain ⟨j, rfl⟩ : ∃ j, i = j + 1 := ⟨i - 1, by omega⟩
    rw [hs, List.getElem?_append_left (by omega), List.getElem?_cons_succ] at hi
    exact dec_digit m c (List.mem_of_getElem? hi)
  · obtain ⟨j, hj⟩ : ∃ j, i = 1 + (decDigits m).length + (j + 1) := ⟨i - (1 + (decDigits m).length) - 1, by omega⟩
    rw [hs, List.getElem?_append_right (by omega), hl] at hi
    have e : i - (1 + (decDigits m).length) = j + 1 := by omega
    rw [e, List.getElem?_cons_succ] at hi
    exact dec_digit n c (List.mem_of_getElem? hi)

/-! ### Where pages begin -/
/-- May there be pages? -/
def PgIn (rows size : Int) : Prop := 0 ≤ rows ∧ rows ≤ 2000 ∧ 1 ≤ size ∧ size ≤ 100
instance (rows size : Int) : Decidable (PgIn rows size) := by unfold PgIn; infer_instance
def pgN (rows size : Int) : Nat := if PgIn rows size then pagesN rows.toNat size.toNat else 0
def pgL (rows size : Int) : List Int := if PgIn rows size then pagesL size.toNat (pagesN rows.toNat size.toNat) else []
theorem pgL_len (rows size : Int) : (pgL rows size).length = pgN rows size := by
  unfold pgL pgN
  split
  · exact pagesL_len _ _
  · rfl
theorem pgN_le (rows size : Int) : pgN rows size ≤ 2001 := by
  unfold pgN
  split
  · rename_i h
    obtain ⟨h1, h2, h3, h4⟩ := h
    exact (pages_small (by omega) (by omega) (by omega) (by unfold pagesN; omega) (Nat.le_refl _)).2
  · omega
/-- The pages that begin ahead of row k. -/
def pgW (rows size : Int) (k : Nat) : List Int := if PgIn rows size then pagesL size.toNat ((k + size.toNat - 1) / size.toNat) else []
theorem ceil_succ {s k : Nat} (hs : 0 < s) : (k + 1 + s - 1) / s = (k + s - 1) / s + (if k % s = 0 then 1 else 0) := by
  have e : k + 1 + s - 1 = k + s := by omega
  rw [e, Nat.add_div_right _ hs]
  have h1 := Nat.div_add_mod k s
  have h2 := Nat.mod_lt k hs
  by_cases hm : k % s = 0
  · rw [if_pos hm]
    have : (k + s - 1) / s = k / s := by
      apply Nat.div_eq_of_lt_le
      · rw [Nat.mul_comm]; omega
      · rw [Nat.succ_mul, Nat.mul_comm]; omega
    rw [this]
  · rw [if_neg hm]
    have : (k + s - 1) / s = k / s + 1 := by
      apply Nat.div_eq_of_lt_le
      · rw [Nat.succ_mul, Nat.mul_comm]; omega
      · rw [Nat.succ_mul, Nat.succ_mul, Nat.mul_comm]; omega
    rw [this, Nat.add_zero]
theorem ceil_at {s k : Nat} (hs : 0 < s) (hm : k % s = 0) : (k + s - 1) / s * s = k := by
  have h1 := Nat.div_add_mod k s
  have : (k + s - 1) / s = k / s := by
    apply Nat.div_eq_of_lt_le
    · rw [Nat.mul_comm]; omega
    · rw [Nat.succ_mul, Nat.mul_comm]; omega
  rw [this, Nat.mul_comm]
  omega
theorem pgW_zero (rows size : Int) : pgW rows size 0 = [] := by
  unfold pgW
  split
  · rename_i h
    obtain ⟨h1, h2, h3, h4⟩ := h
    have : (0 + size.toNat - 1) / size.toNat = 0 := Nat.div_eq_of_lt (by omega)
    rw [this]
    rfl
  · rfl
theorem pgW_yes {rows size : Int} {k : Nat} (h : PgIn rows size) (hm : k % size.toNat = 0) : pgW rows size (k + 1) = pgW rows size k ++ [((k : Nat) : Int)] := by
  unfold pgW
  rw [if_pos h, if_pos h]
  obtain ⟨h1, h2, h3, h4⟩ := h
  have hs : 0 < size.toNat := by omega
  rw [ceil_succ hs, if_pos hm, pagesL_succ, ceil_at hs hm]
theorem pgW_no {rows size : Int} {k : Nat} (h : ¬ (PgIn rows size ∧ k % size.toNat = 0)) : pgW rows size (k + 1) = pgW rows size k := by
  unfold pgW
  by_cases hi : PgIn rows size
  · rw [if_pos hi, if_pos hi]
    have hs : 0 < size.toNat := by have := hi.2.2.1; omega
    rw [ceil_succ hs, if_neg (fun hm => h ⟨hi, hm⟩), Nat.add_zero]
  · rw [if_neg hi, if_neg hi]
/-- At the end: all of them. -/
theorem pgW_end {rows size : Int} {k : Nat} (hk : 0 < k) (h1 : PgIn rows size → rows ≤ k) (h2 : PgIn rows size → k = 1 ∨ (k : Int) ≤ rows) : pgW rows size k = pgL rows size := by
  unfold pgW pgL
  by_cases hi : PgIn rows size
  · rw [if_pos hi, if_pos hi]
    have a1 := h1 hi
    have a2 := h2 hi
    obtain ⟨q1, q2, q3, q4⟩ := hi
    congr 1
    unfold pagesN
    rcases Nat.eq_zero_or_pos rows.toNat with h0 | h0
    · have : k = 1 := by omega
      subst this
      rw [h0]
      have e1 : (0 + size.toNat - 1) / size.toNat = 0 := Nat.div_eq_of_lt (by omega)
      have e2 : (1 + size.toNat - 1) / size.toNat = 1 := by rw [Nat.add_sub_cancel_left]; exact Nat.div_self (by omega)
      rw [e1, e2]
      rfl
    · have : k = rows.toNat := by omega
      subst this
      have : 1 ≤ (rows.toNat + size.toNat - 1) / size.toNat := (Nat.le_div_iff_mul_le (by omega)).2 (by omega)
      omega
  · rw [if_neg hi, if_neg hi]
/-- Begins, as the document says it. -/
def BegIs (rows size fr : Int) : Prop := PgIn rows size ∧ 0 ≤ fr ∧ (fr < rows ∨ fr = 0) ∧ fr % size = 0
instance (rows size fr : Int) : Decidable (BegIs rows size fr) := by unfold BegIs; infer_instance
/-- What Next answers is what the document says. -/
theorem next_is {rows size : Nat} {fr v : Int} {b : Bool} (hr : rows ≤ 2000) (hs : 0 < size) (hs2 : size ≤ 100) (h : NextIs rows size fr v b) :
    (b = true ↔ BegIs rows size fr ∧ (size : Int) < rows - fr) ∧ (b = true → v = fr + size) ∧ (b = false → v = 0) := by
  rcases h with ⟨k, rfl, h1, rfl, rfl⟩ | ⟨h1, rfl, rfl⟩
  · have h2 := (pages_more (rows := rows) hs (Nat.succ_pos k)).1 h1
    rw [Nat.succ_mul] at h2
    refine ⟨⟨fun _ => ⟨⟨by unfold PgIn; omega, by omega, by left; omega, ?_⟩, by omega⟩, fun _ => rfl⟩, fun _ => ?_, (fun h => by cases h)⟩
    · show ((k * size % size : Nat) : Int) = 0
      rw [Nat.mul_mod_left]; rfl
    · rw [Nat.succ_mul]; omega
  · refine ⟨⟨(fun h => by cases h), fun h => ?_⟩, (fun h => by cases h), fun _ => rfl⟩
    exfalso
    obtain ⟨⟨_, h2, _, h4⟩, h5⟩ := h
    obtain ⟨f, rfl⟩ : ∃ f : Nat, fr = f := ⟨fr.toNat, by omega⟩
    have h6 : f % size = 0 := by
      have h8 : ((f % size : Nat) : Int) = 0 := h4
      omega
    have h7 := Nat.div_add_mod f size
    rw [h6, Nat.add_zero, Nat.mul_comm] at h7
    refine h1 (f / size) ?_ (by rw [h7])
    rw [pages_more hs (Nat.succ_pos _), Nat.succ_mul, h7]
    omega
end Go.Proofs.YtmldoeeangekoaaGreatDoor
