/-
  Rows as bytes and back: what they are, that no two are alike, that none is the beginning of another one. No condition.
-/
import Derived.Test.YtbnacoakjhhndaaGreatLabelMath
import Derived.Test.YtbnacoakjhhndaaGreatDvMath
namespace Go.Proofs.YtbnacoakjhhndaaGreat
open Go.RowKit

/-- A row: its labels and its number. -/
structure Rw where
  l : List Lb
  v : Int
deriving DecidableEq
/-- A text behind its length. -/
def lenT (x : List UInt8) : List UInt8 := UInt8.ofNat x.length :: x
def lbL (x : Lb) : List UInt8 := lenT x.n ++ lenT x.v
def lbsL (l : List Lb) : List UInt8 := l.flatMap lbL
theorem lbsL_cons (x : Lb) (l : List Lb) : lbsL (x :: l) = lbL x ++ lbsL l := by simp [lbsL]
theorem lbsL_append (a b : List Lb) : lbsL (a ++ b) = lbsL a ++ lbsL b := by simp [lbsL]
/-- A row's bytes. -/
def rowL (r : Rw) : List UInt8 := UInt8.ofNat r.l.length :: (lbsL r.l ++ Crc.be 6 (r.v + 1000000000000).toNat)
def okV (v : Int) : Prop := -1000000000000 ≤ v ∧ v ≤ 1000000000000
instance (v : Int) : Decidable (okV v) := by unfold okV; exact inferInstance
def okR (r : Rw) : Prop := okLbs r.l ∧ okV r.v
instance (r : Rw) : Decidable (okR r) := by unfold okR; exact inferInstance
/-- Few and short enough to be told by bytes. -/
def SmallL (l : List Lb) : Prop := l.length < 256 ∧ ∀ x ∈ l, x.n.length < 256 ∧ x.v.length < 256

/-! ### Back -/
def takeT : List UInt8 → Option (List UInt8 × List UInt8)
  | [] => none
  | c :: r => if c.toNat ≤ r.length then some (r.take c.toNat, r.drop c.toNat) else none
def getLs : Nat → List UInt8 → Option (List Lb × List UInt8)
  | 0, b => some ([], b)
  | n + 1, b => match takeT b with
    | none => none
    | some (x, r) => match takeT r with
      | none => none
      | some (y, r2) => match getLs n r2 with
        | none => none
        | some (l, r3) => some (⟨x, y⟩ :: l, r3)
/-- The row with which bytes begin, and the rest. -/
def getR : List UInt8 → Option (Rw × List UInt8)
  | [] => none
  | c :: r => match getLs c.toNat r with
    | none => none
    | some (l, r2) => if 6 ≤ r2.length ∧ okR ⟨l, (dvN (r2.take 6) : Int) - 1000000000000⟩ then some (⟨l, (dvN (r2.take 6) : Int) - 1000000000000⟩, r2.drop 6) else none

theorem ofNat_len (n : Nat) (h : n < 256) : (UInt8.ofNat n).toNat = n := by rw [UInt8.toNat_ofNat']; omega
theorem takeT_len (x t : List UInt8) (h : x.length < 256) : takeT (lenT x ++ t) = some (x, t) := by
  show (if (UInt8.ofNat x.length).toNat ≤ (x ++ t).length then some ((x ++ t).take (UInt8.ofNat x.length).toNat, (x ++ t).drop (UInt8.ofNat x.length).toNat) else none) = _
  rw [ofNat_len _ h, if_pos (by simp)]
  simp
theorem takeT_some {b x r : List UInt8} (h : takeT b = some (x, r)) : b = lenT x ++ r ∧ x.length < 256 := by
  cases b with
  | nil => simp [takeT] at h
  | cons c t =>
    have h' : (if c.toNat ≤ t.length then some (t.take c.toNat, t.drop c.toNat) else none) = some (x, r) := h
    by_cases hc : c.toNat ≤ t.length
    · rw [if_pos hc] at h'
      simp only [Option.some.injEq, Prod.mk.injEq] at h'
      obtain ⟨rfl, rfl⟩ := h'
      have hl : (t.take c.toNat).length = c.toNat := by rw [List.length_take]; omega
      refine ⟨?_, by rw [hl]; exact c.toNat_lt⟩
      unfold lenT
      rw [hl, List.cons_append, List.take_append_drop]
      simp
    · rw [if_neg hc] at h'
      cases h'
theorem getLs_of (l : List Lb) (t : List UInt8) (h : ∀ x ∈ l, x.n.length < 256 ∧ x.v.length < 256) : getLs l.length (lbsL l ++ t) = some (l, t) := by
  induction l with
  | nil => rfl
  | cons x l ih =>
    obtain ⟨h1, h2⟩ := h x List.mem_cons_self
    rw [List.length_cons, lbsL_cons]
    unfold getLs lbL
    rw [List.append_assoc, List.append_assoc, takeT_len _ _ h1]
    simp only
    rw [takeT_len _ _ h2]
    simp only
    rw [ih fun y hy => h y (List.mem_cons_of_mem _ hy)]
theorem getLs_some : ∀ {n : Nat} {b : List UInt8} {l : List Lb} {r : List UInt8}, getLs n b = some (l, r) → l.length = n ∧ b = lbsL l ++ r ∧ ∀ x ∈ l, x.n.length < 256 ∧ x.v.length < 256 := by
  intro n
  induction n with
  | zero =>
    intro b l r h
    simp only [getLs, Option.some.injEq, Prod.mk.injEq] at h
    obtain ⟨rfl, rfl⟩ := h
    exact ⟨rfl, rfl, by simp⟩
  | succ n ih =>
    intro b l r h
    unfold getLs at h
    cases h1 : takeT b with
    | none => simp [h1] at h
    | some p =>
      obtain ⟨x, r1⟩ := p
      simp only [h1] at h
      cases h2 : takeT r1 with
      | none => simp [h2] at h
      | some p =>
        obtain ⟨y, r2⟩ := p
        simp only [h2] at h
        cases h3 : getLs n r2 with
        | none => simp [h3] at h
        | some p =>
          obtain ⟨l2, r3⟩ := p
          simp only [h3, Option.some.injEq, Prod.mk.injEq] at h
          obtain ⟨rfl, rfl⟩ := h
          obtain ⟨e1, e2⟩ := takeT_some h1
          obtain ⟨e3, e4⟩ := takeT_some h2
          obtain ⟨e5, e6, e7⟩ := ih h3
          refine ⟨by rw [List.length_cons, e5], ?_, ?_⟩
          · rw [e1, e3, e6, lbsL_cons]; simp [lbL]
          · intro z hz
            rcases List.mem_cons.1 hz with rfl | hz
            · exact ⟨e2, e4⟩
            · exact e7 z hz
theorem okV_val {v : Int} (h : okV v) : (dvN (Crc.be 6 (v + 1000000000000).toNat) : Int) - 1000000000000 = v := by
  obtain ⟨h1, h2⟩ := h
  rw [dv6 _ (by omega)]
  omega
/-- A row's bytes are read as it was, whatever stands behind them. -/
theorem getR_of {r : Rw} (h : okR r) (hs : SmallL r.l) (t : List UInt8) : getR (rowL r ++ t) = some (r, t) := by
  obtain ⟨l, v⟩ := r
  obtain ⟨h1, h2⟩ := h
  obtain ⟨h3, h4⟩ := hs
  simp only at h1 h2 h3 h4
  unfold rowL getR
  simp only [List.cons_append, ofNat_len _ h3, List.append_assoc]
  rw [getLs_of l _ h4]
  simp only
  have hl : (Crc.be 6 (v + 1000000000000).toNat).length = 6 := Crc.be_length _ _
  rw [List.take_left' hl, List.drop_left' hl, okV_val h2, if_pos ⟨by rw [List.length_append, hl]; omega, h1, h2⟩]
/-- What is read is told as it was. -/
theorem getR_some {b : List UInt8} {r : Rw} {t : List UInt8} (h : getR b = some (r, t)) : b = rowL r ++ t ∧ okR r ∧ SmallL r.l := by
  cases b with
  | nil => simp [getR] at h
  | cons c b =>
    unfold getR at h
    cases h1 : getLs c.toNat b with
    | none => simp [h1] at h
    | some p =>
      obtain ⟨l, r2⟩ := p
      simp only [h1] at h
      split at h
      · rename_i hk
        obtain ⟨hk1, hk2⟩ := hk
        simp only [Option.some.injEq, Prod.mk.injEq] at h
        obtain ⟨rfl, rfl⟩ := h
        obtain ⟨e1, e2, e3⟩ := getLs_some h1
        refine ⟨?_, hk2, by rw [e1]; exact c.toNat_lt, e3⟩
        have hl : (r2.take 6).length = 6 := by rw [List.length_take]; omega
        have hn : ((dvN (r2.take 6) : Int) - 1000000000000 + 1000000000000).toNat = dvN (r2.take 6) := by omega
        unfold rowL
        simp only
        rw [hn, be_dv6 hl, e1, List.cons_append, List.append_assoc, List.take_append_drop, ← e2]
        simp
      · simp at h
theorem rowL_inj {a b : Rw} (ha : okR a) (hb : okR b) (sa : SmallL a.l) (sb : SmallL b.l) {s t : List UInt8} (h : rowL a ++ s = rowL b ++ t) : a = b ∧ s = t := by
  have h1 := getR_of ha sa s
  rw [h, getR_of hb sb t] at h1
  simp only [Option.some.injEq, Prod.mk.injEq] at h1
  exact ⟨h1.1.symm, h1.2.symm⟩
theorem okLbs_small {l : List Lb} (h : okLbs l) : SmallL l := by
  obtain ⟨h1, h2, _⟩ := h
  refine ⟨by omega, fun x hx => ?_⟩
  obtain ⟨h3, h4, h5⟩ := h2 x hx
  refine ⟨?_, by omega⟩
  unfold isName at h3
  have h6 := chunks_le4 x.n
  simp only [Bool.and_eq_true, decide_eq_true_eq] at h3
  omega
theorem lenT_len (x : List UInt8) : (lenT x).length = 1 + x.length := by simp [lenT]; omega
theorem lbL_len (x : Lb) : (lbL x).length = 2 + x.n.length + x.v.length := by unfold lbL; rw [List.length_append, lenT_len, lenT_len]; omega
theorem name_le {x : List UInt8} (h : isName x = true) : 1 ≤ x.length ∧ x.length ≤ 120 := by
  unfold isName at h
  have h6 := chunks_le4 x
  have h7 := chunks_len x
  simp only [Bool.and_eq_true, decide_eq_true_eq] at h
  omega
theorem lbsL_le : ∀ {l : List Lb}, (∀ x ∈ l, okLb x) → (lbsL l).length ≤ 182 * l.length := by
  intro l
  induction l with
  | nil => intro _; simp [lbsL]
  | cons x l ih =>
    intro h
    obtain ⟨h1, h2, h3⟩ := h x List.mem_cons_self
    have h4 := name_le h1
    have h5 := ih fun y hy => h y (List.mem_cons_of_mem _ hy)
    rw [lbsL_cons, List.length_append, lbL_len, List.length_cons]
    omega
theorem rowL_len (r : Rw) : (rowL r).length = 7 + (lbsL r.l).length := by unfold rowL; simp [Crc.be_length]; omega
theorem rowL_le {r : Rw} (h : okR r) : (rowL r).length ≤ 1463 := by
  have h1 := lbsL_le h.1.2.1
  have h2 := h.1.1
  rw [rowL_len]
  omega
/-- What a row takes. -/
def costR (r : Rw) : Nat := 16 + (r.l.map fun x => 8 + x.n.length + x.v.length).sum
end Go.Proofs.YtbnacoakjhhndaaGreat
