/-
  What the document's Page reads of a block, row by row: plain. No condition.
-/
import Derived.Test.YtoidfoalhkoajaaRunAll
namespace Go.Proofs.Ytoidfoalhkoajaa
open Go.RowKit

/-- So many rows, one behind the other, and what is left. -/
def getN : Nat → List UInt8 → Option (List Rw × List UInt8)
  | 0, f => some ([], f)
  | t + 1, f => match getN t f with
    | none => none
    | some (l, r) => match getR r with
      | none => none
      | some (x, r2) => some (l ++ [x], r2)
theorem getN_some {t : Nat} {f r : List UInt8} {l : List Rw} (h : getN t f = some (l, r)) {x : Rw} {r2 : List UInt8} (hx : getR r = some (x, r2)) : getN (t + 1) f = some (l ++ [x], r2) := by rw [getN, h]; simp only; rw [hx]
theorem getN_stop {t : Nat} {f r : List UInt8} {l : List Rw} (h : getN t f = some (l, r)) (hx : getR r = none) : getN (t + 1) f = none := by rw [getN, h]; simp only; rw [hx]
theorem getR_ne {r : List UInt8} {p : Rw × List UInt8} (h : getR r = some p) : r ≠ [] := by rintro rfl; cases h
theorem getN_len : ∀ {t : Nat} {f r : List UInt8} {l : List Rw}, getN t f = some (l, r) → l.length = t ∧ r.length ≤ f.length
  | 0, f, r, l, h => by simp only [getN, Option.some.injEq, Prod.mk.injEq] at h; rw [← h.1, ← h.2]; exact ⟨rfl, Nat.le_refl _⟩
  | t + 1, f, r, l, h => by
    rw [getN] at h
    cases hp : getN t f with
    | none => rw [hp] at h; cases h
    | some p =>
      obtain ⟨l0, r0⟩ := p
      rw [hp] at h
      simp only at h
      obtain ⟨h1, h2⟩ := getN_len hp
      cases hx : getR r0 with
      | none => rw [hx] at h; cases h
      | some q =>
        obtain ⟨x, r2⟩ := q
        rw [hx] at h
        simp only [Option.some.injEq, Prod.mk.injEq] at h
        have := getR_less hx
        rw [← h.1, ← h.2]
        exact ⟨by rw [List.length_append, h1]; rfl, by omega⟩
theorem getN_all : ∀ {t : Nat} {f r : List UInt8} {l : List Rw}, getN t f = some (l, r) → allR f = (allR r).map (l ++ ·)
  | 0, f, r, l, h => by
    simp only [getN, Option.some.injEq, Prod.mk.injEq] at h
    rw [← h.1, ← h.2]
    cases allR f <;> rfl
  | t + 1, f, r, l, h => by
    rw [getN] at h
    cases hp : getN t f with
    | none => rw [hp] at h; cases h
    | some p =>
      obtain ⟨l0, r0⟩ := p
      rw [hp] at h
      simp only at h
      have ih := getN_all hp
      cases hx : getR r0 with
      | none => rw [hx] at h; cases h
      | some q =>
        obtain ⟨x, r2⟩ := q
        rw [hx] at h
        simp only [Option.some.injEq, Prod.mk.injEq] at h
        rw [ih, allR_cons hx (getR_ne hx), ← h.1, ← h.2]
        cases allR r2 with
        | none => rfl
        | some m => simp
/-- What a block comes to, as its rows are read. -/
def blkA (m : Nat) (f : List UInt8) : Option (List Rw) := match allR f with
  | none => none
  | some l => if l.length = m then some l else none
theorem blkA_yes {m : Nat} {f : List UInt8} {l : List Rw} (h : getN m f = some (l, [])) : blkA m f = some l := by
  unfold blkA
  rw [getN_all h, allR_nil]
  simp only [Option.map_some, List.append_nil]
  rw [if_pos (getN_len h).1]
theorem blkA_more {m : Nat} {f r : List UInt8} {l : List Rw} (h : getN m f = some (l, r)) (hr : r ≠ []) : blkA m f = none := by
  unfold blkA
  rw [getN_all h]
  cases hg : getR r with
  | none => rw [allR_bad hg hr]; rfl
  | some q =>
    obtain ⟨x, r2⟩ := q
    rw [allR_cons hg hr]
    cases allR r2 with
    | none => rfl
    | some k =>
      simp only [Option.map_some]
      rw [if_neg]
      have := (getN_len h).1
      rw [List.length_append, List.length_cons]
      omega
theorem blkA_stop {t m : Nat} {f r : List UInt8} {l : List Rw} (h : getN t f = some (l, r)) (hx : getR r = none) (hm : t < m) : blkA m f = none := by
  unfold blkA
  rw [getN_all h]
  by_cases hr : r = []
  · subst hr
    rw [allR_nil]
    simp only [Option.map_some, List.append_nil]
    rw [if_neg]
    have := (getN_len h).1
    omega
  · rw [allR_bad hx hr]
    rfl
theorem stP_blk {al fr tt : Nat} {b rest : List UInt8} {out : List Rw} {j : Nat} (h : stP al fr tt b j = some (rest, out)) (h0 : (Crc.take rest).2.2 = 0) (hs : ¬ 8 * j + 8 ≤ fr) :
    stP al fr tt b (j + 1) = (blkA (min 8 (al - 8 * j)) (Crc.take rest).1).map fun l => ((Crc.take rest).2.1, out ++ sliceR l fr tt j) := by
  rw [stP_step h, if_pos h0, if_neg hs]
  unfold blkA
  cases allR (Crc.take rest).1 with
  | none => rfl
  | some l =>
    simp only
    split <;> rfl
theorem sliceR_nil (fr tt j : Nat) : sliceR [] fr tt j = [] := by simp [sliceR]
theorem sliceR_in {l : List Rw} {x : Rw} {fr tt j : Nat} (h1 : fr ≤ 8 * j + l.length) (h2 : 8 * j + l.length < tt) : sliceR (l ++ [x]) fr tt j = sliceR l fr tt j ++ [x] := by
  unfold sliceR
  have e1 : min (tt - 8 * j) (l ++ [x]).length = l.length + 1 := by rw [List.length_append, List.length_singleton]; omega
  have e2 : min (tt - 8 * j) l.length = l.length := by omega
  rw [e1, e2, List.take_length, List.take_of_length_le (by simp), List.drop_append_of_le_length (by omega)]
theorem sliceR_out {l : List Rw} {x : Rw} {fr tt j : Nat} (h : ¬ (fr ≤ 8 * j + l.length ∧ 8 * j + l.length < tt)) : sliceR (l ++ [x]) fr tt j = sliceR l fr tt j := by
  unfold sliceR
  by_cases h2 : 8 * j + l.length < tt
  · have h1 : 8 * j + l.length < fr := by omega
    rw [List.drop_of_length_le, List.drop_of_length_le]
    · rw [List.length_take]; omega
    · rw [List.length_take, List.length_append, List.length_singleton]; omega
  · have e1 : min (tt - 8 * j) (l ++ [x]).length = tt - 8 * j := by rw [List.length_append, List.length_singleton]; omega
    have e2 : min (tt - 8 * j) l.length = tt - 8 * j := by omega
    rw [e1, e2, List.take_append_of_le_length (by omega)]
/-- Of a block's rows those that are read so far and wanted are as many as there are at most. -/
theorem sliceR_le (l : List Rw) (fr tt j : Nat) : (sliceR l fr tt j).length ≤ l.length := by
  rw [sliceR_len]; omega
end Go.Proofs.Ytoidfoalhkoajaa
