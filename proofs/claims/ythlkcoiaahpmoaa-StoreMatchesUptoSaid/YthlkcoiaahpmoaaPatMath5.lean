/-
  Parts of a machine one behind the other; how many steps a pattern comes to. No condition, no program.
-/
import Derived.Test.YthlkcoiaahpmoaaPatMath4
namespace Go.Proofs.Ythlkcoiaahpmoaa

def FragL (F : List Stp) (lo hi : Nat) : List T → Nat → Nat → Prop
  | [], a, t => a = t
  | x :: xs, a, t => ∃ mid, Frag F lo hi x a mid ∧ FragL F lo hi xs mid t
theorem fragL_mono {F F' : List Stp} {lo hi lo' hi' : Nat} (h1 : lo' ≤ lo) (h2 : hi ≤ hi') (h3 : ∀ i, lo ≤ i → i < hi → F'[i]? = F[i]?) : ∀ (xs : List T) (a t : Nat), FragL F lo hi xs a t → FragL F' lo' hi' xs a t := by
  intro xs
  induction xs with
  | nil => intro a t h; exact h
  | cons x xs ih => intro a t h; obtain ⟨m, p, q⟩ := h; exact ⟨m, frag_mono h1 h2 h3 _ _ _ p, ih _ _ q⟩
theorem fragL_row {F : List Stp} {lo hi : Nat} : ∀ (xs : List T) (l0 : T) (a mid t : Nat), Frag F lo hi l0 a mid → FragL F lo hi xs mid t → Frag F lo hi (xs.foldl .rowS l0) a t := by
  intro xs
  induction xs with
  | nil => intro l0 a mid t h k; obtain rfl : mid = t := k; exact h
  | cons x xs ih => intro l0 a mid t h k; obtain ⟨m, p, q⟩ := k; exact ih (.rowS l0 x) a m t ⟨mid, p, h⟩ q
def tsize : T → Nat
  | .one _ => 1
  | .row0 => 1
  | .rowS l x => tsize l + tsize x + 1
  | .alt1 x => tsize x + 1
  | .altS l x => tsize l + tsize x + 1
  | .rep x _ _ => tsize x + 2
def tsum (xs : List T) : Nat := (xs.map fun x => tsize x + 1).sum
theorem tsum_cons (x : T) (xs : List T) : tsum (x :: xs) = tsize x + 1 + tsum xs := by simp [tsum]
theorem tsize_row : ∀ (xs : List T) (l : T), tsize (xs.foldl .rowS l) = tsize l + tsum xs := by
  intro xs
  induction xs with
  | nil => intro l; simp [tsum]
  | cons x xs ih => intro l; rw [List.foldl_cons, ih, tsum_cons]; simp only [tsize]; omega
theorem tsize_alt : ∀ (xs : List T) (l : T), tsize (xs.foldl .altS l) = tsize l + tsum xs := by
  intro xs
  induction xs with
  | nil => intro l; simp [tsum]
  | cons x xs ih => intro l; rw [List.foldl_cons, ih, tsum_cons]; simp only [tsize]; omega
theorem tsum_drop {xs : List T} {k : Nat} {x : T} (h : xs[k]? = some x) : tsum (xs.drop k) = tsize x + 1 + tsum (xs.drop (k + 1)) := by
  obtain ⟨h1, h2⟩ := List.getElem?_eq_some_iff.1 h
  rw [List.drop_eq_getElem_cons h1, h2, tsum_cons]
theorem tsum_take {xs : List T} {k : Nat} {x : T} (h : xs[k]? = some x) : tsum (xs.take (k + 1)) = tsum (xs.take k) + (tsize x + 1) := by
  obtain ⟨h1, h2⟩ := List.getElem?_eq_some_iff.1 h
  rw [List.take_succ_eq_append_getElem h1, h2]
  simp [tsum]
theorem tsum_drop_le (xs : List T) (k : Nat) : tsum (xs.drop k) ≤ tsum xs := by
  induction xs generalizing k with
  | nil => simp
  | cons x xs ih =>
    cases k with
    | zero => exact Nat.le_refl _
    | succ k => rw [List.drop_succ_cons, tsum_cons]; have := ih k; omega
theorem tsum_take_le (xs : List T) (k : Nat) : tsum (xs.take k) ≤ tsum xs := by
  induction xs generalizing k with
  | nil => simp
  | cons x xs ih =>
    cases k with
    | zero => simp [tsum]
    | succ k => rw [List.take_succ_cons, tsum_cons, tsum_cons]; have := ih k; omega
theorem tsum_mem {xs : List T} {k : Nat} {x : T} (h : xs[k]? = some x) : tsize x + 1 ≤ tsum xs := by
  have h1 := tsum_drop h
  have h2 := tsum_drop_le xs k
  omega

/-! ### Few steps -/
theorem pMember_len {l : Rs} {a : Int} {l1 : Rs} (h : pMember l = some (a, l1)) : l1.length < l.length := by
  cases l with
  | nil => simp [pMember] at h
  | cons c t =>
    simp only [pMember] at h
    split at h
    · cases t with
      | nil => simp at h
      | cons d t2 => simp at h; rw [← h.2]; simp; omega
    · simp at h; rw [← h.2]; simp
theorem pTo_len {a b : Int} {l l1 : Rs} (h : pTo a l = some (b, l1)) : l1.length ≤ l.length := by
  match l, h with
  | [], h => simp only [pTo, Option.some.injEq, Prod.mk.injEq] at h; rw [← h.2]; exact Nat.le_refl _
  | [c], h => simp only [pTo, Option.some.injEq, Prod.mk.injEq] at h; rw [← h.2]; exact Nat.le_refl _
  | c :: d :: t, h =>
    simp only [pTo] at h
    split at h
    · have := pMember_len h; simp at this ⊢; omega
    · simp at h; rw [← h.2]; exact Nat.le_refl _
theorem pItems_len : ∀ (n : Nat) (neg : Bool) (its : List (Int × Int)) (l : Rs) (s : PSet) (l' : Rs), pItems n neg its l = some (s, l') → l'.length < l.length := by
  intro n
  induction n with
  | zero => intro neg its l s l' h; simp [pItems] at h
  | succ n ih =>
    intro neg its l s l' h
    rw [pItems_eq] at h
    cases l with
    | nil => simp at h
    | cons c t =>
      simp only at h
      split at h
      · split at h
        · cases h
        · simp at h; rw [← h.2]; simp
      · cases hm : pMember (c :: t) with
        | none => rw [hm] at h; cases h
        | some am =>
          obtain ⟨a, l1⟩ := am
          rw [hm] at h
          simp only at h
          cases ht : pTo a l1 with
          | none => rw [ht] at h; cases h
          | some bl =>
            obtain ⟨b, l2⟩ := bl
            rw [ht] at h
            simp only at h
            split at h
            · have h1 := pMember_len hm
              have h2 := pTo_len ht
              have h3 := ih _ _ _ _ _ h
              omega
            · cases h
theorem pClass_len {n : Nat} {l : Rs} {s : PSet} {l' : Rs} (h : pClass n l = some (s, l')) : l'.length < l.length := by
  unfold pClass at h
  cases l with
  | nil => simp at h
  | cons c t =>
    simp only at h
    split at h
    · have := pItems_len _ _ _ _ _ _ h; simp; omega
    · exact pItems_len _ _ _ _ _ _ h
theorem pTimes_size (x : T) (l : Rs) : tsize (pTimes x l).1 + 8 * (pTimes x l).2.length ≤ tsize x + 8 * l.length := by
  cases l with
  | nil => simp [pTimes]
  | cons c t =>
    simp only [pTimes]
    split
    · simp [tsize]; omega
    · split
      · simp [tsize]; omega
      · split
        · simp [tsize]; omega
        · simp
theorem pSize : ∀ (n : Nat), (∀ l x l', pAlt n l = some (x, l') → tsize x + 8 * l'.length ≤ 2 + 8 * l.length) ∧ (∀ y l x l', pAlts n y l = some (x, l') → tsize x + 8 * l'.length ≤ tsize y + 8 * l.length) ∧ (∀ y l x l', pRow n y l = some (x, l') → tsize x + 8 * l'.length ≤ tsize y + 8 * l.length) ∧ (∀ l x l', pAtom n l = some (x, l') → tsize x + 8 * l'.length + 7 ≤ 8 * l.length) := by
  intro n
  induction n with
  | zero =>
    refine ⟨fun l x l' h => ?_, fun y l x l' h => ?_, fun y l x l' h => ?_, fun l x l' h => ?_⟩
    · simp [pAlt] at h
    · simp [pAlts] at h
    · simp [pRow] at h
    · simp [pAtom] at h
  | succ n ih =>
    obtain ⟨i1, i2, i3, i4⟩ := ih
    refine ⟨fun l x l' h => ?_, fun y l x l' h => ?_, fun y l x l' h => ?_, fun l x l' h => ?_⟩
    · rw [pAlt] at h
      cases hr : pRow n .row0 l with
      | none => rw [hr] at h; cases h
      | some q =>
        obtain ⟨q1, q2⟩ := q
        rw [hr] at h
        have h1 := i3 _ _ _ _ hr
        have h2 := i2 _ _ _ _ h
        simp only [tsize] at h1 h2
        omega
    · rw [pAlts_eq] at h
      cases l with
      | nil => simp at h; rw [← h.1, ← h.2]; exact Nat.le_refl _
      | cons c t =>
        simp only at h
        split at h
        · cases hr : pRow n .row0 t with
          | none => rw [hr] at h; cases h
          | some q =>
            obtain ⟨q1, q2⟩ := q
            rw [hr] at h
            have h1 := i3 _ _ _ _ hr
            have h2 := i2 _ _ _ _ h
            simp only [tsize, List.length_cons] at h1 h2 ⊢
            omega
        · simp at h; rw [← h.1, ← h.2]; exact Nat.le_refl _
    · rw [pRow_eq] at h
      cases l with
      | nil => simp at h; rw [← h.1, ← h.2]; exact Nat.le_refl _
      | cons c t =>
        simp only at h
        split at h
        · simp at h; rw [← h.1, ← h.2]; exact Nat.le_refl _
        · cases hr : pAtom n (c :: t) with
          | none => rw [hr] at h; cases h
          | some q =>
            obtain ⟨q1, q2⟩ := q
            rw [hr] at h
            have h1 := i4 _ _ _ hr
            have h2 := i3 _ _ _ _ h
            have h3 := pTimes_size q1 q2
            simp only [tsize] at h2
            omega
    · rw [pAtom_eq] at h
      cases l with
      | nil => simp at h
      | cons c t =>
        simp only at h
        split at h
        · cases hr : pAlt n t with
          | none => rw [hr] at h; cases h
          | some q =>
            obtain ⟨q1, q2⟩ := q
            rw [hr] at h
            have h1 := i1 _ _ _ hr
            cases q2 with
            | nil => simp at h
            | cons d t2 =>
              simp only at h
              split at h
              · simp at h
                rw [← h.1, ← h.2]
                simp only [List.length_cons] at h1 ⊢
                omega
              · cases h
        · split at h
          · cases hr : pClass n t with
            | none => rw [hr] at h; cases h
            | some q =>
              obtain ⟨q1, q2⟩ := q
              rw [hr] at h
              have h1 := pClass_len hr
              simp at h
              rw [← h.1, ← h.2]
              simp only [tsize, List.length_cons]
              omega
          · split at h
            · simp at h; rw [← h.1, ← h.2]; simp only [tsize, List.length_cons]; omega
            · split at h
              · cases t with
                | nil => simp at h
                | cons d t2 => simp at h; rw [← h.1, ← h.2]; simp only [oneOf, tsize, List.length_cons]; omega
              · split at h
                · cases h
                · simp at h; rw [← h.1, ← h.2]; simp only [oneOf, tsize, List.length_cons]; omega
theorem pAlt_size {n : Nat} {l : Rs} {x : T} (h : pAlt n l = some (x, [])) : tsize x ≤ 2 + 8 * l.length := by
  have := (pSize n).1 _ _ _ h
  simpa using this
/-- Where a machine begins is one of its places. -/
theorem frag_place {F : List Stp} {lo hi : Nat} : ∀ (x : T) (a t : Nat), Frag F lo hi x a t → a < hi ∨ a = t := by
  intro x
  induction x with
  | one s => intro a t h; exact .inl h.2.1
  | row0 => intro a t h; exact .inr h
  | rowS l x ihl ihx =>
    rintro a t ⟨m, h1, h2⟩
    rcases ihl _ _ h2 with h | h
    · exact .inl h
    · subst h; exact ihx _ _ h1
  | alt1 x ih => intro a t h; exact ih _ _ h
  | altS l x ihl ihx => intro a t h; exact .inl h.2.1
  | rep x nn ag ih =>
    intro a t h
    unfold Frag at h
    cases ag with
    | false => exact .inl h.2.1
    | true =>
      simp only [if_true] at h
      obtain ⟨tn, b, s, h1, h2, h3, h4, h5⟩ := h
      cases nn with
      | true => obtain rfl : a = tn := h5; exact .inl h2
      | false =>
        obtain rfl : a = b := h5
        rcases ih _ _ h4 with h | h
        · exact .inl h
        · left; omega
theorem frag_at {F : List Stp} {first : Nat} {x : T} (h : Mach F first x) (hF : F.length ≤ 1000) : first < 1000 := by
  obtain ⟨s, hs⟩ := h.stop
  have h0 := (List.getElem?_eq_some_iff.1 hs).1
  rcases frag_place _ _ _ h.frag with h | h <;> omega
theorem mach_in {F : List Stp} {first : Nat} {x : T} (h : Mach F first x) : first < F.length := by
  obtain ⟨s, hs⟩ := h.stop
  have h0 := (List.getElem?_eq_some_iff.1 hs).1
  rcases frag_place _ _ _ h.frag with h | h <;> omega
end Go.Proofs.Ythlkcoiaahpmoaa
