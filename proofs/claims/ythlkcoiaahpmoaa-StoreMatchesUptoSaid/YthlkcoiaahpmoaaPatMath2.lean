/-
  The reader reads on behind a bracket, and with more fuel, as it did. No condition, no program.
-/
import Derived.Test.YthlkcoiaahpmoaaPatMath
namespace Go.Proofs.Ythlkcoiaahpmoaa

/-! ### More fuel -/
theorem pItems_mono : ∀ (n : Nat) (neg : Bool) (its : List (Int × Int)) (l : Rs) (r : PSet × Rs), pItems n neg its l = some r → pItems (n + 1) neg its l = some r := by
  intro n
  induction n with
  | zero => intro neg its l r h; simp [pItems] at h
  | succ n ih =>
    intro neg its l r h
    rw [pItems_eq] at h ⊢
    cases l with
    | nil => exact h
    | cons c t =>
      simp only at h ⊢
      split
      · rename_i hc; rw [if_pos hc] at h; exact h
      · rename_i hc
        rw [if_neg hc] at h
        cases hm : pMember (c :: t) with
        | none => rw [hm] at h; cases h
        | some am =>
          rw [hm] at h
          obtain ⟨a, l1⟩ := am
          simp only at h ⊢
          cases ht : pTo a l1 with
          | none => rw [ht] at h; cases h
          | some bl =>
            rw [ht] at h
            obtain ⟨b, l2⟩ := bl
            simp only at h ⊢
            split
            · rename_i hab; rw [if_pos hab] at h; exact ih _ _ _ _ h
            · rename_i hab; rw [if_neg hab] at h; cases h
theorem pClass_mono (n : Nat) (l : Rs) (r : PSet × Rs) (h : pClass n l = some r) : pClass (n + 1) l = some r := by
  unfold pClass at h ⊢
  cases l with
  | nil => exact h
  | cons c t =>
    simp only at h ⊢
    split
    · rename_i hc; rw [if_pos hc] at h; exact pItems_mono _ _ _ _ _ h
    · rename_i hc; rw [if_neg hc] at h; exact pItems_mono _ _ _ _ _ h
theorem pMono : ∀ (n : Nat), (∀ l r, pAlt n l = some r → pAlt (n + 1) l = some r) ∧ (∀ x l r, pAlts n x l = some r → pAlts (n + 1) x l = some r) ∧ (∀ x l r, pRow n x l = some r → pRow (n + 1) x l = some r) ∧ (∀ l r, pAtom n l = some r → pAtom (n + 1) l = some r) := by
  intro n
  induction n with
  | zero =>
    refine ⟨fun l r h => ?_, fun x l r h => ?_, fun x l r h => ?_, fun l r h => ?_⟩
    · simp [pAlt] at h
    · simp [pAlts] at h
    · simp [pRow] at h
    · simp [pAtom] at h
  | succ n ih =>
    obtain ⟨i1, i2, i3, i4⟩ := ih
    refine ⟨fun l r h => ?_, fun x l r h => ?_, fun x l r h => ?_, fun l r h => ?_⟩
    · rw [pAlt] at h ⊢
      cases hr : pRow n .row0 l with
      | none => rw [hr] at h; cases h
      | some q => rw [hr] at h; rw [i3 _ _ _ hr]; exact i2 _ _ _ h
    · rw [pAlts_eq] at h ⊢
      cases l with
      | nil => exact h
      | cons c t =>
        simp only at h ⊢
        split
        · rename_i hc
          rw [if_pos hc] at h
          cases hr : pRow n .row0 t with
          | none => rw [hr] at h; cases h
          | some q => rw [hr] at h; rw [i3 _ _ _ hr]; exact i2 _ _ _ h
        · rename_i hc; rw [if_neg hc] at h; exact h
    · rw [pRow_eq] at h ⊢
      cases l with
      | nil => exact h
      | cons c t =>
        simp only at h ⊢
        split
        · rename_i hc; rw [if_pos hc] at h; exact h
        · rename_i hc
          rw [if_neg hc] at h
          cases hr : pAtom n (c :: t) with
          | none => rw [hr] at h; cases h
          | some q => rw [hr] at h; rw [i4 _ _ hr]; exact i3 _ _ _ h
    · rw [pAtom_eq] at h ⊢
      cases l with
      | nil => exact h
      | cons c t =>
        simp only at h ⊢
        split
        · rename_i hc
          rw [if_pos hc] at h
          cases hr : pAlt n t with
          | none => rw [hr] at h; cases h
          | some q => rw [hr] at h; rw [i1 _ _ hr]; exact h
        · rename_i hc
          rw [if_neg hc] at h
          split
          · rename_i hc2
            rw [if_pos hc2] at h
            cases hr : pClass n t with
            | none => rw [hr] at h; cases h
            | some q => rw [hr] at h; rw [pClass_mono _ _ _ hr]; exact h
          · rename_i hc2; rw [if_neg hc2] at h; exact h
theorem pAlt_more {n m : Nat} {l : Rs} {r : T × Rs} (h : pAlt n l = some r) (hm : n ≤ m) : pAlt m l = some r := by
  induction hm with
  | refl => exact h
  | step _ ih => exact (pMono _).1 _ _ ih

/-! ### More behind it -/
theorem pMember_ext {l : Rs} {a : Int} {l1 e : Rs} (h : pMember l = some (a, l1)) : pMember (l ++ e) = some (a, l1 ++ e) := by
  cases l with
  | nil => simp [pMember] at h
  | cons c t =>
    simp only [pMember, List.cons_append] at h ⊢
    split
    · rename_i hc
      rw [if_pos hc] at h
      cases t with
      | nil => simp at h
      | cons d t2 => simp at h ⊢; exact ⟨h.1, by rw [h.2]⟩
    · rename_i hc
      rw [if_neg hc] at h
      simp at h ⊢
      exact ⟨h.1, by rw [h.2]⟩
theorem pTo_ext {l : Rs} {a b : Int} {l2 e : Rs} (h : pTo a l = some (b, l2)) (hl : l ≠ [45]) : pTo a (l ++ 41 :: e) = some (b, l2 ++ 41 :: e) := by
  match l, h, hl with
  | [], h, _ =>
    simp only [pTo, Option.some.injEq, Prod.mk.injEq] at h
    obtain ⟨rfl, rfl⟩ := h
    cases e with
    | nil => rfl
    | cons d t => simp [pTo]
  | [c], h, hl =>
    simp only [pTo, Option.some.injEq, Prod.mk.injEq] at h
    obtain ⟨rfl, rfl⟩ := h
    have hc : c ≠ 45 := fun e => hl (by rw [e])
    simp [pTo, hc]
  | c :: d :: t, h, _ =>
    simp only [pTo, List.cons_append] at h ⊢
    split
    · rename_i hc
      rw [if_pos hc] at h
      exact pMember_ext (l := d :: t) h
    · rename_i hc
      rw [if_neg hc] at h
      simp at h ⊢
      exact ⟨h.1, by rw [← h.2]; rfl⟩
theorem pItems_dash (n : Nat) (neg : Bool) (its : List (Int × Int)) : pItems n neg its [45] = none := by
  cases n with
  | zero => rfl
  | succ n =>
    rw [pItems]
    simp only [pMember, pTo]
    cases n with
    | zero => simp [pItems]
    | succ n => simp [pItems]
theorem pItems_ext : ∀ (n : Nat) (neg : Bool) (its : List (Int × Int)) (l : Rs) (s : PSet) (l' e : Rs), pItems n neg its l = some (s, l') → pItems n neg its (l ++ 41 :: e) = some (s, l' ++ 41 :: e) := by
  intro n
  induction n with
  | zero => intro neg its l s l' e h; simp [pItems] at h
  | succ n ih =>
    intro neg its l s l' e h
    rw [pItems_eq] at h ⊢
    cases l with
    | nil => simp at h
    | cons c t =>
      simp only [List.cons_append] at h ⊢
      split
      · rename_i hc
        rw [if_pos hc] at h
        split
        · rename_i hi; rw [if_pos hi] at h; cases h
        · rename_i hi
          rw [if_neg hi] at h
          simp only [Option.some.injEq, Prod.mk.injEq] at h ⊢
          exact ⟨h.1, by rw [h.2]⟩
      · rename_i hc
        rw [if_neg hc] at h
        cases hm : pMember (c :: t) with
        | none => rw [hm] at h; cases h
        | some am =>
          rw [hm] at h
          obtain ⟨a, l1⟩ := am
          have hm2 := pMember_ext (e := 41 :: e) hm
          rw [List.cons_append] at hm2
          rw [hm2]
          simp only at h ⊢
          by_cases hl : l1 = [45]
          · subst hl
            exfalso
            have : pTo a [45] = some (a, [45]) := rfl
            rw [this] at h
            simp only [Int.le_refl, if_true, pItems_dash] at h
            cases h
          cases ht : pTo a l1 with
          | none => rw [ht] at h; cases h
          | some bl =>
            rw [ht] at h
            obtain ⟨b, l2⟩ := bl
            rw [pTo_ext ht hl]
            simp only at h ⊢
            split
            · rename_i hab; rw [if_pos hab] at h; exact ih _ _ _ _ _ _ h
            · rename_i hab; rw [if_neg hab] at h; cases h
theorem pClass_ext {n : Nat} {l : Rs} {s : PSet} {l' e : Rs} (h : pClass n l = some (s, l')) : pClass n (l ++ 41 :: e) = some (s, l' ++ 41 :: e) := by
  unfold pClass at h ⊢
  cases l with
  | nil => simp at h
  | cons c t =>
    simp only [List.cons_append] at h ⊢
    split
    · rename_i hc; rw [if_pos hc] at h; exact pItems_ext _ _ _ _ _ _ _ h
    · rename_i hc; rw [if_neg hc] at h; exact pItems_ext _ _ _ _ _ _ _ h
theorem pTimes_ext (x : T) (l e : Rs) : (pTimes x (l ++ 41 :: e)).1 = (pTimes x l).1 ∧ (pTimes x (l ++ 41 :: e)).2 = (pTimes x l).2 ++ 41 :: e := by
  cases l with
  | nil => simp [pTimes]
  | cons c t =>
    simp only [pTimes, List.cons_append]
    split
    · exact ⟨rfl, rfl⟩
    · split
      · exact ⟨rfl, rfl⟩
      · split
        · exact ⟨rfl, rfl⟩
        · exact ⟨rfl, rfl⟩
theorem pExt : ∀ (n : Nat), (∀ l x l' e, pAlt n l = some (x, l') → pAlt n (l ++ 41 :: e) = some (x, l' ++ 41 :: e)) ∧ (∀ y l x l' e, pAlts n y l = some (x, l') → pAlts n y (l ++ 41 :: e) = some (x, l' ++ 41 :: e)) ∧ (∀ y l x l' e, pRow n y l = some (x, l') → pRow n y (l ++ 41 :: e) = some (x, l' ++ 41 :: e)) ∧ (∀ l x l' e, pAtom n l = some (x, l') → pAtom n (l ++ 41 :: e) = some (x, l' ++ 41 :: e)) := by
  intro n
  induction n with
  | zero =>
    refine ⟨fun l x l' e h => ?_, fun y l x l' e h => ?_, fun y l x l' e h => ?_, fun l x l' e h => ?_⟩
    · simp [pAlt] at h
    · simp [pAlts] at h
    · simp [pRow] at h
    · simp [pAtom] at h
  | succ n ih =>
    obtain ⟨i1, i2, i3, i4⟩ := ih
    refine ⟨fun l x l' e h => ?_, fun y l x l' e h => ?_, fun y l x l' e h => ?_, fun l x l' e h => ?_⟩
    · rw [pAlt] at h ⊢
      cases hr : pRow n .row0 l with
      | none => rw [hr] at h; cases h
      | some q => obtain ⟨q1, q2⟩ := q; rw [hr] at h; rw [i3 _ _ _ _ e hr]; exact i2 _ _ _ _ _ h
    · rw [pAlts_eq] at h ⊢
      cases l with
      | nil =>
        simp only [Option.some.injEq, Prod.mk.injEq] at h
        obtain ⟨rfl, rfl⟩ := h
        simp
      | cons c t =>
        simp only [List.cons_append] at h ⊢
        split
        · rename_i hc
          rw [if_pos hc] at h
          cases hr : pRow n .row0 t with
          | none => rw [hr] at h; cases h
          | some q => obtain ⟨q1, q2⟩ := q; rw [hr] at h; rw [i3 _ _ _ _ e hr]; exact i2 _ _ _ _ _ h
        · rename_i hc
          rw [if_neg hc] at h
          simp only [Option.some.injEq, Prod.mk.injEq] at h ⊢
          exact ⟨h.1, by rw [← h.2]; rfl⟩
    · rw [pRow_eq] at h ⊢
      cases l with
      | nil =>
        simp only [Option.some.injEq, Prod.mk.injEq] at h
        obtain ⟨rfl, rfl⟩ := h
        simp
      | cons c t =>
        simp only [List.cons_append] at h ⊢
        split
        · rename_i hc
          rw [if_pos hc] at h
          simp only [Option.some.injEq, Prod.mk.injEq] at h ⊢
          exact ⟨h.1, by rw [← h.2]; rfl⟩
        · rename_i hc
          rw [if_neg hc] at h
          cases hr : pAtom n (c :: t) with
          | none => rw [hr] at h; cases h
          | some q =>
            obtain ⟨q1, q2⟩ := q
            rw [hr] at h
            have h4 := i4 _ _ _ e hr
            rw [List.cons_append] at h4
            rw [h4]
            simp only at h ⊢
            obtain ⟨t1, t2⟩ := pTimes_ext q1 q2 e
            rw [t1, t2]
            exact i3 _ _ _ _ _ h
    · rw [pAtom_eq] at h ⊢
      cases l with
      | nil => simp at h
      | cons c t =>
        simp only [List.cons_append] at h ⊢
        split
        · rename_i hc
          rw [if_pos hc] at h
          cases hr : pAlt n t with
          | none => rw [hr] at h; cases h
          | some q =>
            obtain ⟨q1, q2⟩ := q
            rw [hr] at h
            rw [i1 _ _ _ e hr]
            cases q2 with
            | nil => simp at h
            | cons d t2 =>
              simp only [List.cons_append] at h ⊢
              split
              · rename_i hd
                rw [if_pos hd] at h
                simp only [Option.some.injEq, Prod.mk.injEq] at h ⊢
                exact ⟨h.1, by rw [h.2]⟩
              · rename_i hd; rw [if_neg hd] at h; cases h
        · rename_i hc
          rw [if_neg hc] at h
          split
          · rename_i hc2
            rw [if_pos hc2] at h
            cases hr : pClass n t with
            | none => rw [hr] at h; cases h
            | some q =>
              obtain ⟨q1, q2⟩ := q
              rw [hr] at h
              rw [pClass_ext hr]
              simp only [Option.some.injEq, Prod.mk.injEq] at h ⊢
              exact ⟨h.1, by rw [h.2]⟩
          · rename_i hc2
            rw [if_neg hc2] at h
            split
            · rename_i hc3
              rw [if_pos hc3] at h
              simp only [Option.some.injEq, Prod.mk.injEq] at h ⊢
              exact ⟨h.1, by rw [h.2]⟩
            · rename_i hc3
              rw [if_neg hc3] at h
              split
              · rename_i hc4
                rw [if_pos hc4] at h
                cases t with
                | nil => simp at h
                | cons d t2 =>
                  simp only [List.cons_append, Option.some.injEq, Prod.mk.injEq] at h ⊢
                  exact ⟨h.1, by rw [h.2]⟩
              · rename_i hc4
                rw [if_neg hc4] at h
                split
                · rename_i hc5; rw [if_pos hc5] at h; cases h
                · rename_i hc5
                  rw [if_neg hc5] at h
                  simp only [Option.some.injEq, Prod.mk.injEq] at h ⊢
                  exact ⟨h.1, by rw [h.2]⟩
end Go.Proofs.Ythlkcoiaahpmoaa
