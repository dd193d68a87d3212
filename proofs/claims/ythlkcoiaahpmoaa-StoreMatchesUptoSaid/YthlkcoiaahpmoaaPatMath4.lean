/-
  What some written patterns are read as, and mean. No condition, no program.
-/
import Derived.Test.YthlkcoiaahpmoaaPatMath3
namespace Go.Proofs.Ythlkcoiaahpmoaa

def dotS : PSet := ⟨true, false, []⟩
theorem row_dots : ∀ (k : Nat) (x : T), pRow (k + 2) x (List.replicate k 46) = some ((List.replicate k (T.one dotS)).foldl T.rowS x, []) := by
  intro k
  induction k with
  | zero => intro x; rw [pRow_eq]; rfl
  | succ k ih =>
    intro x
    rw [pRow_eq]
    have ha : pAtom (k + 2) (46 :: List.replicate k 46) = some (.one dotS, List.replicate k 46) := by rw [pAtom_eq]; simp [dotS]
    have ht : pTimes (.one dotS) (List.replicate k 46) = (.one dotS, List.replicate k 46) := times_none _ (fun c t e => by
      have : c ∈ List.replicate k (46 : Int) := by rw [e]; simp
      have := List.eq_of_mem_replicate this
      subst this; decide)
    simp only [List.replicate_succ, List.foldl_cons]
    simp only [ha, ht]
    exact ih _
theorem alt_dots (k : Nat) : pAlt (k + 3) (List.replicate k 46) = some (.alt1 ((List.replicate k (T.one dotS)).foldl T.rowS .row0), []) := by
  rw [pAlt, row_dots]
  rfl
theorem lang_dots (k : Nat) (u : List Int) : Lang (.alt1 ((List.replicate k (T.one dotS)).foldl T.rowS .row0)) u ↔ u.length = k := by
  have h := lang_ones (List.replicate k dotS) u
  rw [List.map_replicate] at h
  rw [List.length_replicate] at h
  refine Iff.trans (show _ ↔ _ from Iff.rfl) (h.trans ⟨fun h => h.1, fun h => ⟨h, fun i s r hs _ => ?_⟩⟩)
  have := List.eq_of_mem_replicate (List.mem_of_getElem? hs)
  subst this
  rfl
def slashed (rs : List Int) : List Int := rs.flatMap fun r => [92, r]
theorem slashed_len (rs : List Int) : (slashed rs).length = 2 * rs.length := by
  induction rs with
  | nil => rfl
  | cons r rs ih => simp only [slashed, List.flatMap_cons, List.length_append, List.length_cons, List.length_nil] at ih ⊢; omega
theorem row_plain : ∀ (rs : List Int) (x : T), pRow (rs.length + 2) x (slashed rs) = some ((rs.map oneOf).foldl T.rowS x, []) := by
  intro rs
  induction rs with
  | nil => intro x; rw [pRow_eq]; rfl
  | cons r rs ih =>
    intro x
    have e : slashed (r :: rs) = 92 :: r :: slashed rs := rfl
    rw [pRow_eq, e]
    have ha : pAtom (rs.length + 2) (92 :: r :: slashed rs) = some (oneOf r, slashed rs) := by rw [pAtom_eq]; simp
    have ht : pTimes (oneOf r) (slashed rs) = (oneOf r, slashed rs) := times_none _ (fun c t e => by
      cases rs with
      | nil => simp [slashed] at e
      | cons q qs =>
        have e2 : slashed (q :: qs) = 92 :: q :: slashed qs := rfl
        rw [e2] at e
        injection e with e3 _
        subst e3; decide)
    simp only [List.length_cons]
    simp only [ha, ht]
    exact ih _
theorem alt_plain (rs : List Int) : pAlt (rs.length + 3) (slashed rs) = some (.alt1 ((rs.map oneOf).foldl T.rowS .row0), []) := by
  rw [pAlt, row_plain]
  rfl
theorem oneOf_has (c r : Int) : (⟨false, false, [(c, c)]⟩ : PSet).has r = true ↔ r = c := by
  unfold PSet.has inItems
  by_cases h : r = c
  · subst h; simp
  · have : ¬ (c ≤ r ∧ r ≤ c) := by omega
    simp [this, h]
theorem lang_plain (rs u : List Int) : Lang (.alt1 ((rs.map oneOf).foldl T.rowS .row0)) u ↔ u = rs := by
  have e : rs.map oneOf = (rs.map fun c => (⟨false, false, [(c, c)]⟩ : PSet)).map T.one := by rw [List.map_map]; rfl
  rw [e]
  refine (lang_ones _ u).trans ?_
  rw [List.length_map]
  constructor
  · rintro ⟨h1, h2⟩
    refine List.ext_getElem? (fun i => ?_)
    rcases Nat.lt_or_ge i rs.length with hi | hi
    · have hu : i < u.length := by omega
      rw [List.getElem?_eq_getElem hi, List.getElem?_eq_getElem hu]
      congr 1
      exact (oneOf_has _ _).1 (h2 i _ _ (by rw [List.getElem?_map, List.getElem?_eq_getElem hi]; rfl) (List.getElem?_eq_getElem hu))
    · rw [List.getElem?_eq_none hi, List.getElem?_eq_none (by omega)]
  · rintro rfl
    refine ⟨rfl, fun i s r hs hr => ?_⟩
    rw [List.getElem?_map, hr] at hs
    simp only [Option.map_some, Option.some.injEq] at hs
    subst hs
    exact (oneOf_has _ _).2 rfl
/-- A class of one range. -/
theorem items_range (n : Nat) (neg : Bool) (lo hi : Int) (h1 : 97 ≤ lo) (h2 : lo ≤ hi) : pItems (n + 2) neg [] [lo, 45, hi, 93] = some (⟨false, neg, [(lo, hi)]⟩, []) := by
  have a1 : lo ≠ 93 := by omega
  have a2 : lo ≠ 92 := by omega
  have a3 : hi ≠ 93 := by omega
  have a4 : hi ≠ 92 := by omega
  rw [pItems_eq]
  simp only [a1, if_false, pMember, a2, pTo, a3, a4, ne_eq, not_false_eq_true, and_self, if_true, h2, List.nil_append]
  rw [pItems_eq]
  simp
theorem alt_class (n : Nat) (neg : Bool) (lo hi : Int) (h1 : 97 ≤ lo) (h2 : lo ≤ hi) : pAlt (n + 5) (91 :: ((if neg then [94] else []) ++ [lo, 45, hi, 93])) = some (.alt1 (.rowS .row0 (.one ⟨false, neg, [(lo, hi)]⟩)), []) := by
  have hc : pClass (n + 2) ((if neg then [94] else []) ++ [lo, 45, hi, 93]) = some (⟨false, neg, [(lo, hi)]⟩, []) := by
    unfold pClass
    cases neg with
    | true => exact items_range n true lo hi h1 h2
    | false =>
      have a1 : lo ≠ 94 := by omega
      simp only [Bool.false_eq_true, if_false, List.nil_append, a1]
      exact items_range n false lo hi h1 h2
  have ha : pAtom (n + 3) (91 :: ((if neg then [94] else []) ++ [lo, 45, hi, 93])) = some (.one ⟨false, neg, [(lo, hi)]⟩, []) := by
    rw [pAtom_eq]
    simp only [hc]
    simp
  rw [pAlt, pRow_eq]
  simp only [ha]
  simp only [show ¬ ((91 : Int) = 124 ∨ (91 : Int) = 41) by decide, if_false, pTimes]
  rw [pRow_eq]
  simp only
  rw [pAlts_eq]
theorem lang_class (neg : Bool) (lo hi : Int) (u : List Int) : Lang (.alt1 (.rowS .row0 (.one ⟨false, neg, [(lo, hi)]⟩))) u ↔ ∃ r, u = [r] ∧ (decide (lo ≤ r ∧ r ≤ hi) != neg) = true := by
  refine (lang_in _ u).trans ?_
  constructor
  · rintro ⟨r, rfl, h⟩
    refine ⟨r, rfl, ?_⟩
    unfold PSet.has inItems at h
    simp only [List.any_cons, List.any_nil, Bool.or_false, Bool.false_or] at h
    by_cases hr : lo ≤ r ∧ r ≤ hi
    · simp only [hr, decide_true, and_self, if_true] at h ⊢; cases neg <;> simp at h ⊢
    · simp only [hr, decide_false, Bool.false_eq_true, if_false] at h ⊢; cases neg <;> simp at h ⊢
  · rintro ⟨r, rfl, h⟩
    refine ⟨r, rfl, ?_⟩
    unfold PSet.has inItems
    simp only [List.any_cons, List.any_nil, Bool.or_false, Bool.false_or]
    by_cases hr : lo ≤ r ∧ r ≤ hi
    · simp only [hr, decide_true, and_self, if_true] at h ⊢; cases neg <;> simp at h ⊢
    · simp only [hr, decide_false, Bool.false_eq_true, if_false] at h ⊢; cases neg <;> simp at h ⊢

/-! ### Begins -/
def BegIn (x : T) (rs : List Int) (n : Int) : Prop := (n = -1 ∧ ∀ k, k ≤ rs.length → ¬ Lang x (rs.take k)) ∨ ∃ k : Nat, n = k ∧ k ≤ rs.length ∧ Lang x (rs.take k) ∧ ∀ j, k < j → j ≤ rs.length → ¬ Lang x (rs.take j)
theorem begin_fun {x : T} {rs : List Int} {n m : Int} (h : BegIn x rs n) (k : BegIn x rs m) : n = m := by
  rcases h with ⟨rfl, h⟩ | ⟨a, rfl, h1, h2, h3⟩
  · rcases k with ⟨rfl, _⟩ | ⟨b, rfl, k1, k2, _⟩
    · rfl
    · exact absurd k2 (h b k1)
  · rcases k with ⟨rfl, k⟩ | ⟨b, rfl, k1, k2, k3⟩
    · exact absurd h2 (k a h1)
    · rcases Nat.lt_trichotomy a b with hab | rfl | hab
      · exact absurd k2 (h3 b hab k1)
      · rfl
      · exact absurd h2 (k3 a hab h1)

/-! ### The first call: a(b|c)* -/
def alT : T := .alt1 (.rowS (.rowS .row0 (oneOf 97)) (.rep (.altS (.alt1 (.rowS .row0 (oneOf 98))) (.rowS .row0 (oneOf 99))) true true))
theorem al_parse (n : Nat) : pAlt (n + 40) [97, 40, 98, 124, 99, 41, 42] = some (alT, []) := by
  have h : pAlt 40 [97, 40, 98, 124, 99, 41, 42] = some (alT, []) := by rfl
  exact pAlt_more h (by omega)
theorem al_bad (n : Nat) : ∀ x, pAlt n [97, 40, 98] ≠ some (x, []) := by
  intro x h
  have h2 := pAlt_more h (show n ≤ n + 40 by omega)
  have h3 : pAlt (n + 40) [97, 40, 98] = none := by
    rw [pAlt, pRow_eq]
    have : pAtom (n + 38) [97, 40, 98] = some (oneOf 97, [40, 98]) := by rw [pAtom_eq]; simp [barred]
    simp only [this]
    simp only [show ¬ ((97 : Int) = 124 ∨ (97 : Int) = 41) by decide, if_false]
    have ht : pTimes (oneOf 97) [40, 98] = (oneOf 97, [40, 98]) := rfl
    rw [ht]
    simp only
    rw [pRow_eq]
    have h4 : pAtom (n + 37) [40, 98] = none := by
      rw [pAtom_eq]
      simp only [if_true]
      have : pAlt (n + 36) [98] = some (.alt1 (.rowS .row0 (oneOf 98)), []) := by
        rw [pAlt, pRow_eq]
        have : pAtom (n + 34) [98] = some (oneOf 98, []) := by rw [pAtom_eq]; simp [barred]
        simp only [this]
        simp only [show ¬ ((98 : Int) = 124 ∨ (98 : Int) = 41) by decide, if_false, pTimes]
        rw [pRow_eq]
        simp only
        rw [pAlts_eq]
      rw [this]
    simp [h4]
  rw [h3] at h2
  cases h2
theorem al_lang (u : List Int) : Lang alT u ↔ ∃ v, u = 97 :: v ∧ ∀ c ∈ v, c = 98 ∨ c = 99 := by
  have hg : ∀ w, Lang (.altS (.alt1 (.rowS .row0 (oneOf 98))) (.rowS .row0 (oneOf 99))) w ↔ w = [98] ∨ w = [99] := by
    intro w
    rw [lang_either]
    constructor
    · rintro (⟨r, rfl, h⟩ | ⟨r, rfl, h⟩)
      · rw [(oneOf_has _ _).1 h]; exact .inl rfl
      · rw [(oneOf_has _ _).1 h]; exact .inr rfl
    · rintro (rfl | rfl)
      · exact .inl ⟨98, rfl, (oneOf_has _ _).2 rfl⟩
      · exact .inr ⟨99, rfl, (oneOf_has _ _).2 rfl⟩
  have hs : ∀ w, Star (Lang (.altS (.alt1 (.rowS .row0 (oneOf 98))) (.rowS .row0 (oneOf 99)))) w ↔ ∀ c ∈ w, c = 98 ∨ c = 99 := by
    intro w
    constructor
    · intro h
      induction h with
      | nil => intro c hc; simp at hc
      | cons hu _ ih =>
        intro c hc
        rcases List.mem_append.1 hc with hc | hc
        · rcases (hg _).1 hu with rfl | rfl
          · left; simpa using hc
          · right; simpa using hc
        · exact ih c hc
    · intro h
      induction w with
      | nil => exact .nil
      | cons c t ih =>
        have h1 := h c (by simp)
        exact Star.cons (u := [c]) ((hg _).2 (by rcases h1 with rfl | rfl; exact .inl rfl; exact .inr rfl)) (ih (fun d hd => h d (by simp [hd])))
  unfold alT
  rw [lang_both]
  constructor
  · rintro ⟨a, b, rfl, ⟨r, rfl, hr⟩, hb⟩
    rw [(oneOf_has _ _).1 hr]
    exact ⟨b, rfl, (hs b).1 hb⟩
  · rintro ⟨v, rfl, hv⟩
    exact ⟨[97], v, rfl, ⟨97, rfl, (oneOf_has _ _).2 rfl⟩, (hs v).2 hv⟩
theorem al_yes : Lang alT [97, 98, 99, 98] := (al_lang _).2 ⟨_, rfl, by decide⟩
theorem al_no : ¬ Lang alT [97, 98, 100] := by
  rintro h
  obtain ⟨v, e, h⟩ := (al_lang _).1 h
  injection e with _ e
  subst e
  have := h 100 (by simp)
  omega
theorem al_begins : BegIn alT [97, 99, 120] 2 := by
  refine .inr ⟨2, rfl, by decide, (al_lang _).2 ⟨[99], rfl, by decide⟩, fun j hj hj2 => ?_⟩
  have : j = 3 := by simp at hj2; omega
  subst this
  rintro h
  obtain ⟨v, e, h⟩ := (al_lang _).1 h
  injection e with _ e
  subst e
  have := h 120 (by simp)
  omega
end Go.Proofs.Ythlkcoiaahpmoaa
