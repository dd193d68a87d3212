/-
  Labels as texts: how two stand, lists that are sorted, which labels may be a row's. No condition.
-/
import Derived.Test.YtccmekdmnkmhlaaGreatBookRow
import Derived.Test.YtccmekdmnkmhlaaGreatGlyphName
import Derived.Lib.Bytealg
namespace Go.Proofs.YtccmekdmnkmhlaaGreat
open Go.RowKit

structure Lb where
  n : List UInt8
  v : List UInt8
deriving DecidableEq
def lblC (x : Lb) : List Value := [.string (txt x.n), .string (txt x.v)]
def lblV (x : Lb) : Value := .agg #[.string (txt x.n), .string (txt x.v)]
theorem lblC_len (x : Lb) : (lblC x).length = 2 := rfl
theorem lblC_ones (x : Lb) : ∀ u ∈ lblC x, u.oneCell' = true := by
  intro u hu
  simp only [lblC, List.mem_cons, List.not_mem_nil, or_false] at hu
  rcases hu with rfl | rfl <;> rfl
theorem lbls_ones (zs : List Lb) : ∀ u ∈ sR lblC zs, u.oneCell' = true := fun u hu => by
  obtain ⟨x, _, hx⟩ := List.mem_flatMap.1 hu
  exact lblC_ones x u hx
theorem lblC_inj (x y : Lb) (h : lblC x = lblC y) : x = y := by
  obtain ⟨a, b⟩ := x
  obtain ⟨c, d⟩ := y
  simp only [lblC, List.cons.injEq, and_true] at h
  obtain ⟨h1, h2⟩ := h
  injection h1 with h1
  injection h2 with h2
  rw [txt_inj h1, txt_inj h2]

/-! ### Texts, how they stand -/
theorem cb_refl : ∀ a : List UInt8, Lib.compareBytes a a = 0 := by
  intro a
  induction a with
  | nil => rfl
  | cons x a ih =>
    unfold Lib.compareBytes
    rw [if_neg (UInt8.lt_irrefl x), if_neg (UInt8.lt_irrefl x), ih]
theorem cb_eq : ∀ {a b : List UInt8}, Lib.compareBytes a b = 0 → a = b := by
  intro a
  induction a with
  | nil => intro b h; cases b with
    | nil => rfl
    | cons y b => simp [Lib.compareBytes] at h
  | cons x a ih =>
    intro b h
    cases b with
    | nil => simp [Lib.compareBytes] at h
    | cons y b =>
      unfold Lib.compareBytes at h
      by_cases h1 : x < y
      · simp [h1] at h
      · by_cases h2 : y < x
        · simp [h1, h2] at h
        · simp only [h1, h2, if_false] at h
          have : x = y := UInt8.le_antisymm (UInt8.not_lt.1 h2) (UInt8.not_lt.1 h1)
          rw [this, ih h]
theorem cb_anti : ∀ (a b : List UInt8), Lib.compareBytes b a = - Lib.compareBytes a b := by
  intro a
  induction a with
  | nil => intro b; cases b <;> rfl
  | cons x a ih =>
    intro b
    cases b with
    | nil => rfl
    | cons y b =>
      unfold Lib.compareBytes
      by_cases h1 : x < y
      · have h2 : ¬ y < x := fun h => UInt8.lt_irrefl x (UInt8.lt_trans h1 h)
        simp [h1, h2]
      · by_cases h2 : y < x
        · simp [h1, h2]
        · simp only [h1, h2, if_false]
          exact ih b
theorem cb_one : ∀ (a b : List UInt8), Lib.compareBytes a b = -1 ∨ Lib.compareBytes a b = 0 ∨ Lib.compareBytes a b = 1 := by
  intro a
  induction a with
  | nil => intro b; cases b <;> simp [Lib.compareBytes]
  | cons x a ih =>
    intro b
    cases b with
    | nil => simp [Lib.compareBytes]
    | cons y b =>
      unfold Lib.compareBytes
      by_cases h1 : x < y
      · simp [h1]
      · by_cases h2 : y < x
        · simp [h1, h2]
        · simp only [h1, h2, if_false]
          exact ih b
theorem cb_trans : ∀ {a b c : List UInt8}, Lib.compareBytes a b < 0 → Lib.compareBytes b c < 0 → Lib.compareBytes a c < 0 := by
  intro a
  induction a with
  | nil => intro b c h1 h2; cases b with
    | nil => simp [Lib.compareBytes] at h1
    | cons y b => cases c with
      | nil => simp [Lib.compareBytes] at h2
      | cons z c => simp [Lib.compareBytes]
  | cons x a ih =>
    intro b c h1 h2
    cases b with
    | nil => simp [Lib.compareBytes] at h1
    | cons y b =>
      cases c with
      | nil => simp [Lib.compareBytes] at h2
      | cons z c =>
        unfold Lib.compareBytes at h1 h2 ⊢
        by_cases xy : x < y
        · by_cases yz : y < z
          · simp [UInt8.lt_trans xy yz]
          · by_cases zy : z < y
            · simp [yz, zy] at h2
            · have : y = z := UInt8.le_antisymm (UInt8.not_lt.1 zy) (UInt8.not_lt.1 yz)
              subst this
              simp [xy]
        · by_cases yx : y < x
          · simp [xy, yx] at h1
          · have : x = y := UInt8.le_antisymm (UInt8.not_lt.1 yx) (UInt8.not_lt.1 xy)
            subst this
            simp only [xy, if_false] at h1
            by_cases yz : x < z
            · simp [yz]
            · by_cases zy : z < x
              · simp [yz, zy] at h2
              · simp only [yz, zy, if_false] at h2 ⊢
                exact ih h1 h2
/-- A text stands ahead of another one. -/
def ltT (a b : List UInt8) : Prop := Lib.compareBytes a b < 0
instance (a b : List UInt8) : Decidable (ltT a b) := by unfold ltT; exact inferInstance
theorem ltT_irr (a : List UInt8) : ¬ ltT a a := by unfold ltT; rw [cb_refl]; decide
theorem ltT_trans {a b c : List UInt8} (h : ltT a b) (k : ltT b c) : ltT a c := cb_trans h k
theorem ltT_tri (a b : List UInt8) : ltT a b ∨ a = b ∨ ltT b a := by
  unfold ltT
  rw [cb_anti a b]
  rcases cb_one a b with h | h | h
  · left; omega
  · right; left; exact cb_eq h
  · right; right; omega
theorem ltT_asym {a b : List UInt8} (h : ltT a b) : ¬ ltT b a := fun k => ltT_irr a (ltT_trans h k)

/-! ### Labels, how they stand -/
def cmpLb (a b : Lb) : Int := if Lib.compareBytes a.n b.n = 0 then Lib.compareBytes a.v b.v else Lib.compareBytes a.n b.n
def ltLb (a b : Lb) : Prop := cmpLb a b < 0
instance (a b : Lb) : Decidable (ltLb a b) := by unfold ltLb; exact inferInstance
theorem cmpLb_refl (a : Lb) : cmpLb a a = 0 := by unfold cmpLb; rw [cb_refl, if_pos rfl, cb_refl]
theorem cmpLb_eq {a b : Lb} (h : cmpLb a b = 0) : a = b := by
  unfold cmpLb at h
  split at h
  · obtain ⟨a1, a2⟩ := a
    obtain ⟨b1, b2⟩ := b
    rename_i h1
    have e1 := cb_eq h1
    have e2 := cb_eq h
    simp only at e1 e2
    rw [e1, e2]
  · exact absurd h (by assumption)
theorem cmpLb_anti (a b : Lb) : cmpLb b a = - cmpLb a b := by
  unfold cmpLb
  rw [cb_anti a.n b.n, cb_anti a.v b.v]
  by_cases h : Lib.compareBytes a.n b.n = 0
  · simp [h]
  · rw [if_neg h, if_neg (by omega)]
theorem cmpLb_one (a b : Lb) : cmpLb a b = -1 ∨ cmpLb a b = 0 ∨ cmpLb a b = 1 := by
  unfold cmpLb
  split
  · exact cb_one _ _
  · exact cb_one _ _
theorem ltLb_iff (a b : Lb) : ltLb a b ↔ ltT a.n b.n ∨ (a.n = b.n ∧ ltT a.v b.v) := by
  unfold ltLb ltT cmpLb
  by_cases h : Lib.compareBytes a.n b.n = 0
  · have e := cb_eq h
    rw [if_pos h]
    constructor
    · intro k; exact .inr ⟨e, k⟩
    · rintro (k | ⟨_, k⟩)
      · omega
      · exact k
  · rw [if_neg h]
    constructor
    · intro k; exact .inl k
    · rintro (k | ⟨k, _⟩)
      · exact k
      · rw [k, cb_refl] at h; exact absurd rfl h
theorem ltLb_irr (a : Lb) : ¬ ltLb a a := by unfold ltLb; rw [cmpLb_refl]; decide
theorem ltLb_trans {a b c : Lb} (h : ltLb a b) (k : ltLb b c) : ltLb a c := by
  rw [ltLb_iff] at h k ⊢
  rcases h with h | ⟨e, h⟩
  · rcases k with k | ⟨e', k⟩
    · exact .inl (ltT_trans h k)
    · exact .inl (e' ▸ h)
  · rcases k with k | ⟨e', k⟩
    · exact .inl (e ▸ k)
    · exact .inr ⟨e.trans e', ltT_trans h k⟩
theorem ltLb_tri (a b : Lb) : ltLb a b ∨ a = b ∨ ltLb b a := by
  unfold ltLb
  rw [cmpLb_anti a b]
  rcases cmpLb_one a b with h | h | h
  · left; omega
  · right; left; exact cmpLb_eq h
  · right; right; omega
/-- No label stands ahead of one that lies before it. -/
def Srt (l : List Lb) : Prop := l.Pairwise fun a b => ¬ ltLb b a
theorem le_trans' {a b c : Lb} (h : ¬ ltLb b a) (k : ¬ ltLb c b) : ¬ ltLb c a := by
  rcases ltLb_tri a b with h1 | rfl | h1
  · rcases ltLb_tri b c with h2 | rfl | h2
    · exact fun x => ltLb_irr a (ltLb_trans (ltLb_trans h1 h2) x)
    · exact h
    · exact absurd h2 k
  · exact k
  · exact absurd h1 h
theorem srt_insert {P : List Lb} (hP : Srt P) {j : Nat} (hj : j ≤ P.length) {x : Lb} (h1 : ∀ y ∈ P.drop j, ltLb x y) (h2 : ∀ y, 0 < j → P[j - 1]? = some y → ¬ ltLb x y) : Srt (P.take j ++ x :: P.drop j) := by
  have h0 : Srt (P.take j ++ P.drop j) := by rw [List.take_append_drop]; exact hP
  unfold Srt at h0 ⊢
  rw [List.pairwise_append] at h0 ⊢
  obtain ⟨ha, hb, hc⟩ := h0
  have hx : ∀ y ∈ P.take j, ¬ ltLb x y := by
    intro y hy
    obtain ⟨k, hk⟩ := List.mem_iff_getElem?.1 hy
    rw [List.getElem?_take] at hk
    split at hk
    · rename_i hkj
      have hj0 : 0 < j := by omega
      obtain ⟨z, hz⟩ : ∃ z, P[j - 1]? = some z := ⟨_, List.getElem?_eq_getElem (by omega)⟩
      have hzx := h2 z hj0 hz
      by_cases hkz : k = j - 1
      · subst hkz
        rw [hz] at hk
        obtain rfl := Option.some.inj hk
        exact hzx
      · have hyz : ¬ ltLb z y := by
          have h3 := List.pairwise_iff_getElem.1 hP k (j - 1) (by have := (List.getElem?_eq_some_iff.1 hk).1; exact this) (by omega) (by omega)
          rw [(List.getElem?_eq_some_iff.1 hk).2, (List.getElem?_eq_some_iff.1 hz).2] at h3
          exact h3
        exact le_trans' hyz hzx
    · exact absurd hk (by simp)
  refine ⟨ha, ?_, ?_⟩
  · rw [List.pairwise_cons]
    exact ⟨fun y hy k => ltLb_irr x (ltLb_trans (h1 y hy) k), hb⟩
  · intro a haa b hbb
    rcases List.mem_cons.1 hbb with rfl | hbb
    · exact hx a haa
    · exact hc a haa b hbb
/-- Two sorted lists of the same labels are the same. -/
theorem srt_unique {l m : List Lb} (hp : l.Perm m) (hl : Srt l) (hm : Srt m) : l = m :=
  hp.eq_of_pairwise (le := fun a b => ¬ ltLb b a) (fun a b _ _ h1 h2 => by
    rcases ltLb_tri a b with h | h | h
    · exact absurd h h2
    · exact h
    · exact absurd h h1) hl hm

/-! ### Labels that may be a row's -/
def okLb (x : Lb) : Prop := isName x.n = true ∧ 1 ≤ x.v.length ∧ x.v.length ≤ 60
instance (x : Lb) : Decidable (okLb x) := by unfold okLb; exact inferInstance
/-- Each one's name stands ahead of the next one's. -/
def Rising : List Lb → Prop
  | [] => True
  | [_] => True
  | a :: b :: r => ltT a.n b.n ∧ Rising (b :: r)
instance : (l : List Lb) → Decidable (Rising l)
  | [] => .isTrue trivial
  | [_] => .isTrue trivial
  | a :: b :: r => by
    unfold Rising
    haveI := instDecidableRising (b :: r)
    exact inferInstance
def okLbs (l : List Lb) : Prop := l.length ≤ 8 ∧ (∀ x ∈ l, okLb x) ∧ Rising l
instance (l : List Lb) : Decidable (okLbs l) := by unfold okLbs; exact inferInstance
theorem rising_iff : ∀ l : List Lb, Rising l ↔ ∀ (i : Nat) a b, l[i]? = some a → l[i + 1]? = some b → ltT a.n b.n := by
  intro l
  induction l with
  | nil => simp [Rising]
  | cons x l ih =>
    cases l with
    | nil => simp [Rising]
    | cons y r =>
      unfold Rising
      rw [ih]
      constructor
      · rintro ⟨h1, h2⟩ i a b ha hb
        cases i with
        | zero => simp at ha hb; subst ha hb; exact h1
        | succ i => exact h2 i a b (by simpa using ha) (by simpa using hb)
      · intro h
        exact ⟨h 0 x y rfl rfl, fun i a b ha hb => h (i + 1) a b (by simpa using ha) (by simpa using hb)⟩
theorem rising_pair {l : List Lb} (h : Rising l) : l.Pairwise fun a b => ltT a.n b.n := by
  induction l with
  | nil => exact List.Pairwise.nil
  | cons x l ih =>
    cases l with
    | nil => exact List.pairwise_singleton _ _
    | cons y r =>
      obtain ⟨h1, h2⟩ := h
      have h3 := ih h2
      rw [List.pairwise_cons]
      refine ⟨fun z hz => ?_, h3⟩
      rcases List.mem_cons.1 hz with rfl | hz
      · exact h1
      · exact ltT_trans h1 ((List.pairwise_cons.1 h3).1 z hz)
theorem rising_srt {l : List Lb} (h : Rising l) : Srt l := (rising_pair h).imp fun {a b} hab k => by
  rw [ltLb_iff] at k
  rcases k with k | ⟨e, _⟩
  · exact ltT_asym hab k
  · rw [e] at hab; exact ltT_irr _ hab
/-- Sorted labels of which no two neighbours have the same name are rising. -/
theorem srt_rising {l : List Lb} (h : Srt l) (hne : ∀ (i : Nat) a b, l[i]? = some a → l[i + 1]? = some b → a.n ≠ b.n) : Rising l := by
  rw [rising_iff]
  intro i a b ha hb
  have h1 := List.pairwise_iff_getElem.1 h i (i + 1) (List.getElem?_eq_some_iff.1 ha).1 (List.getElem?_eq_some_iff.1 hb).1 (by omega)
  rw [(List.getElem?_eq_some_iff.1 ha).2, (List.getElem?_eq_some_iff.1 hb).2, ltLb_iff] at h1
  rcases ltT_tri a.n b.n with h2 | h2 | h2
  · exact h2
  · exact absurd h2 (hne i a b ha hb)
  · exact absurd (.inl h2) h1
end Go.Proofs.YtccmekdmnkmhlaaGreat
