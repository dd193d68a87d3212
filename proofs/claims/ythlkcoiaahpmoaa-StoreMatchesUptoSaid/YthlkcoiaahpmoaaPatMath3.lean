/-
  The runes of texts that are put one behind the other; what some patterns mean. No condition, no program.
-/
import Derived.Test.YthlkcoiaahpmoaaPatMath2
import Derived.Test.YthlkcoiaahpmoaaGlyphMath
namespace Go.Proofs.Ythlkcoiaahpmoaa
open Go.Lib (decodeL encodeRune decodeL_width decodeL_le decodeN decodeL_N)

/-! ### Runes -/
def runesOf (l : List UInt8) : List Int := (chunks l).map fun c => (c.1 : Int)
theorem decodeL_tail {l : List UInt8} (h : l ≠ []) (c : UInt8) (hc : c.toNat < 128) (t : List UInt8) : decodeL (l ++ c :: t) = decodeL l := by
  rw [decodeL_N, decodeL_N]
  match l, h with
  | [b0], _ =>
    simp only [List.cons_append, List.nil_append, List.length_cons, List.length_nil, List.getD_cons_zero, List.getD_cons_succ]
    unfold decodeN
    have : ¬ c.toNat / 64 = 2 := by omega
    simp [this]
  | [b0, b1], _ =>
    simp only [List.cons_append, List.nil_append, List.length_cons, List.length_nil, List.getD_cons_zero, List.getD_cons_succ]
    unfold decodeN
    have : ¬ c.toNat / 64 = 2 := by omega
    simp [this]
  | [b0, b1, b2], _ =>
    simp only [List.cons_append, List.nil_append, List.length_cons, List.length_nil, List.getD_cons_zero, List.getD_cons_succ]
    unfold decodeN
    have : ¬ c.toNat / 64 = 2 := by omega
    simp [this]
  | b0 :: b1 :: b2 :: b3 :: r, _ =>
    simp only [List.cons_append, List.length_cons, List.length_append, List.getD_cons_zero, List.getD_cons_succ]
    unfold decodeN
    have h1 : 1 < (r.length + (t.length + 1)) + 1 + 1 + 1 + 1 := by omega
    have h2 : 2 < (r.length + (t.length + 1)) + 1 + 1 + 1 + 1 := by omega
    have h3 : 3 < (r.length + (t.length + 1)) + 1 + 1 + 1 + 1 := by omega
    have k1 : 1 < r.length + 1 + 1 + 1 + 1 := by omega
    have k2 : 2 < r.length + 1 + 1 + 1 + 1 := by omega
    have k3 : 3 < r.length + 1 + 1 + 1 + 1 := by omega
    simp only [h1, h2, h3, k1, k2, k3, true_and]
theorem chunks_tail (c : UInt8) (hc : c.toNat < 128) (t : List UInt8) : ∀ l : List UInt8, chunks (l ++ c :: t) = chunks l ++ chunks (c :: t) := by
  refine chunk_ind ?_ ?_
  · rfl
  · intro l hl ih
    have hne : l ++ c :: t ≠ [] := by simp
    rw [chunks_cons hne, chunks_cons hl, List.cons_append]
    have hd := decodeL_tail hl c hc t
    have hle := decodeL_le _ hl
    have e1 : headC (l ++ c :: t) = headC l := by
      unfold headC
      rw [hd, List.take_append_of_le_length hle]
    rw [e1, hd, List.drop_append_of_le_length hle, ih]
theorem runes_tail (l : List UInt8) (c : UInt8) (hc : c.toNat < 128) (t : List UInt8) : runesOf (l ++ c :: t) = runesOf l ++ runesOf (c :: t) := by
  unfold runesOf
  rw [chunks_tail c hc, List.map_append]
theorem chunks_one (c : UInt8) (hc : c.toNat < 128) (t : List UInt8) : chunks (c :: t) = (c.toNat, [c]) :: chunks t := by
  have hd : decodeL (c :: t) = (c.toNat, 1) := by
    rw [decodeL_N]
    simp only [List.getD_cons_zero]
    unfold decodeN
    rw [if_pos hc]
  rw [chunks_cons (by simp)]
  unfold headC
  rw [hd]
  rfl
theorem runes_cons (c : UInt8) (hc : c.toNat < 128) (t : List UInt8) : runesOf (c :: t) = (c.toNat : Int) :: runesOf t := by
  unfold runesOf
  rw [chunks_one c hc]
  rfl
theorem runes_nil : runesOf [] = [] := rfl
theorem runes_len (l : List UInt8) : (runesOf l).length = (chunks l).length := by simp [runesOf]
theorem runes_le (l : List UInt8) : (runesOf l).length ≤ l.length := by rw [runes_len]; exact chunks_len l
theorem runes_ok {l : List UInt8} {r : Int} (h : r ∈ runesOf l) : RuneOk r := by
  unfold runesOf at h
  obtain ⟨c, hc, rfl⟩ := List.mem_map.1 h
  exact chunk_rune hc
theorem runes_encs (rs : List Int) (h : ∀ r ∈ rs, RuneOk r) (t : List UInt8) : runesOf (encs rs ++ t) = rs ++ runesOf t := by
  unfold runesOf
  rw [chunks_encs, List.map_append, List.map_map]
  congr 1
  have : ∀ r ∈ rs, ((fun c : Nat × List UInt8 => (c.1 : Int)) ∘ fun r => ((fixR r).toNat, encodeRune r)) r = r := fun r hr => by
    have hk := h r hr
    show (((fixR r).toNat : Nat) : Int) = r
    rw [fixR_of hk]
    have := hk.1
    omega
  conv => rhs; rw [← List.map_id rs]
  exact List.map_congr_left this
theorem runes_encs0 (rs : List Int) (h : ∀ r ∈ rs, RuneOk r) : runesOf (encs rs) = rs := by
  have := runes_encs rs h []
  rwa [List.append_nil, runes_nil, List.append_nil] at this
theorem runes_empty {l : List UInt8} (h : runesOf l = []) : l = [] := by
  have h1 : (chunks l).length = 0 := by rw [← runes_len, h]; rfl
  have h2 := chunks_join l
  rw [List.eq_nil_of_length_eq_zero h1] at h2
  exact h2.symm

/-! ### What patterns mean -/
/-- Is this the pattern of these runes? -/
def Parses (rs : List Int) (x : T) : Prop := ∃ n, pAlt n rs = some (x, [])
theorem star_one {P : List Int → Prop} {u : List Int} (h : P u) : Star P u := by
  have := Star.cons h Star.nil
  rwa [List.append_nil] at this
theorem lang_row {xs : List T} {x : T} {u : List Int} : Lang (xs.foldl .rowS x) u ↔ ∃ a b, u = a ++ b ∧ Lang x a ∧ Lang (xs.foldl .rowS .row0) b := by
  suffices h : ∀ (xs : List T) (x : T) (u : List Int), Lang (xs.foldl .rowS x) u ↔ ∃ a b, u = a ++ b ∧ Lang x a ∧ Lang (xs.foldl .rowS .row0) b from h xs x u
  intro xs
  induction xs with
  | nil =>
    intro x u
    constructor
    · intro h; exact ⟨u, [], by simp, h, rfl⟩
    · rintro ⟨a, b, rfl, ha, hb⟩
      obtain rfl : b = [] := hb
      rw [List.append_nil]; exact ha
  | cons y ys ih =>
    intro x u
    simp only [List.foldl_cons]
    rw [ih]
    constructor
    · rintro ⟨a, b, rfl, ⟨c, d, rfl, hc, hd⟩, hb⟩
      exact ⟨c, d ++ b, by simp, hc, (ih (.rowS .row0 y) (d ++ b)).2 ⟨d, b, rfl, ⟨[], d, rfl, rfl, hd⟩, hb⟩⟩
    · rintro ⟨a, b, rfl, ha, hb⟩
      obtain ⟨c, d, rfl, ⟨e, f, rfl, he, hf⟩, hd⟩ := (ih (.rowS .row0 y) b).1 hb
      obtain rfl : e = [] := he
      exact ⟨a ++ f, d, by simp, ⟨a, f, rfl, ha, by simpa using hf⟩, hd⟩
/-- A pattern in brackets, and what stands behind it. -/
theorem atom_group {n : Nat} {rs : List Int} {x : T} (h : pAlt n rs = some (x, [])) (e : List Int) : pAtom (n + 1) (40 :: (rs ++ 41 :: e)) = some (x, e) := by
  have h1 := (pExt n).1 _ _ _ e h
  rw [pAtom_eq]
  simp [h1]
theorem times_none (x : T) {e : List Int} (h : ∀ c t, e = c :: t → c ≠ 42 ∧ c ≠ 43 ∧ c ≠ 63) : pTimes x e = (x, e) := by
  cases e with
  | nil => rfl
  | cons c t =>
    obtain ⟨h1, h2, h3⟩ := h c t rfl
    simp [pTimes, h1, h2, h3]
theorem parses_times {n : Nat} {rs : List Int} {x : T} (h : pAlt n rs = some (x, [])) (c : Int) (hc : c = 42 ∨ c = 43 ∨ c = 63) :
    pAlt (n + 4) (40 :: (rs ++ [41, c])) = some (.alt1 (.rowS .row0 (.rep x (c ≠ 43) (c ≠ 63))), []) := by
  have h1 := atom_group h [c]
  have h2 : pTimes x [c] = (.rep x (c ≠ 43) (c ≠ 63), []) := by
    rcases hc with rfl | rfl | rfl <;> rfl
  have h3 : pRow (n + 2) .row0 (40 :: (rs ++ [41, c])) = some (.rowS .row0 (.rep x (c ≠ 43) (c ≠ 63)), []) := by
    rw [pRow_eq]
    simp only [h1, h2]
    rw [pRow_eq]
    simp
  rw [pAlt]
  rw [(pMono (n + 2)).2.2.1 _ _ _ h3]
  simp [pAlts_eq]
theorem parses_both {n : Nat} {rs qs : List Int} {x y : T} (h : pAlt n rs = some (x, [])) (k : pAlt n qs = some (y, [])) :
    pAlt (n + 5) (40 :: (rs ++ 41 :: 40 :: (qs ++ [41]))) = some (.alt1 (.rowS (.rowS .row0 x) y), []) := by
  have h1 := atom_group (pAlt_more h (Nat.le_succ n)) (40 :: (qs ++ [41]))
  have k1 := atom_group k []
  have h2 : pTimes x (40 :: (qs ++ [41])) = (x, 40 :: (qs ++ [41])) := times_none x (fun c t e => by cases e; decide)
  have k2 : pTimes y [] = (y, []) := rfl
  have h3 : pRow (n + 3) .row0 (40 :: (rs ++ 41 :: 40 :: (qs ++ [41]))) = some (.rowS (.rowS .row0 x) y, []) := by
    rw [pRow_eq]
    simp only [h1, h2]
    rw [pRow_eq]
    simp only [k1, k2]
    rw [pRow_eq]
    simp
  rw [pAlt]
  rw [(pMono (n + 3)).2.2.1 _ _ _ h3]
  simp [pAlts_eq]
theorem parses_either {n : Nat} {rs qs : List Int} {x y : T} (h : pAlt n rs = some (x, [])) (k : pAlt n qs = some (y, [])) :
    pAlt (n + 5) (40 :: (rs ++ 41 :: 124 :: 40 :: (qs ++ [41]))) = some (.altS (.alt1 (.rowS .row0 x)) (.rowS .row0 y), []) := by
  have h1 := atom_group (pAlt_more h (show n ≤ n + 2 by omega)) (124 :: 40 :: (qs ++ [41]))
  have k1 := atom_group k []
  have h2 : pTimes x (124 :: 40 :: (qs ++ [41])) = (x, 124 :: 40 :: (qs ++ [41])) := times_none x (fun c t e => by cases e; decide)
  have k2 : pTimes y [] = (y, []) := rfl
  have h3 : pRow (n + 4) .row0 (40 :: (rs ++ 41 :: 124 :: 40 :: (qs ++ [41]))) = some (.rowS .row0 x, 124 :: 40 :: (qs ++ [41])) := by
    rw [pRow_eq]
    simp only [h1, h2]
    rw [pRow_eq]
    simp
  have k3 : pRow (n + 2) .row0 (40 :: (qs ++ [41])) = some (.rowS .row0 y, []) := by
    rw [pRow_eq]
    simp only [k1, k2]
    rw [pRow_eq]
    simp
  rw [pAlt]
  rw [h3]
  simp only
  rw [pAlts_eq]
  simp only [(pMono (n + 2)).2.2.1 _ _ _ k3]
  rw [pAlts_eq]
  simp
theorem lang_in (x : T) (u : List Int) : Lang (.alt1 (.rowS .row0 x)) u ↔ Lang x u := by
  constructor
  · rintro ⟨a, b, rfl, ha, hb⟩
    obtain rfl : a = [] := ha
    exact hb
  · intro h; exact ⟨[], u, rfl, rfl, h⟩
theorem lang_star (x : T) (u : List Int) : Lang (.rep x true true) u ↔ Star (Lang x) u := Iff.rfl
theorem lang_plus (x : T) (u : List Int) : Lang (.rep x false true) u ↔ ∃ a b, u = a ++ b ∧ Lang x a ∧ Star (Lang x) b := Iff.rfl
theorem lang_once (x : T) (u : List Int) : Lang (.rep x true false) u ↔ u = [] ∨ Lang x u := Iff.rfl
theorem lang_both (x y : T) (u : List Int) : Lang (.alt1 (.rowS (.rowS .row0 x) y)) u ↔ ∃ a b, u = a ++ b ∧ Lang x a ∧ Lang y b := by
  constructor
  · rintro ⟨a, b, rfl, ⟨c, d, rfl, hc, hd⟩, hb⟩
    obtain rfl : c = [] := hc
    exact ⟨d, b, rfl, hd, hb⟩
  · rintro ⟨a, b, rfl, ha, hb⟩
    exact ⟨a, b, rfl, ⟨[], a, rfl, rfl, ha⟩, hb⟩
theorem lang_either (x y : T) (u : List Int) : Lang (.altS (.alt1 (.rowS .row0 x)) (.rowS .row0 y)) u ↔ Lang x u ∨ Lang y u := by
  have h1 := lang_in x u
  have h2 := lang_in y u
  constructor
  · rintro (h | h)
    · exact .inl (h1.1 h)
    · exact .inr (h2.1 h)
  · rintro (h | h)
    · exact .inl (h1.2 h)
    · exact .inr (h2.2 h)
/-- A row of single runes. -/
theorem lang_ones (ss : List PSet) (u : List Int) : Lang ((ss.map T.one).foldl .rowS .row0) u ↔ u.length = ss.length ∧ ∀ (i : Nat) (s : PSet) (r : Int), ss[i]? = some s → u[i]? = some r → s.has r = true := by
  induction ss generalizing u with
  | nil =>
    constructor
    · intro h
      obtain rfl : u = [] := h
      exact ⟨rfl, fun i s r h => by simp at h⟩
    · rintro ⟨h, _⟩
      exact List.eq_nil_of_length_eq_zero h
  | cons s ss ih =>
    simp only [List.map_cons, List.foldl_cons]
    rw [lang_row]
    constructor
    · rintro ⟨a, b, rfl, ⟨c, d, rfl, hc, ⟨r, rfl, hr⟩⟩, hb⟩
      obtain rfl : c = [] := hc
      obtain ⟨h1, h2⟩ := (ih b).1 hb
      refine ⟨by simp [h1], fun i s' r' hs hr' => ?_⟩
      cases i with
      | zero =>
        simp only [List.getElem?_cons_zero, Option.some.injEq] at hs
        subst hs
        simp only [List.nil_append, List.cons_append, List.getElem?_cons_zero, Option.some.injEq] at hr'
        subst hr'
        exact hr
      | succ i =>
        simp only [List.getElem?_cons_succ] at hs
        simp only [List.nil_append, List.cons_append, List.getElem?_cons_succ] at hr'
        exact h2 i s' r' hs hr'
    · rintro ⟨h1, h2⟩
      cases u with
      | nil => simp at h1
      | cons r u =>
        refine ⟨[r], u, rfl, ⟨[], [r], rfl, rfl, ⟨r, rfl, h2 0 s r rfl rfl⟩⟩, (ih u).2 ⟨by simpa using h1, fun i s' r' hs hr => h2 (i + 1) s' r' (by simpa using hs) (by simpa using hr)⟩⟩
end Go.Proofs.Ythlkcoiaahpmoaa
