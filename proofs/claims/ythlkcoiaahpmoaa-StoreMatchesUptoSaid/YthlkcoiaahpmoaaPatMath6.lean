/-
  What a machine's places come to: reached without a rune, behind a rune. No condition, no program.
-/
import Derived.Test.YthlkcoiaahpmoaaPatMath5
namespace Go.Proofs.Ythlkcoiaahpmoaa

theorem frag_reach {F : List Stp} {lo hi : Nat} : ∀ (x : T) (a th n : Nat) (u : List Int) (q : Nat), Frag F lo hi x a th → PathN F n a u q → q < hi ∨ ∃ m u2, PathN F m th u2 q ∧ m ≤ n := by
  intro x
  induction x with
  | one s =>
    rintro a th n u q ⟨_, h0, b, hF⟩ h
    cases h with
    | refl => exact .inl h0
    | eps h hr ha t => rw [hF] at h; obtain rfl := Option.some.inj h; cases hr
    | @rune n _ p' _ u' s' r h hr hh ha t =>
      rw [hF] at h
      obtain rfl := Option.some.inj h
      have e : th = p' := by have e2 : (th : Int) = p' := ha; omega
      subst e
      exact .inr ⟨n, u', t, by omega⟩
  | row0 => intro a th n u q h k; obtain rfl : a = th := h; exact .inr ⟨n, u, k, Nat.le_refl _⟩
  | rowS l x ihl ihx =>
    rintro a th n u q ⟨m, h1, h2⟩ k
    rcases ihl _ _ _ _ _ h2 k with h | ⟨m2, u2, k2, hm2⟩
    · exact .inl h
    · rcases ihx _ _ _ _ _ h1 k2 with h | ⟨m3, u3, k3, hm3⟩
      · exact .inl h
      · exact .inr ⟨m3, u3, k3, by omega⟩
  | alt1 x ih => intro a th n u q h k; exact ih _ _ _ _ _ h k
  | altS l x ihl ihx =>
    rintro a th n u q ⟨_, h0, a1, b1, s, hF, h1, h2⟩ k
    cases k with
    | refl => exact .inl h0
    | rune h hr hh ha t => rw [hF] at h; obtain rfl := Option.some.inj h; cases hr
    | @eps n _ p' _ _ s' h hr ha t =>
      rw [hF] at h
      obtain rfl := Option.some.inj h
      rcases ha with ha | ha
      · have e : a1 = p' := by have e2 : (a1 : Int) = p' := ha; omega
        subst e
        rcases ihl _ _ _ _ _ h1 t with h | ⟨m, u2, k2, hm⟩
        · exact .inl h
        · exact .inr ⟨m, u2, k2, by omega⟩
      · have e : b1 = p' := by have e2 : (b1 : Int) = p' := ha; omega
        subst e
        rcases ihx _ _ _ _ _ h2 t with h | ⟨m, u2, k2, hm⟩
        · exact .inl h
        · exact .inr ⟨m, u2, k2, by omega⟩
  | rep x nn ag ih =>
    intro a th n u q h k
    unfold Frag at h
    cases ag with
    | false =>
      obtain ⟨_, h0, a1, s, hF, h1⟩ := h
      cases k with
      | refl => exact .inl h0
      | rune h hr hh ha t => rw [hF] at h; obtain rfl := Option.some.inj h; cases hr
      | @eps n _ p' _ _ s' h hr ha t =>
        rw [hF] at h
        obtain rfl := Option.some.inj h
        rcases ha with ha | ha
        · have e : a1 = p' := by have e2 : (a1 : Int) = p' := ha; omega
          subst e
          rcases ih _ _ _ _ _ h1 t with h | ⟨m, u2, k2, hm⟩
          · exact .inl h
          · exact .inr ⟨m, u2, k2, by omega⟩
        · have e : th = p' := by have e2 : (th : Int) = p' := ha; omega
          subst e
          exact .inr ⟨n, u, t, by omega⟩
    | true =>
      simp only [if_true] at h
      obtain ⟨tn, a1, s, _, h0, hF, h1, h2⟩ := h
      have hturn : ∀ (n : Nat) (u : List Int), PathN F n tn u q → q < hi ∨ ∃ m u2, PathN F m th u2 q ∧ m ≤ n := by
        intro n
        induction n using Nat.strongRecOn with
        | ind n ihn =>
          intro u k
          cases k with
          | refl => exact .inl h0
          | rune h hr hh ha t => rw [hF] at h; obtain rfl := Option.some.inj h; cases hr
          | @eps n' _ p' _ _ s' h hr ha t =>
            rw [hF] at h
            obtain rfl := Option.some.inj h
            rcases ha with ha | ha
            · have e : a1 = p' := by have e2 : (a1 : Int) = p' := ha; omega
              subst e
              rcases ih _ _ _ _ _ h1 t with h | ⟨m, u2, k2, hm⟩
              · exact .inl h
              · rcases ihn m (by omega) _ k2 with h | ⟨m3, u3, k3, hm3⟩
                · exact .inl h
                · exact .inr ⟨m3, u3, k3, by omega⟩
            · have e : th = p' := by have e2 : (th : Int) = p' := ha; omega
              subst e
              exact .inr ⟨n', u, t, by omega⟩
      cases nn with
      | true => obtain rfl : a = tn := h2; exact hturn n u k
      | false =>
        obtain rfl : a = a1 := h2
        rcases ih _ _ _ _ _ h1 k with h | ⟨m, u2, k2, hm⟩
        · exact .inl h
        · rcases hturn m _ k2 with h | ⟨m3, u3, k3, hm3⟩
          · exact .inl h
          · exact .inr ⟨m3, u3, k3, by omega⟩
def Rch (F : List Stp) (first q : Nat) : Prop := ∃ u, Path F first u q
theorem mach_reach {F : List Stp} {first : Nat} {x : T} (h : Mach F first x) {q : Nat} (k : Rch F first q) : q < F.length := by
  obtain ⟨u, n, k⟩ := k
  rcases frag_reach x _ _ _ _ _ h.frag k with h2 | ⟨m, u2, k2, _⟩
  · exact h2
  · obtain ⟨s, hs⟩ := h.stop
    have h0 := (List.getElem?_eq_some_iff.1 hs).1
    cases k2 with
    | refl => exact h0
    | eps h' hr ha t =>
      rw [hs] at h'
      obtain rfl := Option.some.inj h'
      rcases ha with ha | ha <;> (simp only at ha; omega)
    | rune h' hr hh ha t => rw [hs] at h'; obtain rfl := Option.some.inj h'; cases hr
theorem rch_eps {F : List Stp} {first q p' : Nat} {s : Stp} (k : Rch F first q) (h : F[q]? = some s) (hr : s.rune = false) (ha : s.a = (p' : Int) ∨ s.b = (p' : Int)) : Rch F first p' := by
  obtain ⟨u, k⟩ := k
  exact ⟨u ++ [], path_trans k (path_eps h hr ha (path_refl _ _))⟩
/-- What reach does to the marks. -/
structure ReachS (F : List Stp) (bs bs' : List Bool) (at' : Int) : Prop where
  len : bs'.length = bs.length
  mono : ∀ q : Nat, bs[q]? = some true → bs'[q]? = some true
  sound : ∀ q : Nat, bs'[q]? = some true → bs[q]? = some true ∨ ∃ a : Nat, at' = (a : Int) ∧ Path F a [] q
  hit : ∀ a : Nat, at' = (a : Int) → bs'[a]? = some true
  closed : ∀ (q : Nat) (s : Stp) (p' : Nat), bs'[q]? = some true → bs[q]? ≠ some true → F[q]? = some s → s.rune = false → (s.a = (p' : Int) ∨ s.b = (p' : Int)) → bs'[p']? = some true
theorem reach_neg (F : List Stp) (bs : List Bool) {at' : Int} (h : at' < 0) : ReachS F bs bs at' :=
  ⟨rfl, fun _ h => h, fun _ h => .inl h, fun a e => by omega, fun q s p' h1 h2 => absurd h1 h2⟩
theorem reach_old (F : List Stp) (bs : List Bool) {a : Nat} (h : bs[a]? = some true) : ReachS F bs bs (a : Int) :=
  ⟨rfl, fun _ h => h, fun _ h => .inl h, fun a' e => (by
    have : a = a' := by omega
    subst this
    exact h), fun q s p' h1 h2 => absurd h1 h2⟩
theorem set_true {bs : List Bool} {a q : Nat} (ha : a < bs.length) : (bs.set a true)[q]? = some true ↔ q = a ∨ bs[q]? = some true := by
  rw [List.getElem?_set]
  by_cases h : a = q
  · subst h; simp [ha]
  · simp only [h, if_false]
    constructor
    · exact fun h => .inr h
    · rintro (h' | h')
      · exact absurd h'.symm h
      · exact h'
theorem reach_rune {F : List Stp} {bs : List Bool} {a : Nat} {s : Stp} (ha : a < bs.length) (hs : F[a]? = some s) (hr : s.rune = true) : ReachS F bs (bs.set a true) (a : Int) :=
  ⟨by simp, fun q h => (set_true ha).2 (.inr h), fun q h => by
    rcases (set_true ha).1 h with rfl | h
    · exact .inr ⟨q, rfl, path_refl _ _⟩
    · exact .inl h, fun a' e => (set_true ha).2 (.inl (by omega)), fun q s' p' h1 h2 h3 h4 _ => by
    rcases (set_true ha).1 h1 with rfl | h
    · rw [hs] at h3; obtain rfl := Option.some.inj h3; rw [hr] at h4; cases h4
    · exact absurd h h2⟩
theorem reach_eps {F : List Stp} {bs bs2 bs3 : List Bool} {a : Nat} {s : Stp} (ha : a < bs.length) (hs : F[a]? = some s) (hr : s.rune = false) (h1 : ReachS F (bs.set a true) bs2 s.a) (h2 : ReachS F bs2 bs3 s.b) : ReachS F bs bs3 (a : Int) := by
  have m1 : ∀ q, bs[q]? = some true → bs2[q]? = some true := fun q h => h1.mono q ((set_true ha).2 (.inr h))
  refine ⟨?_, fun q h => h2.mono q (m1 q h), fun q h => ?_, fun a' e => ?_, fun q s' p' k1 k2 k3 k4 k5 => ?_⟩
  · rw [h2.len, h1.len]; simp
  · rcases h2.sound q h with h | ⟨b, e, k⟩
    · rcases h1.sound q h with h | ⟨b, e, k⟩
      · rcases (set_true ha).1 h with rfl | h
        · exact .inr ⟨q, rfl, path_refl _ _⟩
        · exact .inl h
      · exact .inr ⟨a, rfl, path_eps hs hr (.inl e) k⟩
    · exact .inr ⟨a, rfl, path_eps hs hr (.inr e) k⟩
  · obtain rfl : a = a' := by omega
    exact h2.mono _ (h1.mono _ ((set_true ha).2 (.inl rfl)))
  · by_cases hq : q = a
    · subst hq
      rw [hs] at k3
      obtain rfl := Option.some.inj k3
      rcases k5 with k5 | k5
      · exact h2.mono _ (h1.hit _ k5)
      · exact h2.hit _ k5
    · by_cases hq2 : bs2[q]? = some true
      · refine h2.mono _ (h1.closed q s' p' hq2 (fun e => ?_) k3 k4 k5)
        rcases (set_true ha).1 e with e | e
        · exact hq e
        · exact k2 e
      · exact h2.closed q s' p' k1 hq2 k3 k4 k5
/-- Marks that are closed: what one comes to without a rune is marked, too. -/
def Shut (F : List Stp) (bs : List Bool) : Prop := ∀ (q : Nat) (s : Stp) (p' : Nat), bs[q]? = some true → F[q]? = some s → s.rune = false → (s.a = (p' : Int) ∨ s.b = (p' : Int)) → bs[p']? = some true
theorem shut_path {F : List Stp} {bs : List Bool} (h : Shut F bs) {a q : Nat} (ha : bs[a]? = some true) (k : Path F a [] q) : bs[q]? = some true := by
  obtain ⟨n, k⟩ := k
  obtain ⟨u, hu⟩ : ∃ u : List Int, u = [] := ⟨_, rfl⟩
  rw [← hu] at k
  induction k with
  | refl q => exact ha
  | eps h1 hr hab t ih => exact ih (h _ _ _ ha h1 hr hab) hu
  | rune h1 hr hh hab t ih => cases hu
theorem reach_shut {F : List Stp} {bs bs' : List Bool} {at' : Int} (h : Shut F bs) (k : ReachS F bs bs' at') : Shut F bs' := by
  intro q s p' h1 h2 h3 h4
  by_cases hq : bs[q]? = some true
  · exact k.mono _ (h q s p' hq h2 h3 h4)
  · exact k.closed q s p' h1 hq h2 h3 h4
theorem reach_iff {F : List Stp} {bs bs' : List Bool} {at' : Int} (h : Shut F bs) (k : ReachS F bs bs' at') (q : Nat) : bs'[q]? = some true ↔ bs[q]? = some true ∨ ∃ a : Nat, at' = (a : Int) ∧ Path F a [] q := by
  constructor
  · exact k.sound q
  · rintro (h1 | ⟨a, e, h1⟩)
    · exact k.mono q h1
    · exact shut_path (reach_shut h k) (k.hit a e) h1
theorem shut_none (F : List Stp) (n : Nat) : Shut F (List.replicate n false) := by
  intro q s p' h1
  have := List.eq_of_mem_replicate (List.mem_of_getElem? h1)
  cases this
theorem rep_no {n q : Nat} : (List.replicate n false)[q]? ≠ some true := by
  intro h
  have := List.eq_of_mem_replicate (List.mem_of_getElem? h)
  cases this
/-- How many are not marked. -/
def left (bs : List Bool) : Nat := bs.count false
theorem left_set {bs : List Bool} {a : Nat} (ha : bs[a]? = some false) : left (bs.set a true) + 1 = left bs := by
  unfold left
  induction bs generalizing a with
  | nil => simp at ha
  | cons b bs ih =>
    cases a with
    | zero =>
      obtain rfl : b = false := by simpa using ha
      simp
    | succ a =>
      have := ih (a := a) (by simpa using ha)
      simp only [List.set_cons_succ, List.count_cons]
      omega
theorem left_mono {F : List Stp} {bs bs' : List Bool} {at' : Int} (k : ReachS F bs bs' at') : left bs' ≤ left bs := by
  have hl := k.len
  have hm := k.mono
  clear k
  unfold left
  induction bs generalizing bs' with
  | nil => have : bs' = [] := List.eq_nil_of_length_eq_zero (by simpa using hl); subst this; exact Nat.le_refl _
  | cons b bs ih =>
    cases bs' with
    | nil => simp
    | cons b' bs' =>
      have h1 := ih (bs' := bs') (by simpa using hl) (fun q h => by have := hm (q + 1) (by simpa using h); simpa using this)
      have h2 := hm 0
      simp only [List.getElem?_cons_zero, Option.some.injEq] at h2
      simp only [List.count_cons]
      cases b with
      | true => rw [h2 rfl]; simpa using h1
      | false => cases b' <;> simp <;> omega
theorem has_in {s : PSet} {r : Int} {k : Nat} {x : Int × Int} (h : s.items[k]? = some x) (h1 : x.1 ≤ r) (h2 : r ≤ x.2) : s.has r = !s.neg := by
  unfold PSet.has inItems
  rw [if_pos]
  rw [List.any_eq_true]
  exact ⟨x, List.mem_of_getElem? h, decide_eq_true ⟨h1, h2⟩⟩
theorem has_out {s : PSet} {r : Int} (h : ∀ (k : Nat) x, s.items[k]? = some x → ¬ (x.1 ≤ r ∧ r ≤ x.2)) : s.has r = (s.all || s.neg) := by
  unfold PSet.has inItems
  rw [if_neg]
  rw [List.any_eq_true]
  rintro ⟨x, hx, hd⟩
  obtain ⟨k, hk⟩ := List.mem_iff_getElem?.1 hx
  exact h k x hk (of_decide_eq_true hd)
end Go.Proofs.Ythlkcoiaahpmoaa
