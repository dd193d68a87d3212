/-
  Several facts, one behind the other; no condition but bounds: Patterns: what they mean, the machine that is made of one, and the reader as a plain function. No condition, no program. The reader reads on behind a bracket, and with more fuel, as it did. No condition, no program. The runes of texts that are put one behind the other; what some patterns mean. No condition, no program. What some written patterns are read as, and mean. No condition, no program. Parts of a machine one behind the other; how many steps a pattern comes to. No condition, no program. What a machine's places come to: reached without a rune, behind a rune. No condition, no program.
-/
import Derived.Test.YtccmekdmnkmhlaaGreatAid
import Derived.Test.YtccmekdmnkmhlaaGreatGlyphMath
namespace Go.Proofs.YtccmekdmnkmhlaaGreat

/-! ### Sets of runes, trees, and what they mean -/
structure PSet where
  all : Bool
  neg : Bool
  items : List (Int × Int)
def inItems (l : List (Int × Int)) (r : Int) : Bool := l.any fun x => decide (x.1 ≤ r ∧ r ≤ x.2)
def PSet.has (s : PSet) (r : Int) : Bool := if inItems s.items r then !s.neg else s.all || s.neg
inductive T where
  | one (s : PSet)
  | row0
  | rowS (l x : T)
  | alt1 (x : T)
  | altS (l x : T)
  | rep (x : T) (none again : Bool)
inductive Star (P : List Int → Prop) : List Int → Prop
  | nil : Star P []
  | cons {u v : List Int} : P u → Star P v → Star P (u ++ v)
def Lang : T → List Int → Prop
  | .one s, u => ∃ r, u = [r] ∧ s.has r = true
  | .row0, u => u = []
  | .rowS l x, u => ∃ a b, u = a ++ b ∧ Lang l a ∧ Lang x b
  | .alt1 x, u => Lang x u
  | .altS l x, u => Lang l u ∨ Lang x u
  | .rep x nn ag, u => if ag then (if nn then Star (Lang x) u else ∃ a b, u = a ++ b ∧ Lang x a ∧ Star (Lang x) b) else u = [] ∨ Lang x u

/-! ### The machine -/
structure Stp where
  s : PSet
  rune : Bool
  a : Int
  b : Int
/-- From p one comes to q, reading u, by n steps. -/
inductive PathN (F : List Stp) : Nat → Nat → List Int → Nat → Prop
  | refl (q : Nat) : PathN F 0 q [] q
  | eps {n p p' q : Nat} {u : List Int} {s : Stp} (h : F[p]? = some s) (hr : s.rune = false) (ha : s.a = (p' : Int) ∨ s.b = (p' : Int)) (t : PathN F n p' u q) : PathN F (n + 1) p u q
  | rune {n p p' q : Nat} {u : List Int} {s : Stp} {r : Int} (h : F[p]? = some s) (hr : s.rune = true) (hh : s.s.has r = true) (ha : s.a = (p' : Int)) (t : PathN F n p' u q) : PathN F (n + 1) p (r :: u) q
def Path (F : List Stp) (p : Nat) (u : List Int) (q : Nat) : Prop := ∃ n, PathN F n p u q
theorem path_refl (F : List Stp) (q : Nat) : Path F q [] q := ⟨0, .refl q⟩
theorem path_eps {F : List Stp} {p p' q : Nat} {u : List Int} {s : Stp} (h : F[p]? = some s) (hr : s.rune = false) (ha : s.a = (p' : Int) ∨ s.b = (p' : Int)) (t : Path F p' u q) : Path F p u q := by
  obtain ⟨n, t⟩ := t
  exact ⟨_, .eps h hr ha t⟩
theorem path_rune {F : List Stp} {p p' q : Nat} {u : List Int} {s : Stp} {r : Int} (h : F[p]? = some s) (hr : s.rune = true) (hh : s.s.has r = true) (ha : s.a = (p' : Int)) (t : Path F p' u q) : Path F p (r :: u) q := by
  obtain ⟨n, t⟩ := t
  exact ⟨_, .rune h hr hh ha t⟩
theorem path_trans {F : List Stp} {p m q : Nat} {u v : List Int} (h : Path F p u m) (k : Path F m v q) : Path F p (u ++ v) q := by
  obtain ⟨n, h⟩ := h
  induction h with
  | refl q' => exact k
  | eps h hr ha t ih => exact path_eps h hr ha (ih k)
  | rune h hr hh ha t ih => exact path_rune h hr hh ha (ih k)
/-- The last rune that is read. -/
theorem path_snoc {F : List Stp} {p q : Nat} {u : List Int} {r : Int} : Path F p (u ++ [r]) q ↔ ∃ (m : Nat) (s : Stp) (m' : Nat), Path F p u m ∧ F[m]? = some s ∧ s.rune = true ∧ s.s.has r = true ∧ s.a = (m' : Int) ∧ Path F m' [] q := by
  constructor
  · rintro ⟨n, h⟩
    obtain ⟨v, hv⟩ : ∃ v, v = u ++ [r] := ⟨_, rfl⟩
    rw [← hv] at h
    induction h generalizing u with
    | refl q' => simp at hv
    | eps h hr ha t ih =>
      obtain ⟨m, s, m', h1, h2⟩ := ih hv
      exact ⟨m, s, m', path_eps h hr ha h1, h2⟩
    | @rune n p p' q u' s r' h hr hh ha t ih =>
      cases u with
      | nil =>
        simp only [List.nil_append, List.cons.injEq] at hv
        obtain ⟨rfl, rfl⟩ := hv
        exact ⟨p, s, p', path_refl _ _, h, hr, hh, ha, ⟨_, t⟩⟩
      | cons c u =>
        simp only [List.cons_append, List.cons.injEq] at hv
        obtain ⟨rfl, rfl⟩ := hv
        obtain ⟨m, s2, m', h1, h2⟩ := ih rfl
        exact ⟨m, s2, m', path_rune h hr hh ha h1, h2⟩
  · rintro ⟨m, s, m', h1, h2, h3, h4, h5, h6⟩
    exact path_trans h1 (path_rune h2 h3 h4 h5 h6)

/-- A part of the machine: from a place on to another one. -/
def Frag (F : List Stp) (lo hi : Nat) : T → Nat → Nat → Prop
  | .one s, at', th => lo ≤ at' ∧ at' < hi ∧ ∃ b, F[at']? = some ⟨s, true, (th : Int), b⟩
  | .row0, at', th => at' = th
  | .rowS l x, at', th => ∃ mid, Frag F lo hi x mid th ∧ Frag F lo hi l at' mid
  | .alt1 x, at', th => Frag F lo hi x at' th
  | .altS l x, at', th => lo ≤ at' ∧ at' < hi ∧ ∃ (a b : Nat) (s : PSet), F[at']? = some ⟨s, false, (a : Int), (b : Int)⟩ ∧ Frag F lo hi l a th ∧ Frag F lo hi x b th
  | .rep x nn ag, at', th =>
    if ag then ∃ (turn a : Nat) (s : PSet), lo ≤ turn ∧ turn < hi ∧ F[turn]? = some ⟨s, false, (a : Int), (th : Int)⟩ ∧ Frag F lo hi x a turn ∧ at' = (if nn then turn else a)
    else lo ≤ at' ∧ at' < hi ∧ ∃ (a : Nat) (s : PSet), F[at']? = some ⟨s, false, (a : Int), (th : Int)⟩ ∧ Frag F lo hi x a th
theorem frag_mono {F F' : List Stp} {lo hi lo' hi' : Nat} (h1 : lo' ≤ lo) (h2 : hi ≤ hi') (h3 : ∀ i, lo ≤ i → i < hi → F'[i]? = F[i]?) : ∀ (x : T) (at' th : Nat), Frag F lo hi x at' th → Frag F' lo' hi' x at' th := by
  intro x
  induction x with
  | one s => intro at' th h; obtain ⟨a, b, c, d⟩ := h; exact ⟨by omega, by omega, c, by rw [h3 _ a b]; exact d⟩
  | row0 => intro at' th h; exact h
  | rowS l x ihl ihx => intro at' th h; obtain ⟨m, a, b⟩ := h; exact ⟨m, ihx _ _ a, ihl _ _ b⟩
  | alt1 x ih => intro at' th h; exact ih _ _ h
  | altS l x ihl ihx => intro at' th h; obtain ⟨a, b, c, d, s, e, f, g⟩ := h; exact ⟨by omega, by omega, c, d, s, by rw [h3 _ a b]; exact e, ihl _ _ f, ihx _ _ g⟩
  | rep x nn ag ih =>
    intro at' th h
    unfold Frag at h ⊢
    split
    · rename_i hag
      rw [if_pos hag] at h
      obtain ⟨t, a, s, b, c, d, e, f⟩ := h
      exact ⟨t, a, s, by omega, by omega, by rw [h3 _ b c]; exact d, ih _ _ e, f⟩
    · rename_i hag
      rw [if_neg hag] at h
      obtain ⟨b, c, a, s, d, e⟩ := h
      exact ⟨by omega, by omega, a, s, by rw [h3 _ b c]; exact d, ih _ _ e⟩
theorem frag_in {F : List Stp} {lo hi : Nat} : ∀ (x : T) (at' th : Nat) (u v : List Int) (q : Nat), Frag F lo hi x at' th → Lang x u → Path F th v q → Path F at' (u ++ v) q := by
  intro x
  induction x with
  | one s =>
    rintro at' th u v q ⟨_, _, b, hF⟩ ⟨r, rfl, hh⟩ k
    exact path_rune hF rfl hh rfl k
  | row0 =>
    intro at' th u v q h hu k
    obtain rfl : at' = th := h
    obtain rfl : u = [] := hu
    exact k
  | rowS l x ihl ihx =>
    rintro at' th u v q ⟨m, h1, h2⟩ ⟨a, b, rfl, ha, hb⟩ k
    rw [List.append_assoc]
    exact ihl _ _ _ _ _ h2 ha (ihx _ _ _ _ _ h1 hb k)
  | alt1 x ih => intro at' th u v q h hu k; exact ih _ _ _ _ _ h hu k
  | altS l x ihl ihx =>
    rintro at' th u v q ⟨_, _, a, b, s, hF, h1, h2⟩ hu k
    rcases hu with hu | hu
    · exact path_eps hF rfl (.inl rfl) (ihl _ _ _ _ _ h1 hu k)
    · exact path_eps hF rfl (.inr rfl) (ihx _ _ _ _ _ h2 hu k)
  | rep x nn ag ih =>
    intro at' th u v q h hu k
    unfold Frag at h
    unfold Lang at hu
    cases ag with
    | false =>
      obtain ⟨_, _, a, s, hF, h1⟩ := h
      rcases hu with rfl | hu
      · exact path_eps hF rfl (.inr rfl) k
      · exact path_eps hF rfl (.inl rfl) (ih _ _ _ _ _ h1 hu k)
    | true =>
      simp only [if_true] at h hu
      obtain ⟨t, a, s, _, _, hF, h1, h2⟩ := h
      have hst : ∀ {w}, Star (Lang x) w → Path F t (w ++ v) q := by
        intro w hw
        induction hw with
        | nil => exact path_eps hF rfl (.inr rfl) k
        | cons hu _ ih2 =>
          rw [List.append_assoc]
          exact path_eps hF rfl (.inl rfl) (ih _ _ _ _ _ h1 hu ih2)
      cases nn with
      | true => obtain rfl : at' = t := h2; exact hst hu
      | false =>
        obtain rfl : at' = a := h2
        obtain ⟨y, z, rfl, hy, hz⟩ := hu
        rw [List.append_assoc]
        exact ih _ _ _ _ _ h1 hy (hst hz)
theorem frag_out {F : List Stp} {lo hi : Nat} (hlo : 1 ≤ lo) : ∀ (x : T) (at' th : Nat) (n : Nat) (u : List Int), Frag F lo hi x at' th → PathN F n at' u 0 → ∃ u1 u2 m, u = u1 ++ u2 ∧ Lang x u1 ∧ PathN F m th u2 0 ∧ m ≤ n := by
  intro x
  induction x with
  | one s =>
    rintro at' th n u ⟨h0, _, b, hF⟩ h
    cases h with
    | refl => omega
    | eps h hr ha t => rw [hF] at h; obtain rfl := Option.some.inj h; cases hr
    | @rune n _ p' _ u' s' r h hr hh ha t =>
      rw [hF] at h
      obtain rfl := Option.some.inj h
      have e : th = p' := by have e2 : (th : Int) = p' := ha; omega
      subst e
      exact ⟨[r], u', n, rfl, ⟨r, rfl, hh⟩, t, by omega⟩
  | row0 =>
    intro at' th n u h k
    obtain rfl : at' = th := h
    exact ⟨[], u, n, rfl, rfl, k, Nat.le_refl _⟩
  | rowS l x ihl ihx =>
    rintro at' th n u ⟨m, h1, h2⟩ k
    obtain ⟨u1, u2, n2, rfl, hl, k2, hn⟩ := ihl _ _ _ _ h2 k
    obtain ⟨u3, u4, n3, rfl, hx, k3, hn3⟩ := ihx _ _ _ _ h1 k2
    exact ⟨u1 ++ u3, u4, n3, by rw [List.append_assoc], ⟨u1, u3, rfl, hl, hx⟩, k3, by omega⟩
  | alt1 x ih => intro at' th n u h k; exact ih _ _ _ _ h k
  | altS l x ihl ihx =>
    rintro at' th n u ⟨h0, _, a, b, s, hF, h1, h2⟩ k
    cases k with
    | refl => omega
    | rune h hr hh ha t => rw [hF] at h; obtain rfl := Option.some.inj h; cases hr
    | @eps n _ p' _ _ s' h hr ha t =>
      rw [hF] at h
      obtain rfl := Option.some.inj h
      rcases ha with ha | ha
      · have e : a = p' := by have e2 : (a : Int) = p' := ha; omega
        subst e
        obtain ⟨u1, u2, m, rfl, hl, k2, hm⟩ := ihl _ _ _ _ h1 t
        exact ⟨u1, u2, m, rfl, .inl hl, k2, by omega⟩
      · have e : b = p' := by have e2 : (b : Int) = p' := ha; omega
        subst e
        obtain ⟨u1, u2, m, rfl, hl, k2, hm⟩ := ihx _ _ _ _ h2 t
        exact ⟨u1, u2, m, rfl, .inr hl, k2, by omega⟩
  | rep x nn ag ih =>
    intro at' th n u h k
    unfold Frag at h
    cases ag with
    | false =>
      obtain ⟨h0, _, a, s, hF, h1⟩ := h
      cases k with
      | refl => omega
      | rune h hr hh ha t => rw [hF] at h; obtain rfl := Option.some.inj h; cases hr
      | @eps n _ p' _ _ s' h hr ha t =>
        rw [hF] at h
        obtain rfl := Option.some.inj h
        rcases ha with ha | ha
        · have e : a = p' := by have e2 : (a : Int) = p' := ha; omega
          subst e
          obtain ⟨u1, u2, m, rfl, hl, k2, hm⟩ := ih _ _ _ _ h1 t
          exact ⟨u1, u2, m, rfl, .inr hl, k2, by omega⟩
        · have e : th = p' := by have e2 : (th : Int) = p' := ha; omega
          subst e
          exact ⟨[], u, n, rfl, .inl rfl, t, by omega⟩
    | true =>
      simp only [if_true] at h
      obtain ⟨tn, a, s, h0, _, hF, h1, h2⟩ := h
      have hturn : ∀ (n : Nat) (u : List Int), PathN F n tn u 0 → ∃ u1 u2 m, u = u1 ++ u2 ∧ Star (Lang x) u1 ∧ PathN F m th u2 0 ∧ m ≤ n := by
        intro n
        induction n using Nat.strongRecOn with
        | ind n ihn =>
          intro u k
          cases k with
          | refl => omega
          | rune h hr hh ha t => rw [hF] at h; obtain rfl := Option.some.inj h; cases hr
          | @eps n' _ p' _ _ s' h hr ha t =>
            rw [hF] at h
            obtain rfl := Option.some.inj h
            rcases ha with ha | ha
            · have e : a = p' := by have e2 : (a : Int) = p' := ha; omega
              subst e
              obtain ⟨u1, u2, m, rfl, hl, k2, hm⟩ := ih _ _ _ _ h1 t
              obtain ⟨u3, u4, m2, rfl, hs, k3, hm2⟩ := ihn m (by omega) _ k2
              exact ⟨u1 ++ u3, u4, m2, by rw [List.append_assoc], .cons hl hs, k3, by omega⟩
            · have e : th = p' := by have e2 : (th : Int) = p' := ha; omega
              subst e
              exact ⟨[], u, n', rfl, .nil, t, by omega⟩
      unfold Lang
      cases nn with
      | true =>
        obtain rfl : at' = tn := h2
        obtain ⟨u1, u2, m, e, hs, k2, hm⟩ := hturn n u k
        exact ⟨u1, u2, m, e, hs, k2, hm⟩
      | false =>
        obtain rfl : at' = a := h2
        obtain ⟨u1, u2, m, rfl, hl, k2, hm⟩ := ih _ _ _ _ h1 k
        obtain ⟨u3, u4, m2, rfl, hs, k3, hm2⟩ := hturn m u2 k2
        exact ⟨u1 ++ u3, u4, m2, by rw [List.append_assoc], ⟨u1, u3, rfl, hl, hs⟩, k3, by omega⟩
/-- The whole machine. -/
structure Mach (F : List Stp) (first : Nat) (x : T) : Prop where
  stop : ∃ s, F[0]? = some ⟨s, false, -1, -1⟩
  frag : Frag F 1 F.length x first 0
theorem mach_lang {F : List Stp} {first : Nat} {x : T} (h : Mach F first x) (u : List Int) : Path F first u 0 ↔ Lang x u := by
  constructor
  · rintro ⟨n, k⟩
    obtain ⟨u1, u2, m, rfl, hl, k2, _⟩ := frag_out (Nat.le_refl _) x _ _ _ _ h.frag k
    obtain ⟨s, hs⟩ := h.stop
    cases k2 with
    | refl => rw [List.append_nil]; exact hl
    | eps h hr ha t =>
      rw [hs] at h
      obtain rfl := Option.some.inj h
      rcases ha with ha | ha <;> (simp only at ha; omega)
    | rune h hr hh ha t => rw [hs] at h; obtain rfl := Option.some.inj h; cases hr
  · intro hl
    have := frag_in x _ _ u [] 0 h.frag hl (path_refl _ _)
    rwa [List.append_nil] at this

/-! ### The reader, with fuel; none: it is no pattern -/
abbrev Rs := List Int
def pMember : Rs → Option (Int × Rs)
  | [] => none
  | c :: t => if c = 92 then (match t with | [] => none | d :: t2 => some (d, t2)) else some (c, t)
/-- A range's end, if there is one. -/
def pTo (a : Int) (l : Rs) : Option (Int × Rs) :=
  match l with
  | c :: d :: t => if c = 45 ∧ d ≠ 93 then pMember (d :: t) else some (a, l)
  | _ => some (a, l)
def pItems : Nat → Bool → List (Int × Int) → Rs → Option (PSet × Rs)
  | 0, _, _, _ => none
  | n + 1, neg, its, l =>
    match l with
    | [] => none
    | c :: t =>
      if c = 93 then (if its = [] then none else some (⟨false, neg, its⟩, t))
      else match pMember l with
        | none => none
        | some (a, l1) =>
          match pTo a l1 with
          | none => none
          | some (b, l2) => if a ≤ b then pItems n neg (its ++ [(a, b)]) l2 else none
def pClass (n : Nat) (l : Rs) : Option (PSet × Rs) :=
  match l with
  | [] => none
  | c :: t => if c = 94 then pItems n true [] t else pItems n false [] l
def pTimes (x : T) (l : Rs) : T × Rs :=
  match l with
  | [] => (x, [])
  | c :: t => if c = 42 then (.rep x true true, t) else if c = 43 then (.rep x false true, t) else if c = 63 then (.rep x true false, t) else (x, l)
def barred (c : Int) : Bool := decide (c = 42 ∨ c = 43 ∨ c = 63 ∨ c = 124 ∨ c = 41 ∨ c = 93)
def oneOf (c : Int) : T := .one ⟨false, false, [(c, c)]⟩
mutual
def pAlt : Nat → Rs → Option (T × Rs)
  | 0, _ => none
  | n + 1, l =>
    match pRow n .row0 l with
    | none => none
    | some (x, l1) => pAlts n (.alt1 x) l1
def pAlts : Nat → T → Rs → Option (T × Rs)
  | 0, _, _ => none
  | n + 1, x, l =>
    match l with
    | [] => some (x, [])
    | c :: t =>
      if c = 124 then
        match pRow n .row0 t with
        | none => none
        | some (y, l1) => pAlts n (.altS x y) l1
      else some (x, l)
def pRow : Nat → T → Rs → Option (T × Rs)
  | 0, _, _ => none
  | n + 1, x, l =>
    match l with
    | [] => some (x, [])
    | c :: _ =>
      if c = 124 ∨ c = 41 then some (x, l)
      else match pAtom n l with
        | none => none
        | some (y, l1) => pRow n (.rowS x (pTimes y l1).1) (pTimes y l1).2
def pAtom : Nat → Rs → Option (T × Rs)
  | 0, _ => none
  | n + 1, l =>
    match l with
    | [] => none
    | c :: t =>
      if c = 40 then
        match pAlt n t with
        | none => none
        | some (x, l1) =>
          match l1 with
          | [] => none
          | d :: l2 => if d = 41 then some (x, l2) else none
      else if c = 91 then
        match pClass n t with
        | none => none
        | some (s, l1) => some (.one s, l1)
      else if c = 46 then some (.one ⟨true, false, []⟩, t)
      else if c = 92 then
        match t with
        | [] => none
        | d :: l2 => some (oneOf d, l2)
      else if barred c then none
      else some (oneOf c, t)
end
theorem pItems_eq (n : Nat) (neg : Bool) (its : List (Int × Int)) (l : Rs) : pItems (n + 1) neg its l =
    match l with
    | [] => none
    | c :: t =>
      if c = 93 then (if its = [] then none else some (⟨false, neg, its⟩, t))
      else match pMember l with
        | none => none
        | some (a, l1) =>
          match pTo a l1 with
          | none => none
          | some (b, l2) => if a ≤ b then pItems n neg (its ++ [(a, b)]) l2 else none := by cases l <;> rfl
theorem pAlts_eq (n : Nat) (x : T) (l : Rs) : pAlts (n + 1) x l =
    match l with
    | [] => some (x, [])
    | c :: t =>
      if c = 124 then
        match pRow n .row0 t with
        | none => none
        | some (y, l1) => pAlts n (.altS x y) l1
      else some (x, l) := by cases l <;> rfl
theorem pRow_eq (n : Nat) (x : T) (l : Rs) : pRow (n + 1) x l =
    match l with
    | [] => some (x, [])
    | c :: _ =>
      if c = 124 ∨ c = 41 then some (x, l)
      else match pAtom n l with
        | none => none
        | some (y, l1) => pRow n (.rowS x (pTimes y l1).1) (pTimes y l1).2 := by cases l <;> rfl
theorem pAtom_eq (n : Nat) (l : Rs) : pAtom (n + 1) l =
    match l with
    | [] => none
    | c :: t =>
      if c = 40 then
        match pAlt n t with
        | none => none
        | some (x, l1) =>
          match l1 with
          | [] => none
          | d :: l2 => if d = 41 then some (x, l2) else none
      else if c = 91 then
        match pClass n t with
        | none => none
        | some (s, l1) => some (.one s, l1)
      else if c = 46 then some (.one ⟨true, false, []⟩, t)
      else if c = 92 then
        match t with
        | [] => none
        | d :: l2 => some (oneOf d, l2)
      else if barred c then none
      else some (oneOf c, t) := by cases l <;> rfl
end Go.Proofs.YtccmekdmnkmhlaaGreat
namespace Go.Proofs.YtccmekdmnkmhlaaGreat

/-! ### More fuel -/
theorem pItems_mono : ∀ (n : Nat) (neg : Bool) (its : List (Int × Int)) (l : Rs) (r : PSet × Rs), pItems n neg its l = some r → pItems (n + 1) neg its l = some r := by
  intro n
  induction n with
  | zero => intro neg its l r h; simp [pItems] at h
  | succ n ih =>
    intro neg its l r h
    rw [pItems_eq] at h ⊢
    cases l with
    | nil => exact h
    | cons c t =>
      simp only at h ⊢
      split
      · rename_i hc; rw [if_pos hc] at h; exact h
      · rename_i hc
        rw [if_neg hc] at h
        cases hm : pMember (c :: t) with
        | none => rw [hm] at h; cases h
        | some am =>
          rw [hm] at h
          obtain ⟨a, l1⟩ := am
          simp only at h ⊢
          cases ht : pTo a l1 with
          | none => rw [ht] at h; cases h
          | some bl =>
            rw [ht] at h
            obtain ⟨b, l2⟩ := bl
            simp only at h ⊢
            split
            · rename_i hab; rw [if_pos hab] at h; exact ih _ _ _ _ h
            · rename_i hab; rw [if_neg hab] at h; cases h
theorem pClass_mono (n : Nat) (l : Rs) (r : PSet × Rs) (h : pClass n l = some r) : pClass (n + 1) l = some r := by
  unfold pClass at h ⊢
  cases l with
  | nil => exact h
  | cons c t =>
    simp only at h ⊢
    split
    · rename_i hc; rw [if_pos hc] at h; exact pItems_mono _ _ _ _ _ h
    · rename_i hc; rw [if_neg hc] at h; exact pItems_mono _ _ _ _ _ h
theorem pMono : ∀ (n : Nat), (∀ l r, pAlt n l = some r → pAlt (n + 1) l = some r) ∧ (∀ x l r, pAlts n x l = some r → pAlts (n + 1) x l = some r) ∧ (∀ x l r, pRow n x l = some r → pRow (n + 1) x l = some r) ∧ (∀ l r, pAtom n l = some r → pAtom (n + 1) l = some r) := by
  intro n
  induction n with
  | zero =>
    refine ⟨fun l r h => ?_, fun x l r h => ?_, fun x l r h => ?_, fun l r h => ?_⟩
    · simp [pAlt] at h
    · simp [pAlts] at h
    · simp [pRow] at h
    · simp [pAtom] at h
  | succ n ih =>
    obtain ⟨i1, i2, i3, i4⟩ := ih
    refine ⟨fun l r h => ?_, fun x l r h => ?_, fun x l r h => ?_, fun l r h => ?_⟩
    · rw [pAlt] at h ⊢
      cases hr : pRow n .row0 l with
      | none => rw [hr] at h; cases h
      | some q => rw [hr] at h; rw [i3 _ _ _ hr]; exact i2 _ _ _ h
    · rw [pAlts_eq] at h ⊢
      cases l with
      | nil => exact h
      | cons c t =>
        simp only at h ⊢
        split
        · rename_i hc
          rw [if_pos hc] at h
          cases hr : pRow n .row0 t with
          | none => rw [hr] at h; cases h
          | some q => rw [hr] at h; rw [i3 _ _ _ hr]; exact i2 _ _ _ h
        · rename_i hc; rw [if_neg hc] at h; exact h
    · rw [pRow_eq] at h ⊢
      cases l with
      | nil => exact h
      | cons c t =>
        simp only at h ⊢
        split
        · rename_i hc; rw [if_pos hc] at h; exact h
        · rename_i hc
          rw [if_neg hc] at h
          cases hr : pAtom n (c :: t) with
          | none => rw [hr] at h; cases h
          | some q => rw [hr] at h; rw [i4 _ _ hr]; exact i3 _ _ _ h
    · rw [pAtom_eq] at h ⊢
      cases l with
      | nil => exact h
      | cons c t =>
        simp only at h ⊢
        split
        · rename_i hc
          rw [if_pos hc] at h
          cases hr : pAlt n t with
          | none => rw [hr] at h; cases h
          | some q => rw [hr] at h; rw [i1 _ _ hr]; exact h
        · rename_i hc
          rw [if_neg hc] at h
          split
          · rename_i hc2
            rw [if_pos hc2] at h
            cases hr : pClass n t with
            | none => rw [hr] at h; cases h
            | some q => rw [hr] at h; rw [pClass_mono _ _ _ hr]; exact h
          · rename_i hc2; rw [if_neg hc2] at h; exact h
theorem pAlt_more {n m : Nat} {l : Rs} {r : T × Rs} (h : pAlt n l = some r) (hm : n ≤ m) : pAlt m l = some r := by
  induction hm with
  | refl => exact h
  | step _ ih => exact (pMono _).1 _ _ ih

/-! ### More behind it -/
theorem pMember_ext {l : Rs} {a : Int} {l1 e : Rs} (h : pMember l = some (a, l1)) : pMember (l ++ e) = some (a, l1 ++ e) := by
  cases l with
  | nil => simp [pMember] at h
  | cons c t =>
    simp only [pMember, List.cons_append] at h ⊢
    split
    · rename_i hc
      rw [if_pos hc] at h
      cases t with
      | nil => simp at h
      | cons d t2 => simp at h ⊢; exact ⟨h.1, by rw [h.2]⟩
    · rename_i hc
      rw [if_neg hc] at h
      simp at h ⊢
      exact ⟨h.1, by rw [h.2]⟩
theorem pTo_ext {l : Rs} {a b : Int} {l2 e : Rs} (h : pTo a l = some (b, l2)) (hl : l ≠ [45]) : pTo a (l ++ 41 :: e) = some (b, l2 ++ 41 :: e) := by
  match l, h, hl with
  | [], h, _ =>
    simp only [pTo, Option.some.injEq, Prod.mk.injEq] at h
    obtain ⟨rfl, rfl⟩ := h
    cases e with
    | nil => rfl
    | cons d t => simp [pTo]
  | [c], h, hl =>
    simp only [pTo, Option.some.injEq, Prod.mk.injEq] at h
    obtain ⟨rfl, rfl⟩ := h
    have hc : c ≠ 45 := fun e => hl (by rw [e])
    simp [pTo, hc]
  | c :: d :: t, h, _ =>
    simp only [pTo, List.cons_append] at h ⊢
    split
    · rename_i hc
      rw [if_pos hc] at h
      exact pMember_ext (l := d :: t) h
    · rename_i hc
      rw [if_neg hc] at h
      simp at h ⊢
      exact ⟨h.1, by rw [← h.2]; rfl⟩
theorem pItems_dash (n : Nat) (neg : Bool) (its : List (Int × Int)) : pItems n neg its [45] = none := by
  cases n with
  | zero => rfl
  | succ n =>
    rw [pItems]
    simp only [pMember, pTo]
    cases n with
    | zero => simp [pItems]
    | succ n => simp [pItems]
theorem pItems_ext : ∀ (n : Nat) (neg : Bool) (its : List (Int × Int)) (l : Rs) (s : PSet) (l' e : Rs), pItems n neg its l = some (s, l') → pItems n neg its (l ++ 41 :: e) = some (s, l' ++ 41 :: e) := by
  intro n
  induction n with
  | zero => intro neg its l s l' e h; simp [pItems] at h
  | succ n ih =>
    intro neg its l s l' e h
    rw [pItems_eq] at h ⊢
    cases l with
    | nil => simp at h
    | cons c t =>
      simp only [List.cons_append] at h ⊢
      split
      · rename_i hc
        rw [if_pos hc] at h
        split
        · rename_i hi; rw [if_pos hi] at h; cases h
        · rename_i hi
          rw [if_neg hi] at h
          simp only [Option.some.injEq, Prod.mk.injEq] at h ⊢
          exact ⟨h.1, by rw [h.2]⟩
      · rename_i hc
        rw [if_neg hc] at h
        cases hm : pMember (c :: t) with
        | none => rw [hm] at h; cases h
        | some am =>
          rw [hm] at h
          obtain ⟨a, l1⟩ := am
          have hm2 := pMember_ext (e := 41 :: e) hm
          rw [List.cons_append] at hm2
          rw [hm2]
          simp only at h ⊢
          by_cases hl : l1 = [45]
          · subst hl
            exfalso
            have : pTo a [45] = some (a, [45]) := rfl
            rw [this] at h
            simp only [Int.le_refl, if_true, pItems_dash] at h
            cases h
          cases ht : pTo a l1 with
          | none => rw [ht] at h; cases h
          | some bl =>
            rw [ht] at h
            obtain ⟨b, l2⟩ := bl
            rw [pTo_ext ht hl]
            simp only at h ⊢
            split
            · rename_i hab; rw [if_pos hab] at h; exact ih _ _ _ _ _ _ h
            · rename_i hab; rw [if_neg hab] at h; cases h
theorem pClass_ext {n : Nat} {l : Rs} {s : PSet} {l' e : Rs} (h : pClass n l = some (s, l')) : pClass n (l ++ 41 :: e) = some (s, l' ++ 41 :: e) := by
  unfold pClass at h ⊢
  cases l with
  | nil => simp at h
  | cons c t =>
    simp only [List.cons_append] at h ⊢
    split
    · rename_i hc; rw [if_pos hc] at h; exact pItems_ext _ _ _ _ _ _ _ h
    · rename_i hc; rw [if_neg hc] at h; exact pItems_ext _ _ _ _ _ _ _ h
theorem pTimes_ext (x : T) (l e : Rs) : (pTimes x (l ++ 41 :: e)).1 = (pTimes x l).1 ∧ (pTimes x (l ++ 41 :: e)).2 = (pTimes x l).2 ++ 41 :: e := by
  cases l with
  | nil => simp [pTimes]
  | cons c t =>
    simp only [pTimes, List.cons_append]
    split
    · exact ⟨rfl, rfl⟩
    · split
      · exact ⟨rfl, rfl⟩
      · split
        · exact ⟨rfl, rfl⟩
        · exact ⟨rfl, rfl⟩
theorem pExt : ∀ (n : Nat), (∀ l x l' e, pAlt n l = some (x, l') → pAlt n (l ++ 41 :: e) = some (x, l' ++ 41 :: e)) ∧ (∀ y l x l' e, pAlts n y l = some (x, l') → pAlts n y (l ++ 41 :: e) = some (x, l' ++ 41 :: e)) ∧ (∀ y l x l' e, pRow n y l = some (x, l') → pRow n y (l ++ 41 :: e) = some (x, l' ++ 41 :: e)) ∧ (∀ l x l' e, pAtom n l = some (x, l') → pAtom n (l ++ 41 :: e) = some (x, l' ++ 41 :: e)) := by
  intro n
  induction n with
  | zero =>
    refine ⟨fun l x l' e h => ?_, fun y l x l' e h => ?_, fun y l x l' e h => ?_, fun l x l' e h => ?_⟩
    · simp [pAlt] at h
    · simp [pAlts] at h
    · simp [pRow] at h
    · simp [pAtom] at h
  | succ n ih =>
    obtain ⟨i1, i2, i3, i4⟩ := ih
    refine ⟨fun l x l' e h => ?_, fun y l x l' e h => ?_, fun y l x l' e h => ?_, fun l x l' e h => ?_⟩
    · rw [pAlt] at h ⊢
      cases hr : pRow n .row0 l with
      | none => rw [hr] at h; cases h
      | some q => obtain ⟨q1, q2⟩ := q; rw [hr] at h; rw [i3 _ _ _ _ e hr]; exact i2 _ _ _ _ _ h
    · rw [pAlts_eq] at h ⊢
      cases l with
      | nil =>
        simp only [Option.some.injEq, Prod.mk.injEq] at h
        obtain ⟨rfl, rfl⟩ := h
        simp
      | cons c t =>
        simp only [List.cons_append] at h ⊢
        split
        · rename_i hc
          rw [if_pos hc] at h
          cases hr : pRow n .row0 t with
          | none => rw [hr] at h; cases h
          | some q => obtain ⟨q1, q2⟩ := q; rw [hr] at h; rw [i3 _ _ _ _ e hr]; exact i2 _ _ _ _ _ h
        · rename_i hc
          rw [if_neg hc] at h
          simp only [Option.some.injEq, Prod.mk.injEq] at h ⊢
          exact ⟨h.1, by rw [← h.2]; rfl⟩
    · rw [pRow_eq] at h ⊢
      cases l with
      | nil =>
        simp only [Option.some.injEq, Prod.mk.injEq] at h
        obtain ⟨rfl, rfl⟩ := h
        simp
      | cons c t =>
        simp only [List.cons_append] at h ⊢
        split
        · rename_i hc
          rw [if_pos hc] at h
          simp only [Option.some.injEq, Prod.mk.injEq] at h ⊢
          exact ⟨h.1, by rw [← h.2]; rfl⟩
        · rename_i hc
          rw [if_neg hc] at h
          cases hr : pAtom n (c :: t) with
          | none => rw [hr] at h; cases h
          | some q =>
            obtain ⟨q1, q2⟩ := q
            rw [hr] at h
            have h4 := i4 _ _ _ e hr
            rw [List.cons_append] at h4
            rw [h4]
            simp only at h ⊢
            obtain ⟨t1, t2⟩ := pTimes_ext q1 q2 e
            rw [t1, t2]
            exact i3 _ _ _ _ _ h
    · rw [pAtom_eq] at h ⊢
      cases l with
      | nil => simp at h
      | cons c t =>
        simp only [List.cons_append] at h ⊢
        split
        · rename_i hc
          rw [if_pos hc] at h
          cases hr : pAlt n t with
          | none => rw [hr] at h; cases h
          | some q =>
            obtain ⟨q1, q2⟩ := q
            rw [hr] at h
            rw [i1 _ _ _ e hr]
            cases q2 with
            | nil => simp at h
            | cons d t2 =>
              simp only [List.cons_append] at h ⊢
              split
              · rename_i hd
                rw [if_pos hd] at h
                simp only [Option.some.injEq, Prod.mk.injEq] at h ⊢
                exact ⟨h.1, by rw [h.2]⟩
              · rename_i hd; rw [if_neg hd] at h; cases h
        · rename_i hc
          rw [if_neg hc] at h
          split
          · rename_i hc2
            rw [if_pos hc2] at h
            cases hr : pClass n t with
            | none => rw [hr] at h; cases h
            | some q =>
              obtain ⟨q1, q2⟩ := q
              rw [hr] at h
              rw [pClass_ext hr]
              simp only [Option.some.injEq, Prod.mk.injEq] at h ⊢
              exact ⟨h.1, by rw [h.2]⟩
          · rename_i hc2
            rw [if_neg hc2] at h
            split
            · rename_i hc3
              rw [if_pos hc3] at h
              simp only [Option.some.injEq, Prod.mk.injEq] at h ⊢
              exact ⟨h.1, by rw [h.2]⟩
            · rename_i hc3
              rw [if_neg hc3] at h
              split
              · rename_i hc4
                rw [if_pos hc4] at h
                cases t with
                | nil => simp at h
                | cons d t2 =>
                  simp only [List.cons_append, Option.some.injEq, Prod.mk.injEq] at h ⊢
                  exact ⟨h.1, by rw [h.2]⟩
              · rename_i hc4
                rw [if_neg hc4] at h
                split
                · rename_i hc5; rw [if_pos hc5] at h; cases h
                · rename_i hc5
                  rw [if_neg hc5] at h
                  simp only [Option.some.injEq, Prod.mk.injEq] at h ⊢
                  exact ⟨h.1, by rw [h.2]⟩
end Go.Proofs.YtccmekdmnkmhlaaGreat
namespace Go.Proofs.YtccmekdmnkmhlaaGreat
open Go.Lib (decodeL encodeRune decodeL_width decodeL_le decodeN decodeL_N)

/-! ### Runes -/
def runesOf (l : List UInt8) : List Int := (chunks l).map fun c => (c.1 : Int)
theorem decodeL_tail {l : List UInt8} (h : l ≠ []) (c : UInt8) (hc : c.toNat < 128) (t : List UInt8) : decodeL (l ++ c :: t) = decodeL l := by
  rw [decodeL_N, decodeL_N]
  match l, h with
  | [b0], _ =>
    simp only [List.cons_append, List.nil_append, List.length_cons, List.length_nil, List.getD_cons_zero, List.getD_cons_succ]
    unfold decodeN
    have : ¬ c.toNat / 64 = 2 := by omega
    simp [this]
  | [b0, b1], _ =>
    simp only [List.cons_append, List.nil_append, List.length_cons, List.length_nil, List.getD_cons_zero, List.getD_cons_succ]
    unfold decodeN
    have : ¬ c.toNat / 64 = 2 := by omega
    simp [this]
  | [b0, b1, b2], _ =>
    simp only [List.cons_append, List.nil_append, List.length_cons, List.length_nil, List.getD_cons_zero, List.getD_cons_succ]
    unfold decodeN
    have : ¬ c.toNat / 64 = 2 := by omega
    simp [this]
  | b0 :: b1 :: b2 :: b3 :: r, _ =>
    simp only [List.cons_append, List.length_cons, List.length_append, List.getD_cons_zero, List.getD_cons_succ]
    unfold decodeN
    have h1 : 1 < (r.length + (t.length + 1)) + 1 + 1 + 1 + 1 := by omega
    have h2 : 2 < (r.length + (t.length + 1)) + 1 + 1 + 1 + 1 := by omega
    have h3 : 3 < (r.length + (t.length + 1)) + 1 + 1 + 1 + 1 := by omega
    have k1 : 1 < r.length + 1 + 1 + 1 + 1 := by omega
    have k2 : 2 < r.length + 1 + 1 + 1 + 1 := by omega
    have k3 : 3 < r.length + 1 + 1 + 1 + 1 := by omega
    simp only [h1, h2, h3, k1, k2, k3, true_and]
theorem chunks_tail (c : UInt8) (hc : c.toNat < 128) (t : List UInt8) : ∀ l : List UInt8, chunks (l ++ c :: t) = chunks l ++ chunks (c :: t) := by
  refine chunk_ind ?_ ?_
  · rfl
  · intro l hl ih
    have hne : l ++ c :: t ≠ [] := by simp
    rw [chunks_cons hne, chunks_cons hl, List.cons_append]
    have hd := decodeL_tail hl c hc t
    have hle := decodeL_le _ hl
    have e1 : headC (l ++ c :: t) = headC l := by
      unfold headC
      rw [hd, List.take_append_of_le_length hle]
    rw [e1, hd, List.drop_append_of_le_length hle, ih]
theorem runes_tail (l : List UInt8) (c : UInt8) (hc : c.toNat < 128) (t : List UInt8) : runesOf (l ++ c :: t) = runesOf l ++ runesOf (c :: t) := by
  unfold runesOf
  rw [chunks_tail c hc, List.map_append]
theorem chunks_one (c : UInt8) (hc : c.toNat < 128) (t : List UInt8) : chunks (c :: t) = (c.toNat, [c]) :: chunks t := by
  have hd : decodeL (c :: t) = (c.toNat, 1) := by
    rw [decodeL_N]
    simp only [List.getD_cons_zero]
    unfold decodeN
    rw [if_pos hc]
  rw [chunks_cons (by simp)]
  unfold headC
  rw [hd]
  rfl
theorem runes_cons (c : UInt8) (hc : c.toNat < 128) (t : List UInt8) : runesOf (c :: t) = (c.toNat : Int) :: runesOf t := by
  unfold runesOf
  rw [chunks_one c hc]
  rfl
theorem runes_nil : runesOf [] = [] := rfl
theorem runes_len (l : List UInt8) : (runesOf l).length = (chunks l).length := by simp [runesOf]
theorem runes_le (l : List UInt8) : (runesOf l).length ≤ l.length := by rw [runes_len]; exact chunks_len l
theorem runes_ok {l : List UInt8} {r : Int} (h : r ∈ runesOf l) : RuneOk r := by
  unfold runesOf at h
  obtain ⟨c, hc, rfl⟩ := List.mem_map.1 h
  exact chunk_rune hc
theorem runes_encs (rs : List Int) (h : ∀ r ∈ rs, RuneOk r) (t : List UInt8) : runesOf (encs rs ++ t) = rs ++ runesOf t := by
  unfold runesOf
  rw [chunks_encs, List.map_append, List.map_map]
  congr 1
  have : ∀ r ∈ rs, ((fun c : Nat × List UInt8 => (c.1 : Int)) ∘ fun r => ((fixR r).toNat, encodeRune r)) r = r := fun r hr => by
    have hk := h r hr
    show (((fixR r).toNat : Nat) : Int) = r
    rw [fixR_of hk]
    have := hk.1
    omega
  conv => rhs; rw [← List.map_id rs]
  exact List.map_congr_left this
theorem runes_encs0 (rs : List Int) (h : ∀ r ∈ rs, RuneOk r) : runesOf (encs rs) = rs := by
  have := runes_encs rs h []
  rwa [List.append_nil, runes_nil, List.append_nil] at this
theorem runes_empty {l : List UInt8} (h : runesOf l = []) : l = [] := by
  have h1 : (chunks l).length = 0 := by rw [← runes_len, h]; rfl
  have h2 := chunks_join l
  rw [List.eq_nil_of_length_eq_zero h1] at h2
  exact h2.symm

/-! ### What patterns mean -/
/-- Is this the pattern of these runes? -/
def Parses (rs : List Int) (x : T) : Prop := ∃ n, pAlt n rs = some (x, [])
theorem star_one {P : List Int → Prop} {u : List Int} (h : P u) : Star P u := by
  have := Star.cons h Star.nil
  rwa [List.append_nil] at this
theorem lang_row {xs : List T} {x : T} {u : List Int} : Lang (xs.foldl .rowS x) u ↔ ∃ a b, u = a ++ b ∧ Lang x a ∧ Lang (xs.foldl .rowS .row0) b := by
  suffices h : ∀ (xs : List T) (x : T) (u : List Int), Lang (xs.foldl .rowS x) u ↔ ∃ a b, u = a ++ b ∧ Lang x a ∧ Lang (xs.foldl .rowS .row0) b from h xs x u
  intro xs
  induction xs with
  | nil =>
    intro x u
    constructor
    · intro h; exact ⟨u, [], by simp, h, rfl⟩
    · rintro ⟨a, b, rfl, ha, hb⟩
      obtain rfl : b = [] := hb
      rw [List.append_nil]; exact ha
  | cons y ys ih =>
    intro x u
    simp only [List.foldl_cons]
    rw [ih]
    constructor
    · rintro ⟨a, b, rfl, ⟨c, d, rfl, hc, hd⟩, hb⟩
      exact ⟨c, d ++ b, by simp, hc, (ih (.rowS .row0 y) (d ++ b)).2 ⟨d, b, rfl, ⟨[], d, rfl, rfl, hd⟩, hb⟩⟩
    · rintro ⟨a, b, rfl, ha, hb⟩
      obtain ⟨c, d, rfl, ⟨e, f, rfl, he, hf⟩, hd⟩ := (ih (.rowS .row0 y) b).1 hb
      obtain rfl : e = [] := he
      exact ⟨a ++ f, d, by simp, ⟨a, f, rfl, ha, by simpa using hf⟩, hd⟩
/-- A pattern in brackets, and what stands behind it. -/
theorem atom_group {n : Nat} {rs : List Int} {x : T} (h : pAlt n rs = some (x, [])) (e : List Int) : pAtom (n + 1) (40 :: (rs ++ 41 :: e)) = some (x, e) := by
  have h1 := (pExt n).1 _ _ _ e h
  rw [pAtom_eq]
  simp [h1]
theorem times_none (x : T) {e : List Int} (h : ∀ c t, e = c :: t → c ≠ 42 ∧ c ≠ 43 ∧ c ≠ 63) : pTimes x e = (x, e) := by
  cases e with
  | nil => rfl
  | cons c t =>
    obtain ⟨h1, h2, h3⟩ := h c t rfl
    simp [pTimes, h1, h2, h3]
theorem parses_times {n : Nat} {rs : List Int} {x : T} (h : pAlt n rs = some (x, [])) (c : Int) (hc : c = 42 ∨ c = 43 ∨ c = 63) :
    pAlt (n + 4) (40 :: (rs ++ [41, c])) = some (.alt1 (.rowS .row0 (.rep x (c ≠ 43) (c ≠ 63))), []) := by
  have h1 := atom_group h [c]
  have h2 : pTimes x [c] = (.rep x (c ≠ 43) (c ≠ 63), []) := by
    rcases hc with rfl | rfl | rfl <;> rfl
  have h3 : pRow (n + 2) .row0 (40 :: (rs ++ [41, c])) = some (.rowS .row0 (.rep x (c ≠ 43) (c ≠ 63)), []) := by
    rw [pRow_eq]
    simp only [h1, h2]
    rw [pRow_eq]
    simp
  rw [pAlt]
  rw [(pMono (n + 2)).2.2.1 _ _ _ h3]
  simp [pAlts_eq]
theorem parses_both {n : Nat} {rs qs : List Int} {x y : T} (h : pAlt n rs = some (x, [])) (k : pAlt n qs = some (y, [])) :
    pAlt (n + 5) (40 :: (rs ++ 41 :: 40 :: (qs ++ [41]))) = some (.alt1 (.rowS (.rowS .row0 x) y), []) := by
  have h1 := atom_group (pAlt_more h (Nat.le_succ n)) (40 :: (qs ++ [41]))
  have k1 := atom_group k []
  have h2 : pTimes x (40 :: (qs ++ [41])) = (x, 40 :: (qs ++ [41])) := times_none x (fun c t e => by cases e; decide)
  have k2 : pTimes y [] = (y, []) := rfl
  have h3 : pRow (n + 3) .row0 (40 :: (rs ++ 41 :: 40 :: (qs ++ [41]))) = some (.rowS (.rowS .row0 x) y, []) := by
    rw [pRow_eq]
    simp only [h1, h2]
    rw [pRow_eq]
    simp only [k1, k2]
    rw [pRow_eq]
    simp
  rw [pAlt]
  rw [(pMono (n + 3)).2.2.1 _ _ _ h3]
  simp [pAlts_eq]
theorem parses_either {n : Nat} {rs qs : List Int} {x y : T} (h : pAlt n rs = some (x, [])) (k : pAlt n qs = some (y, [])) :
    pAlt (n + 5) (40 :: (rs ++ 41 :: 124 :: 40 :: (qs ++ [41]))) = some (.altS (.alt1 (.rowS .row0 x)) (.rowS .row0 y), []) := by
  have h1 := atom_group (pAlt_more h (show n ≤ n + 2 by omega)) (124 :: 40 :: (qs ++ [41]))
  have k1 := atom_group k []
  have h2 : pTimes x (124 :: 40 :: (qs ++ [41])) = (x, 124 :: 40 :: (qs ++ [41])) := times_none x (fun c t e => by cases e; decide)
  have k2 : pTimes y [] = (y, []) := rfl
  have h3 : pRow (n + 4) .row0 (40 :: (rs ++ 41 :: 124 :: 40 :: (qs ++ [41]))) = some (.rowS .row0 x, 124 :: 40 :: (qs ++ [41])) := by
    rw [pRow_eq]
    simp only [h1, h2]
    rw [pRow_eq]
    simp
  have k3 : pRow (n + 2) .row0 (40 :: (qs ++ [41])) = some (.rowS .row0 y, []) := by
    rw [pRow_eq]
    simp only [k1, k2]
    rw [pRow_eq]
    simp
  rw [pAlt]
  rw [h3]
  simp only
  rw [pAlts_eq]
  simp only [(pMono (n + 2)).2.2.1 _ _ _ k3]
  rw [pAlts_eq]
  simp
theorem lang_in (x : T) (u : List Int) : Lang (.alt1 (.rowS .row0 x)) u ↔ Lang x u := by
  constructor
  · rintro ⟨a, b, rfl, ha, hb⟩
    obtain rfl : a = [] := ha
    exact hb
  · intro h; exact ⟨[], u, rfl, rfl, h⟩
theorem lang_star (x : T) (u : List Int) : Lang (.rep x true true) u ↔ Star (Lang x) u := Iff.rfl
theorem lang_plus (x : T) (u : List Int) : Lang (.rep x false true) u ↔ ∃ a b, u = a ++ b ∧ Lang x a ∧ Star (Lang x) b := Iff.rfl
theorem lang_once (x : T) (u : List Int) : Lang (.rep x true false) u ↔ u = [] ∨ Lang x u := Iff.rfl
theorem lang_both (x y : T) (u : List Int) : Lang (.alt1 (.rowS (.rowS .row0 x) y)) u ↔ ∃ a b, u = a ++ b ∧ Lang x a ∧ Lang y b := by
  constructor
  · rintro ⟨a, b, rfl, ⟨c, d, rfl, hc, hd⟩, hb⟩
    obtain rfl : c = [] := hc
    exact ⟨d, b, rfl, hd, hb⟩
  · rintro ⟨a, b, rfl, ha, hb⟩
    exact ⟨a, b, rfl, ⟨[], a, rfl, rfl, ha⟩, hb⟩
theorem lang_either (x y : T) (u : List Int) : Lang (.altS (.alt1 (.rowS .row0 x)) (.rowS .row0 y)) u ↔ Lang x u ∨ Lang y u := by
  have h1 := lang_in x u
  have h2 := lang_in y u
  constructor
  · rintro (h | h)
    · exact .inl (h1.1 h)
    · exact .inr (h2.1 h)
  · rintro (h | h)
    · exact .inl (h1.2 h)
    · exact .inr (h2.2 h)
/-- A row of single runes. -/
theorem lang_ones (ss : List PSet) (u : List Int) : Lang ((ss.map T.one).foldl .rowS .row0) u ↔ u.length = ss.length ∧ ∀ (i : Nat) (s : PSet) (r : Int), ss[i]? = some s → u[i]? = some r → s.has r = true := by
  induction ss generalizing u with
  | nil =>
    constructor
    · intro h
      obtain rfl : u = [] := h
      exact ⟨rfl, fun i s r h => by simp at h⟩
    · rintro ⟨h, _⟩
      exact List.eq_nil_of_length_eq_zero h
  | cons s ss ih =>
    simp only [List.map_cons, List.foldl_cons]
    rw [lang_row]
    constructor
    · rintro ⟨a, b, rfl, ⟨c, d, rfl, hc, ⟨r, rfl, hr⟩⟩, hb⟩
      obtain rfl : c = [] := hc
      obtain ⟨h1, h2⟩ := (ih b).1 hb
      refine ⟨by simp [h1], fun i s' r' hs hr' => ?_⟩
      cases i with
      | zero =>
        simp only [List.getElem?_cons_zero, Option.some.injEq] at hs
        subst hs
        simp only [List.nil_append, List.cons_append, List.getElem?_cons_zero, Option.some.injEq] at hr'
        subst hr'
        exact hr
      | succ i =>
        simp only [List.getElem?_cons_succ] at hs
        simp only [List.nil_append, List.cons_append, List.getElem?_cons_succ] at hr'
        exact h2 i s' r' hs hr'
    · rintro ⟨h1, h2⟩
      cases u with
      | nil => simp at h1
      | cons r u =>
        refine ⟨[r], u, rfl, ⟨[], [r], rfl, rfl, ⟨r, rfl, h2 0 s r rfl rfl⟩⟩, (ih u).2 ⟨by simpa using h1, fun i s' r' hs hr => h2 (i + 1) s' r' (by simpa using hs) (by simpa using hr)⟩⟩
end Go.Proofs.YtccmekdmnkmhlaaGreat
namespace Go.Proofs.YtccmekdmnkmhlaaGreat

def dotS : PSet := ⟨true, false, []⟩
theorem row_dots : ∀ (k : Nat) (x : T), pRow (k + 2) x (List.replicate k 46) = some ((List.replicate k (T.one dotS)).foldl T.rowS x, []) := by
  intro k
  induction k with
  | zero => intro x; rw [pRow_eq]; rfl
  | succ k ih =>
    intro x
    rw [pRow_eq]
    have ha : pAtom (k + 2) (46 :: List.replicate k 46) = some (.one dotS, List.replicate k 46) := by rw [pAtom_eq]; simp [dotS]
    have ht : pTimes (.one dotS) (List.replicate k 46) = (.one dotS, List.replicate k 46) := times_none _ (fun c t e => by
      have : c ∈ List.replicate k (46 : Int) := by rw [e]; simp
      have := List.eq_of_mem_replicate this
      subst this; decide)
    simp only [List.replicate_succ, List.foldl_cons]
    simp only [ha, ht]
    exact ih _
theorem alt_dots (k : Nat) : pAlt (k + 3) (List.replicate k 46) = some (.alt1 ((List.replicate k (T.one dotS)).foldl T.rowS .row0), []) := by
  rw [pAlt, row_dots]
  rfl
theorem lang_dots (k : Nat) (u : List Int) : Lang (.alt1 ((List.replicate k (T.one dotS)).foldl T.rowS .row0)) u ↔ u.length = k := by
  have h := lang_ones (List.replicate k dotS) u
  rw [List.map_replicate] at h
  rw [List.length_replicate] at h
  refine Iff.trans (show _ ↔ _ from Iff.rfl) (h.trans ⟨fun h => h.1, fun h => ⟨h, fun i s r hs _ => ?_⟩⟩)
  have := List.eq_of_mem_replicate (List.mem_of_getElem? hs)
  subst this
  rfl
def slashed (rs : List Int) : List Int := rs.flatMap fun r => [92, r]
theorem slashed_len (rs : List Int) : (slashed rs).length = 2 * rs.length := by
  induction rs with
  | nil => rfl
  | cons r rs ih => simp only [slashed, List.flatMap_cons, List.length_append, List.length_cons, List.length_nil] at ih ⊢; omega
theorem row_plain : ∀ (rs : List Int) (x : T), pRow (rs.length + 2) x (slashed rs) = some ((rs.map oneOf).foldl T.rowS x, []) := by
  intro rs
  induction rs with
  | nil => intro x; rw [pRow_eq]; rfl
  | cons r rs ih =>
    intro x
    have e : slashed (r :: rs) = 92 :: r :: slashed rs := rfl
    rw [pRow_eq, e]
    have ha : pAtom (rs.length + 2) (92 :: r :: slashed rs) = some (oneOf r, slashed rs) := by rw [pAtom_eq]; simp
    have ht : pTimes (oneOf r) (slashed rs) = (oneOf r, slashed rs) := times_none _ (fun c t e => by
      cases rs with
      | nil => simp [slashed] at e
      | cons q qs =>
        have e2 : slashed (q :: qs) = 92 :: q :: slashed qs := rfl
        rw [e2] at e
        injection e with e3 _
        subst e3; decide)
    simp only [List.length_cons]
    simp only [ha, ht]
    exact ih _
theorem alt_plain (rs : List Int) : pAlt (rs.length + 3) (slashed rs) = some (.alt1 ((rs.map oneOf).foldl T.rowS .row0), []) := by
  rw [pAlt, row_plain]
  rfl
theorem oneOf_has (c r : Int) : (⟨false, false, [(c, c)]⟩ : PSet).has r = true ↔ r = c := by
  unfold PSet.has inItems
  by_cases h : r = c
  · subst h; simp
  · have : ¬ (c ≤ r ∧ r ≤ c) := by omega
    simp [this, h]
theorem lang_plain (rs u : List Int) : Lang (.alt1 ((rs.map oneOf).foldl T.rowS .row0)) u ↔ u = rs := by
  have e : rs.map oneOf = (rs.map fun c => (⟨false, false, [(c, c)]⟩ : PSet)).map T.one := by rw [List.map_map]; rfl
  rw [e]
  refine (lang_ones _ u).trans ?_
  rw [List.length_map]
  constructor
  · rintro ⟨h1, h2⟩
    refine List.ext_getElem? (fun i => ?_)
    rcases Nat.lt_or_ge i rs.length with hi | hi
    · have hu : i < u.length := by omega
      rw [List.getElem?_eq_getElem hi, List.getElem?_eq_getElem hu]
      congr 1
      exact (oneOf_has _ _).1 (h2 i _ _ (by rw [List.getElem?_map, List.getElem?_eq_getElem hi]; rfl) (List.getElem?_eq_getElem hu))
    · rw [List.getElem?_eq_none hi, List.getElem?_eq_none (by omega)]
  · rintro rfl
    refine ⟨rfl, fun i s r hs hr => ?_⟩
    rw [List.getElem?_map, hr] at hs
    simp only [Option.map_some, Option.some.injEq] at hs
    subst hs
    exact (oneOf_has _ _).2 rfl
/-- A class of one range. -/
theorem items_range (n : Nat) (neg : Bool) (lo hi : Int) (h1 : 97 ≤ lo) (h2 : lo ≤ hi) : pItems (n + 2) neg [] [lo, 45, hi, 93] = some (⟨false, neg, [(lo, hi)]⟩, []) := by
  have a1 : lo ≠ 93 := by omega
  have a2 : lo ≠ 92 := by omega
  have a3 : hi ≠ 93 := by omega
  have a4 : hi ≠ 92 := by omega
  rw [pItems_eq]
  simp only [a1, if_false, pMember, a2, pTo, a3, a4, ne_eq, not_false_eq_true, and_self, if_true, h2, List.nil_append]
  rw [pItems_eq]
  simp
theorem alt_class (n : Nat) (neg : Bool) (lo hi : Int) (h1 : 97 ≤ lo) (h2 : lo ≤ hi) : pAlt (n + 5) (91 :: ((if neg then [94] else []) ++ [lo, 45, hi, 93])) = some (.alt1 (.rowS .row0 (.one ⟨false, neg, [(lo, hi)]⟩)), []) := by
  have hc : pClass (n + 2) ((if neg then [94] else []) ++ [lo, 45, hi, 93]) = some (⟨false, neg, [(lo, hi)]⟩, []) := by
    unfold pClass
    cases neg with
    | true => exact items_range n true lo hi h1 h2
    | false =>
      have a1 : lo ≠ 94 := by omega
      simp only [Bool.false_eq_true, if_false, List.nil_append, a1]
      exact items_range n false lo hi h1 h2
  have ha : pAtom (n + 3) (91 :: ((if neg then [94] else []) ++ [lo, 45, hi, 93])) = some (.one ⟨false, neg, [(lo, hi)]⟩, []) := by
    rw [pAtom_eq]
    simp only [hc]
    simp
  rw [pAlt, pRow_eq]
  simp only [ha]
  simp only [show ¬ ((91 : Int) = 124 ∨ (91 : Int) = 41) by decide, if_false, pTimes]
  rw [pRow_eq]
  simp only
  rw [pAlts_eq]
theorem lang_class (neg : Bool) (lo hi : Int) (u : List Int) : Lang (.alt1 (.rowS .row0 (.one ⟨false, neg, [(lo, hi)]⟩))) u ↔ ∃ r, u = [r] ∧ (decide (lo ≤ r ∧ r ≤ hi) != neg) = true := by
  refine (lang_in _ u).trans ?_
  constructor
  · rintro ⟨r, rfl, h⟩
    refine ⟨r, rfl, ?_⟩
    unfold PSet.has inItems at h
    simp only [List.any_cons, List.any_nil, Bool.or_false, Bool.false_or] at h
    by_cases hr : lo ≤ r ∧ r ≤ hi
    · simp only [hr, decide_true, and_self, if_true] at h ⊢; cases neg <;> simp at h ⊢
    · simp only [hr, decide_false, Bool.false_eq_true, if_false] at h ⊢; cases neg <;> simp at h ⊢
  · rintro ⟨r, rfl, h⟩
    refine ⟨r, rfl, ?_⟩
    unfold PSet.has inItems
    simp only [List.any_cons, List.any_nil, Bool.or_false, Bool.false_or]
    by_cases hr : lo ≤ r ∧ r ≤ hi
    · simp only [hr, decide_true, and_self, if_true] at h ⊢; cases neg <;> simp at h ⊢
    · simp only [hr, decide_false, Bool.false_eq_true, if_false] at h ⊢; cases neg <;> simp at h ⊢

/-! ### Begins -/
def BegIn (x : T) (rs : List Int) (n : Int) : Prop := (n = -1 ∧ ∀ k, k ≤ rs.length → ¬ Lang x (rs.take k)) ∨ ∃ k : Nat, n = k ∧ k ≤ rs.length ∧ Lang x (rs.take k) ∧ ∀ j, k < j → j ≤ rs.length → ¬ Lang x (rs.take j)
theorem begin_fun {x : T} {rs : List Int} {n m : Int} (h : BegIn x rs n) (k : BegIn x rs m) : n = m := by
  rcases h with ⟨rfl, h⟩ | ⟨a, rfl, h1, h2, h3⟩
  · rcases k with ⟨rfl, _⟩ | ⟨b, rfl, k1, k2, _⟩
    · rfl
    · exact absurd k2 (h b k1)
  · rcases k with ⟨rfl, k⟩ | ⟨b, rfl, k1, k2, k3⟩
    · exact absurd h2 (k a h1)
    · rcases Nat.lt_trichotomy a b with hab | rfl | hab
      · exact absurd k2 (h3 b hab k1)
      · rfl
      · exact absurd h2 (k3 a hab h1)

/-! ### The first call: a(b|c)* -/
def alT : T := .alt1 (.rowS (.rowS .row0 (oneOf 97)) (.rep (.altS (.alt1 (.rowS .row0 (oneOf 98))) (.rowS .row0 (oneOf 99))) true true))
theorem al_parse (n : Nat) : pAlt (n + 40) [97, 40, 98, 124, 99, 41, 42] = some (alT, []) := by
  have h : pAlt 40 [97, 40, 98, 124, 99, 41, 42] = some (alT, []) := by rfl
  exact pAlt_more h (by omega)
theorem al_bad (n : Nat) : ∀ x, pAlt n [97, 40, 98] ≠ some (x, []) := by
  intro x h
  have h2 := pAlt_more h (show n ≤ n + 40 by omega)
  have h3 : pAlt (n + 40) [97, 40, 98] = none := by
    rw [pAlt, pRow_eq]
    have : pAtom (n + 38) [97, 40, 98] = some (oneOf 97, [40, 98]) := by rw [pAtom_eq]; simp [barred]
    simp only [this]
    simp only [show ¬ ((97 : Int) = 124 ∨ (97 : Int) = 41) by decide, if_false]
    have ht : pTimes (oneOf 97) [40, 98] = (oneOf 97, [40, 98]) := rfl
    rw [ht]
    simp only
    rw [pRow_eq]
    have h4 : pAtom (n + 37) [40, 98] = none := by
      rw [pAtom_eq]
      simp only [if_true]
      have : pAlt (n + 36) [98] = some (.alt1 (.rowS .row0 (oneOf 98)), []) := by
        rw [pAlt, pRow_eq]
        have : pAtom (n + 34) [98] = some (oneOf 98, []) := by rw [pAtom_eq]; simp [barred]
        simp only [this]
        simp only [show ¬ ((98 : Int) = 124 ∨ (98 : Int) = 41) by decide, if_false, pTimes]
        rw [pRow_eq]
        simp only
        rw [pAlts_eq]
      rw [this]
    simp [h4]
  rw [h3] at h2
  cases h2
theorem al_lang (u : List Int) : Lang alT u ↔ ∃ v, u = 97 :: v ∧ ∀ c ∈ v, c = 98 ∨ c = 99 := by
  have hg : ∀ w, Lang (.altS (.alt1 (.rowS .row0 (oneOf 98))) (.rowS .row0 (oneOf 99))) w ↔ w = [98] ∨ w = [99] := by
    intro w
    rw [lang_either]
    constructor
    · rintro (⟨r, rfl, h⟩ | ⟨r, rfl, h⟩)
      · rw [(oneOf_has _ _).1 h]; exact .inl rfl
      · rw [(oneOf_has _ _).1 h]; exact .inr rfl
    · rintro (rfl | rfl)
      · exact .inl ⟨98, rfl, (oneOf_has _ _).2 rfl⟩
      · exact .inr ⟨99, rfl, (oneOf_has _ _).2 rfl⟩
  have hs : ∀ w, Star (Lang (.altS (.alt1 (.rowS .row0 (oneOf 98))) (.rowS .row0 (oneOf 99)))) w ↔ ∀ c ∈ w, c = 98 ∨ c = 99 := by
    intro w
    constructor
    · intro h
      induction h with
      | nil => intro c hc; simp at hc
      | cons hu _ ih =>
        intro c hc
        rcases List.mem_append.1 hc with hc | hc
        · rcases (hg _).1 hu with rfl | rfl
          · left; simpa using hc
          · right; simpa using hc
        · exact ih c hc
    · intro h
      induction w with
      | nil => exact .nil
      | cons c t ih =>
        have h1 := h c (by simp)
        exact Star.cons (u := [c]) ((hg _).2 (by rcases h1 with rfl | rfl; exact .inl rfl; exact .inr rfl)) (ih (fun d hd => h d (by simp [hd])))
  unfold alT
  rw [lang_both]
  constructor
  · rintro ⟨a, b, rfl, ⟨r, rfl, hr⟩, hb⟩
    rw [(oneOf_has _ _).1 hr]
    exact ⟨b, rfl, (hs b).1 hb⟩
  · rintro ⟨v, rfl, hv⟩
    exact ⟨[97], v, rfl, ⟨97, rfl, (oneOf_has _ _).2 rfl⟩, (hs v).2 hv⟩
theorem al_yes : Lang alT [97, 98, 99, 98] := (al_lang _).2 ⟨_, rfl, by decide⟩
theorem al_no : ¬ Lang alT [97, 98, 100] := by
  rintro h
  obtain ⟨v, e, h⟩ := (al_lang _).1 h
  injection e with _ e
  subst e
  have := h 100 (by simp)
  omega
theorem al_begins : BegIn alT [97, 99, 120] 2 := by
  refine .inr ⟨2, rfl, by decide, (al_lang _).2 ⟨[99], rfl, by decide⟩, fun j hj hj2 => ?_⟩
  have : j = 3 := by simp at hj2; omega
  subst this
  rintro h
  obtain ⟨v, e, h⟩ := (al_lang _).1 h
  injection e with _ e
  subst e
  have := h 120 (by simp)
  omega
end Go.Proofs.YtccmekdmnkmhlaaGreat
namespace Go.Proofs.YtccmekdmnkmhlaaGreat

def FragL (F : List Stp) (lo hi : Nat) : List T → Nat → Nat → Prop
  | [], a, t => a = t
  | x :: xs, a, t => ∃ mid, Frag F lo hi x a mid ∧ FragL F lo hi xs mid t
theorem fragL_mono {F F' : List Stp} {lo hi lo' hi' : Nat} (h1 : lo' ≤ lo) (h2 : hi ≤ hi') (h3 : ∀ i, lo ≤ i → i < hi → F'[i]? = F[i]?) : ∀ (xs : List T) (a t : Nat), FragL F lo hi xs a t → FragL F' lo' hi' xs a t := by
  intro xs
  induction xs with
  | nil => intro a t h; exact h
  | cons x xs ih => intro a t h; obtain ⟨m, p, q⟩ := h; exact ⟨m, frag_mono h1 h2 h3 _ _ _ p, ih _ _ q⟩
theorem fragL_row {F : List Stp} {lo hi : Nat} : ∀ (xs : List T) (l0 : T) (a mid t : Nat), Frag F lo hi l0 a mid → FragL F lo hi xs mid t → Frag F lo hi (xs.foldl .rowS l0) a t := by
  intro xs
  induction xs with
  | nil => intro l0 a mid t h k; obtain rfl : mid = t := k; exact h
  | cons x xs ih => intro l0 a mid t h k; obtain ⟨m, p, q⟩ := k; exact ih (.rowS l0 x) a m t ⟨mid, p, h⟩ q
def tsize : T → Nat
  | .one _ => 1
  | .row0 => 1
  | .rowS l x => tsize l + tsize x + 1
  | .alt1 x => tsize x + 1
  | .altS l x => tsize l + tsize x + 1
  | .rep x _ _ => tsize x + 2
def tsum (xs : List T) : Nat := (xs.map fun x => tsize x + 1).sum
theorem tsum_cons (x : T) (xs : List T) : tsum (x :: xs) = tsize x + 1 + tsum xs := by simp [tsum]
theorem tsize_row : ∀ (xs : List T) (l : T), tsize (xs.foldl .rowS l) = tsize l + tsum xs := by
  intro xs
  induction xs with
  | nil => intro l; simp [tsum]
  | cons x xs ih => intro l; rw [List.foldl_cons, ih, tsum_cons]; simp only [tsize]; omega
theorem tsize_alt : ∀ (xs : List T) (l : T), tsize (xs.foldl .altS l) = tsize l + tsum xs := by
  intro xs
  induction xs with
  | nil => intro l; simp [tsum]
  | cons x xs ih => intro l; rw [List.foldl_cons, ih, tsum_cons]; simp only [tsize]; omega
theorem tsum_drop {xs : List T} {k : Nat} {x : T} (h : xs[k]? = some x) : tsum (xs.drop k) = tsize x + 1 + tsum (xs.drop (k + 1)) := by
  obtain ⟨h1, h2⟩ := List.getElem?_eq_some_iff.1 h
  rw [List.drop_eq_getElem_cons h1, h2, tsum_cons]
theorem tsum_take {xs : List T} {k : Nat} {x : T} (h : xs[k]? = some x) : tsum (xs.take (k + 1)) = tsum (xs.take k) + (tsize x + 1) := by
  obtain ⟨h1, h2⟩ := List.getElem?_eq_some_iff.1 h
  rw [List.take_succ_eq_append_getElem h1, h2]
  simp [tsum]
theorem tsum_drop_le (xs : List T) (k : Nat) : tsum (xs.drop k) ≤ tsum xs := by
  induction xs generalizing k with
  | nil => simp
  | cons x xs ih =>
    cases k with
    | zero => exact Nat.le_refl _
    | succ k => rw [List.drop_succ_cons, tsum_cons]; have := ih k; omega
theorem tsum_take_le (xs : List T) (k : Nat) : tsum (xs.take k) ≤ tsum xs := by
  induction xs generalizing k with
  | nil => simp
  | cons x xs ih =>
    cases k with
    | zero => simp [tsum]
    | succ k => rw [List.take_succ_cons, tsum_cons, tsum_cons]; have := ih k; omega
theorem tsum_mem {xs : List T} {k : Nat} {x : T} (h : xs[k]? = some x) : tsize x + 1 ≤ tsum xs := by
  have h1 := tsum_drop h
  have h2 := tsum_drop_le xs k
  omega

/-! ### Few steps -/
theorem pMember_len {l : Rs} {a : Int} {l1 : Rs} (h : pMember l = some (a, l1)) : l1.length < l.length := by
  cases l with
  | nil => simp [pMember] at h
  | cons c t =>
    simp only [pMember] at h
    split at h
    · cases t with
      | nil => simp at h
      | cons d t2 => simp at h; rw [← h.2]; simp; omega
    · simp at h; rw [← h.2]; simp
theorem pTo_len {a b : Int} {l l1 : Rs} (h : pTo a l = some (b, l1)) : l1.length ≤ l.length := by
  match l, h with
  | [], h => simp only [pTo, Option.some.injEq, Prod.mk.injEq] at h; rw [← h.2]; exact Nat.le_refl _
  | [c], h => simp only [pTo, Option.some.injEq, Prod.mk.injEq] at h; rw [← h.2]; exact Nat.le_refl _
  | c :: d :: t, h =>
    simp only [pTo] at h
    split at h
    · have := pMember_len h; simp at this ⊢; omega
    · simp at h; rw [← h.2]; exact Nat.le_refl _
theorem pItems_len : ∀ (n : Nat) (neg : Bool) (its : List (Int × Int)) (l : Rs) (s : PSet) (l' : Rs), pItems n neg its l = some (s, l') → l'.length < l.length := by
  intro n
  induction n with
  | zero => intro neg its l s l' h; simp [pItems] at h
  | succ n ih =>
    intro neg its l s l' h
    rw [pItems_eq] at h
    cases l with
    | nil => simp at h
    | cons c t =>
      simp only at h
      split at h
      · split at h
        · cases h
        · simp at h; rw [← h.2]; simp
      · cases hm : pMember (c :: t) with
        | none => rw [hm] at h; cases h
        | some am =>
          obtain ⟨a, l1⟩ := am
          rw [hm] at h
          simp only at h
          cases ht : pTo a l1 with
          | none => rw [ht] at h; cases h
          | some bl =>
            obtain ⟨b, l2⟩ := bl
            rw [ht] at h
            simp only at h
            split at h
            · have h1 := pMember_len hm
              have h2 := pTo_len ht
              have h3 := ih _ _ _ _ _ h
              omega
            · cases h
theorem pClass_len {n : Nat} {l : Rs} {s : PSet} {l' : Rs} (h : pClass n l = some (s, l')) : l'.length < l.length := by
  unfold pClass at h
  cases l with
  | nil => simp at h
  | cons c t =>
    simp only at h
    split at h
    · have := pItems_len _ _ _ _ _ _ h; simp; omega
    · exact pItems_len _ _ _ _ _ _ h
theorem pTimes_size (x : T) (l : Rs) : tsize (pTimes x l).1 + 8 * (pTimes x l).2.length ≤ tsize x + 8 * l.length := by
  cases l with
  | nil => simp [pTimes]
  | cons c t =>
    simp only [pTimes]
    split
    · simp [tsize]; omega
    · split
      · simp [tsize]; omega
      · split
        · simp [tsize]; omega
        · simp
theorem pSize : ∀ (n : Nat), (∀ l x l', pAlt n l = some (x, l') → tsize x + 8 * l'.length ≤ 2 + 8 * l.length) ∧ (∀ y l x l', pAlts n y l = some (x, l') → tsize x + 8 * l'.length ≤ tsize y + 8 * l.length) ∧ (∀ y l x l', pRow n y l = some (x, l') → tsize x + 8 * l'.length ≤ tsize y + 8 * l.length) ∧ (∀ l x l', pAtom n l = some (x, l') → tsize x + 8 * l'.length + 7 ≤ 8 * l.length) := by
  intro n
  induction n with
  | zero =>
    refine ⟨fun l x l' h => ?_, fun y l x l' h => ?_, fun y l x l' h => ?_, fun l x l' h => ?_⟩
    · simp [pAlt] at h
    · simp [pAlts] at h
    · simp [pRow] at h
    · simp [pAtom] at h
  | succ n ih =>
    obtain ⟨i1, i2, i3, i4⟩ := ih
    refine ⟨fun l x l' h => ?_, fun y l x l' h => ?_, fun y l x l' h => ?_, fun l x l' h => ?_⟩
    · rw [pAlt] at h
      cases hr : pRow n .row0 l with
      | none => rw [hr] at h; cases h
      | some q =>
        obtain ⟨q1, q2⟩ := q
        rw [hr] at h
        have h1 := i3 _ _ _ _ hr
        have h2 := i2 _ _ _ _ h
        simp only [tsize] at h1 h2
        omega
    · rw [pAlts_eq] at h
      cases l with
      | nil => simp at h; rw [← h.1, ← h.2]; exact Nat.le_refl _
      | cons c t =>
        simp only at h
        split at h
        · cases hr : pRow n .row0 t with
          | none => rw [hr] at h; cases h
          | some q =>
            obtain ⟨q1, q2⟩ := q
            rw [hr] at h
            have h1 := i3 _ _ _ _ hr
            have h2 := i2 _ _ _ _ h
            simp only [tsize, List.length_cons] at h1 h2 ⊢
            omega
        · simp at h; rw [← h.1, ← h.2]; exact Nat.le_refl _
    · rw [pRow_eq] at h
      cases l with
      | nil => simp at h; rw [← h.1, ← h.2]; exact Nat.le_refl _
      | cons c t =>
        simp only at h
        split at h
        · simp at h; rw [← h.1, ← h.2]; exact Nat.le_refl _
        · cases hr : pAtom n (c :: t) with
          | none => rw [hr] at h; cases h
          | some q =>
            obtain ⟨q1, q2⟩ := q
            rw [hr] at h
            have h1 := i4 _ _ _ hr
            have h2 := i3 _ _ _ _ h
            have h3 := pTimes_size q1 q2
            simp only [tsize] at h2
            omega
    · rw [pAtom_eq] at h
      cases l with
      | nil => simp at h
      | cons c t =>
        simp only at h
        split at h
        · cases hr : pAlt n t with
          | none => rw [hr] at h; cases h
          | some q =>
            obtain ⟨q1, q2⟩ := q
            rw [hr] at h
            have h1 := i1 _ _ _ hr
            cases q2 with
            | nil => simp at h
            | cons d t2 =>
              simp only at h
              split at h
              · simp at h
                rw [← h.1, ← h.2]
                simp only [List.length_cons] at h1 ⊢
                omega
              · cases h
        · split at h
          · cases hr : pClass n t with
            | none => rw [hr] at h; cases h
            | some q =>
              obtain ⟨q1, q2⟩ := q
              rw [hr] at h
              have h1 := pClass_len hr
              simp at h
              rw [← h.1, ← h.2]
              simp only [tsize, List.length_cons]
              omega
          · split at h
            · simp at h; rw [← h.1, ← h.2]; simp only [tsize, List.length_cons]; omega
            · split at h
              · cases t with
                | nil => simp at h
                | cons d t2 => simp at h; rw [← h.1, ← h.2]; simp only [oneOf, tsize, List.length_cons]; omega
              · split at h
                · cases h
                · simp at h; rw [← h.1, ← h.2]; simp only [oneOf, tsize, List.length_cons]; omega
theorem pAlt_size {n : Nat} {l : Rs} {x : T} (h : pAlt n l = some (x, [])) : tsize x ≤ 2 + 8 * l.length := by
  have := (pSize n).1 _ _ _ h
  simpa using this
/-- Where a machine begins is one of its places. -/
theorem frag_place {F : List Stp} {lo hi : Nat} : ∀ (x : T) (a t : Nat), Frag F lo hi x a t → a < hi ∨ a = t := by
  intro x
  induction x with
  | one s => intro a t h; exact .inl h.2.1
  | row0 => intro a t h; exact .inr h
  | rowS l x ihl ihx =>
    rintro a t ⟨m, h1, h2⟩
    rcases ihl _ _ h2 with h | h
    · exact .inl h
    · subst h; exact ihx _ _ h1
  | alt1 x ih => intro a t h; exact ih _ _ h
  | altS l x ihl ihx => intro a t h; exact .inl h.2.1
  | rep x nn ag ih =>
    intro a t h
    unfold Frag at h
    cases ag with
    | false => exact .inl h.2.1
    | true =>
      simp only [if_true] at h
      obtain ⟨tn, b, s, h1, h2, h3, h4, h5⟩ := h
      cases nn with
      | true => obtain rfl : a = tn := h5; exact .inl h2
      | false =>
        obtain rfl : a = b := h5
        rcases ih _ _ h4 with h | h
        · exact .inl h
        · left; omega
theorem frag_at {F : List Stp} {first : Nat} {x : T} (h : Mach F first x) (hF : F.length ≤ 1000) : first < 1000 := by
  obtain ⟨s, hs⟩ := h.stop
  have h0 := (List.getElem?_eq_some_iff.1 hs).1
  rcases frag_place _ _ _ h.frag with h | h <;> omega
theorem mach_in {F : List Stp} {first : Nat} {x : T} (h : Mach F first x) : first < F.length := by
  obtain ⟨s, hs⟩ := h.stop
  have h0 := (List.getElem?_eq_some_iff.1 hs).1
  rcases frag_place _ _ _ h.frag with h | h <;> omega
end Go.Proofs.YtccmekdmnkmhlaaGreat
namespace Go.Proofs.YtccmekdmnkmhlaaGreat

theorem frag_reach {F : List Stp} {lo hi : Nat} : ∀ (x : T) (a th n : Nat) (u : List Int) (q : Nat), Frag F lo hi x a th → PathN F n a u q → q < hi ∨ ∃ m u2, PathN F m th u2 q ∧ m ≤ n := by
  intro x
  induction x with
  | one s =>
    rintro a th n u q ⟨_, h0, b, hF⟩ h
    cases h with
    | refl => exact .inl h0
    | eps h hr ha t => rw [hF] at h; obtain rfl := Option.some.inj h; cases hr
    | @rune n _ p' _ u' s' r h hr hh ha t =>
      rw [hF] at h
      obtain rfl := Option.some.inj h
      have e : th = p' := by have e2 : (th : Int) = p' := ha; omega
      subst e
      exact .inr ⟨n, u', t, by omega⟩
  | row0 => intro a th n u q h k; obtain rfl : a = th := h; exact .inr ⟨n, u, k, Nat.le_refl _⟩
  | rowS l x ihl ihx =>
    rintro a th n u q ⟨m, h1, h2⟩ k
    rcases ihl _ _ _ _ _ h2 k with h | ⟨m2, u2, k2, hm2⟩
    · exact .inl h
    · rcases ihx _ _ _ _ _ h1 k2 with h | ⟨m3, u3, k3, hm3⟩
      · exact .inl h
      · exact .inr ⟨m3, u3, k3, by omega⟩
  | alt1 x ih => intro a th n u q h k; exact ih _ _ _ _ _ h k
  | altS l x ihl ihx =>
    rintro a th n u q ⟨_, h0, a1, b1, s, hF, h1, h2⟩ k
    cases k with
    | refl => exact .inl h0
    | rune h hr hh ha t => rw [hF] at h; obtain rfl := Option.some.inj h; cases hr
    | @eps n _ p' _ _ s' h hr ha t =>
      rw [hF] at h
      obtain rfl := Option.some.inj h
      rcases ha with ha | ha
      · have e : a1 = p' := by have e2 : (a1 : Int) = p' := ha; omega
        subst e
        rcases ihl _ _ _ _ _ h1 t with h | ⟨m, u2, k2, hm⟩
        · exact .inl h
        · exact .inr ⟨m, u2, k2, by omega⟩
      · have e : b1 = p' := by have e2 : (b1 : Int) = p' := ha; omega
        subst e
        rcases ihx _ _ _ _ _ h2 t with h | ⟨m, u2, k2, hm⟩
        · exact .inl h
        · exact .inr ⟨m, u2, k2, by omega⟩
  | rep x nn ag ih =>
    intro a th n u q h k
    unfold Frag at h
    cases ag with
    | false =>
      obtain ⟨_, h0, a1, s, hF, h1⟩ := h
      cases k with
      | refl => exact .inl h0
      | rune h hr hh ha t => rw [hF] at h; obtain rfl := Option.some.inj h; cases hr
      | @eps n _ p' _ _ s' h hr ha t =>
        rw [hF] at h
        obtain rfl := Option.some.inj h
        rcases ha with ha | ha
        · have e : a1 = p' := by have e2 : (a1 : Int) = p' := ha; omega
          subst e
          rcases ih _ _ _ _ _ h1 t with h | ⟨m, u2, k2, hm⟩
          · exact .inl h
          · exact .inr ⟨m, u2, k2, by omega⟩
        · have e : th = p' := by have e2 : (th : Int) = p' := ha; omega
          subst e
          exact .inr ⟨n, u, t, by omega⟩
    | true =>
      simp only [if_true] at h
      obtain ⟨tn, a1, s, _, h0, hF, h1, h2⟩ := h
      have hturn : ∀ (n : Nat) (u : List Int), PathN F n tn u q → q < hi ∨ ∃ m u2, PathN F m th u2 q ∧ m ≤ n := by
        intro n
        induction n using Nat.strongRecOn with
        | ind n ihn =>
          intro u k
          cases k with
          | refl => exact .inl h0
          | rune h hr hh ha t => rw [hF] at h; obtain rfl := Option.some.inj h; cases hr
          | @eps n' _ p' _ _ s' h hr ha t =>
            rw [hF] at h
            obtain rfl := Option.some.inj h
            rcases ha with ha | ha
            · have e : a1 = p' := by have e2 : (a1 : Int) = p' := ha; omega
              subst e
              rcases ih _ _ _ _ _ h1 t with h | ⟨m, u2, k2, hm⟩
              · exact .inl h
              · rcases ihn m (by omega) _ k2 with h | ⟨m3, u3, k3, hm3⟩
                · exact .inl h
                · exact .inr ⟨m3, u3, k3, by omega⟩
            · have e : th = p' := by have e2 : (th : Int) = p' := ha; omega
              subst e
              exact .inr ⟨n', u, t, by omega⟩
      cases nn with
      | true => obtain rfl : a = tn := h2; exact hturn n u k
      | false =>
        obtain rfl : a = a1 := h2
        rcases ih _ _ _ _ _ h1 k with h | ⟨m, u2, k2, hm⟩
        · exact .inl h
        · rcases hturn m _ k2 with h | ⟨m3, u3, k3, hm3⟩
          · exact .inl h
          · exact .inr ⟨m3, u3, k3, by omega⟩
def Rch (F : List Stp) (first q : Nat) : Prop := ∃ u, Path F first u q
theorem mach_reach {F : List Stp} {first : Nat} {x : T} (h : Mach F first x) {q : Nat} (k : Rch F first q) : q < F.length := by
  obtain ⟨u, n, k⟩ := k
  rcases frag_reach x _ _ _ _ _ h.frag k with h2 | ⟨m, u2, k2, _⟩
  · exact h2
  · obtain ⟨s, hs⟩ := h.stop
    have h0 := (List.getElem?_eq_some_iff.1 hs).1
    cases k2 with
    | refl => exact h0
    | eps h' hr ha t =>
      rw [hs] at h'
      obtain rfl := Option.some.inj h'
      rcases ha with ha | ha <;> (simp only at ha; omega)
    | rune h' hr hh ha t => rw [hs] at h'; obtain rfl := Option.some.inj h'; cases hr
theorem rch_eps {F : List Stp} {first q p' : Nat} {s : Stp} (k : Rch F first q) (h : F[q]? = some s) (hr : s.rune = false) (ha : s.a = (p' : Int) ∨ s.b = (p' : Int)) : Rch F first p' := by
  obtain ⟨u, k⟩ := k
  exact ⟨u ++ [], path_trans k (path_eps h hr ha (path_refl _ _))⟩
/-- What reach does to the marks. -/
structure ReachS (F : List Stp) (bs bs' : List Bool) (at' : Int) : Prop where
  len : bs'.length = bs.length
  mono : ∀ q : Nat, bs[q]? = some true → bs'[q]? = some true
  sound : ∀ q : Nat, bs'[q]? = some true → bs[q]? = some true ∨ ∃ a : Nat, at' = (a : Int) ∧ Path F a [] q
  hit : ∀ a : Nat, at' = (a : Int) → bs'[a]? = some true
  closed : ∀ (q : Nat) (s : Stp) (p' : Nat), bs'[q]? = some true → bs[q]? ≠ some true → F[q]? = some s → s.rune = false → (s.a = (p' : Int) ∨ s.b = (p' : Int)) → bs'[p']? = some true
theorem reach_neg (F : List Stp) (bs : List Bool) {at' : Int} (h : at' < 0) : ReachS F bs bs at' :=
  ⟨rfl, fun _ h => h, fun _ h => .inl h, fun a e => by omega, fun q s p' h1 h2 => absurd h1 h2⟩
theorem reach_old (F : List Stp) (bs : List Bool) {a : Nat} (h : bs[a]? = some true) : ReachS F bs bs (a : Int) :=
  ⟨rfl, fun _ h => h, fun _ h => .inl h, fun a' e => (by
    have : a = a' := by omega
    subst this
    exact h), fun q s p' h1 h2 => absurd h1 h2⟩
theorem set_true {bs : List Bool} {a q : Nat} (ha : a < bs.length) : (bs.set a true)[q]? = some true ↔ q = a ∨ bs[q]? = some true := by
  rw [List.getElem?_set]
  by_cases h : a = q
  · subst h; simp [ha]
  · simp only [h, if_false]
    constructor
    · exact fun h => .inr h
    · rintro (h' | h')
      · exact absurd h'.symm h
      · exact h'
theorem reach_rune {F : List Stp} {bs : List Bool} {a : Nat} {s : Stp} (ha : a < bs.length) (hs : F[a]? = some s) (hr : s.rune = true) : ReachS F bs (bs.set a true) (a : Int) :=
  ⟨by simp, fun q h => (set_true ha).2 (.inr h), fun q h => by
    rcases (set_true ha).1 h with rfl | h
    · exact .inr ⟨q, rfl, path_refl _ _⟩
    · exact .inl h, fun a' e => (set_true ha).2 (.inl (by omega)), fun q s' p' h1 h2 h3 h4 _ => by
    rcases (set_true ha).1 h1 with rfl | h
    · rw [hs] at h3; obtain rfl := Option.some.inj h3; rw [hr] at h4; cases h4
    · exact absurd h h2⟩
theorem reach_eps {F : List Stp} {bs bs2 bs3 : List Bool} {a : Nat} {s : Stp} (ha : a < bs.length) (hs : F[a]? = some s) (hr : s.rune = false) (h1 : ReachS F (bs.set a true) bs2 s.a) (h2 : ReachS F bs2 bs3 s.b) : ReachS F bs bs3 (a : Int) := by
  have m1 : ∀ q, bs[q]? = some true → bs2[q]? = some true := fun q h => h1.mono q ((set_true ha).2 (.inr h))
  refine ⟨?_, fun q h => h2.mono q (m1 q h), fun q h => ?_, fun a' e => ?_, fun q s' p' k1 k2 k3 k4 k5 => ?_⟩
  · rw [h2.len, h1.len]; simp
  · rcases h2.sound q h with h | ⟨b, e, k⟩
    · rcases h1.sound q h with h | ⟨b, e, k⟩
      · rcases (set_true ha).1 h with rfl | h
        · exact .inr ⟨q, rfl, path_refl _ _⟩
        · exact .inl h
      · exact .inr ⟨a, rfl, path_eps hs hr (.inl e) k⟩
    · exact .inr ⟨a, rfl, path_eps hs hr (.inr e) k⟩
  · obtain rfl : a = a' := by omega
    exact h2.mono _ (h1.mono _ ((set_true ha).2 (.inl rfl)))
  · by_cases hq : q = a
    · subst hq
      rw [hs] at k3
      obtain rfl := Option.some.inj k3
      rcases k5 with k5 | k5
      · exact h2.mono _ (h1.hit _ k5)
      · exact h2.hit _ k5
    · by_cases hq2 : bs2[q]? = some true
      · refine h2.mono _ (h1.closed q s' p' hq2 (fun e => ?_) k3 k4 k5)
        rcases (set_true ha).1 e with e | e
        · exact hq e
        · exact k2 e
      · exact h2.closed q s' p' k1 hq2 k3 k4 k5
/-- Marks that are closed: what one comes to without a rune is marked, too. -/
def Shut (F : List Stp) (bs : List Bool) : Prop := ∀ (q : Nat) (s : Stp) (p' : Nat), bs[q]? = some true → F[q]? = some s → s.rune = false → (s.a = (p' : Int) ∨ s.b = (p' : Int)) → bs[p']? = some true
theorem shut_path {F : List Stp} {bs : List Bool} (h : Shut F bs) {a q : Nat} (ha : bs[a]? = some true) (k : Path F a [] q) : bs[q]? = some true := by
  obtain ⟨n, k⟩ := k
  obtain ⟨u, hu⟩ : ∃ u : List Int, u = [] := ⟨_, rfl⟩
  rw [← hu] at k
  induction k with
  | refl q => exact ha
  | eps h1 hr hab t ih => exact ih (h _ _ _ ha h1 hr hab) hu
  | rune h1 hr hh hab t ih => cases hu
theorem reach_shut {F : List Stp} {bs bs' : List Bool} {at' : Int} (h : Shut F bs) (k : ReachS F bs bs' at') : Shut F bs' := by
  intro q s p' h1 h2 h3 h4
  by_cases hq : bs[q]? = some true
  · exact k.mono _ (h q s p' hq h2 h3 h4)
  · exact k.closed q s p' h1 hq h2 h3 h4
theorem reach_iff {F : List Stp} {bs bs' : List Bool} {at' : Int} (h : Shut F bs) (k : ReachS F bs bs' at') (q : Nat) : bs'[q]? = some true ↔ bs[q]? = some true ∨ ∃ a : Nat, at' = (a : Int) ∧ Path F a [] q := by
  constructor
  · exact k.sound q
  · rintro (h1 | ⟨a, e, h1⟩)
    · exact k.mono q h1
    · exact shut_path (reach_shut h k) (k.hit a e) h1
theorem shut_none (F : List Stp) (n : Nat) : Shut F (List.replicate n false) := by
  intro q s p' h1
  have := List.eq_of_mem_replicate (List.mem_of_getElem? h1)
  cases this
theorem rep_no {n q : Nat} : (List.replicate n false)[q]? ≠ some true := by
  intro h
  have := List.eq_of_mem_replicate (List.mem_of_getElem? h)
  cases this
/-- How many are not marked. -/
def left (bs : List Bool) : Nat := bs.count false
theorem left_set {bs : List Bool} {a : Nat} (ha : bs[a]? = some false) : left (bs.set a true) + 1 = left bs := by
  unfold left
  induction bs generalizing a with
  | nil => simp at ha
  | cons b bs ih =>
    cases a with
    | zero =>
      obtain rfl : b = false := by simpa using ha
      simp
    | succ a =>
      have := ih (a := a) (by simpa using ha)
      simp only [List.set_cons_succ, List.count_cons]
      omega
theorem left_mono {F : List Stp} {bs bs' : List Bool} {at' : Int} (k : ReachS F bs bs' at') : left bs' ≤ left bs := by
  have hl := k.len
  have hm := k.mono
  clear k
  unfold left
  induction bs generalizing bs' with
  | nil => have : bs' = [] := List.eq_nil_of_length_eq_zero (by simpa using hl); subst this; exact Nat.le_refl _
  | cons b bs ih =>
    cases bs' with
    | nil => simp
    | cons b' bs' =>
      have h1 := ih (bs' := bs') (by simpa using hl) (fun q h => by have := hm (q + 1) (by simpa using h); simpa using this)
      have h2 := hm 0
      simp only [List.getElem?_cons_zero, Option.some.injEq] at h2
      simp only [List.count_cons]
      cases b with
      | true => rw [h2 rfl]; simpa using h1
      | false => cases b' <;> simp <;> omega
theorem has_in {s : PSet} {r : Int} {k : Nat} {x : Int × Int} (h : s.items[k]? = some x) (h1 : x.1 ≤ r) (h2 : r ≤ x.2) : s.has r = !s.neg := by
  unfold PSet.has inItems
  rw [if_pos]
  rw [List.any_eq_true]
  exact ⟨x, List.mem_of_getElem? h, decide_eq_true ⟨h1, h2⟩⟩
theorem has_out {s : PSet} {r : Int} (h : ∀ (k : Nat) x, s.items[k]? = some x → ¬ (x.1 ≤ r ∧ r ≤ x.2)) : s.has r = (s.all || s.neg) := by
  unfold PSet.has inItems
  rw [if_neg]
  rw [List.any_eq_true]
  rintro ⟨x, hx, hd⟩
  obtain ⟨k, hk⟩ := List.mem_iff_getElem?.1 hx
  exact h k x hk (of_decide_eq_true hd)
end Go.Proofs.YtccmekdmnkmhlaaGreat
