/-
  Patterns: what they mean, the machine that is made of one, and the reader as a plain function. No condition, no program.
-/
import Derived.Test.YthlkcoiaahpmoaaAid
namespace Go.Proofs.Ythlkcoiaahpmoaa

/-! ### Sets of runes, trees, and what they mean -/
structure PSet where
  all : Bool
  neg : Bool
  items : List (Int × Int)
def inItems (l : List (Int × Int)) (r : Int) : Bool := l.any fun x => decide (x.1 ≤ r ∧ r ≤ x.2)
def PSet.has (s : PSet) (r : Int) : Bool := if inItems s.items r then !s.neg else s.all || s.neg
inductive T where
  | one (s : PSet)
  | row0
  | rowS (l x : T)
  | alt1 (x : T)
  | altS (l x : T)
  | rep (x : T) (none again : Bool)
inductive Star (P : List Int → Prop) : List Int → Prop
  | nil : Star P []
  | cons {u v : List Int} : P u → Star P v → Star P (u ++ v)
def Lang : T → List Int → Prop
  | .one s, u => ∃ r, u = [r] ∧ s.has r = true
  | .row0, u => u = []
  | .rowS l x, u => ∃ a b, u = a ++ b ∧ Lang l a ∧ Lang x b
  | .alt1 x, u => Lang x u
  | .altS l x, u => Lang l u ∨ Lang x u
  | .rep x nn ag, u => if ag then (if nn then Star (Lang x) u else ∃ a b, u = a ++ b ∧ Lang x a ∧ Star (Lang x) b) else u = [] ∨ Lang x u

/-! ### The machine -/
structure Stp where
  s : PSet
  rune : Bool
  a : Int
  b : Int
/-- From p one comes to q, reading u, by n steps. -/
inductive PathN (F : List Stp) : Nat → Nat → List Int → Nat → Prop
  | refl (q : Nat) : PathN F 0 q [] q
  | eps {n p p' q : Nat} {u : List Int} {s : Stp} (h : F[p]? = some s) (hr : s.rune = false) (ha : s.a = (p' : Int) ∨ s.b = (p' : Int)) (t : PathN F n p' u q) : PathN F (n + 1) p u q
  | rune {n p p' q : Nat} {u : List Int} {s : Stp} {r : Int} (h : F[p]? = some s) (hr : s.rune = true) (hh : s.s.has r = true) (ha : s.a = (p' : Int)) (t : PathN F n p' u q) : PathN F (n + 1) p (r :: u) q
def Path (F : List Stp) (p : Nat) (u : List Int) (q : Nat) : Prop := ∃ n, PathN F n p u q
theorem path_refl (F : List Stp) (q : Nat) : Path F q [] q := ⟨0, .refl q⟩
theorem path_eps {F : List Stp} {p p' q : Nat} {u : List Int} {s : Stp} (h : F[p]? = some s) (hr : s.rune = false) (ha : s.a = (p' : Int) ∨ s.b = (p' : Int)) (t : Path F p' u q) : Path F p u q := by
  obtain ⟨n, t⟩ := t
  exact ⟨_, .eps h hr ha t⟩
theorem path_rune {F : List Stp} {p p' q : Nat} {u : List Int} {s : Stp} {r : Int} (h : F[p]? = some s) (hr : s.rune = true) (hh : s.s.has r = true) (ha : s.a = (p' : Int)) (t : Path F p' u q) : Path F p (r :: u) q := by
  obtain ⟨n, t⟩ := t
  exact ⟨_, .rune h hr hh ha t⟩
theorem path_trans {F : List Stp} {p m q : Nat} {u v : List Int} (h : Path F p u m) (k : Path F m v q) : Path F p (u ++ v) q := by
  obtain ⟨n, h⟩ := h
  induction h with
  | refl q' => exact k
  | eps h hr ha t ih => exact path_eps h hr ha (ih k)
  | rune h hr hh ha t ih => exact path_rune h hr hh ha (ih k)
/-- The last rune that is read. -/
theorem path_snoc {F : List Stp} {p q : Nat} {u : List Int} {r : Int} : Path F p (u ++ [r]) q ↔ ∃ (m : Nat) (s : Stp) (m' : Nat), Path F p u m ∧ F[m]? = some s ∧ s.rune = true ∧ s.s.has r = true ∧ s.a = (m' : Int) ∧ Path F m' [] q := by
  constructor
  · rintro ⟨n, h⟩
    obtain ⟨v, hv⟩ : ∃ v, v = u ++ [r] := ⟨_, rfl⟩
    rw [← hv] at h
    induction h generalizing u with
    | refl q' => simp at hv
    | eps h hr ha t ih =>
      obtain ⟨m, s, m', h1, h2⟩ := ih hv
      exact ⟨m, s, m', path_eps h hr ha h1, h2⟩
    | @rune n p p' q u' s r' h hr hh ha t ih =>
      cases u with
      | nil =>
        simp only [List.nil_append, List.cons.injEq] at hv
        obtain ⟨rfl, rfl⟩ := hv
        exact ⟨p, s, p', path_refl _ _, h, hr, hh, ha, ⟨_, t⟩⟩
      | cons c u =>
        simp only [List.cons_append, List.cons.injEq] at hv
        obtain ⟨rfl, rfl⟩ := hv
        obtain ⟨m, s2, m', h1, h2⟩ := ih rfl
        exact ⟨m, s2, m', path_rune h hr hh ha h1, h2⟩
  · rintro ⟨m, s, m', h1, h2, h3, h4, h5, h6⟩
    exact path_trans h1 (path_rune h2 h3 h4 h5 h6)

/-- A part of the machine: from a place on to another one. -/
def Frag (F : List Stp) (lo hi : Nat) : T → Nat → Nat → Prop
  | .one s, at', th => lo ≤ at' ∧ at' < hi ∧ ∃ b, F[at']? = some ⟨s, true, (th : Int), b⟩
  | .row0, at', th => at' = th
  | .rowS l x, at', th => ∃ mid, Frag F lo hi x mid th ∧ Frag F lo hi l at' mid
  | .alt1 x, at', th => Frag F lo hi x at' th
  | .altS l x, at', th => lo ≤ at' ∧ at' < hi ∧ ∃ (a b : Nat) (s : PSet), F[at']? = some ⟨s, false, (a : Int), (b : Int)⟩ ∧ Frag F lo hi l a th ∧ Frag F lo hi x b th
  | .rep x nn ag, at', th =>
    if ag then ∃ (turn a : Nat) (s : PSet), lo ≤ turn ∧ turn < hi ∧ F[turn]? = some ⟨s, false, (a : Int), (th : Int)⟩ ∧ Frag F lo hi x a turn ∧ at' = (if nn then turn else a)
    else lo ≤ at' ∧ at' < hi ∧ ∃ (a : Nat) (s : PSet), F[at']? = some ⟨s, false, (a : Int), (th : Int)⟩ ∧ Frag F lo hi x a th
theorem frag_mono {F F' : List Stp} {lo hi lo' hi' : Nat} (h1 : lo' ≤ lo) (h2 : hi ≤ hi') (h3 : ∀ i, lo ≤ i → i < hi → F'[i]? = F[i]?) : ∀ (x : T) (at' th : Nat), Frag F lo hi x at' th → Frag F' lo' hi' x at' th := by
  intro x
  induction x with
  | one s => intro at' th h; obtain ⟨a, b, c, d⟩ := h; exact ⟨by omega, by omega, c, by rw [h3 _ a b]; exact d⟩
  | row0 => intro at' th h; exact h
  | rowS l x ihl ihx => intro at' th h; obtain ⟨m, a, b⟩ := h; exact ⟨m, ihx _ _ a, ihl _ _ b⟩
  | alt1 x ih => intro at' th h; exact ih _ _ h
  | altS l x ihl ihx => intro at' th h; obtain ⟨a, b, c, d, s, e, f, g⟩ := h; exact ⟨by omega, by omega, c, d, s, by rw [h3 _ a b]; exact e, ihl _ _ f, ihx _ _ g⟩
  | rep x nn ag ih =>
    intro at' th h
    unfold Frag at h ⊢
    split
    · rename_i hag
      rw [if_pos hag] at h
      obtain ⟨t, a, s, b, c, d, e, f⟩ := h
      exact ⟨t, a, s, by omega, by omega, by rw [h3 _ b c]; exact d, ih _ _ e, f⟩
    · rename_i hag
      rw [if_neg hag] at h
      obtain ⟨b, c, a, s, d, e⟩ := h
      exact ⟨by omega, by omega, a, s, by rw [h3 _ b c]; exact d, ih _ _ e⟩
theorem frag_in {F : List Stp} {lo hi : Nat} : ∀ (x : T) (at' th : Nat) (u v : List Int) (q : Nat), Frag F lo hi x at' th → Lang x u → Path F th v q → Path F at' (u ++ v) q := by
  intro x
  induction x with
  | one s =>
    rintro at' th u v q ⟨_, _, b, hF⟩ ⟨r, rfl, hh⟩ k
    exact path_rune hF rfl hh rfl k
  | row0 =>
    intro at' th u v q h hu k
    obtain rfl : at' = th := h
    obtain rfl : u = [] := hu
    exact k
  | rowS l x ihl ihx =>
    rintro at' th u v q ⟨m, h1, h2⟩ ⟨a, b, rfl, ha, hb⟩ k
    rw [List.append_assoc]
    exact ihl _ _ _ _ _ h2 ha (ihx _ _ _ _ _ h1 hb k)
  | alt1 x ih => intro at' th u v q h hu k; exact ih _ _ _ _ _ h hu k
  | altS l x ihl ihx =>
    rintro at' th u v q ⟨_, _, a, b, s, hF, h1, h2⟩ hu k
    rcases hu with hu | hu
    · exact path_eps hF rfl (.inl rfl) (ihl _ _ _ _ _ h1 hu k)
    · exact path_eps hF rfl (.inr rfl) (ihx _ _ _ _ _ h2 hu k)
  | rep x nn ag ih =>
    intro at' th u v q h hu k
    unfold Frag at h
    unfold Lang at hu
    cases ag with
    | false =>
      obtain ⟨_, _, a, s, hF, h1⟩ := h
      rcases hu with rfl | hu
      · exact path_eps hF rfl (.inr rfl) k
      · exact path_eps hF rfl (.inl rfl) (ih _ _ _ _ _ h1 hu k)
    | true =>
      simp only [if_true] at h hu
      obtain ⟨t, a, s, _, _, hF, h1, h2⟩ := h
      have hst : ∀ {w}, Star (Lang x) w → Path F t (w ++ v) q := by
        intro w hw
        induction hw with
        | nil => exact path_eps hF rfl (.inr rfl) k
        | cons hu _ ih2 =>
          rw [List.append_assoc]
          exact path_eps hF rfl (.inl rfl) (ih _ _ _ _ _ h1 hu ih2)
      cases nn with
      | true => obtain rfl : at' = t := h2; exact hst hu
      | false =>
        obtain rfl : at' = a := h2
        obtain ⟨y, z, rfl, hy, hz⟩ := hu
        rw [List.append_assoc]
        exact ih _ _ _ _ _ h1 hy (hst hz)
theorem frag_out {F : List Stp} {lo hi : Nat} (hlo : 1 ≤ lo) : ∀ (x : T) (at' th : Nat) (n : Nat) (u : List Int), Frag F lo hi x at' th → PathN F n at' u 0 → ∃ u1 u2 m, u = u1 ++ u2 ∧ Lang x u1 ∧ PathN F m th u2 0 ∧ m ≤ n := by
  intro x
  induction x with
  | one s =>
    rintro at' th n u ⟨h0, _, b, hF⟩ h
    cases h with
    | refl => omega
    | eps h hr ha t => rw [hF] at h; obtain rfl := Option.some.inj h; cases hr
    | @rune n _ p' _ u' s' r h hr hh ha t =>
      rw [hF] at h
      obtain rfl := Option.some.inj h
      have e : th = p' := by have e2 : (th : Int) = p' := ha; omega
      subst e
      exact ⟨[r], u', n, rfl, ⟨r, rfl, hh⟩, t, by omega⟩
  | row0 =>
    intro at' th n u h k
    obtain rfl : at' = th := h
    exact ⟨[], u, n, rfl, rfl, k, Nat.le_refl _⟩
  | rowS l x ihl ihx =>
    rintro at' th n u ⟨m, h1, h2⟩ k
    obtain ⟨u1, u2, n2, rfl, hl, k2, hn⟩ := ihl _ _ _ _ h2 k
    obtain ⟨u3, u4, n3, rfl, hx, k3, hn3⟩ := ihx _ _ _ _ h1 k2
    exact ⟨u1 ++ u3, u4, n3, by rw [List.append_assoc], ⟨u1, u3, rfl, hl, hx⟩, k3, by omega⟩
  | alt1 x ih => intro at' th n u h k; exact ih _ _ _ _ h k
  | altS l x ihl ihx =>
    rintro at' th n u ⟨h0, _, a, b, s, hF, h1, h2⟩ k
    cases k with
    | refl => omega
    | rune h hr hh ha t => rw [hF] at h; obtain rfl := Option.some.inj h; cases hr
    | @eps n _ p' _ _ s' h hr ha t =>
      rw [hF] at h
      obtain rfl := Option.some.inj h
      rcases ha with ha | ha
      · have e : a = p' := by have e2 : (a : Int) = p' := ha; omega
        subst e
        obtain ⟨u1, u2, m, rfl, hl, k2, hm⟩ := ihl _ _ _ _ h1 t
        exact ⟨u1, u2, m, rfl, .inl hl, k2, by omega⟩
      · have e : b = p' := by have e2 : (b : Int) = p' := ha; omega
        subst e
        obtain ⟨u1, u2, m, rfl, hl, k2, hm⟩ := ihx _ _ _ _ h2 t
        exact ⟨u1, u2, m, rfl, .inr hl, k2, by omega⟩
  | rep x nn ag ih =>
    intro at' th n u h k
    unfold Frag at h
    cases ag with
    | false =>
      obtain ⟨h0, _, a, s, hF, h1⟩ := h
      cases k with
      | refl => omega
      | rune h hr hh ha t => rw [hF] at h; obtain rfl := Option.some.inj h; cases hr
      | @eps n _ p' _ _ s' h hr ha t =>
        rw [hF] at h
        obtain rfl := Option.some.inj h
        rcases ha with ha | ha
        · have e : a = p' := by have e2 : (a : Int) = p' := ha; omega
          subst e
          obtain ⟨u1, u2, m, rfl, hl, k2, hm⟩ := ih _ _ _ _ h1 t
          exact ⟨u1, u2, m, rfl, .inr hl, k2, by omega⟩
        · have e : th = p' := by have e2 : (th : Int) = p' := ha; omega
          subst e
          exact ⟨[], u, n, rfl, .inl rfl, t, by omega⟩
    | true =>
      simp only [if_true] at h
      obtain ⟨tn, a, s, h0, _, hF, h1, h2⟩ := h
      have hturn : ∀ (n : Nat) (u : List Int), PathN F n tn u 0 → ∃ u1 u2 m, u = u1 ++ u2 ∧ Star (Lang x) u1 ∧ PathN F m th u2 0 ∧ m ≤ n := by
        intro n
        induction n using Nat.strongRecOn with
        | ind n ihn =>
          intro u k
          cases k with
          | refl => omega
          | rune h hr hh ha t => rw [hF] at h; obtain rfl := Option.some.inj h; cases hr
          | @eps n' _ p' _ _ s' h hr ha t =>
            rw [hF] at h
            obtain rfl := Option.some.inj h
            rcases ha with ha | ha
            · have e : a = p' := by have e2 : (a : Int) = p' := ha; omega
              subst e
              obtain ⟨u1, u2, m, rfl, hl, k2, hm⟩ := ih _ _ _ _ h1 t
              obtain ⟨u3, u4, m2, rfl, hs, k3, hm2⟩ := ihn m (by omega) _ k2
              exact ⟨u1 ++ u3, u4, m2, by rw [List.append_assoc], .cons hl hs, k3, by omega⟩
            · have e : th = p' := by have e2 : (th : Int) = p' := ha; omega
              subst e
              exact ⟨[], u, n', rfl, .nil, t, by omega⟩
      unfold Lang
      cases nn with
      | true =>
        obtain rfl : at' = tn := h2
        obtain ⟨u1, u2, m, e, hs, k2, hm⟩ := hturn n u k
        exact ⟨u1, u2, m, e, hs, k2, hm⟩
      | false =>
        obtain rfl : at' = a := h2
        obtain ⟨u1, u2, m, rfl, hl, k2, hm⟩ := ih _ _ _ _ h1 k
        obtain ⟨u3, u4, m2, rfl, hs, k3, hm2⟩ := hturn m u2 k2
        exact ⟨u1 ++ u3, u4, m2, by rw [List.append_assoc], ⟨u1, u3, rfl, hl, hs⟩, k3, by omega⟩
/-- The whole machine. -/
structure Mach (F : List Stp) (first : Nat) (x : T) : Prop where
  stop : ∃ s, F[0]? = some ⟨s, false, -1, -1⟩
  frag : Frag F 1 F.length x first 0
theorem mach_lang {F : List Stp} {first : Nat} {x : T} (h : Mach F first x) (u : List Int) : Path F first u 0 ↔ Lang x u := by
  constructor
  · rintro ⟨n, k⟩
    obtain ⟨u1, u2, m, rfl, hl, k2, _⟩ := frag_out (Nat.le_refl _) x _ _ _ _ h.frag k
    obtain ⟨s, hs⟩ := h.stop
    cases k2 with
    | refl => rw [List.append_nil]; exact hl
    | eps h hr ha t =>
      rw [hs] at h
      obtain rfl := Option.some.inj h
      rcases ha with ha | ha <;> (simp only at ha; omega)
    | rune h hr hh ha t => rw [hs] at h; obtain rfl := Option.some.inj h; cases hr
  · intro hl
    have := frag_in x _ _ u [] 0 h.frag hl (path_refl _ _)
    rwa [List.append_nil] at this

/-! ### The reader, with fuel; none: it is no pattern -/
abbrev Rs := List Int
def pMember : Rs → Option (Int × Rs)
  | [] => none
  | c :: t => if c = 92 then (match t with | [] => none | d :: t2 => some (d, t2)) else some (c, t)
/-- A range's end, if there is one. -/
def pTo (a : Int) (l : Rs) : Option (Int × Rs) :=
  match l with
  | c :: d :: t => if c = 45 ∧ d ≠ 93 then pMember (d :: t) else some (a, l)
  | _ => some (a, l)
def pItems : Nat → Bool → List (Int × Int) → Rs → Option (PSet × Rs)
  | 0, _, _, _ => none
  | n + 1, neg, its, l =>
    match l with
    | [] => none
    | c :: t =>
      if c = 93 then (if its = [] then none else some (⟨false, neg, its⟩, t))
      else match pMember l with
        | none => none
        | some (a, l1) =>
          match pTo a l1 with
          | none => none
          | some (b, l2) => if a ≤ b then pItems n neg (its ++ [(a, b)]) l2 else none
def pClass (n : Nat) (l : Rs) : Option (PSet × Rs) :=
  match l with
  | [] => none
  | c :: t => if c = 94 then pItems n true [] t else pItems n false [] l
def pTimes (x : T) (l : Rs) : T × Rs :=
  match l with
  | [] => (x, [])
  | c :: t => if c = 42 then (.rep x true true, t) else if c = 43 then (.rep x false true, t) else if c = 63 then (.rep x true false, t) else (x, l)
def barred (c : Int) : Bool := decide (c = 42 ∨ c = 43 ∨ c = 63 ∨ c = 124 ∨ c = 41 ∨ c = 93)
def oneOf (c : Int) : T := .one ⟨false, false, [(c, c)]⟩
mutual
def pAlt : Nat → Rs → Option (T × Rs)
  | 0, _ => none
  | n + 1, l =>
    match pRow n .row0 l with
    | none => none
    | some (x, l1) => pAlts n (.alt1 x) l1
def pAlts : Nat → T → Rs → Option (T × Rs)
  | 0, _, _ => none
  | n + 1, x, l =>
    match l with
    | [] => some (x, [])
    | c :: t =>
      if c = 124 then
        match pRow n .row0 t with
        | none => none
        | some (y, l1) => pAlts n (.altS x y) l1
      else some (x, l)
def pRow : Nat → T → Rs → Option (T × Rs)
  | 0, _, _ => none
  | n + 1, x, l =>
    match l with
    | [] => some (x, [])
    | c :: _ =>
      if c = 124 ∨ c = 41 then some (x, l)
      else match pAtom n l with
        | none => none
        | some (y, l1) => pRow n (.rowS x (pTimes y l1).1) (pTimes y l1).2
def pAtom : Nat → Rs → Option (T × Rs)
  | 0, _ => none
  | n + 1, l =>
    match l with
    | [] => none
    | c :: t =>
      if c = 40 then
        match pAlt n t with
        | none => none
        | some (x, l1) =>
          match l1 with
          | [] => none
          | d :: l2 => if d = 41 then some (x, l2) else none
      else if c = 91 then
        match pClass n t with
        | none => none
        | some (s, l1) => some (.one s, l1)
      else if c = 46 then some (.one ⟨true, false, []⟩, t)
      else if c = 92 then
        match t with
        | [] => none
        | d :: l2 => some (oneOf d, l2)
      else if barred c then none
      else some (oneOf c, t)
end
theorem pItems_eq (n : Nat) (neg : Bool) (its : List (Int × Int)) (l : Rs) : pItems (n + 1) neg its l =
    match l with
    | [] => none
    | c :: t =>
      if c = 93 then (if its = [] then none else some (⟨false, neg, its⟩, t))
      else match pMember l with
        | none => none
        | some (a, l1) =>
          match pTo a l1 with
          | none => none
          | some (b, l2) => if a ≤ b then pItems n neg (its ++ [(a, b)]) l2 else none := by cases l <;> rfl
theorem pAlts_eq (n : Nat) (x : T) (l : Rs) : pAlts (n + 1) x l =
    match l with
    | [] => some (x, [])
    | c :: t =>
      if c = 124 then
        match pRow n .row0 t with
        | none => none
        | some (y, l1) => pAlts n (.altS x y) l1
      else some (x, l) := by cases l <;> rfl
theorem pRow_eq (n : Nat) (x : T) (l : Rs) : pRow (n + 1) x l =
    match l with
    | [] => some (x, [])
    | c :: _ =>
      if c = 124 ∨ c = 41 then some (x, l)
      else match pAtom n l with
        | none => none
        | some (y, l1) => pRow n (.rowS x (pTimes y l1).1) (pTimes y l1).2 := by cases l <;> rfl
theorem pAtom_eq (n : Nat) (l : Rs) : pAtom (n + 1) l =
    match l with
    | [] => none
    | c :: t =>
      if c = 40 then
        match pAlt n t with
        | none => none
        | some (x, l1) =>
          match l1 with
          | [] => none
          | d :: l2 => if d = 41 then some (x, l2) else none
      else if c = 91 then
        match pClass n t with
        | none => none
        | some (s, l1) => some (.one s, l1)
      else if c = 46 then some (.one ⟨true, false, []⟩, t)
      else if c = 92 then
        match t with
        | [] => none
        | d :: l2 => some (oneOf d, l2)
      else if barred c then none
      else some (oneOf c, t) := by cases l <;> rfl
end Go.Proofs.Ythlkcoiaahpmoaa
