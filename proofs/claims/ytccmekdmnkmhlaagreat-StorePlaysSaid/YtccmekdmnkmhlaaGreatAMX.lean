/-
  Several facts, one behind the other; no condition but bounds: Where a part of a document's pattern may be left, if it is entered at one of the marked places. No condition. The document's Ends: what a call wants and answers; the part that is nothing. No condition but a bound. The document's Ends: one part behind the other. No condition but a bound. The document's Ends: one part or the other. No condition but a bound. The document's part.one: is a rune what a part of one rune says? No condition. The document's Ends: a part of one rune. No condition but a bound. The document's Ends: a part of one rune. No condition but a bound. The document's Ends: a part of one rune. No condition but a bound.
-/
import Derived.Test.YtccmekdmnkmhlaaGreatAEX
import Derived.Test.YtccmekdmnkmhlaaGreatSqRefPatA
import Derived.Test.YtccmekdmnkmhlaaGreatAIX
import Derived.Test.YtccmekdmnkmhlaaGreatRowMore
import Derived.Test.YtccmekdmnkmhlaaGreatQuietGr
namespace Go.Proofs.YtccmekdmnkmhlaaGreat
open Go.RowKit

/-- The text from i to j. -/
def seg (s : List Int) (i j : Nat) : List Int := (s.drop i).take (j - i)
theorem seg_self (s : List Int) (i : Nat) : seg s i i = [] := by unfold seg; rw [Nat.sub_self, List.take_zero]
theorem seg_len {s : List Int} {i j : Nat} (hj : j ≤ s.length) : (seg s i j).length = j - i := by
  unfold seg
  rw [List.length_take, List.length_drop]
  omega
theorem seg_app {s : List Int} {i k j : Nat} (h1 : i ≤ k) (h2 : k ≤ j) : seg s i j = seg s i k ++ seg s k j := by
  unfold seg
  have h3 : j - i = (k - i) + (j - k) := by omega
  rw [h3, List.take_add, List.drop_drop, show i + (k - i) = k by omega]
theorem seg_split {s : List Int} {i j : Nat} {a b : List Int} (hij : i ≤ j) (hj : j ≤ s.length) (h : seg s i j = a ++ b) : ∃ k, i ≤ k ∧ k ≤ j ∧ a = seg s i k ∧ b = seg s k j := by
  have hl := congrArg List.length h
  rw [seg_len hj, List.length_append] at hl
  refine ⟨i + a.length, by omega, by omega, ?_⟩
  have h2 := seg_app (s := s) (i := i) (k := i + a.length) (j := j) (by omega) (by omega)
  rw [h] at h2
  have h3 : (seg s i (i + a.length)).length = a.length := by rw [seg_len (by omega)]; omega
  exact List.append_inj h2 h3.symm
theorem seg_one {s : List Int} {i : Nat} {r : Int} (h : s[i]? = some r) : seg s i (i + 1) = [r] := by
  obtain ⟨h1, h2⟩ := List.getElem?_eq_some_iff.1 h
  unfold seg
  rw [show i + 1 - i = 1 by omega, List.drop_eq_getElem_cons h1, h2]
  rfl
theorem at_some {l : List Bool} {j : Nat} (h : j < l.length) : ∃ b, l[j]? = some b := ⟨_, List.getElem?_eq_getElem h⟩
/-- out tells just the places where t may be left. -/
def EndsIs (t : T) (s : List Int) (mk out : List Bool) : Prop := out.length = s.length + 1 ∧ ∀ j, j ≤ s.length → (out[j]? = some true ↔ ∃ i, i ≤ j ∧ mk[i]? = some true ∧ Lang t (seg s i j))
theorem ends_row0 {s : List Int} {mk : List Bool} (h : mk.length = s.length + 1) : EndsIs .row0 s mk mk := by
  refine ⟨h, fun j hj => ⟨fun h1 => ⟨j, Nat.le_refl _, h1, seg_self s j⟩, ?_⟩⟩
  rintro ⟨i, hi, h1, h2⟩
  have h3 : seg s i j = [] := h2
  have h4 := congrArg List.length h3
  rw [seg_len hj, List.length_nil] at h4
  obtain rfl : i = j := by omega
  exact h1
theorem ends_alt1 {x : T} {s : List Int} {mk out : List Bool} (h : EndsIs x s mk out) : EndsIs (.alt1 x) s mk out := h
theorem ends_one {S : PSet} {s : List Int} {mk out : List Bool} (hm : mk.length = s.length + 1) (ho : out.length = s.length + 1) (h0 : out[0]? = some false) (h1 : ∀ (i : Nat) (r : Int) (b : Bool), s[i]? = some r → mk[i]? = some b → out[i + 1]? = some (b && S.has r)) : EndsIs (.one S) s mk out := by
  refine ⟨ho, fun j hj => ?_⟩
  cases j with
  | zero =>
    rw [h0]
    constructor
    · intro h; cases h
    · rintro ⟨i, hi, _, r, h3, _⟩
      obtain rfl : i = 0 := by omega
      rw [seg_self] at h3
      cases h3
  | succ j =>
    have hjl : j < s.length := by omega
    have hs : s[j]? = some s[j] := List.getElem?_eq_getElem hjl
    obtain ⟨mj, hmj⟩ := at_some (l := mk) (j := j) (by omega)
    rw [h1 j _ _ hs hmj]
    constructor
    · intro h
      have h' : (mj && S.has s[j]) = true := Option.some.inj h
      rw [Bool.and_eq_true] at h'
      exact ⟨j, by omega, by rw [hmj, h'.1], s[j], seg_one hs, h'.2⟩
    · rintro ⟨i, hi, h2, r, h3, h4⟩
      have h5 := congrArg List.length h3
      rw [seg_len hj, List.length_singleton] at h5
      obtain rfl : i = j := by omega
      rw [seg_one hs] at h3
      have h6 : s[i] = r := by simpa using h3
      rw [hmj] at h2
      rw [Option.some.inj h2, h6, h4]
      rfl
theorem ends_row {x y : T} {s : List Int} {mk m out : List Bool} (h : EndsIs x s mk m) (k : EndsIs y s m out) : EndsIs (.rowS x y) s mk out := by
  refine ⟨k.1, fun j hj => ?_⟩
  rw [k.2 j hj]
  constructor
  · rintro ⟨i, hi, h1, h2⟩
    obtain ⟨i0, hi0, h3, h4⟩ := (h.2 i (by omega)).1 h1
    exact ⟨i0, by omega, h3, _, _, seg_app hi0 hi, h4, h2⟩
  · rintro ⟨i0, hi0, h3, a, b, h4, h5, h6⟩
    obtain ⟨i, hi1, hi2, rfl, rfl⟩ := seg_split hi0 hj h4
    exact ⟨i, hi2, (h.2 i (by omega)).2 ⟨i0, hi1, h3, h5⟩, h6⟩
theorem ends_alt {x y : T} {s : List Int} {mk u v out : List Bool} (h : EndsIs x s mk u) (k : EndsIs y s mk v) (ho : out.length = s.length + 1) (h1 : ∀ (i : Nat) (a b : Bool), u[i]? = some a → v[i]? = some b → out[i]? = some (a || b)) : EndsIs (.altS x y) s mk out := by
  refine ⟨ho, fun j hj => ?_⟩
  obtain ⟨uj, hu⟩ := at_some (l := u) (j := j) (by have := h.1; omega)
  obtain ⟨vj, hv⟩ := at_some (l := v) (j := j) (by have := k.1; omega)
  have a1 := h.2 j hj
  have a2 := k.2 j hj
  rw [hu] at a1
  rw [hv] at a2
  rw [h1 j _ _ hu hv]
  constructor
  · intro e
    have e' : (uj || vj) = true := Option.some.inj e
    rcases Bool.or_eq_true _ _ ▸ e' with e' | e'
    · obtain ⟨i, hi, q1, q2⟩ := a1.1 (by rw [e'])
      exact ⟨i, hi, q1, .inl q2⟩
    · obtain ⟨i, hi, q1, q2⟩ := a2.1 (by rw [e'])
      exact ⟨i, hi, q1, .inr q2⟩
  · rintro ⟨i, hi, q1, q2 | q2⟩
    · rw [Option.some.inj (a1.2 ⟨i, hi, q1, q2⟩)]; rfl
    · rw [Option.some.inj (a2.2 ⟨i, hi, q1, q2⟩)]; simp
theorem star_end {P : List Int → Prop} {u v : List Int} (h : Star P u) (k : P v) : Star P (u ++ v) := by
  induction h with
  | nil => rw [List.nil_append, ← List.append_nil v]; exact .cons k .nil
  | cons h1 _ ih => rw [List.append_assoc]; exact .cons h1 ih
/-- While the loop goes on: out is what is reached so far, fr what is new of it. -/
structure RepI (x : T) (s : List Int) (st out fr : List Bool) : Prop where
  lo : out.length = s.length + 1
  lf : fr.length = s.length + 1
  sub : ∀ j : Nat, fr[j]? = some true → out[j]? = some true
  sta : ∀ j : Nat, st[j]? = some true → out[j]? = some true
  rch : ∀ j, j ≤ s.length → out[j]? = some true → ∃ i, i ≤ j ∧ st[i]? = some true ∧ Star (Lang x) (seg s i j)
  cls : ∀ i j, i ≤ j → j ≤ s.length → out[i]? = some true → fr[i]? ≠ some true → Lang x (seg s i j) → out[j]? = some true
theorem rep_start (x : T) {s : List Int} {st : List Bool} (h : st.length = s.length + 1) : RepI x s st st st :=
  ⟨h, h, fun _ h => h, fun _ h => h, fun j _ h => ⟨j, Nat.le_refl _, h, by rw [seg_self]; exact .nil⟩, fun _ _ _ _ h1 h2 => absurd h1 h2⟩
theorem rep_step {x : T} {s : List Int} {st out fr now out' fr' : List Bool} (h : RepI x s st out fr) (hn : EndsIs x s fr now) (lo' : out'.length = s.length + 1) (lf' : fr'.length = s.length + 1) (ho : ∀ (k : Nat) (a b : Bool), out[k]? = some a → now[k]? = some b → out'[k]? = some (a || b)) (hf : ∀ (k : Nat) (a b : Bool), out[k]? = some a → now[k]? = some b → fr'[k]? = some (b && !a)) : RepI x s st out' fr' := by
  have at1 : ∀ {j : Nat}, j ≤ s.length → ∃ a b, out[j]? = some a ∧ now[j]? = some b ∧ out'[j]? = some (a || b) ∧ fr'[j]? = some (b && !a) := fun {j} hj => by
    obtain ⟨oj, h1⟩ := at_some (l := out) (j := j) (by have := h.lo; omega)
    obtain ⟨nj, h2⟩ := at_some (l := now) (j := j) (by have := hn.1; omega)
    exact ⟨_, _, h1, h2, ho j _ _ h1 h2, hf j _ _ h1 h2⟩
  have bd : ∀ {l : List Bool} {j : Nat}, l.length = s.length + 1 → l[j]? = some true → j ≤ s.length := fun {l j} hl hj => by
    have := (List.getElem?_eq_some_iff.1 hj).1; omega
  have up : ∀ {j : Nat}, out[j]? = some true → out'[j]? = some true := fun {j} hj => by
    obtain ⟨a, b, h1, h2, h3, h4⟩ := at1 (bd h.lo hj)
    rw [hj] at h1
    obtain rfl := Option.some.inj h1
    rw [h3]; rfl
  have upn : ∀ {j : Nat}, j ≤ s.length → now[j]? = some true → out'[j]? = some true := fun {j} hj hj2 => by
    obtain ⟨a, b, h1, h2, h3, h4⟩ := at1 hj
    rw [hj2] at h2
    obtain rfl := Option.some.inj h2
    rw [h3, Bool.or_true]
  refine ⟨lo', lf', fun j hj => ?_, fun j hj => up (h.sta j hj), fun j hj h1 => ?_, fun i j hij hj h1 h2 h3 => ?_⟩
  · obtain ⟨a, b, h1, h2, h3, h4⟩ := at1 (bd lf' hj)
    rw [h4] at hj
    have : (b && !a) = true := Option.some.inj hj
    rw [Bool.and_eq_true] at this
    rw [h3, this.1, Bool.or_true]
  · obtain ⟨a, b, q1, q2, q3, q4⟩ := at1 hj
    rw [q3] at h1
    have h1' : (a || b) = true := Option.some.inj h1
    rcases Bool.or_eq_true _ _ ▸ h1' with e | e
    · exact h.rch j hj (by rw [q1, e])
    · obtain ⟨i, hi, k1, k2⟩ := (hn.2 j hj).1 (by rw [q2, e])
      obtain ⟨i0, hi0, k3, k4⟩ := h.rch i (by omega) (h.sub i k1)
      exact ⟨i0, by omega, k3, by rw [seg_app hi0 hi]; exact star_end k4 k2⟩
  · obtain ⟨a, b, q1, q2, q3, q4⟩ := at1 (show i ≤ s.length by omega)
    cases a with
    | true =>
      by_cases hfr : fr[i]? = some true
      · exact upn hj ((hn.2 j hj).2 ⟨i, hij, hfr, h3⟩)
      · exact up (h.cls i j hij hj q1 hfr h3)
    | false =>
      rw [q3] at h1
      have hb : b = true := by simpa using h1
      rw [q4, hb] at h2
      exact absurd rfl h2
theorem rep_done {x : T} {s : List Int} {st out fr : List Bool} (h : RepI x s st out fr) (hf : ∀ j : Nat, fr[j]? ≠ some true) : ∀ j, j ≤ s.length → (out[j]? = some true ↔ ∃ i, i ≤ j ∧ st[i]? = some true ∧ Star (Lang x) (seg s i j)) := by
  intro j hj
  refine ⟨h.rch j hj, ?_⟩
  rintro ⟨i, hi, h1, h2⟩
  have key : ∀ u, Star (Lang x) u → ∀ i, i ≤ j → u = seg s i j → out[i]? = some true → out[j]? = some true := by
    intro u hu
    induction hu with
    | nil =>
      intro i hi e ho
      have h4 := congrArg List.length e
      rw [seg_len hj, List.length_nil] at h4
      obtain rfl : i = j := by omega
      exact ho
    | cons hP _ ih =>
      intro i hi e ho
      obtain ⟨k, k1, k2, rfl, rfl⟩ := seg_split hi hj e.symm
      exact ih k k2 rfl (h.cls i k k1 (by omega) ho (hf i) hP)
  exact key _ h2 i hi rfl (h.sta i h1)
theorem ends_star {x : T} {s : List Int} {mk out fr : List Bool} (h : RepI x s mk out fr) (hf : ∀ j : Nat, fr[j]? ≠ some true) : EndsIs (.rep x true true) s mk out := ⟨h.lo, rep_done h hf⟩
theorem ends_plus {x : T} {s : List Int} {mk st out fr : List Bool} (h0 : EndsIs x s mk st) (h : RepI x s st out fr) (hf : ∀ j : Nat, fr[j]? ≠ some true) : EndsIs (.rep x false true) s mk out := by
  refine ⟨h.lo, fun j hj => ?_⟩
  rw [rep_done h hf j hj]
  constructor
  · rintro ⟨i, hi, h1, h2⟩
    obtain ⟨i0, hi0, h3, h4⟩ := (h0.2 i (by omega)).1 h1
    exact ⟨i0, by omega, h3, _, _, seg_app hi0 hi, h4, h2⟩
  · rintro ⟨i0, hi0, h3, a, b, h4, h5, h6⟩
    obtain ⟨i, hi1, hi2, rfl, rfl⟩ := seg_split hi0 hj h4
    exact ⟨i, hi2, (h0.2 i (by omega)).2 ⟨i0, hi1, h3, h5⟩, h6⟩
theorem ends_none {x : T} {s : List Int} {mk : List Bool} (nn ag : Bool) (h : mk.length = s.length + 1) (hf : ∀ j : Nat, mk[j]? ≠ some true) : EndsIs (.rep x nn ag) s mk mk :=
  ⟨h, fun j _ => ⟨fun h1 => absurd h1 (hf j), fun ⟨i, _, h1, _⟩ => absurd h1 (hf i)⟩⟩
theorem ends_opt {x : T} {s : List Int} {mk now out : List Bool} (hm : mk.length = s.length + 1) (hn : EndsIs x s mk now) (lo : out.length = s.length + 1) (ho : ∀ (k : Nat) (a b : Bool), mk[k]? = some a → now[k]? = some b → out[k]? = some (a || b)) : EndsIs (.rep x true false) s mk out := by
  refine ⟨lo, fun j hj => ?_⟩
  obtain ⟨mj, h1⟩ := at_some (l := mk) (j := j) (by omega)
  obtain ⟨nj, h2⟩ := at_some (l := now) (j := j) (by have := hn.1; omega)
  have a2 := hn.2 j hj
  rw [h2] at a2
  rw [ho j _ _ h1 h2]
  constructor
  · intro e
    have e' : (mj || nj) = true := Option.some.inj e
    rcases Bool.or_eq_true _ _ ▸ e' with e' | e'
    · exact ⟨j, Nat.le_refl _, by rw [h1, e'], .inl (seg_self s j)⟩
    · obtain ⟨i, hi, q1, q2⟩ := a2.1 (by rw [e'])
      exact ⟨i, hi, q1, .inr q2⟩
  · rintro ⟨i, hi, q1, q2 | q2⟩
    · have h4 := congrArg List.length (show seg s i j = [] from q2)
      rw [seg_len hj, List.length_nil] at h4
      obtain rfl : i = j := by omega
      rw [h1] at q1
      rw [Option.some.inj q1]; rfl
    · rw [Option.some.inj (a2.2 ⟨i, hi, q1, q2⟩), Bool.or_true]
/-- How many are false. -/
def cntF : List Bool → Nat
  | [] => 0
  | b :: l => (if b = true then 0 else 1) + cntF l
theorem cnt_le : ∀ {l l' : List Bool}, l.length = l'.length → (∀ k : Nat, l[k]? = some true → l'[k]? = some true) → cntF l' ≤ cntF l
  | [], [], _, _ => Nat.le_refl _
  | a :: l, b :: l', hl, h => by
    have h1 := cnt_le (l := l) (l' := l') (by simpa using hl) (fun k hk => by have := h (k + 1) (by simpa using hk); simpa using this)
    have h2 : a = true → b = true := fun e => by have := h 0 (by simp [e]); simpa using this
    unfold cntF
    cases a <;> cases b <;> simp_all <;> omega
theorem cnt_lt : ∀ {l l' : List Bool}, l.length = l'.length → (∀ k : Nat, l[k]? = some true → l'[k]? = some true) → (∃ k : Nat, l[k]? = some false ∧ l'[k]? = some true) → cntF l' < cntF l
  | [], _, _, _, ⟨k, h1, _⟩ => by simp at h1
  | _ :: _, [], hl, _, _ => by simp at hl
  | a :: l, b :: l', hl, h, ⟨k, h1, h2⟩ => by
    have hl' : l.length = l'.length := by simpa using hl
    have hs : ∀ k : Nat, l[k]? = some true → l'[k]? = some true := fun k hk => by have := h (k + 1) (by simpa using hk); simpa using this
    have h3 := cnt_le hl' hs
    have h4 : a = true → b = true := fun e => by have := h 0 (by simp [e]); simpa using this
    cases k with
    | zero =>
      obtain rfl : a = false := by simpa using h1
      obtain rfl : b = true := by simpa using h2
      unfold cntF
      simp
      omega
    | succ k =>
      have h5 := cnt_lt hl' hs ⟨k, by simpa using h1, by simpa using h2⟩
      unfold cntF
      cases a <;> cases b <;> simp_all <;> omega
end Go.Proofs.YtccmekdmnkmhlaaGreat
namespace Go.Proofs.YtccmekdmnkmhlaaGreat
open Go.RowKit

/-- The pattern's parts and the text, in memory. -/
structure EH (X : Nat) (pA : Option Addr) (np pc : Nat) (ps : List Prt) (s : List Int) (sA : Option Addr) (w : World) : Prop where
  cell : w.cell? ⟨X, 0, none⟩ = some (.slice pA np pc)
  prow : Row w pA np 9 (sR prtC ps)
  srow : Row w sA s.length 1 (s.map (.int .i32))
theorem eh_gr {X : Nat} {pA : Option Addr} {np pc : Nat} {ps : List Prt} {s : List Int} {sA : Option Addr} {w w' : World} (h : EH X pA np pc ps s sA w) (g : Gr w w') : EH X pA np pc ps s sA w' := ⟨gr_cell g h.cell, row_gr h.prow g, row_gr h.srow g⟩
theorem nodeE_gr {w w' : World} {ps : List Prt} {n : Nat} {x : T} (h : Node w ps n x) (g : Gr w w') : Node w' ps n x := by
  induction h with
  | zero h hk => exact .zero h hk
  | alt1 _ ih => exact .alt1 ih
  | row h hk ha hb han hbn _ _ ih1 ih2 => exact .row h hk ha hb han hbn ih1 ih2
  | alt h hk ha hb han hbn _ _ ih1 ih2 => exact .alt h hk ha hb han hbn ih1 ih2
  | rep h hk ha han _ hl ho hna ih => exact .rep h hk ha han ih hl ho hna
  | rune h hk hr => exact .rune h hk hr
  | dot h hk => exact .dot h hk
  | cls h hk hno hln hhn hlo hhi => exact .cls h hk hno hln hhn (hlo.kept g (Classical.em _)) (hhi.kept g (Classical.em _))
theorem node_row {w : World} {ps : List Prt} {n a b : Nat} {p : Prt} {x y : T} (h : Node w ps n (.rowS x y)) (hp : ps[n]? = some p) (ha : p.a = (a : Int)) (hb : p.b = (b : Int)) : Node w ps a x ∧ Node w ps b y := by
  cases h with
  | row h hk ha' hb' han hbn hx hy =>
    rw [hp] at h
    obtain rfl := Option.some.inj h
    obtain rfl : a = _ := by have := ha.symm.trans ha'; exact_mod_cast this
    obtain rfl : b = _ := by have := hb.symm.trans hb'; exact_mod_cast this
    exact ⟨hx, hy⟩
theorem node_alt {w : World} {ps : List Prt} {n a b : Nat} {p : Prt} {x y : T} (h : Node w ps n (.altS x y)) (hp : ps[n]? = some p) (ha : p.a = (a : Int)) (hb : p.b = (b : Int)) : Node w ps a x ∧ Node w ps b y := by
  cases h with
  | alt h hk ha' hb' han hbn hx hy =>
    rw [hp] at h
    obtain rfl := Option.some.inj h
    obtain rfl : a = _ := by have := ha.symm.trans ha'; exact_mod_cast this
    obtain rfl : b = _ := by have := hb.symm.trans hb'; exact_mod_cast this
    exact ⟨hx, hy⟩
theorem node_rep {w : World} {ps : List Prt} {n a : Nat} {p : Prt} {x : T} {nn ag : Bool} (h : Node w ps n (.rep x nn ag)) (hp : ps[n]? = some p) (ha : p.a = (a : Int)) : Node w ps a x := by
  cases h with
  | rep h hk ha' han hx hl ho hna =>
    rw [hp] at h
    obtain rfl := Option.some.inj h
    obtain rfl : a = _ := by have := ha.symm.trans ha'; exact_mod_cast this
    exact hx
/-- What Ends answers: marks in a block that is new. -/
def EndsPost (N : Nat) (t : T) (s : List Int) (mk : List Bool) (w : World) (e : Ending) (w' : World) : Prop := ∃ (I c : Nat) (out : List Bool), e = .returned (.slice (some ⟨I, 0, none⟩) N c) ∧ w.heap.size ≤ I ∧ BoolAt w' I out ∧ EndsIs t s mk out ∧ Gr w w'
/-- Of part n Ends answers as tree t says. -/
def EndsC (X : Nat) (pA : Option Addr) (np pc : Nat) (ps : List Prt) (s : List Int) (sA : Option Addr) (sc : Nat) (t : T) (n : Nat) : Prop := ∀ (mk : List Bool) (I c : Nat) (w : World), EH X pA np pc ps s sA w → Node w ps n t → BoolAt w I mk → mk.length = s.length + 1 →
  Calls Tryz.prog 128 #[.pointer (some ⟨X, 0, none⟩), .int .i64 n, .slice sA s.length sc, .slice (some ⟨I, 0, none⟩) (s.length + 1) c] w (EndsPost (s.length + 1) t s mk w)
/-! A whole row of marks copied -/
def setsL : List Bool → Nat → List Bool → List Bool
  | bs, _, [] => bs
  | bs, o, v :: r => setsL (bs.set o v) (o + 1) r
theorem bool_sets {I : Nat} : ∀ (vs : List Bool) (o : Nat) (bs : List Bool) (w : World), BoolAt w I bs → BoolAt (w.setCells I o (vs.map .bool)) I (setsL bs o vs)
  | [], _, _, _, h => h
  | v :: r, o, bs, w, h => bool_sets r (o + 1) (bs.set o v) (w.setCell ⟨I, o, none⟩ (.bool v)) (bool_set h o v)
theorem sets_all : ∀ (vs pre bs : List Bool), bs.length = vs.length → setsL (pre ++ bs) pre.length vs = pre ++ vs
  | [], pre, bs, h => by
    have : bs = [] := List.eq_nil_of_length_eq_zero (by simpa using h)
    rw [this]; rfl
  | v :: r, pre, [], h => by simp at h
  | v :: r, pre, b :: bs, h => by
    have h1 := sets_all r (pre ++ [v]) bs (by simpa using h)
    have h2 : (pre ++ b :: bs).set pre.length v = pre ++ v :: bs := by rw [List.set_append_right _ _ (Nat.le_refl _), Nat.sub_self]; rfl
    unfold setsL
    rw [h2]
    simpa using h1
theorem bool_copy {w : World} {I : Nat} {bs vs : List Bool} (h : BoolAt w I bs) (hl : bs.length = vs.length) : BoolAt (w.setCells I 0 (vs.map .bool)) I vs := by
  have h1 := bool_sets vs 0 bs w h
  have h2 := sets_all vs [] bs hl
  simp only [List.nil_append, List.length_nil] at h2
  rw [h2] at h1
  exact h1
theorem infoBoolS : (Tryz.prog.info? 4).map (·.size) = some 1 := by kernel_rfl
theorem run_bools (W : World) (ty : TypeId) (I J N c1 c2 : Nat) (bs vs : List Bool) (hI : BoolAt W I bs) (hJ : BoolAt W J vs) (hb : bs.length = N) (hv : vs.length = N) :
    (Builtin.copy_ #[129, 129] ty #[.slice (some ⟨I, 0, none⟩) N c1, .slice (some ⟨J, 0, none⟩) N c2]).run Tryz.prog W = .ok (goInt (Nat.min N N)) (W.setCells I 0 (vs.map .bool)) :=
  run_copyK W _ _ ty 4 1 I 0 N c1 ⟨J, 0, none⟩ N c2 (vs.map .bool) Tryz.underlying129 infoBoolS (by rw [List.length_map, hv]; show _ = min N N * 1; omega)
    (fun j v hj => by
      rw [List.getElem?_map] at hj
      cases hq : vs[j]? with
      | none => rw [hq] at hj; cases hj
      | some b =>
        rw [hq] at hj
        obtain rfl := Option.some.inj hj
        rw [add_plain, Nat.zero_add]
        exact bool_cell hJ hq)
    (fun j hj => by
      rw [List.length_map] at hj
      obtain ⟨b, hb2⟩ := at_some (l := bs) (j := j) (by omega)
      rw [Nat.zero_add, bool_cell hI hb2]
      rfl)
    (fun j _ => blk_free hI (0 + j)) (fun v hv2 => by
      obtain ⟨b, _, rfl⟩ := List.mem_map.1 hv2
      rfl)
set_option maxHeartbeats 16000000 in
set_option maxRecDepth 100000 in
theorem ends_c0 (X : Nat) (pA : Option Addr) (np pc : Nat) (ps : List Prt) (s : List Int) (sA : Option Addr) (sc : Nat) (n : Nat) (p : Prt) (hp : ps[n]? = some p) (hsl : s.length ≤ 1000000) (hk : p.k = 0) : EndsC X pA np pc ps s sA sc .row0 n := by
  intro mk I c w hE hnode hI hmk
  obtain ⟨ii, hi, hz0, hz1, hz2⟩ := info_parts infoBool
  obtain ⟨N, hN⟩ : ∃ N, N = s.length + 1 := ⟨_, rfl⟩
  have hnp : n < np := by
    have h1 := (List.getElem?_eq_some_iff.1 hp).1
    have h2 := hE.prow.1
    rw [sR_len prtC 9 prtC_len] at h2
    omega
  obtain ⟨p', B, o, hp', hBo, _, hc⟩ := rowS_elem prtC_len hE.prow (by decide) hnp
  obtain rfl : p' = p := by
    have h1 : ps[n]? = some p' := hp'
    rw [hp] at h1
    exact (Option.some.inj h1).symm
  subst hBo
  obtain ⟨pk, pr, lA, ln, lc, hA, hn, hcc, pno, qa, qb, least, once⟩ := p'
  simp only at hk
  replace hk := Lib.hid hk
  have e0 : w.cell? ⟨B, o + n * 9, none⟩ = some (.int .i64 pk) := hc 0 (by decide)
  have e1 : w.cell? ⟨B, o + n * 9 + 1, none⟩ = some (.int .i32 pr) := hc 1 (by decide)
  have e2 : w.cell? ⟨B, o + n * 9 + 2, none⟩ = some (.slice lA ln lc) := hc 2 (by decide)
  have e3 : w.cell? ⟨B, o + n * 9 + 3, none⟩ = some (.slice hA hn hcc) := hc 3 (by decide)
  have e4 : w.cell? ⟨B, o + n * 9 + 4, none⟩ = some (.bool pno) := hc 4 (by decide)
  have e5 : w.cell? ⟨B, o + n * 9 + 5, none⟩ = some (.int .i64 qa) := hc 5 (by decide)
  have e6 : w.cell? ⟨B, o + n * 9 + 6, none⟩ = some (.int .i64 qb) := hc 6 (by decide)
  have e7 : w.cell? ⟨B, o + n * 9 + 7, none⟩ = some (.int .i64 least) := hc 7 (by decide)
  have e8 : w.cell? ⟨B, o + n * 9 + 8, none⟩ = some (.bool once) := hc 8 (by decide)
  clear hc
  have hni : (n : Int) < (np : Int) := by omega
  have hn0 : (0 : Int) ≤ (n : Int) := by omega
  have hN0 : 0 < N := by omega
  have hNm : N ≤ 1000001 := by omega
  have hIlt := lt_of_blk hI
  have kx := hE.cell
  have hb64 : -9223372036854775808 ≤ (s.length : Int) + 1 ∧ (s.length : Int) + 1 ≤ 9223372036854775807 := by omega
  have hNq : (s.length : Int) + 1 = (N : Int) := by omega
  have hNi : IntKind.i64.wrap ((s.length : Int) + 1) = (N : Int) := (IntWalk.i64_in _ hb64).trans hNq
  clear hb64 hNq
  rw [← hN] at hmk ⊢
  replace hN := Lib.hid hN
  replace hE := Lib.hid hE
  replace hI := Lib.hid hI
  replace hnode := Lib.hid hnode
  replace hp := Lib.hid hp
  replace hmk := Lib.hid hmk
  replace hIlt := Lib.hid hIlt
  clear hp'
  go_enter Tryz.func128, Tryz.ntmps128
  go_upto_region 2 with (at_make; refine wpList_make_full _ rfl _ _ 129 rfl w.heap.size 4 ii (.bool false) 1 Tryz.underlying129 hi hz0 hz1 .i64 .i64 N N N rfl rfl rfl rfl ?b2 ?b3 (Nat.le_refl _) ?_; rotate_right; intro W1 hown1 hg1; have hb1 := made_bools hN0 hown1; have kx1 := gr_cell hg1 kx; have d0 := gr_cell hg1 e0; have d1 := gr_cell hg1 e1; have d2 := gr_cell hg1 e2; have d3 := gr_cell hg1 e3; have d4 := gr_cell hg1 e4; have d5 := gr_cell hg1 e5; have d6 := gr_cell hg1 e6; have d7 := gr_cell hg1 e7; have d8 := gr_cell hg1 e8; replace hown1 := Lib.hid hown1; replace hb1 := Lib.hid hb1; replace hg1 := Lib.hid hg1)
  case b2 => first | omega | (rw [hz2]; omega)
  case b3 => unfold maxLen; omega
  clear e0 e1 e2 e3 e4 e5 e6 e7 e8 kx hown1
  obtain ⟨W2, hW2⟩ : ∃ W2, W2 = W1.alloc (.cells #[.int .i64 pk, .int .i32 pr, .slice lA ln lc, .slice hA hn hcc, .bool pno, .int .i64 qa, .int .i64 qb, .int .i64 least, .bool once] 194) := ⟨_, rfl⟩
  obtain ⟨pb, hpb⟩ : ∃ pb, pb = W1.heap.size := ⟨_, rfl⟩
  have g2 : Gr W1 W2 := by rw [hW2]; exact gr_alloc _ _ _
  have hpbn : w.heap.size < pb := by rw [hpb]; exact lt_of_blk hb1.out
  have hPB : W2.heap[pb]? = some (.cells #[.int .i64 pk, .int .i32 pr, .slice lA ln lc, .slice hA hn hcc, .bool pno, .int .i64 qa, .int .i64 qb, .int .i64 least, .bool once] 194 (0, 0)) := by rw [hW2, hpb]; exact blk_new _ _
  have G2 := gr_trans hg1.out g2
  have hI0 : BoolAt W2 w.heap.size (List.replicate N false) := gr_blk g2 hb1.out (by simp)
  have hI2 : BoolAt W2 I mk := gr_blk G2 hI.out (by simp)
  have hE2 := eh_gr hE.out G2
  have hnode2 := nodeE_gr hnode.out G2
  replace hPB := Lib.hid hPB
  replace G2 := Lib.hid G2
  replace hI0 := Lib.hid hI0
  replace hI2 := Lib.hid hI2
  replace hE2 := Lib.hid hE2
  replace hnode2 := Lib.hid hnode2
  replace hpbn := Lib.hid hpbn
  clear hb1 hg1 g2
  go_upto_region 3 with fail
  rw [← hW2, ← hpb]
  replace hW2 := Lib.hid hW2
  replace hpb := Lib.hid hpb
  clear kx1 d0 d1 d2 d3 d4 d5 d6 d7 d8 hni hn0
  have c0 : W2.cell? ⟨pb, 0, none⟩ = some (.int .i64 pk) := blk_cell hPB.out rfl
  have hk0 := hk.out
  subst hk0
  have hcp := fun ty => run_bools W2 ty w.heap.size I N N c _ mk hI0.out hI2.out (by rw [List.length_replicate]) hmk.out
  have g3 := gr_setCells W2 w.heap.size 0 (mk.map .bool)
  have hb3 := bool_copy hI0.out (show (List.replicate N false).length = mk.length by rw [List.length_replicate, hmk.out])
  have G3 := gr_of_below ((gr_below G2.out).grown g3 G2.out.size (fun k hk => by cases hk; exact Nat.le_refl _)) (Nat.le_refl _)
  have hfin := ends_row0 (s := s) (by rw [hmk.out, hN.out])
  replace g3 := Lib.hid g3
  replace hb3 := Lib.hid hb3
  replace G3 := Lib.hid G3
  replace hfin := Lib.hid hfin
  go_wp2_with (at_builtin; refine wpList_copy_runK _ rfl _ _ 129 129 rfl _ _ rfl rfl (hcp _) ?_)
  go_ret
  exact ⟨w.heap.size, N, mk, rfl, Nat.le_refl _, hb3.out, hfin.out, G3.out⟩
end Go.Proofs.YtccmekdmnkmhlaaGreat
namespace Go.Proofs.YtccmekdmnkmhlaaGreat
open Go.RowKit

abbrev CS2 (wo : World) (pb a b : Nat) (w' : World) : Prop := Gr wo w' ∧ w'.cell? ⟨pb, 5, none⟩ = some (.int .i64 a) ∧ w'.cell? ⟨pb, 6, none⟩ = some (.int .i64 b)
theorem cs2_gr {wo w1 w' : World} {pb a b : Nat} (h : CS2 wo pb a b w1) (g : Gr w1 w') : CS2 wo pb a b w' := ⟨gr_trans h.1 g, gr_cell g h.2.1, gr_cell g h.2.2⟩
set_option maxHeartbeats 16000000 in
set_option maxRecDepth 100000 in
theorem ends_c4 (X : Nat) (pA : Option Addr) (np pc : Nat) (ps : List Prt) (s : List Int) (sA : Option Addr) (sc : Nat) (n : Nat) (p : Prt) (hp : ps[n]? = some p) (hsl : s.length ≤ 1000000) (a b : Nat) (hk : p.k = 4 ∧ p.a = (a : Int) ∧ p.b = (b : Int)) (x y : T) (IHx : EndsC X pA np pc ps s sA sc x a) (IHy : EndsC X pA np pc ps s sA sc y b) : EndsC X pA np pc ps s sA sc (.rowS x y) n := by
  intro mk I c w hE hnode hI hmk
  obtain ⟨hnx, hny⟩ := node_row hnode hp hk.2.1 hk.2.2
  replace hnx := Lib.hid hnx
  replace hny := Lib.hid hny
  obtain ⟨ii, hi, hz0, hz1, hz2⟩ := info_parts infoBool
  obtain ⟨N, hN⟩ : ∃ N, N = s.length + 1 := ⟨_, rfl⟩
  have hnp : n < np := by
    have h1 := (List.getElem?_eq_some_iff.1 hp).1
    have h2 := hE.prow.1
    rw [sR_len prtC 9 prtC_len] at h2
    omega
  obtain ⟨p', B, o, hp', hBo, _, hc⟩ := rowS_elem prtC_len hE.prow (by decide) hnp
  obtain rfl : p' = p := by
    have h1 : ps[n]? = some p' := hp'
    rw [hp] at h1
    exact (Option.some.inj h1).symm
  subst hBo
  obtain ⟨pk, pr, lA, ln, lc, hA, hn, hcc, pno, qa, qb, least, once⟩ := p'
  simp only at hk
  replace hk := Lib.hid hk
  have e0 : w.cell? ⟨B, o + n * 9, none⟩ = some (.int .i64 pk) := hc 0 (by decide)
  have e1 : w.cell? ⟨B, o + n * 9 + 1, none⟩ = some (.int .i32 pr) := hc 1 (by decide)
  have e2 : w.cell? ⟨B, o + n * 9 + 2, none⟩ = some (.slice lA ln lc) := hc 2 (by decide)
  have e3 : w.cell? ⟨B, o + n * 9 + 3, none⟩ = some (.slice hA hn hcc) := hc 3 (by decide)
  have e4 : w.cell? ⟨B, o + n * 9 + 4, none⟩ = some (.bool pno) := hc 4 (by decide)
  have e5 : w.cell? ⟨B, o + n * 9 + 5, none⟩ = some (.int .i64 qa) := hc 5 (by decide)
  have e6 : w.cell? ⟨B, o + n * 9 + 6, none⟩ = some (.int .i64 qb) := hc 6 (by decide)
  have e7 : w.cell? ⟨B, o + n * 9 + 7, none⟩ = some (.int .i64 least) := hc 7 (by decide)
  have e8 : w.cell? ⟨B, o + n * 9 + 8, none⟩ = some (.bool once) := hc 8 (by decide)
  clear hc
  have hni : (n : Int) < (np : Int) := by omega
  have hn0 : (0 : Int) ≤ (n : Int) := by omega
  have hN0 : 0 < N := by omega
  have hNm : N ≤ 1000001 := by omega
  have hIlt := lt_of_blk hI
  have kx := hE.cell
  have hb64 : -9223372036854775808 ≤ (s.length : Int) + 1 ∧ (s.length : Int) + 1 ≤ 9223372036854775807 := by omega
  have hNq : (s.length : Int) + 1 = (N : Int) := by omega
  have hNi : IntKind.i64.wrap ((s.length : Int) + 1) = (N : Int) := (IntWalk.i64_in _ hb64).trans hNq
  clear hb64 hNq
  rw [← hN] at hmk ⊢
  replace hN := Lib.hid hN
  replace hE := Lib.hid hE
  replace hI := Lib.hid hI
  replace hnode := Lib.hid hnode
  replace hp := Lib.hid hp
  replace hmk := Lib.hid hmk
  replace hIlt := Lib.hid hIlt
  clear hp'
  go_enter Tryz.func128, Tryz.ntmps128
  go_upto_region 2 with (at_make; refine wpList_make_full _ rfl _ _ 129 rfl w.heap.size 4 ii (.bool false) 1 Tryz.underlying129 hi hz0 hz1 .i64 .i64 N N N rfl rfl rfl rfl ?b2 ?b3 (Nat.le_refl _) ?_; rotate_right; intro W1 hown1 hg1; have hb1 := made_bools hN0 hown1; have kx1 := gr_cell hg1 kx; have d0 := gr_cell hg1 e0; have d1 := gr_cell hg1 e1; have d2 := gr_cell hg1 e2; have d3 := gr_cell hg1 e3; have d4 := gr_cell hg1 e4; have d5 := gr_cell hg1 e5; have d6 := gr_cell hg1 e6; have d7 := gr_cell hg1 e7; have d8 := gr_cell hg1 e8; replace hown1 := Lib.hid hown1; replace hb1 := Lib.hid hb1; replace hg1 := Lib.hid hg1)
  case b2 => first | omega | (rw [hz2]; omega)
  case b3 => unfold maxLen; omega
  clear e0 e1 e2 e3 e4 e5 e6 e7 e8 kx hown1
  obtain ⟨W2, hW2⟩ : ∃ W2, W2 = W1.alloc (.cells #[.int .i64 pk, .int .i32 pr, .slice lA ln lc, .slice hA hn hcc, .bool pno, .int .i64 qa, .int .i64 qb, .int .i64 least, .bool once] 194) := ⟨_, rfl⟩
  obtain ⟨pb, hpb⟩ : ∃ pb, pb = W1.heap.size := ⟨_, rfl⟩
  have g2 : Gr W1 W2 := by rw [hW2]; exact gr_alloc _ _ _
  have hpbn : w.heap.size < pb := by rw [hpb]; exact lt_of_blk hb1.out
  have hPB : W2.heap[pb]? = some (.cells #[.int .i64 pk, .int .i32 pr, .slice lA ln lc, .slice hA hn hcc, .bool pno, .int .i64 qa, .int .i64 qb, .int .i64 least, .bool once] 194 (0, 0)) := by rw [hW2, hpb]; exact blk_new _ _
  have G2 := gr_trans hg1.out g2
  have hI0 : BoolAt W2 w.heap.size (List.replicate N false) := gr_blk g2 hb1.out (by simp)
  have hI2 : BoolAt W2 I mk := gr_blk G2 hI.out (by simp)
  have hE2 := eh_gr hE.out G2
  have hnode2 := nodeE_gr hnode.out G2
  replace hPB := Lib.hid hPB
  replace G2 := Lib.hid G2
  replace hI0 := Lib.hid hI0
  replace hI2 := Lib.hid hI2
  replace hE2 := Lib.hid hE2
  replace hnode2 := Lib.hid hnode2
  replace hpbn := Lib.hid hpbn
  clear hb1 hg1 g2
  go_upto_region 3 with fail
  rw [← hW2, ← hpb]
  replace hW2 := Lib.hid hW2
  replace hpb := Lib.hid hpb
  clear kx1 d0 d1 d2 d3 d4 d5 d6 d7 d8 hni hn0
  have c0 : W2.cell? ⟨pb, 0, none⟩ = some (.int .i64 pk) := blk_cell hPB.out rfl
  obtain ⟨rfl, rfl, rfl⟩ := hk.out
  have cX : ∀ W, Gr W2 W → Calls Tryz.prog 128 #[.pointer (some ⟨X, 0, none⟩), .int .i64 a, .slice sA s.length sc, .slice (some ⟨I, 0, none⟩) N c] W (EndsPost N x s mk W) := fun W g => by
    have h := IHx mk I c W (eh_gr hE2.out g) (nodeE_gr (hnx.out) (gr_trans G2.out g)) (gr_blk g hI2.out (by simp)) (by rw [hmk.out, hN.out])
    rw [← hN.out] at h
    exact h
  have cY : ∀ o5 I5 c5 W, Gr W2 W → BoolAt W I5 o5 → o5.length = s.length + 1 → Calls Tryz.prog 128 #[.pointer (some ⟨X, 0, none⟩), .int .i64 b, .slice sA s.length sc, .slice (some ⟨I5, 0, none⟩) N c5] W (EndsPost N y s o5 W) := fun o5 I5 c5 W g hb hl => by
    have h := IHy o5 I5 c5 W (eh_gr hE2.out g) (nodeE_gr (hny.out) (gr_trans G2.out g)) hb hl
    rw [← hN.out] at h
    exact h
  unfold EndsPost at cX cY
  replace cX := Lib.hid cX
  replace cY := Lib.hid cY
  go_upto_region 33 with fail
  have c5 : W2.cell? ⟨pb, 5, none⟩ = some (.int .i64 a) := blk_cell hPB.out rfl
  have c6 : W2.cell? ⟨pb, 6, none⟩ = some (.int .i64 b) := blk_cell hPB.out rfl
  have hS2 : CS2 W2 pb a b W2 := ⟨gr_refl _ _, c5, c6⟩
  replace hS2 := Lib.hid hS2
  clear c0 c5 c6
  go_region_held3 (fun w' => Gr W2 w' ∧ w'.cell? ⟨pb, 5, none⟩ = some (.int .i64 a) ∧ w'.cell? ⟨pb, 6, none⟩ = some (.int .i64 b)) (first | exact cs2_gr hS2.out (gr_drew W2 none) | exact cs2_gr (by assumption) gP) (first
    | (go_at_call 128; first
        | with_reducible refine (cY.out o5 I5 c5 _ (show CS2 W2 pb a b _ from by assumption).1 hB5 hl5).mono ?_
          rintro e wP ⟨I6, c6, o6, rfl, hI6, hB6, hE6, gP⟩
        | with_reducible refine (cX.out _ (show CS2 W2 pb a b _ from by assumption).1).mono ?_
          rintro e wP ⟨I5, c5, o5, rfl, hI5, hB5, hE5, gP⟩
          have hl5 := hE5.1))
  all_goals
    have hfin := ends_row hE5 hE6
    have G9 : Gr w wP := gr_trans G2.out (gr_trans (gr_drew W2 none) (gr_trans (by assumption) gP))
    go_wp2_with fail
    go_ret
    exact ⟨I6, c6, o6, rfl, Nat.le_trans (gr_trans G2.out (gr_trans (gr_drew W2 none) (by assumption))).size hI6, hB6, hfin, G9⟩
end Go.Proofs.YtccmekdmnkmhlaaGreat
namespace Go.Proofs.YtccmekdmnkmhlaaGreat
open Go.RowKit

set_option maxHeartbeats 16000000 in
set_option maxRecDepth 100000 in
theorem ends_c5 (X : Nat) (pA : Option Addr) (np pc : Nat) (ps : List Prt) (s : List Int) (sA : Option Addr) (sc : Nat) (n : Nat) (p : Prt) (hp : ps[n]? = some p) (hsl : s.length ≤ 1000000) (a b : Nat) (hk : p.k = 5 ∧ p.a = (a : Int) ∧ p.b = (b : Int)) (x y : T) (IHx : EndsC X pA np pc ps s sA sc x a) (IHy : EndsC X pA np pc ps s sA sc y b) : EndsC X pA np pc ps s sA sc (.altS x y) n := by
  intro mk I c w hE hnode hI hmk
  obtain ⟨hnx, hny⟩ := node_alt hnode hp hk.2.1 hk.2.2
  replace hnx := Lib.hid hnx
  replace hny := Lib.hid hny
  obtain ⟨ii, hi, hz0, hz1, hz2⟩ := info_parts infoBool
  obtain ⟨N, hN⟩ : ∃ N, N = s.length + 1 := ⟨_, rfl⟩
  have hnp : n < np := by
    have h1 := (List.getElem?_eq_some_iff.1 hp).1
    have h2 := hE.prow.1
    rw [sR_len prtC 9 prtC_len] at h2
    omega
  obtain ⟨p', B, o, hp', hBo, _, hc⟩ := rowS_elem prtC_len hE.prow (by decide) hnp
  obtain rfl : p' = p := by
    have h1 : ps[n]? = some p' := hp'
    rw [hp] at h1
    exact (Option.some.inj h1).symm
  subst hBo
  obtain ⟨pk, pr, lA, ln, lc, hA, hn, hcc, pno, qa, qb, least, once⟩ := p'
  simp only at hk
  replace hk := Lib.hid hk
  have e0 : w.cell? ⟨B, o + n * 9, none⟩ = some (.int .i64 pk) := hc 0 (by decide)
  have e1 : w.cell? ⟨B, o + n * 9 + 1, none⟩ = some (.int .i32 pr) := hc 1 (by decide)
  have e2 : w.cell? ⟨B, o + n * 9 + 2, none⟩ = some (.slice lA ln lc) := hc 2 (by decide)
  have e3 : w.cell? ⟨B, o + n * 9 + 3, none⟩ = some (.slice hA hn hcc) := hc 3 (by decide)
  have e4 : w.cell? ⟨B, o + n * 9 + 4, none⟩ = some (.bool pno) := hc 4 (by decide)
  have e5 : w.cell? ⟨B, o + n * 9 + 5, none⟩ = some (.int .i64 qa) := hc 5 (by decide)
  have e6 : w.cell? ⟨B, o + n * 9 + 6, none⟩ = some (.int .i64 qb) := hc 6 (by decide)
  have e7 : w.cell? ⟨B, o + n * 9 + 7, none⟩ = some (.int .i64 least) := hc 7 (by decide)
  have e8 : w.cell? ⟨B, o + n * 9 + 8, none⟩ = some (.bool once) := hc 8 (by decide)
  clear hc
  have hni : (n : Int) < (np : Int) := by omega
  have hn0 : (0 : Int) ≤ (n : Int) := by omega
  have hN0 : 0 < N := by omega
  have hNm : N ≤ 1000001 := by omega
  have hIlt := lt_of_blk hI
  have kx := hE.cell
  have hb64 : -9223372036854775808 ≤ (s.length : Int) + 1 ∧ (s.length : Int) + 1 ≤ 9223372036854775807 := by omega
  have hNq : (s.length : Int) + 1 = (N : Int) := by omega
  have hNi : IntKind.i64.wrap ((s.length : Int) + 1) = (N : Int) := (IntWalk.i64_in _ hb64).trans hNq
  clear hb64 hNq
  rw [← hN] at hmk ⊢
  replace hN := Lib.hid hN
  replace hE := Lib.hid hE
  replace hI := Lib.hid hI
  replace hnode := Lib.hid hnode
  replace hp := Lib.hid hp
  replace hmk := Lib.hid hmk
  replace hIlt := Lib.hid hIlt
  clear hp'
  go_enter Tryz.func128, Tryz.ntmps128
  go_upto_region 2 with (at_make; refine wpList_make_full _ rfl _ _ 129 rfl w.heap.size 4 ii (.bool false) 1 Tryz.underlying129 hi hz0 hz1 .i64 .i64 N N N rfl rfl rfl rfl ?b2 ?b3 (Nat.le_refl _) ?_; rotate_right; intro W1 hown1 hg1; have hb1 := made_bools hN0 hown1; have kx1 := gr_cell hg1 kx; have d0 := gr_cell hg1 e0; have d1 := gr_cell hg1 e1; have d2 := gr_cell hg1 e2; have d3 := gr_cell hg1 e3; have d4 := gr_cell hg1 e4; have d5 := gr_cell hg1 e5; have d6 := gr_cell hg1 e6; have d7 := gr_cell hg1 e7; have d8 := gr_cell hg1 e8; replace hown1 := Lib.hid hown1; replace hb1 := Lib.hid hb1; replace hg1 := Lib.hid hg1)
  case b2 => first | omega | (rw [hz2]; omega)
  case b3 => unfold maxLen; omega
  clear e0 e1 e2 e3 e4 e5 e6 e7 e8 kx hown1
  obtain ⟨W2, hW2⟩ : ∃ W2, W2 = W1.alloc (.cells #[.int .i64 pk, .int .i32 pr, .slice lA ln lc, .slice hA hn hcc, .bool pno, .int .i64 qa, .int .i64 qb, .int .i64 least, .bool once] 194) := ⟨_, rfl⟩
  obtain ⟨pb, hpb⟩ : ∃ pb, pb = W1.heap.size := ⟨_, rfl⟩
  have g2 : Gr W1 W2 := by rw [hW2]; exact gr_alloc _ _ _
  have hpbn : w.heap.size < pb := by rw [hpb]; exact lt_of_blk hb1.out
  have hPB : W2.heap[pb]? = some (.cells #[.int .i64 pk, .int .i32 pr, .slice lA ln lc, .slice hA hn hcc, .bool pno, .int .i64 qa, .int .i64 qb, .int .i64 least, .bool once] 194 (0, 0)) := by rw [hW2, hpb]; exact blk_new _ _
  have G2 := gr_trans hg1.out g2
  have hI0 : BoolAt W2 w.heap.size (List.replicate N false) := gr_blk g2 hb1.out (by simp)
  have hI2 : BoolAt W2 I mk := gr_blk G2 hI.out (by simp)
  have hE2 := eh_gr hE.out G2
  have hnode2 := nodeE_gr hnode.out G2
  replace hPB := Lib.hid hPB
  replace G2 := Lib.hid G2
  replace hI0 := Lib.hid hI0
  replace hI2 := Lib.hid hI2
  replace hE2 := Lib.hid hE2
  replace hnode2 := Lib.hid hnode2
  replace hpbn := Lib.hid hpbn
  clear hb1 hg1 g2
  go_upto_region 3 with fail
  rw [← hW2, ← hpb]
  replace hW2 := Lib.hid hW2
  replace hpb := Lib.hid hpb
  clear kx1 d0 d1 d2 d3 d4 d5 d6 d7 d8 hni hn0
  have c0 : W2.cell? ⟨pb, 0, none⟩ = some (.int .i64 pk) := blk_cell hPB.out rfl
  obtain ⟨rfl, rfl, rfl⟩ := hk.out
  have cX : ∀ W, Gr W2 W → Calls Tryz.prog 128 #[.pointer (some ⟨X, 0, none⟩), .int .i64 a, .slice sA s.length sc, .slice (some ⟨I, 0, none⟩) N c] W (EndsPost N x s mk W) := fun W g => by
    have h := IHx mk I c W (eh_gr hE2.out g) (nodeE_gr (hnx.out) (gr_trans G2.out g)) (gr_blk g hI2.out (by simp)) (by rw [hmk.out, hN.out])
    rw [← hN.out] at h
    exact h
  have cY : ∀ W, Gr W2 W → Calls Tryz.prog 128 #[.pointer (some ⟨X, 0, none⟩), .int .i64 b, .slice sA s.length sc, .slice (some ⟨I, 0, none⟩) N c] W (EndsPost N y s mk W) := fun W g => by
    have h := IHy mk I c W (eh_gr hE2.out g) (nodeE_gr (hny.out) (gr_trans G2.out g)) (gr_blk g hI2.out (by simp)) (by rw [hmk.out, hN.out])
    rw [← hN.out] at h
    exact h
  unfold EndsPost at cX cY
  have c5 : W2.cell? ⟨pb, 5, none⟩ = some (.int .i64 a) := blk_cell hPB.out rfl
  have c6 : W2.cell? ⟨pb, 6, none⟩ = some (.int .i64 b) := blk_cell hPB.out rfl
  have hS2 : CS2 W2 pb a b W2 := ⟨gr_refl _ _, c5, c6⟩
  replace cX := Lib.hid cX
  replace cY := Lib.hid cY
  replace hS2 := Lib.hid hS2
  go_upto_region 35 with fail
  clear c0 c5 c6
  go_cut [12, 13] (fun uv vv wx => ∃ I5 c5 o5 I6 c6 o6, uv = .slice (some ⟨I5, 0, none⟩) N c5 ∧ vv = .slice (some ⟨I6, 0, none⟩) N c6 ∧ Hid (BoolAt wx I5 o5) ∧ Hid (BoolAt wx I6 o6) ∧ Hid (EndsIs x s mk o5) ∧ Hid (EndsIs y s mk o6) ∧ Hid (Gr W2 wx) ∧ Hid (W2.heap.size ≤ I5 ∧ W2.heap.size ≤ I6))
  case first =>
    go_region_held3 (fun w' => Gr W2 w' ∧ w'.cell? ⟨pb, 5, none⟩ = some (.int .i64 a) ∧ w'.cell? ⟨pb, 6, none⟩ = some (.int .i64 b)) (first | exact cs2_gr hS2.out (gr_drew W2 none) | exact cs2_gr (by assumption) gP) (first
      | (go_at_call 128; first
          | with_reducible refine (cX.out _ (show CS2 W2 pb a b _ from by assumption).1).mono ?_
            rintro e wP ⟨I5, c5, o5, rfl, hI5, hB5, hE5, gP⟩
            have hJ5 := Nat.le_trans (show CS2 W2 pb a b _ from by assumption).1.size hI5
          | with_reducible refine (cY.out _ (show CS2 W2 pb a b _ from by assumption).1).mono ?_
            rintro e wP ⟨I6, c6, o6, rfl, hI6, hB6, hE6, gP⟩
            have hJ6 := Nat.le_trans (show CS2 W2 pb a b _ from by assumption).1.size hI6))
    all_goals
      have G9 : Gr W2 wP := gr_trans (gr_drew W2 none) (gr_trans (by assumption) gP)
      go_wp2_with fail
      go_meet
      first
        | exact ⟨I5, c5, o5, I6, c6, o6, rfl, rfl, Lib.hid (gr_blk gP hB5 (by simp)), Lib.hid hB6, Lib.hid hE5, Lib.hid hE6, Lib.hid G9, Lib.hid ⟨hJ5, hJ6⟩⟩
        | exact ⟨I5, c5, o5, I6, c6, o6, rfl, rfl, Lib.hid hB5, Lib.hid (gr_blk gP hB6 (by simp)), Lib.hid hE5, Lib.hid hE6, Lib.hid G9, Lib.hid ⟨hJ5, hJ6⟩⟩
  case rest =>
  obtain ⟨I5, c5, o5, I6, c6, o6, rfl, rfl, hB5, hB6, hE5, hE6, hg3, hJ⟩ := hcut
  obtain ⟨W3, hW3⟩ : ∃ W3, W3 = wc := ⟨_, rfl⟩
  rw [← hW3] at hB5 hB6 hg3 ⊢
  clear hW3
  have hI3 : BoolAt W3 w.heap.size (List.replicate N false) := gr_blk hg3.out hI0.out (by simp)
  have hsz := lt_of_blk hI0.out
  have hn5 : I5 ≠ w.heap.size := by have := hJ.out.1; omega
  have hn6 : I6 ≠ w.heap.size := by have := hJ.out.2; omega
  have G3 := gr_trans G2.out hg3.out
  have l5 : o5.length = N := by rw [hE5.out.1, hN.out]
  have l6 : o6.length = N := by rw [hE6.out.1, hN.out]
  have hst : Hid (∃ out, BoolAt W3 w.heap.size out ∧ out.length = N ∧ ∀ (j : Nat) (a b : Bool), j < 0 → o5[j]? = some a → o6[j]? = some b → out[j]? = some (a || b)) := ⟨_, hI3, List.length_replicate, fun j _ _ h => absurd h (Nat.not_lt_zero _)⟩
  replace hI3 := Lib.hid hI3
  replace hn5 := Lib.hid hn5
  replace hn6 := Lib.hid hn6
  replace G3 := Lib.hid G3
  replace l5 := Lib.hid l5
  replace l6 := Lib.hid l6
  clear hsz hJ cX cY hS2 hg3
  go_wp2_with fail
  go_loopw [14] (fun iv wr => ∃ k : Nat, k ≤ N ∧ iv = .int .i64 k ∧ Hid (∃ out, BoolAt wr w.heap.size out ∧ out.length = N ∧ ∀ (j : Nat) (a b : Bool), j < k → o5[j]? = some a → o6[j]? = some b → out[j]? = some (a || b)) ∧ Hid (GrB w.heap.size W3 wr)) (fun iv _ => N - (intOf iv).toNat)
  case atStart => exact ⟨0, Nat.zero_le _, rfl, hst, World.grownBy.refl _ _⟩
  case round =>
    obtain ⟨k, hk, rfl, ho, hg⟩ := hrel
    by_cases hlt : k < N
    · have hNe := hN.out
      have hki : (k : Int) ≤ (s.length : Int) := by omega
      have hkN : (k : Int) < (N : Int) := by omega
      have hk0 : (0 : Int) ≤ (k : Int) := by omega
      obtain ⟨a5, ha5⟩ := at_some (l := o5) (j := k) (by rw [l5.out]; exact hlt)
      obtain ⟨b6, hb6⟩ := at_some (l := o6) (j := k) (by rw [l6.out]; exact hlt)
      obtain ⟨out, hob, hol, hop⟩ := ho.out
      obtain ⟨ob, hob2⟩ := at_some (l := out) (j := k) (by rw [hol]; exact hlt)
      have x5 : wr.cell? ⟨I5, k, none⟩ = some (.bool a5) := bool_cell (gr_blk hg.out hB5.out (by simp; exact hn5.out)) ha5
      have x6 : wr.cell? ⟨I6, k, none⟩ = some (.bool b6) := bool_cell (gr_blk hg.out hB6.out (by simp; exact hn6.out)) hb6
      have z0 : wr.cell? ⟨w.heap.size, k, none⟩ = some (.bool ob) := bool_cell hob hob2
      have f0 : wr.frozen? ⟨w.heap.size, k, none⟩ = false := blk_free hob k
      obtain ⟨W5, hW5⟩ : ∃ W5, W5 = wr.setCell ⟨w.heap.size, k, none⟩ (.bool (a5 || b6)) := ⟨_, rfl⟩
      have g5 : GrB w.heap.size wr W5 := by rw [hW5]; exact gr_set wr ⟨w.heap.size, k, none⟩ _
      have hob5 : BoolAt W5 w.heap.size (out.set k (a5 || b6)) := by rw [hW5]; exact bool_set hob k _
      have hnew : Hid (∃ out, BoolAt W5 w.heap.size out ∧ out.length = N ∧ ∀ (j : Nat) (a b : Bool), j < k + 1 → o5[j]? = some a → o6[j]? = some b → out[j]? = some (a || b)) := by
        refine ⟨_, hob5, by rw [List.length_set, hol], fun j a b hj h1 h2 => ?_⟩
        by_cases hjk : j = k
        · subst hjk
          rw [ha5] at h1
          rw [hb6] at h2
          obtain rfl := Option.some.inj h1
          obtain rfl := Option.some.inj h2
          exact List.getElem?_set_self (by rw [hol]; exact hlt)
        · rw [List.getElem?_set_ne (by omega)]
          exact hop j a b (by omega) h1 h2
      have hg5 := gr_trans hg.out g5
      replace hnew := Lib.hid hnew
      replace hg5 := Lib.hid hg5
      replace hob := Lib.hid hob
      replace hop := Lib.hid hop
      replace ha5 := Lib.hid ha5
      replace hb6 := Lib.hid hb6
      replace hob2 := Lib.hid hob2
      replace hNe := Lib.hid hNe
      replace hol := Lib.hid hol
      clear ho hg g5 hob5
      cases a5 with
      | true =>
        simp only [Bool.true_or] at hW5
        go_upto_region 38 with fail
        rw [← hW5]
        clear hW5 x5 x6 z0 f0
        go_wp2
        go_roundw
        case rel => exact ⟨k + 1, by omega, by go_num, hnew, hg5⟩
        case measure => simp [intOf]; omega
      | false =>
        simp only [Bool.false_or] at hW5
        go_upto_region 38 with fail
        rw [← hW5]
        clear hW5 x5 x6 z0 f0
        go_wp2
        go_roundw
        case rel => exact ⟨k + 1, by omega, by go_num, hnew, hg5⟩
        case measure => simp [intOf]; omega
    · have hNe := hN.out
      have hki : ((k : Int) ≤ (s.length : Int)) = False := eq_false (by omega)
      obtain rfl : k = N := by omega
      obtain ⟨out, hob, hol, hop⟩ := ho.out
      have hfin := ends_alt hE5.out hE6.out (by rw [hol, hNe]) (fun i a b h1 h2 => hop i a b (by have h9 := (List.getElem?_eq_some_iff.1 h1).1; rw [l5.out] at h9; exact h9) h1 h2)
      have GF := gr_of_below ((gr_below G3.out).grown hg.out G3.out.size (fun k hk => by cases hk; exact Nat.le_refl _)) (Nat.le_refl _)
      replace hfin := Lib.hid hfin
      replace GF := Lib.hid GF
      replace hob := Lib.hid hob
      replace hol := Lib.hid hol
      replace hop := Lib.hid hop
      replace hNe := Lib.hid hNe
      clear ho hg
      go_wp2_with fail
      go_ret
      exact ⟨w.heap.size, k, out, rfl, Nat.le_refl _, hob.out, hfin.out, GF.out⟩
end Go.Proofs.YtccmekdmnkmhlaaGreat
namespace Go.Proofs.YtccmekdmnkmhlaaGreat
open Go.RowKit

/-- Of a part of one rune: what it says. -/
def PrtSet (w : World) (p : Prt) (S : PSet) : Prop := (p.k = 1 ∧ S = ⟨false, false, [(p.r, p.r)]⟩) ∨ (p.k = 2 ∧ S = ⟨true, false, []⟩) ∨ (p.k = 3 ∧ ∃ its : List (Int × Int), S = ⟨false, p.no, its⟩ ∧ p.ln = its.length ∧ p.hn = its.length ∧ p.ln ≤ 9223372036854775807 ∧ Row w p.lA p.ln 1 (its.map fun z => .int .i32 z.1) ∧ Row w p.hA p.hn 1 (its.map fun z => .int .i32 z.2))
theorem prtSet_gr {w w' : World} {p : Prt} {S : PSet} (h : PrtSet w p S) (g : Gr w w') : PrtSet w' p S := by
  rcases h with h | h | ⟨h, its, h1, h2, h3, hb, h4, h5⟩
  · exact .inl h
  · exact .inr (.inl h)
  · exact .inr (.inr ⟨h, its, h1, h2, h3, hb, row_gr h4 g, row_gr h5 g⟩)
theorem items_step {its : List (Int × Int)} {k : Nat} {lo hi r : Int} (h : its[k]? = some (lo, hi)) : inItems (its.take (k + 1)) r = (inItems (its.take k) r || decide (lo ≤ r ∧ r ≤ hi)) := by
  have h1 : its.take (k + 1) = its.take k ++ [(lo, hi)] := by rw [List.take_add_one, h]; rfl
  unfold inItems
  rw [h1, List.any_append]
  simp
set_option maxHeartbeats 8000000 in
set_option maxRecDepth 100000 in
theorem one_any (p : Prt) (r : Int) (S : PSet) (w : World) (h : PrtSet w p S) : Calls Tryz.prog 143 #[prtV p, .int .i32 r] w fun e w' => e = .returned (.bool (S.has r)) ∧ Gr w w' := by
  rcases h with ⟨hk, rfl⟩ | ⟨hk, rfl⟩ | ⟨hk, its, rfl, hln, hhn, hlb, hlo, hhi⟩
  · have hS : PSet.has ⟨false, false, [(p.r, p.r)]⟩ r = (p.r == r) := by
      unfold PSet.has inItems
      by_cases hr : p.r = r
      · simp [hr]
      · have h1 : ¬ (p.r ≤ r ∧ r ≤ p.r) := fun h => hr (by omega)
        simp [h1, hr]
    rw [hS]
    clear hS
    obtain ⟨pk, pr, lA, ln, lc, hA, hn, hcc, pno, qa, qb, least, once⟩ := p
    unfold prtV
    simp only at hk ⊢
    subst hk
    obtain ⟨W1, hW1⟩ : ∃ W1, W1 = w.alloc (.cells #[.int .i64 1, .int .i32 pr, .slice lA ln lc, .slice hA hn hcc, .bool pno, .int .i64 qa, .int .i64 qb, .int .i64 least, .bool once] 194) := ⟨_, rfl⟩
    obtain ⟨pb, hpb⟩ : ∃ pb, pb = w.heap.size := ⟨_, rfl⟩
    have g1 : Gr w W1 := by rw [hW1]; exact gr_alloc _ _ _
    have hPB : W1.heap[pb]? = some (.cells #[.int .i64 1, .int .i32 pr, .slice lA ln lc, .slice hA hn hcc, .bool pno, .int .i64 qa, .int .i64 qb, .int .i64 least, .bool once] 194 (0, 0)) := by rw [hW1, hpb]; exact blk_new _ _
    have c0 : W1.cell? ⟨pb, 0, none⟩ = some (.int .i64 1) := blk_cell hPB rfl
    have c1 : W1.cell? ⟨pb, 1, none⟩ = some (.int .i32 pr) := blk_cell hPB rfl
    have c2 : W1.cell? ⟨pb, 2, none⟩ = some (.slice lA ln lc) := blk_cell hPB rfl
    have c3 : W1.cell? ⟨pb, 3, none⟩ = some (.slice hA hn hcc) := blk_cell hPB rfl
    have c4 : W1.cell? ⟨pb, 4, none⟩ = some (.bool pno) := blk_cell hPB rfl
    replace g1 := Lib.hid g1
    replace hPB := Lib.hid hPB
    go_enter Tryz.func143, Tryz.ntmps143
    go_upto_region 1 with fail
    rw [← hW1, ← hpb]
    replace hW1 := Lib.hid hW1
    replace hpb := Lib.hid hpb

    go_wp2
    go_ret
    exact ⟨rfl, g1.out⟩
  · have hS : PSet.has ⟨true, false, []⟩ r = true := rfl
    rw [hS]
    clear hS
    obtain ⟨pk, pr, lA, ln, lc, hA, hn, hcc, pno, qa, qb, least, once⟩ := p
    unfold prtV
    simp only at hk ⊢
    subst hk
    obtain ⟨W1, hW1⟩ : ∃ W1, W1 = w.alloc (.cells #[.int .i64 2, .int .i32 pr, .slice lA ln lc, .slice hA hn hcc, .bool pno, .int .i64 qa, .int .i64 qb, .int .i64 least, .bool once] 194) := ⟨_, rfl⟩
    obtain ⟨pb, hpb⟩ : ∃ pb, pb = w.heap.size := ⟨_, rfl⟩
    have g1 : Gr w W1 := by rw [hW1]; exact gr_alloc _ _ _
    have hPB : W1.heap[pb]? = some (.cells #[.int .i64 2, .int .i32 pr, .slice lA ln lc, .slice hA hn hcc, .bool pno, .int .i64 qa, .int .i64 qb, .int .i64 least, .bool once] 194 (0, 0)) := by rw [hW1, hpb]; exact blk_new _ _
    have c0 : W1.cell? ⟨pb, 0, none⟩ = some (.int .i64 2) := blk_cell hPB rfl
    have c1 : W1.cell? ⟨pb, 1, none⟩ = some (.int .i32 pr) := blk_cell hPB rfl
    have c2 : W1.cell? ⟨pb, 2, none⟩ = some (.slice lA ln lc) := blk_cell hPB rfl
    have c3 : W1.cell? ⟨pb, 3, none⟩ = some (.slice hA hn hcc) := blk_cell hPB rfl
    have c4 : W1.cell? ⟨pb, 4, none⟩ = some (.bool pno) := blk_cell hPB rfl
    replace g1 := Lib.hid g1
    replace hPB := Lib.hid hPB
    go_enter Tryz.func143, Tryz.ntmps143
    go_upto_region 1 with fail
    rw [← hW1, ← hpb]
    replace hW1 := Lib.hid hW1
    replace hpb := Lib.hid hpb

    go_wp2
    go_ret
    exact ⟨rfl, g1.out⟩
  · replace hlo := Lib.hid hlo
    replace hhi := Lib.hid hhi
    replace hln := Lib.hid hln
    replace hhn := Lib.hid hhn
    obtain ⟨pk, pr, lA, ln, lc, hA, hn, hcc, pno, qa, qb, least, once⟩ := p
    unfold prtV
    simp only at hk hlb ⊢
    subst hk
    have hln := Lib.hid hln.out
    have hhn := Lib.hid hhn.out
    obtain ⟨W1, hW1⟩ : ∃ W1, W1 = w.alloc (.cells #[.int .i64 3, .int .i32 pr, .slice lA ln lc, .slice hA hn hcc, .bool pno, .int .i64 qa, .int .i64 qb, .int .i64 least, .bool once] 194) := ⟨_, rfl⟩
    obtain ⟨pb, hpb⟩ : ∃ pb, pb = w.heap.size := ⟨_, rfl⟩
    have g1 : Gr w W1 := by rw [hW1]; exact gr_alloc _ _ _
    have hPB : W1.heap[pb]? = some (.cells #[.int .i64 3, .int .i32 pr, .slice lA ln lc, .slice hA hn hcc, .bool pno, .int .i64 qa, .int .i64 qb, .int .i64 least, .bool once] 194 (0, 0)) := by rw [hW1, hpb]; exact blk_new _ _
    have c0 : W1.cell? ⟨pb, 0, none⟩ = some (.int .i64 3) := blk_cell hPB rfl
    have c1 : W1.cell? ⟨pb, 1, none⟩ = some (.int .i32 pr) := blk_cell hPB rfl
    have c2 : W1.cell? ⟨pb, 2, none⟩ = some (.slice lA ln lc) := blk_cell hPB rfl
    have c3 : W1.cell? ⟨pb, 3, none⟩ = some (.slice hA hn hcc) := blk_cell hPB rfl
    have c4 : W1.cell? ⟨pb, 4, none⟩ = some (.bool pno) := blk_cell hPB rfl
    replace g1 := Lib.hid g1
    replace hPB := Lib.hid hPB
    go_enter Tryz.func143, Tryz.ntmps143
    go_upto_region 1 with fail
    rw [← hW1, ← hpb]
    replace hW1 := Lib.hid hW1
    replace hpb := Lib.hid hpb

    go_wp2_with fail
    go_loopw [5, 6] (fun bv iv wr => ∃ k : Nat, k ≤ ln ∧ bv = .bool (inItems (its.take k) r) ∧ iv = .int .i64 k ∧ Hid (Gr W1 wr)) (fun _ iv _ => ln - (intOf iv).toNat)
    case atStart => exact ⟨0, Nat.zero_le _, by rw [List.take_zero]; rfl, rfl, gr_refl _ _⟩
    case round =>
      obtain ⟨k, hk, rfl, rfl, hg⟩ := hrel
      have c2' := gr_cell hg.out c2
      have c3' := gr_cell hg.out c3
      have c4' := gr_cell hg.out c4
      have G1 := gr_trans g1.out hg.out
      replace G1 := Lib.hid G1
      clear c0 c1 c2 c3 c4
      by_cases hlt : k < ln
      · obtain ⟨it, hit⟩ : ∃ it, its[k]? = some it := ⟨_, List.getElem?_eq_getElem (by have := hln.out; omega)⟩
        obtain ⟨lo, hi⟩ := it
        have htk : inItems (its.take (k + 1)) r = (inItems (its.take k) r || decide (lo ≤ r ∧ r ≤ hi)) := items_step hit
        obtain ⟨x1, B, o, hx1, e1, d0⟩ := row_elem (f := fun z : Int × Int => .int .i32 z.1) (row_gr hlo.out G1.out) hlt
        obtain ⟨x2, B2, o2, hx2, e2, d1⟩ := row_elem (f := fun z : Int × Int => .int .i32 z.2) (row_gr hhi.out G1.out) (show k < hn by have := hln.out; have := hhn.out; omega)
        rw [hit] at hx1 hx2
        obtain rfl := Option.some.inj hx1
        obtain rfl := Option.some.inj hx2
        simp only at d0 d1
        subst e1 e2
        have hki : (k : Int) < (ln : Int) := by omega
        have hkh : (k : Int) < (hn : Int) := by have := hln.out; have := hhn.out; omega
        have hk0 : (0 : Int) ≤ (k : Int) := by omega
        clear hx1 hx2
        replace hit := Lib.hid hit
        generalize hbk : inItems (its.take k) r = bk at *
        replace htk := Lib.hid htk
        replace hbk := Lib.hid hbk
        cases bk with
        | true =>
          have hnx : inItems (its.take (k + 1)) r = true := by rw [htk.out]; rfl
          replace hnx := Lib.hid hnx
          go_wp2
          go_roundw
          case rel => exact ⟨k + 1, by omega, by rw [hnx.out], by go_num, hg⟩
          case measure => simp [intOf]; omega
        | false =>
          by_cases h1 : lo ≤ r
          · by_cases h2 : r ≤ hi
            · have hnx : inItems (its.take (k + 1)) r = true := by rw [htk.out, decide_eq_true ⟨h1, h2⟩]; rfl
              replace hnx := Lib.hid hnx
              go_wp2
              go_roundw
              case rel => exact ⟨k + 1, by omega, by rw [hnx.out], by go_num, hg⟩
              case measure => simp [intOf]; omega
            · have hnx : inItems (its.take (k + 1)) r = false := by rw [htk.out, decide_eq_false (fun h => h2 h.2)]; rfl
              have h2f : (r ≤ hi) = False := eq_false h2
              replace hnx := Lib.hid hnx
              go_wp2
              go_roundw
              case rel => exact ⟨k + 1, by omega, by rw [hnx.out], by go_num, hg⟩
              case measure => simp [intOf]; omega
          · have hnx : inItems (its.take (k + 1)) r = false := by rw [htk.out, decide_eq_false (fun h => h1 h.1)]; rfl
            have h1f : (lo ≤ r) = False := eq_false h1
            replace hnx := Lib.hid hnx
            go_wp2
            go_roundw
            case rel => exact ⟨k + 1, by omega, by rw [hnx.out], by go_num, hg⟩
            case measure => simp [intOf]; omega
      · have hki : ((k : Int) < (ln : Int)) = False := eq_false (by omega)
        have htk : its.take k = its := List.take_of_length_le (by have := hln.out; omega)
        have hfin : PSet.has ⟨false, pno, its⟩ r = (inItems its r != pno) := by
          unfold PSet.has
          simp only
          cases inItems its r <;> cases pno <;> rfl
        rw [htk] at *
        generalize inItems its r = bk at *
        replace hfin := Lib.hid hfin
        cases bk <;> cases pno <;> (go_wp2; go_ret; exact ⟨by rw [hfin.out]; rfl, G1.out⟩)
end Go.Proofs.YtccmekdmnkmhlaaGreat
namespace Go.Proofs.YtccmekdmnkmhlaaGreat
open Go.RowKit

theorem node_set {w : World} {ps : List Prt} {n : Nat} {p : Prt} {S : PSet} (h : Node w ps n (.one S)) (hp : ps[n]? = some p) : PrtSet w p S := by
  generalize ht : T.one S = t at h
  cases h with
  | rune h hk hr =>
    rw [hp] at h
    obtain rfl := Option.some.inj h
    unfold oneOf at ht
    injection ht with ht
    subst hr
    exact .inl ⟨hk, ht⟩
  | dot h hk =>
    rw [hp] at h
    obtain rfl := Option.some.inj h
    injection ht with ht
    exact .inr (.inl ⟨hk, ht⟩)
  | cls h hk hno hln hhn hlo hhi =>
    rw [hp] at h
    obtain rfl := Option.some.inj h
    injection ht with ht
    have hlo' := hlo
    have hhi' := hhi
    rw [← hln] at hlo'
    rw [← hhn] at hhi'
    refine .inr (.inr ⟨hk, _, by rw [hno]; exact ht, hln, hhn, ?_, row_own hlo', row_own hhi'⟩)
    rcases hlo.2 with ⟨_, h0⟩ | ⟨g, cap, cur, hv, _, _, _, hc1, hc2⟩
    · omega
    · injection hv with h1 h2 h3
      have h4 : maxLen = 9223372036854775807 := rfl
      omega
  | zero => cases ht
  | alt1 => cases ht
  | row => cases ht
  | alt => cases ht
  | rep => cases ht
set_option maxHeartbeats 16000000 in
set_option maxRecDepth 100000 in
theorem ends_k1 (X : Nat) (pA : Option Addr) (np pc : Nat) (ps : List Prt) (s : List Int) (sA : Option Addr) (sc : Nat) (n : Nat) (p : Prt) (hp : ps[n]? = some p) (hsl : s.length ≤ 1000000) (hk : p.k = 1) (S : PSet) : EndsC X pA np pc ps s sA sc (.one S) n := by
  intro mk I c w hE hnode hI hmk
  obtain ⟨ii, hi, hz0, hz1, hz2⟩ := info_parts infoBool
  obtain ⟨N, hN⟩ : ∃ N, N = s.length + 1 := ⟨_, rfl⟩
  have hnp : n < np := by
    have h1 := (List.getElem?_eq_some_iff.1 hp).1
    have h2 := hE.prow.1
    rw [sR_len prtC 9 prtC_len] at h2
    omega
  obtain ⟨p', B, o, hp', hBo, _, hc⟩ := rowS_elem prtC_len hE.prow (by decide) hnp
  obtain rfl : p' = p := by
    have h1 : ps[n]? = some p' := hp'
    rw [hp] at h1
    exact (Option.some.inj h1).symm
  subst hBo
  obtain ⟨pk, pr, lA, ln, lc, hA, hn, hcc, pno, qa, qb, least, once⟩ := p'
  simp only at hk
  replace hk := Lib.hid hk
  have e0 : w.cell? ⟨B, o + n * 9, none⟩ = some (.int .i64 pk) := hc 0 (by decide)
  have e1 : w.cell? ⟨B, o + n * 9 + 1, none⟩ = some (.int .i32 pr) := hc 1 (by decide)
  have e2 : w.cell? ⟨B, o + n * 9 + 2, none⟩ = some (.slice lA ln lc) := hc 2 (by decide)
  have e3 : w.cell? ⟨B, o + n * 9 + 3, none⟩ = some (.slice hA hn hcc) := hc 3 (by decide)
  have e4 : w.cell? ⟨B, o + n * 9 + 4, none⟩ = some (.bool pno) := hc 4 (by decide)
  have e5 : w.cell? ⟨B, o + n * 9 + 5, none⟩ = some (.int .i64 qa) := hc 5 (by decide)
  have e6 : w.cell? ⟨B, o + n * 9 + 6, none⟩ = some (.int .i64 qb) := hc 6 (by decide)
  have e7 : w.cell? ⟨B, o + n * 9 + 7, none⟩ = some (.int .i64 least) := hc 7 (by decide)
  have e8 : w.cell? ⟨B, o + n * 9 + 8, none⟩ = some (.bool once) := hc 8 (by decide)
  clear hc
  have hni : (n : Int) < (np : Int) := by omega
  have hn0 : (0 : Int) ≤ (n : Int) := by omega
  have hN0 : 0 < N := by omega
  have hNm : N ≤ 1000001 := by omega
  have hIlt := lt_of_blk hI
  have kx := hE.cell
  have hb64 : -9223372036854775808 ≤ (s.length : Int) + 1 ∧ (s.length : Int) + 1 ≤ 9223372036854775807 := by omega
  have hNq : (s.length : Int) + 1 = (N : Int) := by omega
  have hNi : IntKind.i64.wrap ((s.length : Int) + 1) = (N : Int) := (IntWalk.i64_in _ hb64).trans hNq
  clear hb64 hNq
  rw [← hN] at hmk ⊢
  replace hN := Lib.hid hN
  replace hE := Lib.hid hE
  replace hI := Lib.hid hI
  replace hnode := Lib.hid hnode
  replace hp := Lib.hid hp
  replace hmk := Lib.hid hmk
  replace hIlt := Lib.hid hIlt
  clear hp'
  go_enter Tryz.func128, Tryz.ntmps128
  go_upto_region 2 with (at_make; refine wpList_make_full _ rfl _ _ 129 rfl w.heap.size 4 ii (.bool false) 1 Tryz.underlying129 hi hz0 hz1 .i64 .i64 N N N rfl rfl rfl rfl ?b2 ?b3 (Nat.le_refl _) ?_; rotate_right; intro W1 hown1 hg1; have hb1 := made_bools hN0 hown1; have kx1 := gr_cell hg1 kx; have d0 := gr_cell hg1 e0; have d1 := gr_cell hg1 e1; have d2 := gr_cell hg1 e2; have d3 := gr_cell hg1 e3; have d4 := gr_cell hg1 e4; have d5 := gr_cell hg1 e5; have d6 := gr_cell hg1 e6; have d7 := gr_cell hg1 e7; have d8 := gr_cell hg1 e8; replace hown1 := Lib.hid hown1; replace hb1 := Lib.hid hb1; replace hg1 := Lib.hid hg1)
  case b2 => first | omega | (rw [hz2]; omega)
  case b3 => unfold maxLen; omega
  clear e0 e1 e2 e3 e4 e5 e6 e7 e8 kx hown1
  obtain ⟨W2, hW2⟩ : ∃ W2, W2 = W1.alloc (.cells #[.int .i64 pk, .int .i32 pr, .slice lA ln lc, .slice hA hn hcc, .bool pno, .int .i64 qa, .int .i64 qb, .int .i64 least, .bool once] 194) := ⟨_, rfl⟩
  obtain ⟨pb, hpb⟩ : ∃ pb, pb = W1.heap.size := ⟨_, rfl⟩
  have g2 : Gr W1 W2 := by rw [hW2]; exact gr_alloc _ _ _
  have hpbn : w.heap.size < pb := by rw [hpb]; exact lt_of_blk hb1.out
  have hPB : W2.heap[pb]? = some (.cells #[.int .i64 pk, .int .i32 pr, .slice lA ln lc, .slice hA hn hcc, .bool pno, .int .i64 qa, .int .i64 qb, .int .i64 least, .bool once] 194 (0, 0)) := by rw [hW2, hpb]; exact blk_new _ _
  have G2 := gr_trans hg1.out g2
  have hI0 : BoolAt W2 w.heap.size (List.replicate N false) := gr_blk g2 hb1.out (by simp)
  have hI2 : BoolAt W2 I mk := gr_blk G2 hI.out (by simp)
  have hE2 := eh_gr hE.out G2
  have hnode2 := nodeE_gr hnode.out G2
  replace hPB := Lib.hid hPB
  replace G2 := Lib.hid G2
  replace hI0 := Lib.hid hI0
  replace hI2 := Lib.hid hI2
  replace hE2 := Lib.hid hE2
  replace hnode2 := Lib.hid hnode2
  replace hpbn := Lib.hid hpbn
  clear hb1 hg1 g2
  go_upto_region 3 with fail
  rw [← hW2, ← hpb]
  replace hW2 := Lib.hid hW2
  replace hpb := Lib.hid hpb
  clear kx1 d0 d1 d2 d3 d4 d5 d6 d7 d8 hni hn0
  have c0 : W2.cell? ⟨pb, 0, none⟩ = some (.int .i64 pk) := blk_cell hPB.out rfl
  have hk0 := hk.out
  subst hk0
  have hset : PrtSet w ⟨1, pr, lA, ln, lc, hA, hn, hcc, pno, qa, qb, least, once⟩ S := node_set hnode.out hp.out
  have cO : ∀ (r : Int) (W : World), Gr w W → Calls Tryz.prog 143 #[.agg #[.int .i64 1, .int .i32 pr, .slice lA ln lc, .slice hA hn hcc, .bool pno, .int .i64 qa, .int .i64 qb, .int .i64 least, .bool once], .int .i32 r] W fun e w' => e = .returned (.bool (S.has r)) ∧ Gr W w' := fun r W g => by
    have h := one_any ⟨1, pr, lA, ln, lc, hA, hn, hcc, pno, qa, qb, least, once⟩ r S W (prtSet_gr hset g)
    unfold prtV at h
    simp only at h
    exact h
  have hst : Hid (∃ out, BoolAt W2 w.heap.size out ∧ out.length = N ∧ out[0]? = some false ∧ ∀ (i : Nat) (r : Int) (b : Bool), i < 0 → s[i]? = some r → mk[i]? = some b → out[i + 1]? = some (b && S.has r)) := ⟨_, hI0.out, List.length_replicate, by rw [List.getElem?_replicate, if_pos hN0], fun i _ _ h => absurd h (Nat.not_lt_zero _)⟩
  replace cO := Lib.hid cO
  clear hset
  go_wp2_with fail
  clear c0
  go_loopw [11] (fun iv wr => ∃ k : Nat, k ≤ s.length ∧ iv = .int .i64 k ∧ Hid (∃ out, BoolAt wr w.heap.size out ∧ out.length = N ∧ out[0]? = some false ∧ ∀ (i : Nat) (r : Int) (b : Bool), i < k → s[i]? = some r → mk[i]? = some b → out[i + 1]? = some (b && S.has r)) ∧ Hid (GrB w.heap.size W2 wr)) (fun iv _ => s.length - (intOf iv).toNat)
  case atStart => exact ⟨0, Nat.zero_le _, rfl, hst, World.grownBy.refl _ _⟩
  case round =>
    obtain ⟨k, hk, rfl, ho, hg⟩ := hrel
    have GW : Gr w wr := gr_of_below ((gr_below G2.out).grown hg.out G2.out.size (fun k hk => by cases hk; exact Nat.le_refl _)) (Nat.le_refl _)
    by_cases hlt : k < s.length
    · have hNe := hN.out
      have hki : (k : Int) < (s.length : Int) := by omega
      have hkN : (k : Int) < (N : Int) := by omega
      have hk0 : (0 : Int) ≤ (k : Int) := by omega
      have hkM : ((k + 1 : Nat) : Int) < (N : Int) := by omega
      have hkM0 : (0 : Int) ≤ ((k + 1 : Nat) : Int) := by omega
      have hkM2 : (k : Int) + 1 < (N : Int) := by omega
      have hkM3 : (0 : Int) ≤ (k : Int) + 1 := by omega
      have hkb : -9223372036854775808 ≤ (k : Int) + 1 ∧ (k : Int) + 1 ≤ 9223372036854775807 := by omega
      have hkq : (k : Int) + 1 = ((k + 1 : Nat) : Int) := by omega
      have hkw : IntKind.i64.wrap ((k : Int) + 1) = ((k + 1 : Nat) : Int) := (IntWalk.i64_in _ hkb).trans hkq
      obtain ⟨bk, hbk⟩ := at_some (l := mk) (j := k) (by have := hmk.out; omega)
      obtain ⟨r, Bs, os, hrk, hsA, ds⟩ := row_elem (f := Value.int .i32) hE.out.srow hlt
      subst hsA
      obtain ⟨out, hob, hol, ho0, hop⟩ := ho.out
      obtain ⟨ob, hob2⟩ := at_some (l := out) (j := k + 1) (by rw [hol]; omega)
      have xs : wr.cell? ⟨Bs, os + k, none⟩ = some (.int .i32 r) := gr_cell GW ds
      have xm : wr.cell? ⟨I, k, none⟩ = some (.bool bk) := bool_cell (gr_blk GW hI.out (by simp)) hbk
      have z0 : wr.cell? ⟨w.heap.size, k + 1, none⟩ = some (.bool ob) := bool_cell hob hob2
      have f0 : wr.frozen? ⟨w.heap.size, k + 1, none⟩ = false := blk_free hob (k + 1)
      have hPw : wr.heap[pb]? = some (.cells #[.int .i64 1, .int .i32 pr, .slice lA ln lc, .slice hA hn hcc, .bool pno, .int .i64 qa, .int .i64 qb, .int .i64 least, .bool once] 194 (0, 0)) := gr_blk hg.out hPB.out (by simp; have := hpbn.out; omega)
      have y0 : wr.cell? ⟨pb, 0, none⟩ = some (.int .i64 1) := blk_cell hPw rfl
      have y1 : wr.cell? ⟨pb, 1, none⟩ = some (.int .i32 pr) := blk_cell hPw rfl
      have y2 : wr.cell? ⟨pb, 2, none⟩ = some (.slice lA ln lc) := blk_cell hPw rfl
      have y3 : wr.cell? ⟨pb, 3, none⟩ = some (.slice hA hn hcc) := blk_cell hPw rfl
      have y4 : wr.cell? ⟨pb, 4, none⟩ = some (.bool pno) := blk_cell hPw rfl
      have y5 : wr.cell? ⟨pb, 5, none⟩ = some (.int .i64 qa) := blk_cell hPw rfl
      have y6 : wr.cell? ⟨pb, 6, none⟩ = some (.int .i64 qb) := blk_cell hPw rfl
      have y7 : wr.cell? ⟨pb, 7, none⟩ = some (.int .i64 least) := blk_cell hPw rfl
      have y8 : wr.cell? ⟨pb, 8, none⟩ = some (.bool once) := blk_cell hPw rfl
      have hset' : ∀ v, v = (bk && S.has r) → ∀ W, BoolAt W w.heap.size (out.set (k + 1) v) → Hid (∃ out, BoolAt W w.heap.size out ∧ out.length = N ∧ out[0]? = some false ∧ ∀ (i : Nat) (r : Int) (b : Bool), i < k + 1 → s[i]? = some r → mk[i]? = some b → out[i + 1]? = some (b && S.has r)) := by
        intro v hv W hW
        refine ⟨_, hW, by rw [List.length_set, hol], by rw [List.getElem?_set_ne (by omega)]; exact ho0, fun i r' b hi h1 h2 => ?_⟩
        by_cases hik : i = k
        · subst hik
          rw [hrk] at h1
          rw [hbk] at h2
          obtain rfl := Option.some.inj h1
          obtain rfl := Option.some.inj h2
          rw [List.getElem?_set_self (by rw [hol]; omega), hv]
        · rw [List.getElem?_set_ne (by omega)]
          exact hop i r' b (by omega) h1 h2
      have cO' := fun W (g : Gr wr W) => cO.out r W (gr_trans GW g)
      replace hNe := Lib.hid hNe
      replace hbk := Lib.hid hbk
      replace hrk := Lib.hid hrk
      replace hob := Lib.hid hob
      replace hol := Lib.hid hol
      replace ho0 := Lib.hid ho0
      replace hop := Lib.hid hop
      replace hob2 := Lib.hid hob2
      replace GW := Lib.hid GW
      replace hPw := Lib.hid hPw
      replace cO := Lib.hid cO
      replace hset' := Lib.hid hset'
      clear ho ds hkb hkq
      generalize S.has r = v at hset' cO'
      replace cO' := Lib.hid cO'
      cases bk with
      | false =>
        have hob5 : BoolAt (wr.setCell ⟨w.heap.size, k + 1, none⟩ (.bool false)).drew w.heap.size (out.set (k + 1) false) := gr_blk (gr_drew _ none) (bool_set hob.out (k + 1) false) (by simp)
        have hnew := hset'.out false rfl _ hob5
        have g5 : GrB w.heap.size W2 (wr.setCell ⟨w.heap.size, k + 1, none⟩ (.bool false)).drew := gr_trans hg.out (gr_trans (gr_set wr ⟨w.heap.size, k + 1, none⟩ _) (gr_drew _ _))
        obtain ⟨W5, hW5⟩ : ∃ W5, W5 = (wr.setCell ⟨w.heap.size, k + 1, none⟩ (.bool false)).drew := ⟨_, rfl⟩
        rw [← hW5] at hnew g5
        replace g5 := Lib.hid g5
        clear hob5 hg hset' cO'
        go_upto_region 31 with fail
        go_region
        rw [← hW5]
        clear hW5 hkw xs xm z0 f0 y0 y1 y2 y3 y4 y5 y6 y7 y8
        go_wp2
        go_roundw
        case rel => exact ⟨k + 1, by omega, by go_num, hnew, g5⟩
        case measure => simp [intOf]; omega
      | true =>
        have hobD : BoolAt wr.drew w.heap.size out := gr_blk (gr_drew wr none) hob.out (by simp)
        replace hobD := Lib.hid hobD
        go_upto_region 31 with fail
        go_region_law (first
          | (go_simp; go_at_call 143; refine (cO'.out _ (gr_drew wr none)).mono ?_
             rintro e wP ⟨rfl, gP⟩
             have hobP : BoolAt wP w.heap.size out := gr_blk gP hobD.out (by simp)
             have zP := bool_cell hobP hob2.out
             have fP := blk_free hobP (k + 1)))
        all_goals
          have hob5 : BoolAt (wP.setCell ⟨w.heap.size, k + 1, none⟩ (.bool v)) w.heap.size (out.set (k + 1) v) := bool_set hobP (k + 1) v
          have hnew := hset'.out v (by simp) _ hob5
          have g5 : GrB w.heap.size W2 (wP.setCell ⟨w.heap.size, k + 1, none⟩ (.bool v)) := gr_trans hg.out (gr_trans (gr_trans (gr_more _ (gr_drew wr none)) (gr_more _ gP)) (gr_set wP ⟨w.heap.size, k + 1, none⟩ _))
          obtain ⟨W5, hW5⟩ : ∃ W5, W5 = wP.setCell ⟨w.heap.size, k + 1, none⟩ (.bool v) := ⟨_, rfl⟩
          rw [← hW5] at hnew g5 ⊢
          replace g5 := Lib.hid g5
          clear hob5 hg hset' cO' hW5 hkw xs xm z0 f0 y0 y1 y2 y3 y4 y5 y6 y7 y8 hobP zP fP gP
          go_wp2
          go_roundw
          case rel => exact ⟨k + 1, by omega, by go_num, hnew, g5⟩
          case measure => simp [intOf]; omega
    · have hNe := hN.out
      have hki : ((k : Int) < (s.length : Int)) = False := eq_false (by omega)
      obtain rfl : k = s.length := by omega
      obtain ⟨out, hob, hol, ho0, hop⟩ := ho.out
      have hfin := ends_one (S := S) (s := s) (mk := mk) (out := out) (by rw [hmk.out, hNe]) (by rw [hol, hNe]) ho0 (fun i r b h1 h2 => hop i r b (List.getElem?_eq_some_iff.1 h1).1 h1 h2)
      replace hfin := Lib.hid hfin
      replace GW := Lib.hid GW
      replace hob := Lib.hid hob
      replace hol := Lib.hid hol
      replace hop := Lib.hid hop
      replace ho0 := Lib.hid ho0
      replace hNe := Lib.hid hNe
      clear ho hg
      go_wp2_with fail
      go_ret
      exact ⟨w.heap.size, N, out, rfl, Nat.le_refl _, hob.out, hfin.out, GW.out⟩
end Go.Proofs.YtccmekdmnkmhlaaGreat
namespace Go.Proofs.YtccmekdmnkmhlaaGreat
open Go.RowKit

set_option maxHeartbeats 16000000 in
set_option maxRecDepth 100000 in
theorem ends_k3 (X : Nat) (pA : Option Addr) (np pc : Nat) (ps : List Prt) (s : List Int) (sA : Option Addr) (sc : Nat) (n : Nat) (p : Prt) (hp : ps[n]? = some p) (hsl : s.length ≤ 1000000) (hk : p.k = 3) (S : PSet) : EndsC X pA np pc ps s sA sc (.one S) n := by
  intro mk I c w hE hnode hI hmk
  obtain ⟨ii, hi, hz0, hz1, hz2⟩ := info_parts infoBool
  obtain ⟨N, hN⟩ : ∃ N, N = s.length + 1 := ⟨_, rfl⟩
  have hnp : n < np := by
    have h1 := (List.getElem?_eq_some_iff.1 hp).1
    have h2 := hE.prow.1
    rw [sR_len prtC 9 prtC_len] at h2
    omega
  obtain ⟨p', B, o, hp', hBo, _, hc⟩ := rowS_elem prtC_len hE.prow (by decide) hnp
  obtain rfl : p' = p := by
    have h1 : ps[n]? = some p' := hp'
    rw [hp] at h1
    exact (Option.some.inj h1).symm
  subst hBo
  obtain ⟨pk, pr, lA, ln, lc, hA, hn, hcc, pno, qa, qb, least, once⟩ := p'
  simp only at hk
  replace hk := Lib.hid hk
  have e0 : w.cell? ⟨B, o + n * 9, none⟩ = some (.int .i64 pk) := hc 0 (by decide)
  have e1 : w.cell? ⟨B, o + n * 9 + 1, none⟩ = some (.int .i32 pr) := hc 1 (by decide)
  have e2 : w.cell? ⟨B, o + n * 9 + 2, none⟩ = some (.slice lA ln lc) := hc 2 (by decide)
  have e3 : w.cell? ⟨B, o + n * 9 + 3, none⟩ = some (.slice hA hn hcc) := hc 3 (by decide)
  have e4 : w.cell? ⟨B, o + n * 9 + 4, none⟩ = some (.bool pno) := hc 4 (by decide)
  have e5 : w.cell? ⟨B, o + n * 9 + 5, none⟩ = some (.int .i64 qa) := hc 5 (by decide)
  have e6 : w.cell? ⟨B, o + n * 9 + 6, none⟩ = some (.int .i64 qb) := hc 6 (by decide)
  have e7 : w.cell? ⟨B, o + n * 9 + 7, none⟩ = some (.int .i64 least) := hc 7 (by decide)
  have e8 : w.cell? ⟨B, o + n * 9 + 8, none⟩ = some (.bool once) := hc 8 (by decide)
  clear hc
  have hni : (n : Int) < (np : Int) := by omega
  have hn0 : (0 : Int) ≤ (n : Int) := by omega
  have hN0 : 0 < N := by omega
  have hNm : N ≤ 1000001 := by omega
  have hIlt := lt_of_blk hI
  have kx := hE.cell
  have hb64 : -9223372036854775808 ≤ (s.length : Int) + 1 ∧ (s.length : Int) + 1 ≤ 9223372036854775807 := by omega
  have hNq : (s.length : Int) + 1 = (N : Int) := by omega
  have hNi : IntKind.i64.wrap ((s.length : Int) + 1) = (N : Int) := (IntWalk.i64_in _ hb64).trans hNq
  clear hb64 hNq
  rw [← hN] at hmk ⊢
  replace hN := Lib.hid hN
  replace hE := Lib.hid hE
  replace hI := Lib.hid hI
  replace hnode := Lib.hid hnode
  replace hp := Lib.hid hp
  replace hmk := Lib.hid hmk
  replace hIlt := Lib.hid hIlt
  clear hp'
  go_enter Tryz.func128, Tryz.ntmps128
  go_upto_region 2 with (at_make; refine wpList_make_full _ rfl _ _ 129 rfl w.heap.size 4 ii (.bool false) 1 Tryz.underlying129 hi hz0 hz1 .i64 .i64 N N N rfl rfl rfl rfl ?b2 ?b3 (Nat.le_refl _) ?_; rotate_right; intro W1 hown1 hg1; have hb1 := made_bools hN0 hown1; have kx1 := gr_cell hg1 kx; have d0 := gr_cell hg1 e0; have d1 := gr_cell hg1 e1; have d2 := gr_cell hg1 e2; have d3 := gr_cell hg1 e3; have d4 := gr_cell hg1 e4; have d5 := gr_cell hg1 e5; have d6 := gr_cell hg1 e6; have d7 := gr_cell hg1 e7; have d8 := gr_cell hg1 e8; replace hown1 := Lib.hid hown1; replace hb1 := Lib.hid hb1; replace hg1 := Lib.hid hg1)
  case b2 => first | omega | (rw [hz2]; omega)
  case b3 => unfold maxLen; omega
  clear e0 e1 e2 e3 e4 e5 e6 e7 e8 kx hown1
  obtain ⟨W2, hW2⟩ : ∃ W2, W2 = W1.alloc (.cells #[.int .i64 pk, .int .i32 pr, .slice lA ln lc, .slice hA hn hcc, .bool pno, .int .i64 qa, .int .i64 qb, .int .i64 least, .bool once] 194) := ⟨_, rfl⟩
  obtain ⟨pb, hpb⟩ : ∃ pb, pb = W1.heap.size := ⟨_, rfl⟩
  have g2 : Gr W1 W2 := by rw [hW2]; exact gr_alloc _ _ _
  have hpbn : w.heap.size < pb := by rw [hpb]; exact lt_of_blk hb1.out
  have hPB : W2.heap[pb]? = some (.cells #[.int .i64 pk, .int .i32 pr, .slice lA ln lc, .slice hA hn hcc, .bool pno, .int .i64 qa, .int .i64 qb, .int .i64 least, .bool once] 194 (0, 0)) := by rw [hW2, hpb]; exact blk_new _ _
  have G2 := gr_trans hg1.out g2
  have hI0 : BoolAt W2 w.heap.size (List.replicate N false) := gr_blk g2 hb1.out (by simp)
  have hI2 : BoolAt W2 I mk := gr_blk G2 hI.out (by simp)
  have hE2 := eh_gr hE.out G2
  have hnode2 := nodeE_gr hnode.out G2
  replace hPB := Lib.hid hPB
  replace G2 := Lib.hid G2
  replace hI0 := Lib.hid hI0
  replace hI2 := Lib.hid hI2
  replace hE2 := Lib.hid hE2
  replace hnode2 := Lib.hid hnode2
  replace hpbn := Lib.hid hpbn
  clear hb1 hg1 g2
  go_upto_region 3 with fail
  rw [← hW2, ← hpb]
  replace hW2 := Lib.hid hW2
  replace hpb := Lib.hid hpb
  clear kx1 d0 d1 d2 d3 d4 d5 d6 d7 d8 hni hn0
  have c0 : W2.cell? ⟨pb, 0, none⟩ = some (.int .i64 pk) := blk_cell hPB.out rfl
  have hk0 := hk.out
  subst hk0
  have hset : PrtSet w ⟨3, pr, lA, ln, lc, hA, hn, hcc, pno, qa, qb, least, once⟩ S := node_set hnode.out hp.out
  have cO : ∀ (r : Int) (W : World), Gr w W → Calls Tryz.prog 143 #[.agg #[.int .i64 3, .int .i32 pr, .slice lA ln lc, .slice hA hn hcc, .bool pno, .int .i64 qa, .int .i64 qb, .int .i64 least, .bool once], .int .i32 r] W fun e w' => e = .returned (.bool (S.has r)) ∧ Gr W w' := fun r W g => by
    have h := one_any ⟨3, pr, lA, ln, lc, hA, hn, hcc, pno, qa, qb, least, once⟩ r S W (prtSet_gr hset g)
    unfold prtV at h
    simp only at h
    exact h
  have hst : Hid (∃ out, BoolAt W2 w.heap.size out ∧ out.length = N ∧ out[0]? = some false ∧ ∀ (i : Nat) (r : Int) (b : Bool), i < 0 → s[i]? = some r → mk[i]? = some b → out[i + 1]? = some (b && S.has r)) := ⟨_, hI0.out, List.length_replicate, by rw [List.getElem?_replicate, if_pos hN0], fun i _ _ h => absurd h (Nat.not_lt_zero _)⟩
  replace cO := Lib.hid cO
  clear hset
  go_wp2_with fail
  clear c0
  go_loopw [11] (fun iv wr => ∃ k : Nat, k ≤ s.length ∧ iv = .int .i64 k ∧ Hid (∃ out, BoolAt wr w.heap.size out ∧ out.length = N ∧ out[0]? = some false ∧ ∀ (i : Nat) (r : Int) (b : Bool), i < k → s[i]? = some r → mk[i]? = some b → out[i + 1]? = some (b && S.has r)) ∧ Hid (GrB w.heap.size W2 wr)) (fun iv _ => s.length - (intOf iv).toNat)
  case atStart => exact ⟨0, Nat.zero_le _, rfl, hst, World.grownBy.refl _ _⟩
  case round =>
    obtain ⟨k, hk, rfl, ho, hg⟩ := hrel
    have GW : Gr w wr := gr_of_below ((gr_below G2.out).grown hg.out G2.out.size (fun k hk => by cases hk; exact Nat.le_refl _)) (Nat.le_refl _)
    by_cases hlt : k < s.length
    · have hNe := hN.out
      have hki : (k : Int) < (s.length : Int) := by omega
      have hkN : (k : Int) < (N : Int) := by omega
      have hk0 : (0 : Int) ≤ (k : Int) := by omega
      have hkM : ((k + 1 : Nat) : Int) < (N : Int) := by omega
      have hkM0 : (0 : Int) ≤ ((k + 1 : Nat) : Int) := by omega
      have hkM2 : (k : Int) + 1 < (N : Int) := by omega
      have hkM3 : (0 : Int) ≤ (k : Int) + 1 := by omega
      have hkb : -9223372036854775808 ≤ (k : Int) + 1 ∧ (k : Int) + 1 ≤ 9223372036854775807 := by omega
      have hkq : (k : Int) + 1 = ((k + 1 : Nat) : Int) := by omega
      have hkw : IntKind.i64.wrap ((k : Int) + 1) = ((k + 1 : Nat) : Int) := (IntWalk.i64_in _ hkb).trans hkq
      obtain ⟨bk, hbk⟩ := at_some (l := mk) (j := k) (by have := hmk.out; omega)
      obtain ⟨r, Bs, os, hrk, hsA, ds⟩ := row_elem (f := Value.int .i32) hE.out.srow hlt
      subst hsA
      obtain ⟨out, hob, hol, ho0, hop⟩ := ho.out
      obtain ⟨ob, hob2⟩ := at_some (l := out) (j := k + 1) (by rw [hol]; omega)
      have xs : wr.cell? ⟨Bs, os + k, none⟩ = some (.int .i32 r) := gr_cell GW ds
      have xm : wr.cell? ⟨I, k, none⟩ = some (.bool bk) := bool_cell (gr_blk GW hI.out (by simp)) hbk
      have z0 : wr.cell? ⟨w.heap.size, k + 1, none⟩ = some (.bool ob) := bool_cell hob hob2
      have f0 : wr.frozen? ⟨w.heap.size, k + 1, none⟩ = false := blk_free hob (k + 1)
      have hPw : wr.heap[pb]? = some (.cells #[.int .i64 3, .int .i32 pr, .slice lA ln lc, .slice hA hn hcc, .bool pno, .int .i64 qa, .int .i64 qb, .int .i64 least, .bool once] 194 (0, 0)) := gr_blk hg.out hPB.out (by simp; have := hpbn.out; omega)
      have y0 : wr.cell? ⟨pb, 0, none⟩ = some (.int .i64 3) := blk_cell hPw rfl
      have y1 : wr.cell? ⟨pb, 1, none⟩ = some (.int .i32 pr) := blk_cell hPw rfl
      have y2 : wr.cell? ⟨pb, 2, none⟩ = some (.slice lA ln lc) := blk_cell hPw rfl
      have y3 : wr.cell? ⟨pb, 3, none⟩ = some (.slice hA hn hcc) := blk_cell hPw rfl
      have y4 : wr.cell? ⟨pb, 4, none⟩ = some (.bool pno) := blk_cell hPw rfl
      have y5 : wr.cell? ⟨pb, 5, none⟩ = some (.int .i64 qa) := blk_cell hPw rfl
      have y6 : wr.cell? ⟨pb, 6, none⟩ = some (.int .i64 qb) := blk_cell hPw rfl
      have y7 : wr.cell? ⟨pb, 7, none⟩ = some (.int .i64 least) := blk_cell hPw rfl
      have y8 : wr.cell? ⟨pb, 8, none⟩ = some (.bool once) := blk_cell hPw rfl
      have hset' : ∀ v, v = (bk && S.has r) → ∀ W, BoolAt W w.heap.size (out.set (k + 1) v) → Hid (∃ out, BoolAt W w.heap.size out ∧ out.length = N ∧ out[0]? = some false ∧ ∀ (i : Nat) (r : Int) (b : Bool), i < k + 1 → s[i]? = some r → mk[i]? = some b → out[i + 1]? = some (b && S.has r)) := by
        intro v hv W hW
        refine ⟨_, hW, by rw [List.length_set, hol], by rw [List.getElem?_set_ne (by omega)]; exact ho0, fun i r' b hi h1 h2 => ?_⟩
        by_cases hik : i = k
        · subst hik
          rw [hrk] at h1
          rw [hbk] at h2
          obtain rfl := Option.some.inj h1
          obtain rfl := Option.some.inj h2
          rw [List.getElem?_set_self (by rw [hol]; omega), hv]
        · rw [List.getElem?_set_ne (by omega)]
          exact hop i r' b (by omega) h1 h2
      have cO' := fun W (g : Gr wr W) => cO.out r W (gr_trans GW g)
      replace hNe := Lib.hid hNe
      replace hbk := Lib.hid hbk
      replace hrk := Lib.hid hrk
      replace hob := Lib.hid hob
      replace hol := Lib.hid hol
      replace ho0 := Lib.hid ho0
      replace hop := Lib.hid hop
      replace hob2 := Lib.hid hob2
      replace GW := Lib.hid GW
      replace hPw := Lib.hid hPw
      replace cO := Lib.hid cO
      replace hset' := Lib.hid hset'
      clear ho ds hkb hkq
      generalize S.has r = v at hset' cO'
      replace cO' := Lib.hid cO'
      cases bk with
      | false =>
        have hob5 : BoolAt (wr.setCell ⟨w.heap.size, k + 1, none⟩ (.bool false)).drew w.heap.size (out.set (k + 1) false) := gr_blk (gr_drew _ none) (bool_set hob.out (k + 1) false) (by simp)
        have hnew := hset'.out false rfl _ hob5
        have g5 : GrB w.heap.size W2 (wr.setCell ⟨w.heap.size, k + 1, none⟩ (.bool false)).drew := gr_trans hg.out (gr_trans (gr_set wr ⟨w.heap.size, k + 1, none⟩ _) (gr_drew _ _))
        obtain ⟨W5, hW5⟩ : ∃ W5, W5 = (wr.setCell ⟨w.heap.size, k + 1, none⟩ (.bool false)).drew := ⟨_, rfl⟩
        rw [← hW5] at hnew g5
        replace g5 := Lib.hid g5
        clear hob5 hg hset' cO'
        go_upto_region 31 with fail
        go_region
        rw [← hW5]
        clear hW5 hkw xs xm z0 f0 y0 y1 y2 y3 y4 y5 y6 y7 y8
        go_wp2
        go_roundw
        case rel => exact ⟨k + 1, by omega, by go_num, hnew, g5⟩
        case measure => simp [intOf]; omega
      | true =>
        have hobD : BoolAt wr.drew w.heap.size out := gr_blk (gr_drew wr none) hob.out (by simp)
        replace hobD := Lib.hid hobD
        go_upto_region 31 with fail
        go_region_law (first
          | (go_simp; go_at_call 143; refine (cO'.out _ (gr_drew wr none)).mono ?_
             rintro e wP ⟨rfl, gP⟩
             have hobP : BoolAt wP w.heap.size out := gr_blk gP hobD.out (by simp)
             have zP := bool_cell hobP hob2.out
             have fP := blk_free hobP (k + 1)))
        all_goals
          have hob5 : BoolAt (wP.setCell ⟨w.heap.size, k + 1, none⟩ (.bool v)) w.heap.size (out.set (k + 1) v) := bool_set hobP (k + 1) v
          have hnew := hset'.out v (by simp) _ hob5
          have g5 : GrB w.heap.size W2 (wP.setCell ⟨w.heap.size, k + 1, none⟩ (.bool v)) := gr_trans hg.out (gr_trans (gr_trans (gr_more _ (gr_drew wr none)) (gr_more _ gP)) (gr_set wP ⟨w.heap.size, k + 1, none⟩ _))
          obtain ⟨W5, hW5⟩ : ∃ W5, W5 = wP.setCell ⟨w.heap.size, k + 1, none⟩ (.bool v) := ⟨_, rfl⟩
          rw [← hW5] at hnew g5 ⊢
          replace g5 := Lib.hid g5
          clear hob5 hg hset' cO' hW5 hkw xs xm z0 f0 y0 y1 y2 y3 y4 y5 y6 y7 y8 hobP zP fP gP
          go_wp2
          go_roundw
          case rel => exact ⟨k + 1, by omega, by go_num, hnew, g5⟩
          case measure => simp [intOf]; omega
    · have hNe := hN.out
      have hki : ((k : Int) < (s.length : Int)) = False := eq_false (by omega)
      obtain rfl : k = s.length := by omega
      obtain ⟨out, hob, hol, ho0, hop⟩ := ho.out
      have hfin := ends_one (S := S) (s := s) (mk := mk) (out := out) (by rw [hmk.out, hNe]) (by rw [hol, hNe]) ho0 (fun i r b h1 h2 => hop i r b (List.getElem?_eq_some_iff.1 h1).1 h1 h2)
      replace hfin := Lib.hid hfin
      replace GW := Lib.hid GW
      replace hob := Lib.hid hob
      replace hol := Lib.hid hol
      replace hop := Lib.hid hop
      replace ho0 := Lib.hid ho0
      replace hNe := Lib.hid hNe
      clear ho hg
      go_wp2_with fail
      go_ret
      exact ⟨w.heap.size, N, out, rfl, Nat.le_refl _, hob.out, hfin.out, GW.out⟩
end Go.Proofs.YtccmekdmnkmhlaaGreat
namespace Go.Proofs.YtccmekdmnkmhlaaGreat
open Go.RowKit

set_option maxHeartbeats 16000000 in
set_option maxRecDepth 100000 in
theorem ends_k2 (X : Nat) (pA : Option Addr) (np pc : Nat) (ps : List Prt) (s : List Int) (sA : Option Addr) (sc : Nat) (n : Nat) (p : Prt) (hp : ps[n]? = some p) (hsl : s.length ≤ 1000000) (hk : p.k = 2) (S : PSet) : EndsC X pA np pc ps s sA sc (.one S) n := by
  intro mk I c w hE hnode hI hmk
  obtain ⟨ii, hi, hz0, hz1, hz2⟩ := info_parts infoBool
  obtain ⟨N, hN⟩ : ∃ N, N = s.length + 1 := ⟨_, rfl⟩
  have hnp : n < np := by
    have h1 := (List.getElem?_eq_some_iff.1 hp).1
    have h2 := hE.prow.1
    rw [sR_len prtC 9 prtC_len] at h2
    omega
  obtain ⟨p', B, o, hp', hBo, _, hc⟩ := rowS_elem prtC_len hE.prow (by decide) hnp
  obtain rfl : p' = p := by
    have h1 : ps[n]? = some p' := hp'
    rw [hp] at h1
    exact (Option.some.inj h1).symm
  subst hBo
  obtain ⟨pk, pr, lA, ln, lc, hA, hn, hcc, pno, qa, qb, least, once⟩ := p'
  simp only at hk
  replace hk := Lib.hid hk
  have e0 : w.cell? ⟨B, o + n * 9, none⟩ = some (.int .i64 pk) := hc 0 (by decide)
  have e1 : w.cell? ⟨B, o + n * 9 + 1, none⟩ = some (.int .i32 pr) := hc 1 (by decide)
  have e2 : w.cell? ⟨B, o + n * 9 + 2, none⟩ = some (.slice lA ln lc) := hc 2 (by decide)
  have e3 : w.cell? ⟨B, o + n * 9 + 3, none⟩ = some (.slice hA hn hcc) := hc 3 (by decide)
  have e4 : w.cell? ⟨B, o + n * 9 + 4, none⟩ = some (.bool pno) := hc 4 (by decide)
  have e5 : w.cell? ⟨B, o + n * 9 + 5, none⟩ = some (.int .i64 qa) := hc 5 (by decide)
  have e6 : w.cell? ⟨B, o + n * 9 + 6, none⟩ = some (.int .i64 qb) := hc 6 (by decide)
  have e7 : w.cell? ⟨B, o + n * 9 + 7, none⟩ = some (.int .i64 least) := hc 7 (by decide)
  have e8 : w.cell? ⟨B, o + n * 9 + 8, none⟩ = some (.bool once) := hc 8 (by decide)
  clear hc
  have hni : (n : Int) < (np : Int) := by omega
  have hn0 : (0 : Int) ≤ (n : Int) := by omega
  have hN0 : 0 < N := by omega
  have hNm : N ≤ 1000001 := by omega
  have hIlt := lt_of_blk hI
  have kx := hE.cell
  have hb64 : -9223372036854775808 ≤ (s.length : Int) + 1 ∧ (s.length : Int) + 1 ≤ 9223372036854775807 := by omega
  have hNq : (s.length : Int) + 1 = (N : Int) := by omega
  have hNi : IntKind.i64.wrap ((s.length : Int) + 1) = (N : Int) := (IntWalk.i64_in _ hb64).trans hNq
  clear hb64 hNq
  rw [← hN] at hmk ⊢
  replace hN := Lib.hid hN
  replace hE := Lib.hid hE
  replace hI := Lib.hid hI
  replace hnode := Lib.hid hnode
  replace hp := Lib.hid hp
  replace hmk := Lib.hid hmk
  replace hIlt := Lib.hid hIlt
  clear hp'
  go_enter Tryz.func128, Tryz.ntmps128
  go_upto_region 2 with (at_make; refine wpList_make_full _ rfl _ _ 129 rfl w.heap.size 4 ii (.bool false) 1 Tryz.underlying129 hi hz0 hz1 .i64 .i64 N N N rfl rfl rfl rfl ?b2 ?b3 (Nat.le_refl _) ?_; rotate_right; intro W1 hown1 hg1; have hb1 := made_bools hN0 hown1; have kx1 := gr_cell hg1 kx; have d0 := gr_cell hg1 e0; have d1 := gr_cell hg1 e1; have d2 := gr_cell hg1 e2; have d3 := gr_cell hg1 e3; have d4 := gr_cell hg1 e4; have d5 := gr_cell hg1 e5; have d6 := gr_cell hg1 e6; have d7 := gr_cell hg1 e7; have d8 := gr_cell hg1 e8; replace hown1 := Lib.hid hown1; replace hb1 := Lib.hid hb1; replace hg1 := Lib.hid hg1)
  case b2 => first | omega | (rw [hz2]; omega)
  case b3 => unfold maxLen; omega
  clear e0 e1 e2 e3 e4 e5 e6 e7 e8 kx hown1
  obtain ⟨W2, hW2⟩ : ∃ W2, W2 = W1.alloc (.cells #[.int .i64 pk, .int .i32 pr, .slice lA ln lc, .slice hA hn hcc, .bool pno, .int .i64 qa, .int .i64 qb, .int .i64 least, .bool once] 194) := ⟨_, rfl⟩
  obtain ⟨pb, hpb⟩ : ∃ pb, pb = W1.heap.size := ⟨_, rfl⟩
  have g2 : Gr W1 W2 := by rw [hW2]; exact gr_alloc _ _ _
  have hpbn : w.heap.size < pb := by rw [hpb]; exact lt_of_blk hb1.out
  have hPB : W2.heap[pb]? = some (.cells #[.int .i64 pk, .int .i32 pr, .slice lA ln lc, .slice hA hn hcc, .bool pno, .int .i64 qa, .int .i64 qb, .int .i64 least, .bool once] 194 (0, 0)) := by rw [hW2, hpb]; exact blk_new _ _
  have G2 := gr_trans hg1.out g2
  have hI0 : BoolAt W2 w.heap.size (List.replicate N false) := gr_blk g2 hb1.out (by simp)
  have hI2 : BoolAt W2 I mk := gr_blk G2 hI.out (by simp)
  have hE2 := eh_gr hE.out G2
  have hnode2 := nodeE_gr hnode.out G2
  replace hPB := Lib.hid hPB
  replace G2 := Lib.hid G2
  replace hI0 := Lib.hid hI0
  replace hI2 := Lib.hid hI2
  replace hE2 := Lib.hid hE2
  replace hnode2 := Lib.hid hnode2
  replace hpbn := Lib.hid hpbn
  clear hb1 hg1 g2
  go_upto_region 3 with fail
  rw [← hW2, ← hpb]
  replace hW2 := Lib.hid hW2
  replace hpb := Lib.hid hpb
  clear kx1 d0 d1 d2 d3 d4 d5 d6 d7 d8 hni hn0
  have c0 : W2.cell? ⟨pb, 0, none⟩ = some (.int .i64 pk) := blk_cell hPB.out rfl
  have hk0 := hk.out
  subst hk0
  have hset : PrtSet w ⟨2, pr, lA, ln, lc, hA, hn, hcc, pno, qa, qb, least, once⟩ S := node_set hnode.out hp.out
  have cO : ∀ (r : Int) (W : World), Gr w W → Calls Tryz.prog 143 #[.agg #[.int .i64 2, .int .i32 pr, .slice lA ln lc, .slice hA hn hcc, .bool pno, .int .i64 qa, .int .i64 qb, .int .i64 least, .bool once], .int .i32 r] W fun e w' => e = .returned (.bool (S.has r)) ∧ Gr W w' := fun r W g => by
    have h := one_any ⟨2, pr, lA, ln, lc, hA, hn, hcc, pno, qa, qb, least, once⟩ r S W (prtSet_gr hset g)
    unfold prtV at h
    simp only at h
    exact h
  have hst : Hid (∃ out, BoolAt W2 w.heap.size out ∧ out.length = N ∧ out[0]? = some false ∧ ∀ (i : Nat) (r : Int) (b : Bool), i < 0 → s[i]? = some r → mk[i]? = some b → out[i + 1]? = some (b && S.has r)) := ⟨_, hI0.out, List.length_replicate, by rw [List.getElem?_replicate, if_pos hN0], fun i _ _ h => absurd h (Nat.not_lt_zero _)⟩
  replace cO := Lib.hid cO
  clear hset
  go_wp2_with fail
  clear c0
  go_loopw [11] (fun iv wr => ∃ k : Nat, k ≤ s.length ∧ iv = .int .i64 k ∧ Hid (∃ out, BoolAt wr w.heap.size out ∧ out.length = N ∧ out[0]? = some false ∧ ∀ (i : Nat) (r : Int) (b : Bool), i < k → s[i]? = some r → mk[i]? = some b → out[i + 1]? = some (b && S.has r)) ∧ Hid (GrB w.heap.size W2 wr)) (fun iv _ => s.length - (intOf iv).toNat)
  case atStart => exact ⟨0, Nat.zero_le _, rfl, hst, World.grownBy.refl _ _⟩
  case round =>
    obtain ⟨k, hk, rfl, ho, hg⟩ := hrel
    have GW : Gr w wr := gr_of_below ((gr_below G2.out).grown hg.out G2.out.size (fun k hk => by cases hk; exact Nat.le_refl _)) (Nat.le_refl _)
    by_cases hlt : k < s.length
    · have hNe := hN.out
      have hki : (k : Int) < (s.length : Int) := by omega
      have hkN : (k : Int) < (N : Int) := by omega
      have hk0 : (0 : Int) ≤ (k : Int) := by omega
      have hkM : ((k + 1 : Nat) : Int) < (N : Int) := by omega
      have hkM0 : (0 : Int) ≤ ((k + 1 : Nat) : Int) := by omega
      have hkM2 : (k : Int) + 1 < (N : Int) := by omega
      have hkM3 : (0 : Int) ≤ (k : Int) + 1 := by omega
      have hkb : -9223372036854775808 ≤ (k : Int) + 1 ∧ (k : Int) + 1 ≤ 9223372036854775807 := by omega
      have hkq : (k : Int) + 1 = ((k + 1 : Nat) : Int) := by omega
      have hkw : IntKind.i64.wrap ((k : Int) + 1) = ((k + 1 : Nat) : Int) := (IntWalk.i64_in _ hkb).trans hkq
      obtain ⟨bk, hbk⟩ := at_some (l := mk) (j := k) (by have := hmk.out; omega)
      obtain ⟨r, Bs, os, hrk, hsA, ds⟩ := row_elem (f := Value.int .i32) hE.out.srow hlt
      subst hsA
      obtain ⟨out, hob, hol, ho0, hop⟩ := ho.out
      obtain ⟨ob, hob2⟩ := at_some (l := out) (j := k + 1) (by rw [hol]; omega)
      have xs : wr.cell? ⟨Bs, os + k, none⟩ = some (.int .i32 r) := gr_cell GW ds
      have xm : wr.cell? ⟨I, k, none⟩ = some (.bool bk) := bool_cell (gr_blk GW hI.out (by simp)) hbk
      have z0 : wr.cell? ⟨w.heap.size, k + 1, none⟩ = some (.bool ob) := bool_cell hob hob2
      have f0 : wr.frozen? ⟨w.heap.size, k + 1, none⟩ = false := blk_free hob (k + 1)
      have hPw : wr.heap[pb]? = some (.cells #[.int .i64 2, .int .i32 pr, .slice lA ln lc, .slice hA hn hcc, .bool pno, .int .i64 qa, .int .i64 qb, .int .i64 least, .bool once] 194 (0, 0)) := gr_blk hg.out hPB.out (by simp; have := hpbn.out; omega)
      have y0 : wr.cell? ⟨pb, 0, none⟩ = some (.int .i64 2) := blk_cell hPw rfl
      have y1 : wr.cell? ⟨pb, 1, none⟩ = some (.int .i32 pr) := blk_cell hPw rfl
      have y2 : wr.cell? ⟨pb, 2, none⟩ = some (.slice lA ln lc) := blk_cell hPw rfl
      have y3 : wr.cell? ⟨pb, 3, none⟩ = some (.slice hA hn hcc) := blk_cell hPw rfl
      have y4 : wr.cell? ⟨pb, 4, none⟩ = some (.bool pno) := blk_cell hPw rfl
      have y5 : wr.cell? ⟨pb, 5, none⟩ = some (.int .i64 qa) := blk_cell hPw rfl
      have y6 : wr.cell? ⟨pb, 6, none⟩ = some (.int .i64 qb) := blk_cell hPw rfl
      have y7 : wr.cell? ⟨pb, 7, none⟩ = some (.int .i64 least) := blk_cell hPw rfl
      have y8 : wr.cell? ⟨pb, 8, none⟩ = some (.bool once) := blk_cell hPw rfl
      have hset' : ∀ v, v = (bk && S.has r) → ∀ W, BoolAt W w.heap.size (out.set (k + 1) v) → Hid (∃ out, BoolAt W w.heap.size out ∧ out.length = N ∧ out[0]? = some false ∧ ∀ (i : Nat) (r : Int) (b : Bool), i < k + 1 → s[i]? = some r → mk[i]? = some b → out[i + 1]? = some (b && S.has r)) := by
        intro v hv W hW
        refine ⟨_, hW, by rw [List.length_set, hol], by rw [List.getElem?_set_ne (by omega)]; exact ho0, fun i r' b hi h1 h2 => ?_⟩
        by_cases hik : i = k
        · subst hik
          rw [hrk] at h1
          rw [hbk] at h2
          obtain rfl := Option.some.inj h1
          obtain rfl := Option.some.inj h2
          rw [List.getElem?_set_self (by rw [hol]; omega), hv]
        · rw [List.getElem?_set_ne (by omega)]
          exact hop i r' b (by omega) h1 h2
      have cO' := fun W (g : Gr wr W) => cO.out r W (gr_trans GW g)
      replace hNe := Lib.hid hNe
      replace hbk := Lib.hid hbk
      replace hrk := Lib.hid hrk
      replace hob := Lib.hid hob
      replace hol := Lib.hid hol
      replace ho0 := Lib.hid ho0
      replace hop := Lib.hid hop
      replace hob2 := Lib.hid hob2
      replace GW := Lib.hid GW
      replace hPw := Lib.hid hPw
      replace cO := Lib.hid cO
      replace hset' := Lib.hid hset'
      clear ho ds hkb hkq
      generalize S.has r = v at hset' cO'
      replace cO' := Lib.hid cO'
      cases bk with
      | false =>
        have hob5 : BoolAt (wr.setCell ⟨w.heap.size, k + 1, none⟩ (.bool false)).drew w.heap.size (out.set (k + 1) false) := gr_blk (gr_drew _ none) (bool_set hob.out (k + 1) false) (by simp)
        have hnew := hset'.out false rfl _ hob5
        have g5 : GrB w.heap.size W2 (wr.setCell ⟨w.heap.size, k + 1, none⟩ (.bool false)).drew := gr_trans hg.out (gr_trans (gr_set wr ⟨w.heap.size, k + 1, none⟩ _) (gr_drew _ _))
        obtain ⟨W5, hW5⟩ : ∃ W5, W5 = (wr.setCell ⟨w.heap.size, k + 1, none⟩ (.bool false)).drew := ⟨_, rfl⟩
        rw [← hW5] at hnew g5
        replace g5 := Lib.hid g5
        clear hob5 hg hset' cO'
        go_upto_region 31 with fail
        go_region
        rw [← hW5]
        clear hW5 hkw xs xm z0 f0 y0 y1 y2 y3 y4 y5 y6 y7 y8
        go_wp2
        go_roundw
        case rel => exact ⟨k + 1, by omega, by go_num, hnew, g5⟩
        case measure => simp [intOf]; omega
      | true =>
        have hobD : BoolAt wr.drew w.heap.size out := gr_blk (gr_drew wr none) hob.out (by simp)
        replace hobD := Lib.hid hobD
        go_upto_region 31 with fail
        go_region_law (first
          | (go_simp; go_at_call 143; refine (cO'.out _ (gr_drew wr none)).mono ?_
             rintro e wP ⟨rfl, gP⟩
             have hobP : BoolAt wP w.heap.size out := gr_blk gP hobD.out (by simp)
             have zP := bool_cell hobP hob2.out
             have fP := blk_free hobP (k + 1)))
        all_goals
          have hob5 : BoolAt (wP.setCell ⟨w.heap.size, k + 1, none⟩ (.bool v)) w.heap.size (out.set (k + 1) v) := bool_set hobP (k + 1) v
          have hnew := hset'.out v (by simp) _ hob5
          have g5 : GrB w.heap.size W2 (wP.setCell ⟨w.heap.size, k + 1, none⟩ (.bool v)) := gr_trans hg.out (gr_trans (gr_trans (gr_more _ (gr_drew wr none)) (gr_more _ gP)) (gr_set wP ⟨w.heap.size, k + 1, none⟩ _))
          obtain ⟨W5, hW5⟩ : ∃ W5, W5 = wP.setCell ⟨w.heap.size, k + 1, none⟩ (.bool v) := ⟨_, rfl⟩
          rw [← hW5] at hnew g5 ⊢
          replace g5 := Lib.hid g5
          clear hob5 hg hset' cO' hW5 hkw xs xm z0 f0 y0 y1 y2 y3 y4 y5 y6 y7 y8 hobP zP fP gP
          go_wp2
          go_roundw
          case rel => exact ⟨k + 1, by omega, by go_num, hnew, g5⟩
          case measure => simp [intOf]; omega
    · have hNe := hN.out
      have hki : ((k : Int) < (s.length : Int)) = False := eq_false (by omega)
      obtain rfl : k = s.length := by omega
      obtain ⟨out, hob, hol, ho0, hop⟩ := ho.out
      have hfin := ends_one (S := S) (s := s) (mk := mk) (out := out) (by rw [hmk.out, hNe]) (by rw [hol, hNe]) ho0 (fun i r b h1 h2 => hop i r b (List.getElem?_eq_some_iff.1 h1).1 h1 h2)
      replace hfin := Lib.hid hfin
      replace GW := Lib.hid GW
      replace hob := Lib.hid hob
      replace hol := Lib.hid hol
      replace hop := Lib.hid hop
      replace ho0 := Lib.hid ho0
      replace hNe := Lib.hid hNe
      clear ho hg
      go_wp2_with fail
      go_ret
      exact ⟨w.heap.size, N, out, rfl, Nat.le_refl _, hob.out, hfin.out, GW.out⟩
end Go.Proofs.YtccmekdmnkmhlaaGreat
