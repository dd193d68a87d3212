/-
  Requests as bytes and back: what they are, that what is told is read as it was, that nothing else is. No condition.
-/
import Derived.Test.YtbnacoakjhhndaaGreatRowMath
import Derived.Test.YtbnacoakjhhndaaGreatGuardFrame
import Derived.Test.YtbnacoakjhhndaaGreatGuardBurstMath
namespace Go.Proofs.YtbnacoakjhhndaaGreat
open Go.RowKit

/-- A request. -/
structure Aq where
  kind : Int
  l : List Lb
  t : List UInt8
  a : Int
  b : Int
  c : Int
deriving DecidableEq
def ok1 (q : Aq) : Prop := okLbs q.l ∧ q.t = [] ∧ (0 ≤ q.a ∧ q.a ≤ 1000000000) ∧ okV q.b ∧ q.c = 0
def ok2 (q : Aq) : Prop := q.l = [] ∧ q.t = [] ∧ q.a = 0 ∧ q.b = 0 ∧ q.c = 0
def ok3 (q : Aq) : Prop := q.l = [] ∧ q.t.length ≤ 600 ∧ (0 ≤ q.a ∧ q.a ≤ 1000000000) ∧ (1 ≤ q.b ∧ q.b ≤ 100) ∧ (0 ≤ q.c ∧ q.c ≤ 100000)
def ok4 (q : Aq) : Prop := q.l = [] ∧ q.t.length ≤ 60 ∧ q.a = 0 ∧ q.b = 0 ∧ q.c = 0
def ok5 (q : Aq) : Prop := q.l = [] ∧ q.t = [] ∧ (0 ≤ q.a ∧ q.a ≤ 1000000000) ∧ q.b = 0 ∧ q.c = 0
def ok6 (q : Aq) : Prop := q.l = [] ∧ q.t = [] ∧ (1 ≤ q.a ∧ q.a ≤ 100000) ∧ q.b = 0 ∧ q.c = 0
/-- May a request be? -/
def okA (q : Aq) : Prop := (q.kind = 1 ∧ ok1 q) ∨ (q.kind = 2 ∧ ok2 q) ∨ (q.kind = 3 ∧ ok3 q) ∨ (q.kind = 4 ∧ ok4 q) ∨ (q.kind = 5 ∧ ok5 q) ∨ (q.kind = 6 ∧ ok6 q)
instance (q : Aq) : Decidable (ok1 q) := by unfold ok1; exact inferInstance
instance (q : Aq) : Decidable (ok2 q) := by unfold ok2; exact inferInstance
instance (q : Aq) : Decidable (ok3 q) := by unfold ok3; exact inferInstance
instance (q : Aq) : Decidable (ok4 q) := by unfold ok4; exact inferInstance
instance (q : Aq) : Decidable (ok5 q) := by unfold ok5; exact inferInstance
instance (q : Aq) : Decidable (ok6 q) := by unfold ok6; exact inferInstance
instance (q : Aq) : Decidable (okA q) := by unfold okA; exact inferInstance
/-- What a request's second part is. -/
def midL (q : Aq) : List UInt8 := if q.kind = 1 then rowL ⟨q.l, q.b⟩ else Crc.be 4 q.b.toNat
/-- A request's bytes, ahead of its frame. -/
def bodyL (q : Aq) : List UInt8 := UInt8.ofNat q.kind.toNat :: (midL q ++ (Crc.be 4 q.a.toNat ++ (Crc.be 4 q.c.toNat ++ q.t)))
def askL (q : Aq) : List UInt8 := Crc.frm (bodyL q)
theorem okA_num {q : Aq} (h : okA q) : (1 ≤ q.kind ∧ q.kind ≤ 6) ∧ (0 ≤ q.a ∧ q.a ≤ 1000000000) ∧ (0 ≤ q.c ∧ q.c ≤ 100000) ∧ (q.kind ≠ 1 → 0 ≤ q.b ∧ q.b ≤ 100) ∧ q.t.length ≤ 600 ∧ (q.kind = 1 → okR ⟨q.l, q.b⟩ ∧ q.t = []) ∧ (q.kind ≠ 1 → q.l = []) := by
  rcases h with ⟨h0, h⟩ | ⟨h0, h⟩ | ⟨h0, h⟩ | ⟨h0, h⟩ | ⟨h0, h⟩ | ⟨h0, h⟩
  · obtain ⟨h1, h2, h3, h4, h5⟩ := h; refine ⟨by omega, by omega, by omega, by omega, by rw [h2]; decide, fun _ => ⟨⟨h1, h4⟩, h2⟩, fun k => absurd h0 k⟩
  · obtain ⟨h1, h2, h3, h4, h5⟩ := h; refine ⟨by omega, by omega, by omega, by omega, by rw [h2]; decide, fun k => by omega, fun _ => h1⟩
  · obtain ⟨h1, h2, h3, h4, h5⟩ := h; refine ⟨by omega, by omega, by omega, by omega, by omega, fun k => by omega, fun _ => h1⟩
  · obtain ⟨h1, h2, h3, h4, h5⟩ := h; refine ⟨by omega, by omega, by omega, by omega, by omega, fun k => by omega, fun _ => h1⟩
  · obtain ⟨h1, h2, h3, h4, h5⟩ := h; refine ⟨by omega, by omega, by omega, by omega, by rw [h2]; decide, fun k => by omega, fun _ => h1⟩
  · obtain ⟨h1, h2, h3, h4, h5⟩ := h; refine ⟨by omega, by omega, by omega, by omega, by rw [h2]; decide, fun k => by omega, fun _ => h1⟩
theorem midL_len {q : Aq} (h : okA q) : (midL q).length ≤ 1463 := by
  obtain ⟨_, _, _, _, _, h6, _⟩ := okA_num h
  unfold midL
  by_cases hk : q.kind = 1
  · rw [if_pos hk]; exact rowL_le (h6 hk).1
  · rw [if_neg hk, Crc.be_length]; decide
theorem bodyL_len {q : Aq} (h : okA q) : (bodyL q).length ≤ 2100 := by
  have h1 := midL_len h
  obtain ⟨_, _, _, _, h5, _, _⟩ := okA_num h
  unfold bodyL
  simp only [List.length_cons, List.length_append, Crc.be_length]
  omega

/-! ### Back -/
def tkS (n : Nat) (s : List UInt8 × Bool) : List UInt8 × (List UInt8 × Bool) := if s.2 = false ∧ n ≤ s.1.length then (s.1.take n, (s.1.drop n, false)) else ([], (s.1, true))
def rwS (s : List UInt8 × Bool) : Rw × (List UInt8 × Bool) := match (if s.2 = true then none else getR s.1) with
  | some (r, t) => (r, (t, false))
  | none => (⟨[], 0⟩, (s.1, true))
def midS (k : Nat) (s : List UInt8 × Bool) : List Lb × Int × (List UInt8 × Bool) := if k = 1 then ((rwS s).1.l, (rwS s).1.v, (rwS s).2) else ([], ((dvN (tkS 4 s).1 : Nat) : Int), (tkS 4 s).2)
/-- What is read of bytes, and whether that has failed. -/
def parseA (s : List UInt8 × Bool) : Aq × Bool :=
  (⟨((dvN (tkS 1 s).1 : Nat) : Int), (midS (dvN (tkS 1 s).1) (tkS 1 s).2).1,
    (tkS (tkS 4 (tkS 4 (midS (dvN (tkS 1 s).1) (tkS 1 s).2).2.2).2).2.1.length (tkS 4 (tkS 4 (midS (dvN (tkS 1 s).1) (tkS 1 s).2).2.2).2).2).1,
    ((dvN (tkS 4 (midS (dvN (tkS 1 s).1) (tkS 1 s).2).2.2).1 : Nat) : Int), (midS (dvN (tkS 1 s).1) (tkS 1 s).2).2.1,
    ((dvN (tkS 4 (tkS 4 (midS (dvN (tkS 1 s).1) (tkS 1 s).2).2.2).2).1 : Nat) : Int)⟩,
   (tkS (tkS 4 (tkS 4 (midS (dvN (tkS 1 s).1) (tkS 1 s).2).2.2).2).2.1.length (tkS 4 (tkS 4 (midS (dvN (tkS 1 s).1) (tkS 1 s).2).2.2).2).2).2.2)
def openS (b : List UInt8) : List UInt8 × Bool := ((Crc.take b).1, decide (¬ ((Crc.take b).2.2 = 0 ∧ (Crc.take b).2.1 = [])))
def readA (b : List UInt8) : Aq × Bool := parseA (openS b)
theorem tkS_be (n v : Nat) (r : List UInt8) (_h : v < 256 ^ n) : tkS n (Crc.be n v ++ r, false) = (Crc.be n v, (r, false)) := by
  have hl := Crc.be_length n v
  unfold tkS
  rw [if_pos ⟨rfl, by simp only [List.length_append]; omega⟩]
  simp only [List.take_left' hl, List.drop_left' hl]
theorem tkS_one (c : UInt8) (r : List UInt8) : tkS 1 (c :: r, false) = ([c], (r, false)) := by
  unfold tkS
  rw [if_pos ⟨rfl, by simp⟩]
  rfl
theorem tkS_all (l : List UInt8) : tkS l.length (l, false) = (l, ([], false)) := by
  unfold tkS
  rw [if_pos ⟨rfl, Nat.le_refl _⟩]
  simp
/-- What is told is read as it was. -/
theorem parse_body {q : Aq} (h : okA q) : parseA (bodyL q, false) = (q, false) := by
  obtain ⟨⟨k1, k2⟩, ⟨a1, a2⟩, ⟨c1, c2⟩, hb, ht, h1, h2⟩ := okA_num h
  have e1 : tkS 1 (bodyL q, false) = ([UInt8.ofNat q.kind.toNat], (midL q ++ (Crc.be 4 q.a.toNat ++ (Crc.be 4 q.c.toNat ++ q.t)), false)) := tkS_one _ _
  have hk : dvN [UInt8.ofNat q.kind.toNat] = q.kind.toNat := by
    simp only [dvN, List.foldl_cons, List.foldl_nil, Nat.zero_mul, Nat.zero_add]
    exact ofNat_len _ (by omega)
  have e2 : midS q.kind.toNat (midL q ++ (Crc.be 4 q.a.toNat ++ (Crc.be 4 q.c.toNat ++ q.t)), false) = (q.l, q.b, (Crc.be 4 q.a.toNat ++ (Crc.be 4 q.c.toNat ++ q.t), false)) := by
    unfold midS midL
    by_cases hk1 : q.kind = 1
    · obtain ⟨ho, _⟩ := h1 hk1
      rw [if_pos (by omega), if_pos hk1]
      unfold rwS
      simp only [Bool.false_eq_true, if_false]
      rw [getR_of ho (okLbs_small ho.1)]
    · obtain ⟨b1, b2⟩ := hb hk1
      rw [if_neg (by omega), if_neg hk1, tkS_be _ _ _ (by omega), dv_be _ _ (by omega), h2 hk1]
      simp only [Prod.mk.injEq, true_and, and_true]
      omega
  have e3 : tkS 4 (Crc.be 4 q.a.toNat ++ (Crc.be 4 q.c.toNat ++ q.t), false) = (Crc.be 4 q.a.toNat, (Crc.be 4 q.c.toNat ++ q.t, false)) := tkS_be _ _ _ (by omega)
  have e4 : tkS 4 (Crc.be 4 q.c.toNat ++ q.t, false) = (Crc.be 4 q.c.toNat, (q.t, false)) := tkS_be _ _ _ (by omega)
  unfold parseA
  rw [e1]
  simp only
  rw [hk, e2]
  simp only
  rw [e3]
  simp only
  rw [e4]
  simp only
  rw [tkS_all, dv_be _ _ (by omega), dv_be _ _ (by omega)]
  obtain ⟨kk, ll, tt, aa, bb, cc⟩ := q
  simp only at *
  simp only [Prod.mk.injEq, Aq.mk.injEq, and_true, true_and]
  omega
theorem open_ask {q : Aq} (h : okA q) : openS (askL q) = (bodyL q, false) := by
  have ht := Crc.take_frm (bodyL q) [] (by have := bodyL_len h; omega)
  rw [List.append_nil] at ht
  unfold openS askL
  rw [ht]
  simp
theorem read_ask {q : Aq} (h : okA q) : readA (askL q) = (q, false) := by unfold readA; rw [open_ask h, parse_body h]
/-- Is it a request's bytes? -/
def IsAskL (b : List UInt8) : Prop := (readA b).2 = false ∧ okA (readA b).1 ∧ askL (readA b).1 = b
instance (b : List UInt8) : Decidable (IsAskL b) := by unfold IsAskL; exact inferInstance
theorem isAsk_of {q : Aq} (h : okA q) : IsAskL (askL q) := by unfold IsAskL; rw [read_ask h]; exact ⟨rfl, h, rfl⟩
theorem isAsk_bad {b : List UInt8} (h : (readA b).2 = true) : ¬ IsAskL b := fun k => by have k1 := k.1; rw [h] at k1; cases k1
theorem tkS_bad (n : Nat) (l : List UInt8) : tkS n (l, true) = ([], (l, true)) := by unfold tkS; rw [if_neg (fun h => by have h1 := h.1; simp at h1)]
theorem parse_bad (l : List UInt8) : (parseA (l, true)).2 = true := by
  unfold parseA
  rw [tkS_bad]
  simp only
  have : dvN [] = 0 := rfl
  rw [this]
  unfold midS
  rw [if_neg (by decide), tkS_bad]
  simp only
  rw [tkS_bad]
  simp only
  rw [tkS_bad]
  simp only
  rw [tkS_bad]
theorem read_bad {b : List UInt8} (h : ¬ ((Crc.take b).2.2 = 0 ∧ (Crc.take b).2.1 = [])) : (readA b).2 = true := by
  unfold readA openS
  rw [decide_eq_true h]
  exact parse_bad _
/-- With bytes behind it, it is none. -/
theorem ask_more {q : Aq} (h : okA q) (x : UInt8) (r : List UInt8) : ¬ IsAskL (askL q ++ x :: r) := by
  refine isAsk_bad (read_bad ?_)
  have ht := Crc.take_frm (bodyL q) (x :: r) (by have := bodyL_len h; omega)
  unfold askL
  rw [ht]
  rintro ⟨_, k⟩
  cases k
theorem bits_at_set (l : List UInt8) (k : Nat) (c : UInt8) (p : Nat) (hp : p < 8 * k ∨ 8 * k + 32 ≤ p) : (Crc.bitsL (l.set k c))[p]? = (Crc.bitsL l)[p]? := by
  rw [Crc.bitsL_get, Crc.bitsL_get, List.getElem?_set, if_neg (by omega)]
/-- With one byte another one, it is none. -/
theorem ask_turned {q : Aq} (h : okA q) (k : Nat) (c : UInt8) (hk : k < (askL q).length) (hc : (askL q)[k]? ≠ some c) : ¬ IsAskL ((askL q).set k c) := by
  refine isAsk_bad (read_bad ?_)
  have hne : (askL q).set k c ≠ askL q := fun e => hc (by rw [← e, List.getElem?_set, if_pos rfl, if_pos hk])
  have := Crc.burst_take (bodyL q) [] (by have := bodyL_len h; omega) ((askL q).set k c) (8 * k) (by rw [List.length_set]; rfl) (fun p hp => bits_at_set _ _ _ _ hp) hne
  rw [List.append_nil] at this
  exact fun k => by have k1 := k.1; rw [this] at k1; exact absurd k1 (by decide)
end Go.Proofs.YtbnacoakjhhndaaGreat
