/-
  Lists whose elements are several cells each: their cells, and what a store of one element leaves. No condition.
-/
import Derived.Test.YtccmekdmnkmhlaaGreatBookMath
import Derived.Laws.IdiomCopy
import Derived.Deep.MidRow
namespace Go.Proofs.YtccmekdmnkmhlaaGreat
open Go.RowKit

section
variable {α : Type} (f : α → List Value) (S : Nat) (hf : ∀ x, (f x).length = S)
/-- The cells of a list of elements. -/
def sR (zs : List α) : List Value := zs.flatMap f
theorem sR_nil : sR f [] = [] := rfl
theorem sR_cons (z : α) (zs : List α) : sR f (z :: zs) = f z ++ sR f zs := by simp [sR]
theorem sR_append (a b : List α) : sR f (a ++ b) = sR f a ++ sR f b := by simp [sR]
theorem sR_one (a : α) : sR f [a] = f a := by simp [sR]
include hf
theorem sR_len (zs : List α) : (sR f zs).length = zs.length * S := by
  induction zs with
  | nil => simp [sR]
  | cons z zs ih => rw [sR_cons, List.length_append, ih, hf, List.length_cons, Nat.succ_mul, Nat.add_comm]
theorem sR_drop (zs : List α) (k : Nat) : sR f (zs.drop k) = (sR f zs).drop (k * S) := by
  induction k generalizing zs with
  | zero => simp
  | succ k ih =>
    cases zs with
    | nil => simp [sR]
    | cons z zs =>
      rw [List.drop_succ_cons, ih, sR_cons, Nat.succ_mul, Nat.add_comm (k * S) S, ← List.drop_drop, ← hf z, List.drop_left]
theorem sR_take (zs : List α) (k : Nat) : sR f (zs.take k) = (sR f zs).take (k * S) := by
  induction k generalizing zs with
  | zero => simp [sR]
  | succ k ih =>
    cases zs with
    | nil => simp [sR]
    | cons z zs =>
      rw [List.take_succ_cons, sR_cons, ih, sR_cons, Nat.succ_mul, List.take_append, hf, Nat.add_sub_cancel,
        List.take_of_length_le (show (f z).length ≤ k * S + S by rw [hf]; omega)]
theorem sR_at {zs : List α} {k : Nat} {x : α} (h : zs[k]? = some x) {j : Nat} (hj : j < S) : (sR f zs)[k * S + j]? = (f x)[j]? := by
  obtain ⟨h1, h2⟩ := List.getElem?_eq_some_iff.1 h
  have h3 := sR_drop f S hf zs k
  rw [List.drop_eq_getElem_cons h1, h2, sR_cons] at h3
  have h4 := congrArg (fun l => l[j]?) h3
  simp only [List.getElem?_drop] at h4
  rw [← h4, List.getElem?_append_left (by rw [hf]; exact hj)]
theorem sR_inj (hi : ∀ x y, f x = f y → x = y) (hS : 0 < S) {a b : List α} (h : sR f a = sR f b) : a = b := by
  induction a generalizing b with
  | nil =>
    cases b with
    | nil => rfl
    | cons y b =>
      have := congrArg List.length h
      rw [sR_len f S hf, sR_len f S hf, List.length_cons, Nat.succ_mul] at this
      simp at this
      omega
  | cons x a ih =>
    cases b with
    | nil =>
      have := congrArg List.length h
      rw [sR_len f S hf, sR_len f S hf, List.length_cons, Nat.succ_mul] at this
      simp at this
      omega
    | cons y b =>
      rw [sR_cons, sR_cons] at h
      obtain ⟨h1, h2⟩ := List.append_inj h (by rw [hf, hf])
      rw [hi _ _ h1, ih h2]
end
/-- Cells from o on are set. -/
def setAll (xs : List Value) : Nat → List Value → List Value
  | _, [] => xs
  | o, v :: r => setAll (xs.set o v) (o + 1) r
theorem setAll_left (a b : List Value) (o : Nat) (vs : List Value) : setAll (a ++ b) (a.length + o) vs = a ++ setAll b o vs := by
  induction vs generalizing b o with
  | nil => rfl
  | cons v r ih =>
    show setAll ((a ++ b).set (a.length + o) v) (a.length + o + 1) r = _
    rw [List.set_append_right (h := by omega), Nat.add_sub_cancel_left, Nat.add_assoc, ih]
    rfl
theorem setAll_head (vs a b : List Value) (h : a.length = vs.length) : setAll (a ++ b) 0 vs = vs ++ b := by
  induction vs generalizing a b with
  | nil => cases a with
    | nil => rfl
    | cons _ _ => simp at h
  | cons v r ih => cases a with
    | nil => simp at h
    | cons x a =>
      show setAll ((x :: (a ++ b)).set 0 v) (0 + 1) r = _
      rw [List.set_cons_zero]
      have := setAll_left [v] (a ++ b) 0 r
      rw [List.singleton_append] at this
      show setAll (v :: (a ++ b)) ([v].length + 0) r = _
      rw [this, ih a b (by simpa using h)]
      rfl
theorem sR_set {α : Type} (f : α → List Value) (S : Nat) (hf : ∀ x, (f x).length = S) (zs : List α) (k : Nat) (x : α) (hk : k < zs.length) : sR f (zs.set k x) = setAll (sR f zs) (k * S) (f x) := by
  have h1 : zs = zs.take k ++ zs[k] :: zs.drop (k + 1) := by rw [← List.drop_eq_getElem_cons hk, List.take_append_drop]
  have hl : (sR f (zs.take k)).length = k * S := by rw [sR_len f S hf, List.length_take, Nat.min_eq_left (by omega)]
  have h2 : sR f zs = sR f (zs.take k) ++ (f zs[k] ++ sR f (zs.drop (k + 1))) := by rw [← sR_cons, ← sR_append, ← h1]
  have h3 : zs.set k x = zs.take k ++ x :: zs.drop (k + 1) := by rw [List.set_eq_take_append_cons_drop, if_pos hk]
  rw [h2, h3, sR_append, sR_cons]
  have := setAll_left (sR f (zs.take k)) (f zs[k] ++ sR f (zs.drop (k + 1))) 0 (f x)
  rw [hl, setAll_head _ _ _ (by rw [hf, hf])] at this
  exact this.symm
theorem stored_all {w : World} {base : Nat} {e : TypeId} {size n c g : Nat} {xs : List Value} (h : w.ownsRow base e size (.slice (some ⟨g, 0, none⟩) n c) n xs) (o : Nat) (vs : List Value) :
    (w.setCells g o vs).ownsRow base e size (.slice (some ⟨g, 0, none⟩) n c) n (setAll xs o vs) ∧ w.grownBy (w.setCells g o vs) (some g) := by
  induction vs generalizing w xs o with
  | nil => exact ⟨h, World.grownBy.refl _ _⟩
  | cons v r ih =>
    obtain ⟨h1, h2⟩ := h.stored o v
    obtain ⟨h3, h4⟩ := ih h1 (o + 1)
    exact ⟨h3, h2.trans h4⟩
theorem gr_setCells (w : World) (g o : Nat) (vs : List Value) : w.grownBy (w.setCells g o vs) (some g) := by
  induction vs generalizing w o with
  | nil => exact World.grownBy.refl _ _
  | cons v r ih => exact (gr_set w ⟨g, o, none⟩ v).trans (ih _ (o + 1))
/-- An element of a kept list is written. -/
theorem own_setS {α : Type} {f : α → List Value} {S : Nat} (hf : ∀ x, (f x).length = S) {w : World} {e : TypeId} {n c : Nat} {A : Option Addr} {zs : List α} (h : w.ownsRow 0 e S (.slice A n c) n (sR f zs)) (hS : 0 < S) {k : Nat} (hk : k < n) (x : α) :
    ∃ g, A = some ⟨g, 0, none⟩ ∧ (∀ j, w.frozen? ⟨g, j, none⟩ = false) ∧ g < w.heap.size ∧ (∀ j, j < S → (w.cell? ⟨g, k * S + j, none⟩).isSome = true) ∧ (w.setCells g (k * S) (f x)).ownsRow 0 e S (.slice A n c) n (sR f (zs.set k x)) := by
  obtain ⟨g, cap, hv, _, hlt⟩ := h.form (by omega)
  injection hv with h1 h2 h3
  subst h1 h3
  have hl : zs.length = n := by
    have := h.1
    rw [sR_len f S hf] at this
    exact Nat.eq_of_mul_eq_mul_right hS this
  refine ⟨g, rfl, fun j => h.frozenAt j, hlt, fun j hj => ?_, ?_⟩
  · have h4 : k * S + j < n * S := by
      have : (k + 1) * S ≤ n * S := Nat.mul_le_mul_right _ hk
      rw [Nat.succ_mul] at this
      omega
    rw [h.cellAt _ h4, List.getElem?_eq_getElem (by rw [h.1]; exact h4)]
    rfl
  · rw [sR_set f S hf _ _ _ (by omega)]
    exact (stored_all h _ _).1
/-- An element of a slice that reads so. -/
theorem rowS_elem {α : Type} {f : α → List Value} {S : Nat} (hf : ∀ x, (f x).length = S) {w : World} {A : Option Addr} {n : Nat} {zs : List α} (h : Row w A n S (sR f zs)) (hS : 0 < S) {k : Nat} (hk : k < n) :
    ∃ x B o, zs[k]? = some x ∧ A = some ⟨B, o, none⟩ ∧ B < w.heap.size ∧ ∀ j, j < S → w.cell? ⟨B, o + k * S + j, none⟩ = (f x)[j]? := by
  have hl : zs.length = n := by
    have := h.1
    rw [sR_len f S hf] at this
    exact Nat.eq_of_mul_eq_mul_right hS this
  have hx : zs[k]? = some (zs[k]'(by omega)) := List.getElem?_eq_getElem (by omega)
  generalize zs[k]'(by omega) = x at hx
  have h0 := sR_at f S hf hx hS
  have hget : ∀ j, j < S → ∃ v, (f x)[j]? = some v := fun j hj => ⟨_, List.getElem?_eq_getElem (by rw [hf]; exact hj)⟩
  obtain ⟨v0, hv0⟩ := hget 0 hS
  obtain ⟨B, o, e, hb, _⟩ := h.2 _ _ (h0.trans hv0)
  refine ⟨x, B, o, hx, e, hb, fun j hj => ?_⟩
  obtain ⟨v, hv⟩ := hget j hj
  obtain ⟨B', o', e', _, hc⟩ := h.2 _ _ ((sR_at f S hf hx hj).trans hv)
  rw [e] at e'
  have e2 := Option.some.inj e'
  injection e2 with e3 e4
  subst e3 e4
  rw [hv, ← hc, Nat.add_assoc]
/-- A row of elements with one more, the mark, behind its length. -/
def LentS {α : Type} (f : α → List Value) (S : Nat) (mk : α) (w : World) (A : Option Addr) (n c : Nat) (zs : List α) : Prop := n < c ∧ c ≤ maxLen ∧ Row w A (n + 1) S (sR f (zs ++ [mk])) ∧ zs.length = n
theorem lentS_row {α : Type} {f : α → List Value} {S : Nat} (hf : ∀ x, (f x).length = S) {mk : α} {w : World} {A : Option Addr} {n c : Nat} {zs : List α} (h : LentS f S mk w A n c zs) : Row w A n S (sR f zs) := by
  have h1 := row_take h.2.2.1 n (Nat.le_succ n)
  rwa [← sR_take f S hf, List.take_left' h.2.2.2] at h1
theorem lentS_gr {α : Type} {f : α → List Value} {S : Nat} {mk : α} {w w' : World} {A : Option Addr} {n c : Nat} {zs : List α} (h : LentS f S mk w A n c zs) (g : Gr w w') : LentS f S mk w' A n c zs := ⟨h.1, h.2.1, row_gr h.2.2.1 g, h.2.2.2⟩
theorem lentS_mark {α : Type} {f : α → List Value} {S : Nat} (hf : ∀ x, (f x).length = S) (hS : 0 < S) {mk : α} {w : World} {A : Option Addr} {n c : Nat} {zs : List α} (h : LentS f S mk w A n c zs) :
    ∃ B o, A = some ⟨B, o, none⟩ ∧ ∀ j, j < S → w.cell? ⟨B, o + n * S + j, none⟩ = (f mk)[j]? := by
  obtain ⟨x, B, o, hx, hA, _, hc⟩ := rowS_elem hf h.2.2.1 hS (Nat.lt_succ_self n)
  have : x = mk := by
    rw [List.getElem?_append_right (by rw [h.2.2.2]; exact Nat.le_refl _), h.2.2.2, Nat.sub_self] at hx
    exact (Option.some.inj hx).symm
  subst this
  exact ⟨B, o, hA, hc⟩
theorem own_lentS {α : Type} {f : α → List Value} {S : Nat} {mk : α} {w : World} {base n : Nat} {e : TypeId} {v : Value} {zs : List α} (h : w.ownsRow base e S v (n + 1) (sR f zs ++ f mk)) (hl : zs.length = n) :
    ∃ g c, v = .slice (some ⟨g, 0, none⟩) (n + 1) c ∧ LentS f S mk w (some ⟨g, 0, none⟩) n c zs := by
  rcases h.2 with ⟨_, h0⟩ | ⟨g, cap, cur, rfl, hg, hh, hn, hc, hs, hx⟩
  · omega
  · exact ⟨g, cap, rfl, by omega, hc, by rw [sR_append, sR_one]; exact row_own h, hl⟩
theorem own_openS {w : World} {base : Nat} {e : TypeId} {size n : Nat} {v : Value} {xs : List Value} (h : w.ownsRow base e size v n xs) : ∃ A c, v = .slice A n c ∧ n ≤ c ∧ c ≤ maxLen := by
  rcases h.2 with ⟨rfl, rfl⟩ | ⟨g, cap, cur, rfl, hg, hh, hn, hc, hs, hx⟩
  · exact ⟨none, 0, rfl, Nat.le_refl _, Nat.zero_le _⟩
  · exact ⟨_, _, rfl, hn, hc⟩
/-- A whole element is loaded: a step of a region that draws its order. -/
theorem step_load_mid {P : Program} {w : World} {ops : Array Oper} {o : Oper} {a : Act} {K : Act → World → Prop} {Q : Exit → Act → World → Prop} {E : Prop} (hgd : o.guard = none) (ty : TypeId) (x : Operand) (ho : o.op = .load ty x)
    (b i : Nat) (hx : a.eval x = .pointer (some ⟨b, i, none⟩)) (cs : List Value) (d : TypeDesc) (hc : w.rangeAt b i cs)
    (hu : P.underlying ty = some d) (hd : d.isRow = true) (hi : (P.info? ty).map (·.size) = some cs.length)
    (h : K (a.put o.dst (.agg cs.toArray)) w) : if Region.wanted o (yielded ops a.tmps) = true then Oper.wp P o a w K Q else E := by
  have hw : Region.wanted o (yielded ops a.tmps) = true := by simp [Region.wanted, hgd]
  rw [if_pos hw]
  exact wp_load_mid ty x ho b i hx cs d hc hu hd hi h
/-- A whole element is stored. -/
theorem step_store_mid {P : Program} {w : World} {ops : Array Oper} {o : Oper} {a : Act} {K : Act → World → Prop} {Q : Exit → Act → World → Prop} {E : Prop} (hgd : o.guard = none) (ty : TypeId) (x y : Operand) (ho : o.op = .store ty x y)
    (b i : Nat) (cells : Array Value) (hx : a.eval x = .pointer (some ⟨b, i, none⟩)) (hy : a.eval y = .agg cells)
    (ht : w.there b i cells.size) (hi : (P.info? ty).map (·.size) = some cells.size) (h1 : cells.all (·.oneCell') = true)
    (h : K (a.put o.dst undef) (w.setCells b i cells.toList)) : if Region.wanted o (yielded ops a.tmps) = true then Oper.wp P o a w K Q else E := by
  have hw : Region.wanted o (yielded ops a.tmps) = true := by simp [Region.wanted, hgd]
  rw [if_pos hw]
  exact wp_store_mid ty x y ho b i cells hx hy ht hi h1 h
end Go.Proofs.YtccmekdmnkmhlaaGreat
