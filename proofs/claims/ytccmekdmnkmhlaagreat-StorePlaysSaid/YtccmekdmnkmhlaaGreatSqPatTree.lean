/-
  A pattern's tree as values, and what the reader's times does. No condition but that the reader reads these runes.
-/
import Derived.Test.YtccmekdmnkmhlaaGreatSqPatRead
namespace Go.Proofs.YtccmekdmnkmhlaaGreat
open Go.RowKit

def ic (x : Int × Int) : List Value := [.int .i32 x.1, .int .i32 x.2]
def ics (l : List (Int × Int)) : List Value := l.flatMap ic
theorem ics_len (l : List (Int × Int)) : (ics l).length = l.length * 2 := by
  induction l with
  | nil => rfl
  | cons z zs ih => show (ic z ++ ics zs).length = _; rw [List.length_append, ih, List.length_cons]; simp [ic]; omega
theorem ics_append (a b : List (Int × Int)) : ics (a ++ b) = ics a ++ ics b := by simp [ics]
theorem ics_get {l : List (Int × Int)} {k : Nat} {x : Int × Int} (h : l[k]? = some x) : (ics l)[k * 2]? = some (.int .i32 x.1) ∧ (ics l)[k * 2 + 1]? = some (.int .i32 x.2) := by
  induction l generalizing k with
  | nil => simp at h
  | cons z zs ih =>
    have e : ics (z :: zs) = .int .i32 z.1 :: .int .i32 z.2 :: ics zs := rfl
    cases k with
    | zero =>
      simp only [List.getElem?_cons_zero, Option.some.injEq] at h
      subst h
      exact ⟨rfl, rfl⟩
    | succ k =>
      simp only [List.getElem?_cons_succ] at h
      obtain ⟨h1, h2⟩ := ih h
      rw [e]
      have e1 : (k + 1) * 2 = k * 2 + 1 + 1 := by omega
      rw [e1]
      exact ⟨h1, h2⟩
/-- A set, by value. -/
def setV (s : PSet) (A : Option Addr) (n c : Nat) : Value := .agg #[.bool s.all, .bool s.neg, .slice A n c]
/-- A tree, by value, in blocks of which P speaks. -/
inductive Tv (P : Nat → Prop) (w : World) : Value → T → Prop
  | one {A : Option Addr} {c : Nat} {s : PSet} (hr : Row w A s.items.length 2 (ics s.items)) (hP : ∀ B o, A = some ⟨B, o, none⟩ → s.items ≠ [] → P B) (hn : s.items.length ≤ 1000000) : Tv P w (.iface 204 (setV s A s.items.length c)) (.one s)
  | row {A : Option Addr} {c : Nat} {vs : List Value} {xs : List T} (hr : Row w A vs.length 1 vs) (hP : ∀ B o, A = some ⟨B, o, none⟩ → vs ≠ [] → P B) (hl : vs.length = xs.length) (hc : vs.length ≤ c)
      (hx : ∀ (i : Nat) v x, vs[i]? = some v → xs[i]? = some x → Tv P w v x) : Tv P w (.iface 206 (.agg #[.slice A vs.length c])) (xs.foldl .rowS .row0)
  | alt {A : Option Addr} {c : Nat} {vs : List Value} {x0 : T} {xs : List T} (hr : Row w A vs.length 1 vs) (hP : ∀ B o, A = some ⟨B, o, none⟩ → vs ≠ [] → P B) (hl : vs.length = xs.length + 1) (hc : vs.length ≤ c)
      (hx : ∀ (i : Nat) v x, vs[i]? = some v → (x0 :: xs)[i]? = some x → Tv P w v x) : Tv P w (.iface 202 (.agg #[.slice A vs.length c])) (xs.foldl .altS (.alt1 x0))
  | rep {v : Value} {x : T} {nn ag : Bool} (hv : Tv P w v x) : Tv P w (.iface 209 (.agg #[v, .bool nn, .bool ag])) (.rep x nn ag)
theorem row_kept {w w' : World} {A : Option Addr} {n size : Nat} {xs : List Value} {r : Option Nat} {P : Nat → Prop} (h : Row w A n size xs) (g : w.grownBy w' r) (hP : ∀ B o, A = some ⟨B, o, none⟩ → xs ≠ [] → P B) (hr : ∀ k, P k → some k ≠ r) : Row w' A n size xs := by
  refine ⟨h.1, fun j u hj => ?_⟩
  obtain ⟨B, o, e, hb, hc⟩ := h.2 j u hj
  have hne : xs ≠ [] := fun e => by subst e; simp at hj
  exact ⟨B, o, e, Nat.lt_of_lt_of_le hb g.size, g.cell hc (hr B (hP B o e hne))⟩
theorem ics_ne {l : List (Int × Int)} (h : ics l ≠ []) : l ≠ [] := fun e => h (by rw [e]; rfl)
theorem tv_keep {P : Nat → Prop} {w w' : World} {r : Option Nat} (g : w.grownBy w' r) (hr : ∀ k, P k → some k ≠ r) {v : Value} {x : T} (h : Tv P w v x) : Tv P w' v x := by
  induction h with
  | one h1 h2 h3 => exact .one (row_kept h1 g (fun B o e ne => h2 B o e (ics_ne ne)) hr) h2 h3
  | row h1 h2 h3 h4 _ ih => exact .row (row_kept h1 g h2 hr) h2 h3 h4 ih
  | alt h1 h2 h3 h4 _ ih => exact .alt (row_kept h1 g h2 hr) h2 h3 h4 ih
  | rep _ ih => exact .rep ih
theorem tv_sub {P Q : Nat → Prop} {w : World} (hpq : ∀ k, P k → Q k) {v : Value} {x : T} (h : Tv P w v x) : Tv Q w v x := by
  induction h with
  | one h1 h2 h3 => exact .one h1 (fun B o e ne => hpq _ (h2 B o e ne)) h3
  | row h1 h2 h3 h4 _ ih => exact .row h1 (fun B o e ne => hpq _ (h2 B o e ne)) h3 h4 ih
  | alt h1 h2 h3 h4 _ ih => exact .alt h1 (fun B o e ne => hpq _ (h2 B o e ne)) h3 h4 ih
  | rep _ ih => exact .rep ih
/-- A value of an interface type that is not nil. -/
def IsIf (v : Value) : Prop := ∃ t u, v = .iface t u
theorem if_one {v : Value} (h : IsIf v) : v.oneCell' = true := by obtain ⟨t, u, rfl⟩ := h; rfl
theorem tv_one {P : Nat → Prop} {w : World} {v : Value} {x : T} (h : Tv P w v x) : IsIf v := by
  cases h <;> exact ⟨_, _, rfl⟩
/-- What 'times' makes of a value. -/
def timesV (v : Value) (l : Rs) : Value :=
  match l with
  | [] => v
  | c :: _ => if c = 42 then .iface 209 (.agg #[v, .bool true, .bool true]) else if c = 43 then .iface 209 (.agg #[v, .bool false, .bool true]) else if c = 63 then .iface 209 (.agg #[v, .bool true, .bool false]) else v
def timesL (l : Rs) : Rs :=
  match l with
  | [] => []
  | c :: t => if c = 42 ∨ c = 43 ∨ c = 63 then t else l
theorem timesL_eq (x : T) (l : Rs) : (pTimes x l).2 = timesL l := by
  cases l with
  | nil => rfl
  | cons c t =>
    simp only [pTimes, timesL]
    by_cases h1 : c = 42
    · simp [h1]
    · by_cases h2 : c = 43
      · simp [h2]
      · by_cases h3 : c = 63
        · simp [h3]
        · simp [h1, h2, h3]
theorem timesL_len (l : Rs) : (timesL l).length ≤ l.length := by
  cases l with
  | nil => exact Nat.le_refl _
  | cons c t => simp only [timesL]; split <;> simp
theorem times_tv {P : Nat → Prop} {w : World} {v : Value} {x : T} (h : Tv P w v x) (l : Rs) : Tv P w (timesV v l) (pTimes x l).1 := by
  cases l with
  | nil => exact h
  | cons c t =>
    simp only [pTimes, timesV]
    split
    · exact .rep h
    · split
      · exact .rep h
      · split
        · exact .rep h
        · exact h
theorem times_one {v : Value} (h : IsIf v) (l : Rs) : IsIf (timesV v l) := by
  cases l with
  | nil => exact h
  | cons c t =>
    simp only [timesV]
    split
    · exact ⟨_, _, rfl⟩
    · split
      · exact ⟨_, _, rfl⟩
      · split
        · exact ⟨_, _, rfl⟩
        · exact h
set_option maxHeartbeats 1000000 in
set_option maxRecDepth 100000 in
theorem times_any (H R : Nat) (l : Rs) (bad : Bool) (v : Value) (hv1 : IsIf v) (w : World) (h : RdAt H w R l bad) :
    Calls Tryz.prog 162 #[.pointer (some ⟨R, 0, none⟩), v] w fun e w' => e = .returned (timesV v l) ∧ RdAt H w' R (timesL l) bad ∧ GrR R w w' := by
  obtain ⟨vt, vu, rfl⟩ := hv1
  have c1 := fun w h => take_any H R l bad 42 w h
  have c2 := fun w h => take_any H R l bad 43 w h
  have c3 := fun w h => take_any H R l bad 63 w h
  replace c1 := Lib.hid c1
  replace c2 := Lib.hid c2
  replace c3 := Lib.hid c3
  replace h := Lib.hid h
  go_enter Tryz.func162, Tryz.ntmps162
  go_wp2_with fail
  refine (c1.out _ h.out).mono ?_
  rintro e w1 (⟨t, rfl, rfl, hr, g1⟩ | ⟨n1, rfl, rfl⟩)
  · go_wp2
    go_ret
    exact ⟨rfl, hr, g1⟩
  go_wp2_with fail
  refine (c2.out _ h.out).mono ?_
  rintro e w1 (⟨t, rfl, rfl, hr, g1⟩ | ⟨n2, rfl, rfl⟩)
  · go_wp2
    go_ret
    exact ⟨rfl, hr, g1⟩
  go_wp2_with fail
  refine (c3.out _ h.out).mono ?_
  rintro e w1 (⟨t, rfl, rfl, hr, g1⟩ | ⟨n3, rfl, rfl⟩)
  · go_wp2
    go_ret
    exact ⟨rfl, hr, g1⟩
  have e1 : timesV (.iface vt vu) l = .iface vt vu ∧ timesL l = l := by
    cases l with
    | nil => exact ⟨rfl, rfl⟩
    | cons c t =>
      have a1 : c ≠ 42 := fun e => n1 t (by rw [e])
      have a2 : c ≠ 43 := fun e => n2 t (by rw [e])
      have a3 : c ≠ 63 := fun e => n3 t (by rw [e])
      simp [timesV, timesL, a1, a2, a3]
  replace e1 := Lib.hid e1
  clear n1 n2 n3
  go_wp2
  go_ret
  rw [e1.out.1, e1.out.2]
  exact ⟨rfl, h.out, gr_refl _ _⟩
end Go.Proofs.YtccmekdmnkmhlaaGreat
