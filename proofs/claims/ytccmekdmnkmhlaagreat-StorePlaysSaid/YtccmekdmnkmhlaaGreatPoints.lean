/-
  Points as lists of pairs, and what the document's Points and window.Right answer. No condition but a bound on the length.
-/
import Derived.Test.YtccmekdmnkmhlaaGreatFixedOps
namespace Go.Proofs.YtccmekdmnkmhlaaGreat
open Go.RowKit

def pc (x : Int × Int) : List Value := [.int .i64 x.1, .int .i64 x.2]
def pcs (zs : List (Int × Int)) : List Value := zs.flatMap pc
theorem pcs_len (zs : List (Int × Int)) : (pcs zs).length = zs.length * 2 := by
  induction zs with
  | nil => rfl
  | cons z zs ih =>
    show (pc z ++ pcs zs).length = _
    rw [List.length_append, ih, List.length_cons]
    simp [pc]
    omega
theorem pcs_append (a b : List (Int × Int)) : pcs (a ++ b) = pcs a ++ pcs b := by simp [pcs]
theorem pcs_drop (zs : List (Int × Int)) (k : Nat) : pcs (zs.drop k) = (pcs zs).drop (k * 2) := by
  induction k generalizing zs with
  | zero => simp
  | succ k ih =>
    cases zs with
    | nil => simp [pcs]
    | cons z zs =>
      rw [List.drop_succ_cons, ih]
      show _ = (pc z ++ pcs zs).drop _
      rw [show (k + 1) * 2 = 2 + k * 2 by omega, ← List.drop_drop]
      rfl
theorem pcs_take (zs : List (Int × Int)) (k : Nat) : pcs (zs.take k) = (pcs zs).take (k * 2) := by
  induction k generalizing zs with
  | zero => simp [pcs]
  | succ k ih =>
    cases zs with
    | nil => simp [pcs]
    | cons z zs =>
      rw [List.take_succ_cons]
      show pc z ++ pcs (zs.take k) = (pc z ++ pcs zs).take _
      rw [ih, show (k + 1) * 2 = k * 2 + 1 + 1 by omega]
      rfl
theorem pcs_get {zs : List (Int × Int)} {k : Nat} {x : Int × Int} (h : zs[k]? = some x) : (pcs zs)[k * 2]? = some (.int .i64 x.1) ∧ (pcs zs)[k * 2 + 1]? = some (.int .i64 x.2) := by
  obtain ⟨h1, h2⟩ := List.getElem?_eq_some_iff.1 h
  have h3 := pcs_drop zs k
  rw [List.drop_eq_getElem_cons h1, h2] at h3
  have h4 : pcs (x :: zs.drop (k + 1)) = .int .i64 x.1 :: .int .i64 x.2 :: pcs (zs.drop (k + 1)) := rfl
  rw [h4] at h3
  constructor
  · have := congrArg (fun l => l[0]?) h3
    simpa [List.getElem?_drop] using this.symm
  · have := congrArg (fun l => l[1]?) h3
    simpa [List.getElem?_drop] using this.symm
/-- A slice that reads as these points. -/
def PtRow (w : World) (A : Option Addr) (n : Nat) (zs : List (Int × Int)) : Prop := Row w A n 2 (pcs zs)
theorem pt_len {w : World} {A : Option Addr} {n : Nat} {zs : List (Int × Int)} (h : PtRow w A n zs) : zs.length = n := by
  have := h.1
  rw [pcs_len] at this
  omega
theorem pt_gr {w w' : World} {A : Option Addr} {n : Nat} {zs : List (Int × Int)} (h : PtRow w A n zs) (g : Gr w w') : PtRow w' A n zs := row_gr h g
theorem pt_elem {w : World} {A : Option Addr} {n : Nat} {zs : List (Int × Int)} (h : PtRow w A n zs) {k : Nat} (hk : k < n) :
    ∃ x B o, zs[k]? = some x ∧ A = some ⟨B, o, none⟩ ∧ B < w.heap.size ∧ w.cell? ⟨B, o + k * 2, none⟩ = some (.int .i64 x.1) ∧ w.cell? ⟨B, o + k * 2 + 1, none⟩ = some (.int .i64 x.2) := by
  have hl := pt_len h
  have hx : zs[k]? = some (zs[k]'(by omega)) := List.getElem?_eq_getElem (by omega)
  obtain ⟨g1, g2⟩ := pcs_get hx
  obtain ⟨B, o, e, hb, hc⟩ := h.2 _ _ g1
  obtain ⟨B', o', e', _, hc'⟩ := h.2 _ _ g2
  rw [e] at e'
  have e2 := Option.some.inj e'
  injection e2 with e3 e4
  subst e3 e4
  exact ⟨_, B, o, hx, e, hb, hc, by rw [← Nat.add_assoc] at hc'; exact hc'⟩
/-- The number and the time at a place. -/
def pT (zs : List (Int × Int)) (k : Nat) : Int := (zs.getD k (0, 0)).1
def pV (zs : List (Int × Int)) (k : Nat) : Int := (zs.getD k (0, 0)).2
theorem pT_of {zs : List (Int × Int)} {k : Nat} {x : Int × Int} (h : zs[k]? = some x) : pT zs k = x.1 ∧ pV zs k = x.2 := by
  unfold pT pV
  rw [List.getD_eq_getElem?_getD, h]
  exact ⟨rfl, rfl⟩
theorem pt_cell {w : World} {A : Option Addr} {n : Nat} {zs : List (Int × Int)} (h : PtRow w A n zs) {k : Nat} (hk : k < n) :
    ∃ B o, A = some ⟨B, o, none⟩ ∧ B < w.heap.size ∧ w.cell? ⟨B, o + k * 2, none⟩ = some (.int .i64 (pT zs k)) ∧ w.cell? ⟨B, o + k * 2 + 1, none⟩ = some (.int .i64 (pV zs k)) := by
  obtain ⟨x, B, o, hx, e, hb, h1, h2⟩ := pt_elem h hk
  obtain ⟨e1, e2⟩ := pT_of hx
  exact ⟨B, o, e, hb, by rw [e1]; exact h1, by rw [e2]; exact h2⟩
theorem pt_cells {w : World} {B o n : Nat} {zs : List (Int × Int)} (h : PtRow w (some ⟨B, o, none⟩) n zs) {k : Nat} (hk : k < n) :
    w.cell? ⟨B, o + k * 2, none⟩ = some (.int .i64 (pT zs k)) ∧ w.cell? ⟨B, o + k * 2 + 1, none⟩ = some (.int .i64 (pV zs k)) := by
  obtain ⟨B', o', e, hb, h1, h2⟩ := pt_cell h hk
  have e2 := Option.some.inj e
  injection e2 with e3 e4
  subst e3 e4
  exact ⟨h1, h2⟩

/-! ### may they be? -/
def okP (zs : List (Int × Int)) (k : Nat) : Bool := decide (0 ≤ pT zs k) && decide (pT zs k ≤ 1000000000) && (decide (-1000000000000 ≤ pV zs k) && decide (pV zs k ≤ 1000000000000)) && (decide (k = 0) || decide (pT zs (k - 1) < pT zs k))
def okTo (zs : List (Int × Int)) (k : Nat) : Prop := ∀ j, j < k → okP zs j = true
def rightB (zs : List (Int × Int)) : Bool := decide (zs.length ≤ 25) && (List.range zs.length).all (okP zs)
theorem right_yesP {zs : List (Int × Int)} (h : zs.length ≤ 25) (k : okTo zs zs.length) : rightB zs = true := by
  unfold rightB
  rw [decide_eq_true h, Bool.true_and, List.all_eq_true]
  intro j hj
  exact k j (List.mem_range.1 hj)
theorem right_noP {zs : List (Int × Int)} {k : Nat} (hk : k < zs.length) (h : okP zs k = false) : rightB zs = false := by
  cases hr : rightB zs with
  | false => rfl
  | true =>
    unfold rightB at hr
    simp only [Bool.and_eq_true, List.all_eq_true] at hr
    have := hr.2 k (List.mem_range.2 hk)
    rw [h] at this
    cases this
theorem right_iff {zs : List (Int × Int)} : rightB zs = true ↔ zs.length ≤ 25 ∧ okTo zs zs.length := by
  constructor
  · intro hr
    unfold rightB at hr
    simp only [Bool.and_eq_true, List.all_eq_true, decide_eq_true_eq] at hr
    exact ⟨hr.1, fun j hj => hr.2 j (List.mem_range.2 hj)⟩
  · exact fun ⟨a, b⟩ => right_yesP a b
theorem okP_iff {zs : List (Int × Int)} {k : Nat} : okP zs k = true ↔ (0 ≤ pT zs k ∧ pT zs k ≤ 1000000000 ∧ In (pV zs k) ∧ (k = 0 ∨ pT zs (k - 1) < pT zs k)) := by
  unfold okP In
  simp only [Bool.and_eq_true, Bool.or_eq_true, decide_eq_true_eq]
  constructor
  · rintro ⟨⟨⟨a, b⟩, c⟩, d⟩; exact ⟨a, b, c, d⟩
  · rintro ⟨a, b, c, d⟩; exact ⟨⟨⟨a, b⟩, c⟩, d⟩
theorem okTo_succ {zs : List (Int × Int)} {k : Nat} (h : okTo zs k) (k1 : okP zs k = true) : okTo zs (k + 1) := by
  intro j hj
  rcases Nat.lt_succ_iff_lt_or_eq.1 hj with h1 | h1
  · exact h j h1
  · rw [h1]; exact k1
theorem ptValue_any (a : Int) (w : World) : Calls Tryz.prog 31 #[.int .i64 a] w fun e w' => e = .returned (.bool (decide (-1000000000000 ≤ a) && decide (a ≤ 1000000000000))) ∧ w = w' := by
  by_cases h1 : -1000000000000 ≤ a
  · by_cases h2 : a ≤ 1000000000000
    all_goals
      go_enter Tryz.func31, Tryz.ntmps31
      go_wp2
      go_ret
      exact ⟨by simp [h1, h2], rfl⟩
  · go_enter Tryz.func31, Tryz.ntmps31
    go_wp2
    go_ret
    exact ⟨by simp; omega, rfl⟩
theorem ptValue_yes (a : Int) (w : World) (h : In a) : Calls Tryz.prog 31 #[.int .i64 a] w fun e w' => e = .returned (.bool true) ∧ w' = w := by
  have := ptValue_any a w
  rw [decide_eq_true h.1, decide_eq_true h.2] at this
  exact this.mono fun _ _ ⟨a, b⟩ => ⟨a, b.symm⟩
theorem ptValue_no (a : Int) (w : World) (h : ¬ In a) : Calls Tryz.prog 31 #[.int .i64 a] w fun e w' => e = .returned (.bool false) ∧ w' = w := by
  have := ptValue_any a w
  have hf : (decide (-1000000000000 ≤ a) && decide (a ≤ 1000000000000)) = false := by
    unfold In at h
    rw [Bool.and_eq_false_iff]
    by_cases h1 : -1000000000000 ≤ a
    · exact Or.inr (decide_eq_false (fun h2 => h ⟨h1, h2⟩))
    · exact Or.inl (decide_eq_false h1)
  rw [hf] at this
  exact this.mono fun _ _ ⟨a, b⟩ => ⟨a, b.symm⟩
end Go.Proofs.YtccmekdmnkmhlaaGreat
