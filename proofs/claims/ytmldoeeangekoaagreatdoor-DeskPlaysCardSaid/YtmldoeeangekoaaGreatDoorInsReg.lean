/-
  What a region that puts one element of two cells among others keeps. No condition.
-/
import Derived.Test.YtmldoeeangekoaaGreatDoorStepRow
import Derived.Test.YtmldoeeangekoaaGreatDoorBookRow
namespace Go.Proofs.YtmldoeeangekoaaGreatDoor
open Go.RowKit

/-- Nothing old has turned, and these two cells are there. -/
abbrev SL (wo : World) (B o : Nat) (u0 u1 : Value) (w' : World) : Prop := Gr wo w' ∧ w'.cell? ⟨B, o, none⟩ = some u0 ∧ w'.cell? ⟨B, o + 1, none⟩ = some u1
theorem sl_of {wo w' : World} {B o : Nat} {u0 u1 : Value} (h0 : wo.cell? ⟨B, o, none⟩ = some u0) (h1 : wo.cell? ⟨B, o + 1, none⟩ = some u1) (g : Gr wo w') : SL wo B o u0 u1 w' := ⟨g, gr_cell g h0, gr_cell g h1⟩
theorem sl_drew {wo w' : World} {B o : Nat} {u0 u1 : Value} (h : SL wo B o u0 u1 w') : SL wo B o u0 u1 w'.drew := ⟨gr_trans h.1 (gr_drew _ _), h.2.1, h.2.2⟩
theorem sl_alloc {wo w' : World} {B o : Nat} {u0 u1 : Value} (h : SL wo B o u0 u1 w') (ob : Obj) : SL wo B o u0 u1 (w'.alloc ob) := ⟨gr_trans h.1 (gr_alloc _ _ _), gr_cell (gr_alloc _ _ none) h.2.1, gr_cell (gr_alloc _ _ none) h.2.2⟩
theorem sl_grown {wo w' w'' : World} {B o : Nat} {u0 u1 : Value} {row : Option Nat} (h0 : wo.cell? ⟨B, o, none⟩ = some u0) (h1 : wo.cell? ⟨B, o + 1, none⟩ = some u1) (h : SL wo B o u0 u1 w') (g : w'.grownBy w'' row) (hr : ∀ k, row = some k → wo.heap.size ≤ k) : SL wo B o u0 u1 w'' :=
  sl_of h0 h1 (gr_of_below ((gr_below h.1).grown g h.1.size hr) (Nat.le_refl _))
theorem sl_gr {wo w' : World} {B o : Nat} {u0 u1 : Value} (h : SL wo B o u0 u1 w') : Gr wo w' := h.1
theorem row_newS {α : Type} {f : α → List Value} {S : Nat} (hf : ∀ x, (f x).length = S) (w : World) (x : α) (e : TypeId) : Row (w.alloc (.cells (f x).toArray e)) (some ⟨w.heap.size, 0, none⟩) 1 S (f x) := by
  refine ⟨by rw [hf, Nat.one_mul], fun j u hj => ⟨w.heap.size, 0, rfl, by simp, ?_⟩⟩
  rw [Nat.zero_add, World.cell?_alloc_new, List.getElem?_toArray]
  exact hj
theorem row_heapS {w w' : World} (h : w'.heap = w.heap) {A : Option Addr} {n size : Nat} {xs : List Value} (hr : Row w A n size xs) : Row w' A n size xs := by
  refine ⟨hr.1, fun j u hj => ?_⟩
  obtain ⟨B, o, e, hb, hc⟩ := hr.2 j u hj
  refine ⟨B, o, e, by rw [h]; exact hb, ?_⟩
  unfold World.cell? at hc ⊢
  rw [h]
  exact hc
/-- The rest of a slice from q on, whatever its address. -/
theorem row_rest {α : Type} {f : α → List Value} {S : Nat} (hf : ∀ x, (f x).length = S) (hS : 0 < S) {w : World} {A : Option Addr} {n c q : Nat} {zs : List α} (h : Row w A n S (sR f zs)) (hq : q ≤ n) (hc : n ≤ c) :
    Row w (if c = q then A else Option.map (fun z => z.add (q * S)) A) (n - q) S (sR f (zs.drop q)) := by
  rw [sR_drop f S hf]
  by_cases hcq : c = q
  · have : n = q := by omega
    subst this
    rw [Nat.sub_self, List.drop_eq_nil_of_le (by rw [h.1]; exact Nat.le_refl _)]
    exact row_zero _ _ _
  · rw [if_neg hcq]
    refine row_drop h q _ (fun B o e _ => ?_) hS
    rw [e]
    exact congrArg some (add_plain B o (q * S))
end Go.Proofs.YtmldoeeangekoaaGreatDoor
