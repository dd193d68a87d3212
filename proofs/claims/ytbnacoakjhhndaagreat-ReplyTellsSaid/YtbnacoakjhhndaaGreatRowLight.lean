/-
  Are labels few and short enough; what a row takes. No condition but a bound on the length. (soft)
-/
import Derived.Test.YtbnacoakjhhndaaGreatRowPut
import Derived.Test.YtbnacoakjhhndaaGreatLabelLight
namespace Go.Proofs.YtbnacoakjhhndaaGreat
open Go.RowKit

theorem light_small {zs : List Lb} (h : LightL zs) : SmallL zs := ⟨by have := h.1; omega, fun x hx => by have := h.2 x hx; omega⟩
theorem cost_take {zs : List Lb} {k : Nat} {x : Lb} (hx : zs[k]? = some x) : ((zs.take (k + 1)).map fun x => 8 + x.n.length + x.v.length).sum = ((zs.take k).map fun x => 8 + x.n.length + x.v.length).sum + (8 + x.n.length + x.v.length) := by
  obtain ⟨h1, h2⟩ := List.getElem?_eq_some_iff.1 hx
  rw [List.take_succ_eq_append_getElem h1, h2]
  simp
theorem cost_le {zs : List Lb} (h : LightL zs) (k : Nat) : ((zs.take k).map fun x => 8 + x.n.length + x.v.length).sum ≤ 408 * (zs.take k).length := by
  have : ∀ l : List Lb, (∀ x ∈ l, x.n.length ≤ 200 ∧ x.v.length ≤ 200) → (l.map fun x => 8 + x.n.length + x.v.length).sum ≤ 408 * l.length := by
    intro l
    induction l with
    | nil => simp
    | cons x l ih =>
      intro hl
      have h1 := hl x List.mem_cons_self
      have h2 := ih fun y hy => hl y (List.mem_cons_of_mem _ hy)
      simp only [List.map_cons, List.sum_cons, List.length_cons]
      omega
  exact this _ fun x hx => h.2 x (List.mem_of_mem_take hx)
end Go.Proofs.YtbnacoakjhhndaaGreat
