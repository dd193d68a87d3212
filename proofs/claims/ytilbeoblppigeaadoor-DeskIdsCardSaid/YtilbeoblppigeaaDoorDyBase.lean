/-
  Cells of a block that is there. No condition.
-/
import Derived.Test.YtilbeoblppigeaaDoorDiaryCur
import Derived.Test.YtilbeoblppigeaaDoorQuietGr
import Derived.Test.YtilbeoblppigeaaDoorProg
namespace Go.Proofs.YtilbeoblppigeaaDoor.Dy
open Go.RowKit

theorem fzero {w : World} {b : Nat} {cs : Array Value} {t : TypeId} (h : w.heap[b]? = some (.cells cs t (0, 0))) (j : Nat) : w.frozen? ⟨b, j, none⟩ = false := by
  unfold World.frozen?
  rw [h]
  simp
theorem fcell {w : World} {b : Nat} {cs : Array Value} {t : TypeId} {fr : Nat × Nat} (h : w.heap[b]? = some (.cells cs t fr)) {j : Nat} {v : Value} (hj : cs[j]? = some v) : w.cell? ⟨b, j, none⟩ = some v := by
  unfold World.cell?
  rw [h]
  exact hj
theorem cell0_new (w : World) (v : Value) (t : TypeId) : (w.alloc (.cells #[v] t)).cell? ⟨w.heap.size, 0, none⟩ = some v := by
  rw [World.cell?_alloc_new]; rfl
end Go.Proofs.YtilbeoblppigeaaDoor.Dy
