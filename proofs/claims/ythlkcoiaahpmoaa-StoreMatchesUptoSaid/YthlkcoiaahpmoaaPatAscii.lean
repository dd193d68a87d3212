/-
  Runes of texts of small bytes. No condition.
-/
import Derived.Test.YthlkcoiaahpmoaaPatWhole
namespace Go.Proofs.Ythlkcoiaahpmoaa
open Go.RowKit

theorem runes_ascii : ∀ (l : List UInt8), (∀ c ∈ l, c.toNat < 128) → runesOf l = l.map fun c => (c.toNat : Int) := by
  intro l
  induction l with
  | nil => intro _; rfl
  | cons c t ih =>
    intro h
    rw [runes_cons c (h c (by simp)), ih (fun d hd => h d (by simp [hd])), List.map_cons]
end Go.Proofs.Ythlkcoiaahpmoaa
