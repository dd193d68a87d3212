/-
  Labels that may be are few and short. No condition.
-/
import Derived.Test.YtbnacoakjhhndaaGreatRowLight
namespace Go.Proofs.YtbnacoakjhhndaaGreat
open Go.RowKit

theorem isName_len {l : List UInt8} (h : isName l = true) : l.length ≤ 120 := by
  have h1 := chunks_le4 l
  unfold isName at h
  rw [Bool.and_eq_true] at h
  have h2 := of_decide_eq_true h.2
  omega
theorem okLbs_short {zs : List Lb} (h : okLbs zs) : ∀ x ∈ zs, x.n.length ≤ 1000000 ∧ x.v.length ≤ 1000000 := fun x hx => by
  obtain ⟨h1, h2, h3⟩ := h.2.1 x hx
  have := isName_len h1
  omega
theorem okLbs_light {zs : List Lb} (h : okLbs zs) : LightL zs := ⟨by have := h.1; omega, fun x hx => by
  obtain ⟨h1, h2, h3⟩ := h.2.1 x hx
  have := isName_len h1
  omega⟩
end Go.Proofs.YtbnacoakjhhndaaGreat
