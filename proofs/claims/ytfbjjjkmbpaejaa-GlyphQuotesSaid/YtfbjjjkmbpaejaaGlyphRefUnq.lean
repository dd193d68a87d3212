/-
  What the document's hex and Unquote answer. No condition but a bound on the length.
-/
import Derived.Test.YtfbjjjkmbpaejaaGlyphRefQuote
import Derived.Test.YtfbjjjkmbpaejaaGlyphUnq
import Derived.Test.YtfbjjjkmbpaejaaRegionOwn
import Derived.Deep.RegionHeld3
namespace Go.Proofs.Ytfbjjjkmbpaejaa
open Go.RowKit

theorem hexI_of (c : UInt8) : hexI c = if 48 ≤ (c.toNat : Int) ∧ (c.toNat : Int) ≤ 57 then (c.toNat : Int) - 48 else if 97 ≤ (c.toNat : Int) ∧ (c.toNat : Int) ≤ 102 then (c.toNat : Int) - 97 + 10 else -1 := by
  by_cases h1 : 48 ≤ c.toNat ∧ c.toNat ≤ 57
  · have e : unhex c = some (c.toNat - 48) := if_pos h1
    unfold hexI
    rw [e, if_pos (by omega)]
    simp only
    omega
  · by_cases h2 : 97 ≤ c.toNat ∧ c.toNat ≤ 102
    · have e : unhex c = some (c.toNat - 87) := by unfold unhex; rw [if_neg h1, if_pos h2]
      unfold hexI
      rw [e, if_neg (by omega), if_pos (by omega)]
      simp only
      omega
    · have e : unhex c = none := by unfold unhex; rw [if_neg h1, if_neg h2]
      unfold hexI
      rw [e, if_neg (by omega), if_neg (by omega)]
set_option maxRecDepth 100000 in
theorem hex_any (c : UInt8) (w : World) : Calls Try.prog 33 #[.int .u8 c.toNat] w fun e w' => e = .returned (.int .i64 (hexI c)) ∧ w = w' := by
  have hl := UInt8.toNat_lt c
  have he := hexI_of c
  generalize hexI c = v at he ⊢
  generalize hx : (c.toNat : Int) = x at *
  have x0 : 0 ≤ x := by omega
  have x1 : x < 256 := by omega
  clear hx hl
  by_cases h1 : 48 ≤ x ∧ x ≤ 57
  · rw [if_pos h1] at he
    obtain ⟨h2, h3⟩ := h1
    subst he
    go_enter Try.func33, Try.ntmps33
    go_wp2
    go_ret
    exact ⟨rfl, rfl⟩
  · rw [if_neg h1] at he
    by_cases h2 : 97 ≤ x ∧ x ≤ 102
    · rw [if_pos h2] at he
      obtain ⟨h3, h4⟩ := h2
      have h5 : ¬ x ≤ 57 := by omega
      subst he
      clear h1
      go_enter Try.func33, Try.ntmps33
      go_wp2
      go_ret
      exact ⟨rfl, rfl⟩
    · rw [if_neg h2] at he
      subst he
      have hc : x < 48 ∨ (48 ≤ x ∧ ¬ x ≤ 57 ∧ x < 97) ∨ (48 ≤ x ∧ ¬ x ≤ 57 ∧ 97 ≤ x ∧ ¬ x ≤ 102) := by omega
      clear h1 h2
      rcases hc with c1 | ⟨c1, c2, c3⟩ | ⟨c1, c2, c3, c4⟩
      · have c3 : x < 97 := by omega
        go_enter Try.func33, Try.ntmps33
        go_wp2
        go_ret
        exact ⟨rfl, rfl⟩
      all_goals
        go_enter Try.func33, Try.ntmps33
        go_wp2
        go_ret
        exact ⟨rfl, rfl⟩
end Go.Proofs.Ytfbjjjkmbpaejaa
