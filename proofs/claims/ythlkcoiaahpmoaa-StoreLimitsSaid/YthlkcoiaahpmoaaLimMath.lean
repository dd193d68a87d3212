/-
  A store that is filled to its bounds: plain. No condition but that the numbers are small.
-/
import Derived.Test.YthlkcoiaahpmoaaStoreX
namespace Go.Proofs.Ythlkcoiaahpmoaa
open Go.RowKit

def limL (i : Nat) : List Lb := [⟨[104, 111, 115, 116], [104, UInt8.ofNat (65 + i / 10), UInt8.ofNat (48 + i % 10)]⟩, ⟨metricB, [99, 112, 117]⟩]
def limP (k : Nat) : List (Int × Int) := (List.range k).map fun (j : Nat) => ((j : Int), (j : Int))
def limF (i M : Nat) : List Ser := (List.range i).map fun a => ⟨limL a, limP M⟩
def limS (i k M : Nat) : List Ser := limF (min i 40) M ++ (if k = 0 ∨ 40 ≤ i then [] else [⟨limL i, limP (min k 25)⟩])
theorem lim_lt : ∀ j, j < 60 → ∀ i, i < j → cmpLs (limL i) (limL j) < 0 := by decide +kernel
theorem lim_ok : ∀ i, i < 60 → okSer (limL i) := by decide +kernel
theorem limF_len (i M : Nat) : (limF i M).length = i := by simp [limF]
theorem limP_len (k : Nat) : (limP k).length = k := by simp [limP]
theorem limP_succ (k : Nat) : limP (k + 1) = limP k ++ [((k : Int), (k : Int))] := by unfold limP; rw [List.range_succ, List.map_append]; rfl
theorem limP_last {k : Nat} (h : 0 < k) : lastT (limP k) = (k : Int) - 1 := by
  unfold lastT
  rw [limP_len]
  have e : (limP k)[k - 1]? = some (((k - 1 : Nat) : Int), ((k - 1 : Nat) : Int)) := by
    unfold limP
    rw [List.getElem?_map, List.getElem?_range (by omega)]
    rfl
  rw [(pT_of e).1]
  omega
theorem limF_at {i M a : Nat} (h : a < i) : (limF i M)[a]? = some ⟨limL a, limP M⟩ := by
  unfold limF
  rw [List.getElem?_map, List.getElem?_range h]
  rfl
theorem lim_place {q i M : Nat} (hq : q ≤ i) (hi : i < 60) (tl : List Ser) (ht : ∀ s ∈ tl, s.l = limL i) : placeS (limF q M ++ tl) (limL i) = q := by
  refine placeS_of ⟨by rw [List.length_append, limF_len]; omega, ?_, ?_⟩
  · rw [List.take_left' (limF_len q M)]
    intro y hy
    obtain ⟨a, ha, rfl⟩ := List.mem_map.1 hy
    exact lim_lt i hi a (by have := List.mem_range.1 ha; omega)
  · rw [List.drop_left' (limF_len q M)]
    intro y hy
    rw [ht y hy]
    exact ltLs_irr _
theorem limF_succ (i M : Nat) : limF (i + 1) M = limF i M ++ [⟨limL i, limP M⟩] := by unfold limF; rw [List.range_succ, List.map_append]; rfl
theorem limS_full {i k M : Nat} (h : 40 ≤ i) : limS i k M = limF 40 M := by unfold limS; rw [if_pos (.inr h), Nat.min_eq_right h, List.append_nil]
theorem limS_none {i M : Nat} (h : ¬ 40 ≤ i) : limS i 0 M = limF i M := by unfold limS; rw [if_pos (.inl rfl), Nat.min_eq_left (by omega), List.append_nil]
theorem limS_some {i k M : Nat} (h : ¬ 40 ≤ i) (hk : 0 < k) : limS i k M = limF i M ++ [⟨limL i, limP (min k 25)⟩] := by unfold limS; rw [if_neg (by omega), Nat.min_eq_left (by omega)]
theorem lim_put {i k M : Nat} (hi : i < 60) (hk : k < 40) : putS (limS i k M) (limL i) k k = (if 40 ≤ i ∨ 25 ≤ k then 8 else 0, limS i (k + 1) M) := by
  unfold putS
  rw [if_pos ⟨lim_ok i hi, by unfold okPt In; omega⟩]
  by_cases h40 : 40 ≤ i
  · rw [limS_full h40, limS_full h40, if_pos (show 40 ≤ i ∨ 25 ≤ k from .inl h40)]
    have hp := lim_place (M := M) h40 hi [] (by simp)
    rw [List.append_nil] at hp
    rw [hp, putAt_no (by rintro ⟨s, hs, _⟩; rw [List.getElem?_eq_none (by rw [limF_len]; omega)] at hs; cases hs), if_pos (by rw [limF_len]; omega)]
  · by_cases hk0 : k = 0
    · subst hk0
      rw [limS_none h40, limS_some h40 (by omega), if_neg (show ¬ (40 ≤ i ∨ 25 ≤ 0) by omega)]
      have hp := lim_place (M := M) (Nat.le_refl i) hi [] (by simp)
      rw [List.append_nil] at hp
      rw [hp, putAt_no (by rintro ⟨s, hs, _⟩; rw [List.getElem?_eq_none (by rw [limF_len]; omega)] at hs; cases hs), if_neg (by rw [limF_len]; omega)]
      rw [List.take_of_length_le (by rw [limF_len]; omega), List.drop_eq_nil_of_le (by rw [limF_len]; omega)]
      have e : limP (min (0 + 1) 25) = [(((0 : Nat) : Int), ((0 : Nat) : Int))] := rfl
      rw [e]
    · rw [limS_some h40 (by omega), limS_some h40 (by omega)]
      have hp := lim_place (M := M) (Nat.le_refl i) hi [⟨limL i, limP (min k 25)⟩] (by intro s hs; rw [List.mem_singleton.1 hs])
      rw [hp]
      have hat : (limF i M ++ [(⟨limL i, limP (min k 25)⟩ : Ser)])[i]? = some ⟨limL i, limP (min k 25)⟩ := by rw [List.getElem?_append_right (by rw [limF_len]; omega), limF_len, Nat.sub_self]; rfl
      have := putAt_yes (t := (k : Int)) (v := (k : Int)) hat
      simp only at this
      rw [this, limP_last (by omega), limP_len]
      rw [if_neg (by omega)]
      by_cases h25 : 25 ≤ k
      · rw [if_pos (show 25 ≤ min k 25 by omega), if_pos (show 40 ≤ i ∨ 25 ≤ k from .inr h25), Nat.min_eq_right h25, Nat.min_eq_right (show 25 ≤ k + 1 by omega)]
      · rw [if_neg (show ¬ 25 ≤ min k 25 by omega), if_neg (show ¬ (40 ≤ i ∨ 25 ≤ k) by omega), Nat.min_eq_left (show k ≤ 25 by omega), Nat.min_eq_left (show k + 1 ≤ 25 by omega), limP_succ]
        rw [List.set_append_right _ _ (by rw [limF_len]; omega), limF_len, Nat.sub_self]
        rfl
theorem lim_next {i m : Nat} (hm : 1 ≤ m) : limS i m (min m 25) = limS (i + 1) 0 (min m 25) := by
  by_cases h40 : 40 ≤ i
  · rw [limS_full h40, limS_full (by omega)]
  · rw [limS_some h40 (by omega), ← limF_succ]
    by_cases h41 : 40 ≤ i + 1
    · rw [limS_full h41, show i + 1 = 40 by omega]
    · rw [limS_none h41]
theorem lim_zero (M : Nat) : limS 0 0 M = [] := rfl
theorem lim_end (n M : Nat) : (limS n 0 M).length = min n 40 ∧ sumP (limS n 0 M) = min n 40 * M := by
  unfold limS
  rw [if_pos (.inl rfl), List.append_nil, limF_len]
  refine ⟨rfl, ?_⟩
  have : ∀ q, sumP (limF q M) = q * M := by
    intro q
    induction q with
    | zero => simp [limF, sumP]
    | succ q ih =>
      rw [limF_succ]
      unfold sumP at ih ⊢
      rw [List.map_append, List.sum_append, ih]
      simp [limP_len, Nat.succ_mul]
  exact this _
theorem lim_short (i : Nat) : ShortL (limL i) := by
  intro x hx
  simp only [limL, List.mem_cons, List.not_mem_nil, or_false] at hx
  rcases hx with rfl | rfl
  · exact ⟨by simp, by simp⟩
  · exact ⟨by show metricB.length ≤ _; decide, by simp⟩
end Go.Proofs.Ythlkcoiaahpmoaa
