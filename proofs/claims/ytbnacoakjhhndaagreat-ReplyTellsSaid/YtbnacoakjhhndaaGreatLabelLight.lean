/-
  Are labels few and short enough. No condition but a bound on the length. (soft)
-/
import Derived.Test.YtbnacoakjhhndaaGreatLabelRight
namespace Go.Proofs.YtbnacoakjhhndaaGreat
open Go.RowKit

def LightL (zs : List Lb) : Prop := zs.length ≤ 20 ∧ ∀ x ∈ zs, x.n.length ≤ 200 ∧ x.v.length ≤ 200
def LLPost (zs : List Lb) (w : World) (e : Ending) (w' : World) : Prop := (∃ b, e = .returned (.bool b) ∧ (b = true → LightL zs)) ∧ w = w'
theorem light_short {zs : List Lb} (h : LightL zs) : ShortL zs := fun x hx => by have := h.2 x hx; omega
set_option maxHeartbeats 8000000 in
set_option maxRecDepth 100000 in
theorem llight_any (A : Option Addr) (n c : Nat) (zs : List Lb) (w : World) (hn : n ≤ 9223372036854775807) (hr : Row w A n 2 (sR lblC zs)) :
    Calls Tryz.prog 15 #[.slice A n c] w (LLPost zs w) := by
  have hl : zs.length = n := by have := hr.1; rw [sR_len lblC 2 lblC_len] at this; omega
  replace hr := Lib.hid hr
  replace hl := Lib.hid hl
  go_enter Tryz.func15, Tryz.ntmps15
  go_wp2
  go_loopw [3] (fun i wr => ∃ k : Nat, k ≤ n ∧ i = .int .i64 k ∧ Hid (∀ x ∈ zs.take k, x.n.length ≤ 200 ∧ x.v.length ≤ 200) ∧ w = wr) (fun i _ => n - (intOf i).toNat)
  case atStart => exact ⟨0, Nat.zero_le _, rfl, (by intro x hx; simp at hx), rfl⟩
  case round =>
    obtain ⟨k, hk, rfl, ht, rfl⟩ := hrel
    by_cases hlt : k < n ∧ k < 30
    · obtain ⟨x, B, o, hx, rfl, _, hc⟩ := rowS_elem lblC_len hr.out (by decide) hlt.1
      have c0 : w.cell? ⟨B, o + k * 2, none⟩ = some (.string (txt x.n)) := hc 0 (by decide)
      have c1 : w.cell? ⟨B, o + k * 2 + 1, none⟩ = some (.string (txt x.v)) := hc 1 (by decide)
      have hki : (k : Int) < (n : Int) := by omega
      have hkj : (k : Int) < 30 := by omega
      have hk0 : (0 : Int) ≤ (k : Int) := by omega
      have hnext : (x.n.length ≤ 200 ∧ x.v.length ≤ 200) → ∀ y ∈ zs.take (k + 1), y.n.length ≤ 200 ∧ y.v.length ≤ 200 := fun h y hy => by
        obtain ⟨h1, h2⟩ := List.getElem?_eq_some_iff.1 hx
        rw [List.take_succ_eq_append_getElem h1, h2] at hy
        rcases List.mem_append.1 hy with hy | hy
        · exact ht.out y hy
        · rw [List.mem_singleton.1 hy]; exact h
      replace hnext := Lib.hid hnext
      clear hc hx ht
      by_cases hs : 200 < x.n.length
      · have hsi : (200 : Int) < (x.n.length : Int) := by omega
        go_wp2
        go_ret
        exact ⟨⟨false, rfl, fun h => by cases h⟩, rfl⟩
      · have hsi : ((200 : Int) < (x.n.length : Int)) = False := eq_false (by omega)
        by_cases hv : 200 < x.v.length
        · have hvi : (200 : Int) < (x.v.length : Int) := by omega
          go_wp2
          go_ret
          exact ⟨⟨false, rfl, fun h => by cases h⟩, rfl⟩
        · have hvi : ((200 : Int) < (x.v.length : Int)) = False := eq_false (by omega)
          have hn2 := hnext.out ⟨by omega, by omega⟩
          replace hn2 := Lib.hid hn2
          go_wp2
          go_roundw
          case rel => exact ⟨k + 1, by omega, by go_num, hn2.out, by first | rfl | trivial⟩
          case measure => simp [intOf]; omega
    · by_cases hkn : k < n
      · have hkj : ¬ (k : Int) < 30 := by omega
        have hki : (k : Int) < (n : Int) := by omega
        have hn60 : ((n : Int) ≤ 20) = False := eq_false (by omega)
        go_wp2
        go_ret
        exact ⟨⟨false, rfl, fun h => by cases h⟩, rfl⟩
      · obtain rfl : k = n := by omega
        by_cases h60 : k ≤ 20
        · have hn60 : (k : Int) ≤ 20 := by omega
          have hfull : LightL zs := ⟨by rw [hl.out]; exact h60, by
            have h1 := ht.out
            rwa [List.take_of_length_le (by rw [hl.out]; exact Nat.le_refl _)] at h1⟩
          replace hfull := Lib.hid hfull
          go_wp2
          go_ret
          exact ⟨⟨true, rfl, fun _ => hfull.out⟩, rfl⟩
        · have hn60 : ((k : Int) ≤ 20) = False := eq_false (by omega)
          go_wp2
          go_ret
          exact ⟨⟨false, rfl, fun h => by cases h⟩, rfl⟩
end Go.Proofs.YtbnacoakjhhndaaGreat
