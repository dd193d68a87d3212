/-
  leporellolaw10.Light of rows. No condition but a bound on the length.
-/
import Derived.Test.YtoidfoalhkoajaaRowLight
import Derived.Test.YtoidfoalhkoajaaRowRows
namespace Go.Proofs.Ytoidfoalhkoajaa
open Go.RowKit

def RLPost (rs : List Rw) (w : World) (e : Ending) (w' : World) : Prop := (∃ b, e = .returned (.bool b) ∧ (b = true → rs.length ≤ 60 ∧ ∀ r ∈ rs, LightL r.l)) ∧ w = w'
set_option maxHeartbeats 8000000 in
set_option maxRecDepth 100000 in
theorem rlight_any (A : Option Addr) (n c : Nat) (rs : List Rw) (w : World) (hn : n ≤ 9223372036854775807) (hr : Rows w A n rs) :
    Calls Try.prog 13 #[.slice A n c] w (RLPost rs w) := by
  have hl : rs.length = n := hr.1
  replace hr := Lib.hid hr
  replace hl := Lib.hid hl
  go_enter Try.func13, Try.ntmps13
  go_wp2
  go_loopw [3] (fun i wr => ∃ k : Nat, k ≤ n ∧ i = .int .i64 k ∧ Hid (∀ r ∈ rs.take k, LightL r.l) ∧ w = wr) (fun i _ => n - (intOf i).toNat)
  case atStart => exact ⟨0, Nat.zero_le _, rfl, (by intro x hx; simp at hx), rfl⟩
  case round =>
    obtain ⟨k, hk, rfl, ht, rfl⟩ := hrel
    by_cases hlt : k < n ∧ k < 100
    · obtain ⟨r, h, B, o, hx, hok, rfl, c0, c1⟩ := rows_at hr.out hlt.1
      have hki : (k : Int) < (n : Int) := by omega
      have hkj : (k : Int) < 100 := by omega
      have hk0 : (0 : Int) ≤ (k : Int) := by omega
      have hL := llight_any h.A h.n h.c r.l w (by have := hok.le; have := hok.small; omega) hok.row
      have hnext : LightL r.l → ∀ y ∈ rs.take (k + 1), LightL y.l := fun h y hy => by
        obtain ⟨h1, h2⟩ := List.getElem?_eq_some_iff.1 hx
        rw [List.take_succ_eq_append_getElem h1, h2] at hy
        rcases List.mem_append.1 hy with hy | hy
        · exact ht.out y hy
        · rw [List.mem_singleton.1 hy]; exact h
      replace hnext := Lib.hid hnext
      replace hL := Lib.hid hL
      clear hok hx ht
      go_wp2_with fail
      refine hL.out.mono ?_
      rintro e w3 ⟨⟨b, rfl, hb⟩, rfl⟩
      cases b with
      | false =>
        clear hb
        go_wp2
        go_ret
        exact ⟨⟨false, rfl, fun h => by cases h⟩, rfl⟩
      | true =>
        have hn2 := hnext.out (hb rfl)
        replace hn2 := Lib.hid hn2
        clear hb
        go_wp2
        go_roundw
        case rel => exact ⟨k + 1, by omega, by go_num, hn2.out, by first | rfl | trivial⟩
        case measure => simp [intOf]; omega
    · by_cases hkn : k < n
      · have hkj : ¬ (k : Int) < 100 := by omega
        have hki : (k : Int) < (n : Int) := by omega
        have hn60 : ((n : Int) ≤ 60) = False := eq_false (by omega)
        go_wp2
        go_ret
        exact ⟨⟨false, rfl, fun h => by cases h⟩, rfl⟩
      · obtain rfl : k = n := by omega
        by_cases h60 : k ≤ 60
        · have hn60 : (k : Int) ≤ 60 := by omega
          have hfull : rs.length ≤ 60 ∧ ∀ r ∈ rs, LightL r.l := ⟨by rw [hl.out]; exact h60, by
            have h1 := ht.out
            rwa [List.take_of_length_le (by rw [hl.out]; exact Nat.le_refl _)] at h1⟩
          replace hfull := Lib.hid hfull
          go_wp2
          go_ret
          exact ⟨⟨true, rfl, fun _ => hfull.out⟩, rfl⟩
        · have hn60 : ((k : Int) ≤ 60) = False := eq_false (by omega)
          go_wp2
          go_ret
          exact ⟨⟨false, rfl, fun h => by cases h⟩, rfl⟩
end Go.Proofs.Ytoidfoalhkoajaa
