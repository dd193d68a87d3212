/-
  What fixed.Sum and fixed.Mean answer. No condition.
-/
import Derived.Test.YtkpmonefhpnljaaGreatFixedOps
namespace Go.Proofs.YtkpmonefhpnljaaGreat
open Go.RowKit

theorem sum_take {zs : List Int} {k : Nat} {x : Int} (h : zs[k]? = some x) : (zs.take (k + 1)).sum = (zs.take k).sum + x := by
  obtain ⟨h1, h2⟩ := List.getElem?_eq_some_iff.1 h
  rw [List.take_succ_eq_append_getElem h1, h2, List.sum_append]
  simp
theorem sum_bound (zs : List Int) (b : Int) (hb : 0 ≤ b) (h : ∀ x ∈ zs, -b ≤ x ∧ x ≤ b) : -(b * zs.length) ≤ zs.sum ∧ zs.sum ≤ b * zs.length := by
  induction zs with
  | nil => simp
  | cons a zs ih =>
    have h1 := ih (fun x hx => h x (by simp [hx]))
    have h2 := h a (by simp)
    simp only [List.sum_cons, List.length_cons]
    have e : b * ((zs.length + 1 : Nat) : Int) = b * zs.length + b := by
      rw [Int.natCast_add, Int.mul_add]; simp
    rw [e]
    generalize b * (zs.length : Int) = m at *
    omega

set_option maxHeartbeats 1000000 in
theorem all_yes (A : Option Addr) (n c : Nat) (zs : List Int) (w : World) (hn : n ≤ 2000) (hr : Row w A n 1 (zs.map (.int .i64))) (h : ∀ x ∈ zs, In x) :
    Calls Tryz.prog 97 #[.slice A n c] w fun e w' => e = .returned (.bool true) ∧ w = w' := by
  have hni : (n : Int) ≤ 2000 := by omega
  replace hr := Lib.hid hr
  replace h := Lib.hid h
  go_enter Tryz.func97, Tryz.ntmps97
  go_wp2_with fail
  go_loop [7] (fun i => ∃ k : Nat, k ≤ n ∧ i = .int .i64 k) (fun i => n - (intOf i).toNat)
  case atStart => exact ⟨0, Nat.zero_le _, rfl⟩
  case round =>
    obtain ⟨k, hk, rfl⟩ := hrel
    by_cases hlt : k < n
    · obtain ⟨x, B, o, hx, rfl, hc⟩ := row_elem hr.out hlt
      have hin := h.out x (List.mem_of_getElem? hx)
      replace hx := Lib.hid hx
      go_wp2_with fail
      refine (right_yes x _ hin).mono ?_
      rintro e w' ⟨rfl, rfl⟩
      go_wp2
      go_round
      case rel => exact ⟨k + 1, by omega, by go_num⟩
      case measure => simp [intOf]; omega
    · go_wp2
      go_ret
      exact ⟨rfl, rfl⟩

set_option maxHeartbeats 1000000 in
theorem all_no (A : Option Addr) (n c : Nat) (zs : List Int) (w : World) (hn : n ≤ maxLen) (hr : Row w A n 1 (zs.map (.int .i64))) (h : 2000 < n ∨ ¬ ∀ x ∈ zs, In x) :
    Calls Tryz.prog 97 #[.slice A n c] w fun e w' => e = .returned (.bool false) ∧ w = w' := by
  unfold maxLen at hn
  have hl : zs.length = n := by simpa using hr.1
  replace hr := Lib.hid hr
  replace h := Lib.hid h
  replace hl := Lib.hid hl
  go_enter Tryz.func97, Tryz.ntmps97
  go_wp2_with fail
  go_loop [7] (fun i => ∃ k : Nat, k ≤ n ∧ i = .int .i64 k ∧ Hid (∀ x ∈ zs.take k, In x)) (fun i => n - (intOf i).toNat)
  case atStart => exact ⟨0, Nat.zero_le _, rfl, by intro x hx; simp at hx⟩
  case round =>
    obtain ⟨k, hk, rfl, hp⟩ := hrel
    by_cases hlt : k < n
    · obtain ⟨x, B, o, hx, rfl, hc⟩ := row_elem hr.out hlt
      replace hx := Lib.hid hx
      by_cases hin : In x
      · go_wp2_with fail
        refine (right_yes x _ hin).mono ?_
        rintro e w' ⟨rfl, rfl⟩
        go_wp2
        go_round
        case rel =>
          refine ⟨k + 1, by omega, by go_num, ?_⟩
          intro y hy
          obtain ⟨h1, h2⟩ := List.getElem?_eq_some_iff.1 hx.out
          rw [List.take_succ_eq_append_getElem h1, h2] at hy
          rcases List.mem_append.1 hy with hy | hy
          · exact hp.out y hy
          · simp at hy; subst hy; exact hin
        case measure => simp [intOf]; omega
      · go_wp2_with fail
        refine (right_no x _ hin).mono ?_
        rintro e w' ⟨rfl, rfl⟩
        go_wp2
        go_ret
        exact ⟨rfl, rfl⟩
    · obtain rfl : k = n := by omega
      have hp' := hp.out
      rw [List.take_of_length_le (by rw [hl.out]; exact Nat.le_refl _)] at hp'
      have hb : ¬ (k : Int) ≤ 2000 := by
        rcases h.out with h | h
        · omega
        · exact absurd hp' h
      clear hp'
      go_wp2
      go_ret
      exact ⟨rfl, rfl⟩

set_option maxHeartbeats 1000000 in
theorem total_any (A : Option Addr) (n c : Nat) (zs : List Int) (w : World) (hn : n ≤ 2000) (hr : Row w A n 1 (zs.map (.int .i64))) (h : ∀ x ∈ zs, In x) :
    Calls Tryz.prog 99 #[.slice A n c] w fun e w' => e = .returned (.int .i64 zs.sum) ∧ w = w' := by
  have hl : zs.length = n := by simpa using hr.1
  have hbd : ∀ k, k ≤ n → -2000000000000000 ≤ (zs.take k).sum ∧ (zs.take k).sum ≤ 2000000000000000 := by
    intro k hk
    have h1 := sum_bound (zs.take k) 1000000000000 (by omega) (fun x hx => by have := h x (List.mem_of_mem_take hx); unfold In at this; omega)
    have h2 : (zs.take k).length ≤ 2000 := by rw [List.length_take]; omega
    omega
  replace hr := Lib.hid hr
  replace h := Lib.hid h
  replace hl := Lib.hid hl
  replace hbd := Lib.hid hbd
  go_enter Tryz.func99, Tryz.ntmps99
  go_wp2_with fail
  go_loop [3, 8] (fun s i => ∃ (k : Nat) (S : Int), k ≤ n ∧ i = .int .i64 k ∧ s = .int .i64 S ∧ Hid (S = (zs.take k).sum)) (fun _ i => n - (intOf i).toNat)
  case atStart => exact ⟨0, 0, Nat.zero_le _, rfl, rfl, by simp [Hid]⟩
  case round =>
    obtain ⟨k, S, hk, rfl, rfl, hS⟩ := hrel
    have hb0 := hbd.out k hk
    rw [← hS.out] at hb0
    by_cases hlt : k < n
    · obtain ⟨x, B, o, hx, rfl, hc⟩ := row_elem hr.out hlt
      have hin := h.out x (List.mem_of_getElem? hx)
      unfold In at hin
      replace hx := Lib.hid hx
      go_wp2
      go_round
      case rel => exact ⟨k + 1, S + x, by omega, by go_num, rfl, by show _ = _; rw [sum_take hx.out, hS.out]⟩
      case measure => simp [intOf]; omega
    · obtain rfl : k = n := by omega
      have hfin := hS.out
      rw [List.take_of_length_le (by rw [hl.out]; exact Nat.le_refl _)] at hfin
      replace hfin := Lib.hid hfin
      go_wp2
      go_ret
      exact ⟨by rw [← hfin.out]; rfl, rfl⟩

theorem sum_ok (A : Option Addr) (n c : Nat) (zs : List Int) (w : World) (hn : n ≤ 2000) (hr : Row w A n 1 (zs.map (.int .i64))) (h : ∀ x ∈ zs, In x) (hs : In zs.sum) :
    Calls Tryz.prog 68 #[.slice A n c] w fun e w' => e = .returned (.tuple #[.int .i64 zs.sum, .int .i64 0]) ∧ w = w' := by
  replace hr := Lib.hid hr
  replace h := Lib.hid h
  go_enter Tryz.func68, Tryz.ntmps68
  go_wp2_with fail
  refine (all_yes A n c zs _ hn hr.out h.out).mono ?_
  rintro e w' ⟨rfl, rfl⟩
  go_wp2_with fail
  refine (total_any A n c zs _ hn hr.out h.out).mono ?_
  rintro e w' ⟨rfl, rfl⟩
  go_wp2_with fail
  refine (within_yes _ _ hs).mono ?_
  unfold ret2
  rintro e w' ⟨rfl, rfl⟩
  go_wp2
  go_ret2
  exact ⟨rfl, rfl⟩
theorem sum_over (A : Option Addr) (n c : Nat) (zs : List Int) (w : World) (hn : n ≤ 2000) (hr : Row w A n 1 (zs.map (.int .i64))) (h : ∀ x ∈ zs, In x) (hs : ¬ In zs.sum) :
    Calls Tryz.prog 68 #[.slice A n c] w fun e w' => e = .returned (.tuple #[.int .i64 0, .int .i64 4]) ∧ w = w' := by
  replace hr := Lib.hid hr
  replace h := Lib.hid h
  go_enter Tryz.func68, Tryz.ntmps68
  go_wp2_with fail
  refine (all_yes A n c zs _ hn hr.out h.out).mono ?_
  rintro e w' ⟨rfl, rfl⟩
  go_wp2_with fail
  refine (total_any A n c zs _ hn hr.out h.out).mono ?_
  rintro e w' ⟨rfl, rfl⟩
  go_wp2_with fail
  refine (within_no _ _ hs).mono ?_
  unfold ret2
  rintro e w' ⟨rfl, rfl⟩
  go_wp2
  go_ret2
  exact ⟨rfl, rfl⟩
theorem sum_bad (A : Option Addr) (n c : Nat) (zs : List Int) (w : World) (hn : n ≤ maxLen) (hr : Row w A n 1 (zs.map (.int .i64))) (h : 2000 < n ∨ ¬ ∀ x ∈ zs, In x) :
    Calls Tryz.prog 68 #[.slice A n c] w fun e w' => e = .returned (.tuple #[.int .i64 0, .int .i64 1]) ∧ w = w' := by
  replace hr := Lib.hid hr
  replace h := Lib.hid h
  go_enter Tryz.func68, Tryz.ntmps68
  go_wp2_with fail
  refine (all_no A n c zs _ hn hr.out h.out).mono ?_
  rintro e w' ⟨rfl, rfl⟩
  go_wp2
  go_ret2
  exact ⟨rfl, rfl⟩
theorem mean_ok (A : Option Addr) (n c : Nat) (zs : List Int) (w : World) (h0 : 0 < n) (hn : n ≤ 2000) (hr : Row w A n 1 (zs.map (.int .i64))) (h : ∀ x ∈ zs, In x) :
    Calls Tryz.prog 69 #[.slice A n c] w fun e w' => e = .returned (.tuple #[.int .i64 (zs.sum.tdiv n), .int .i64 0]) ∧ w = w' := by
  have hl : zs.length = n := by simpa using hr.1
  have h1 := sum_bound zs 1000000000000 (by omega) (fun x hx => by have := h x hx; unfold In at this; omega)
  have h2 : (zs.sum.tdiv (n : Int)).natAbs = zs.sum.natAbs / (n : Int).natAbs := Int.natAbs_tdiv _ _
  have h3 : zs.sum.natAbs / (n : Int).natAbs ≤ zs.sum.natAbs := Nat.div_le_self _ _
  rw [hl] at h1
  have hq : -2000000000000000 ≤ zs.sum.tdiv (n : Int) ∧ zs.sum.tdiv (n : Int) ≤ 2000000000000000 := by omega
  have hsb : -2000000000000000 ≤ zs.sum ∧ zs.sum ≤ 2000000000000000 := by omega
  have hw : wrap64 (zs.sum.tdiv (n : Int)) = zs.sum.tdiv (n : Int) := by unfold wrap64; omega
  clear h1 h2 h3
  have nz : ((n : Int) == 0) = false := eqF (by omega)
  replace hr := Lib.hid hr
  replace h := Lib.hid h
  replace hl := Lib.hid hl
  replace hw := Lib.hid hw
  replace hq := Lib.hid hq
  go_enter Tryz.func69, Tryz.ntmps69
  go_wp2_with fail
  refine (all_yes A n c zs _ hn hr.out h.out).mono ?_
  rintro e w' ⟨rfl, rfl⟩
  go_wp2_with fail
  refine (total_any A n c zs _ hn hr.out h.out).mono ?_
  rintro e w' ⟨rfl, rfl⟩
  go_wp2
  go_ret2
  exact ⟨rfl, rfl⟩
theorem mean_none (A : Option Addr) (c : Nat) (w : World) :
    Calls Tryz.prog 69 #[.slice A 0 c] w fun e w' => e = .returned (.tuple #[.int .i64 0, .int .i64 7]) ∧ w = w' := by
  go_enter Tryz.func69, Tryz.ntmps69
  go_wp2
  go_ret2
  exact ⟨rfl, rfl⟩
theorem mean_bad (A : Option Addr) (n c : Nat) (zs : List Int) (w : World) (h0 : 0 < n) (hn : n ≤ maxLen) (hr : Row w A n 1 (zs.map (.int .i64))) (h : 2000 < n ∨ ¬ ∀ x ∈ zs, In x) :
    Calls Tryz.prog 69 #[.slice A n c] w fun e w' => e = .returned (.tuple #[.int .i64 0, .int .i64 1]) ∧ w = w' := by
  have nz : ((n : Int) == 0) = false := eqF (by omega)
  replace hr := Lib.hid hr
  replace h := Lib.hid h
  have hn' := hn
  unfold maxLen at hn'
  go_enter Tryz.func69, Tryz.ntmps69
  go_wp2_with fail
  refine (all_no A n c zs _ hn hr.out h.out).mono ?_
  rintro e w' ⟨rfl, rfl⟩
  go_wp2
  go_ret2
  exact ⟨rfl, rfl⟩
end Go.Proofs.YtkpmonefhpnljaaGreat
