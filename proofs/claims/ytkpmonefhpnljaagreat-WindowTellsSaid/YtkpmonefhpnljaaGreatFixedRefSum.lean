/-
  What the ref's Sum and Mean answer. No condition.
-/
import Derived.Test.YtkpmonefhpnljaaGreatFixedSum
import Derived.Test.YtkpmonefhpnljaaGreatFixedRef
namespace Go.Proofs.YtkpmonefhpnljaaGreat
open Go.RowKit

def sumV (n : Nat) (zs : List Int) : Int × Int := if 2000 < n ∨ ¬ ∀ x ∈ zs, In x then (0, 1) else if In zs.sum then (zs.sum, 0) else (0, 4)
def meanV (n : Nat) (zs : List Int) : Int × Int := if n = 0 then (0, 7) else if 2000 < n ∨ ¬ ∀ x ∈ zs, In x then (0, 1) else (zs.sum.tdiv n, 0)

theorem part_bound {zs : List Int} (k : Nat) (hn : zs.length ≤ 2000) (h : ∀ x ∈ zs.take k, In x) : -2000000000000000 ≤ (zs.take k).sum ∧ (zs.take k).sum ≤ 2000000000000000 := by
  have h1 := sum_bound (zs.take k) 1000000000000 (by omega) (fun x hx => by have := h x hx; unfold In at this; omega)
  have h2 : (zs.take k).length ≤ 2000 := by rw [List.length_take]; omega
  omega
theorem in_more {zs : List Int} {k : Nat} {x : Int} (hx : zs[k]? = some x) (hp : ∀ x ∈ zs.take k, In x) (hin : In x) : ∀ x ∈ zs.take (k + 1), In x := by
  intro y hy
  obtain ⟨h1, h2⟩ := List.getElem?_eq_some_iff.1 hx
  rw [List.take_succ_eq_append_getElem h1, h2] at hy
  rcases List.mem_append.1 hy with hy | hy
  · exact hp y hy
  · simp at hy; subst hy; exact hin

theorem refSum_any (A : Option Addr) (n c : Nat) (zs : List Int) (w : World) (hn : n ≤ maxLen) (hr : Row w A n 1 (zs.map (.int .i64))) :
    Calls Tryz.prog 24 #[.slice A n c] w fun e w' => e = .returned (.tuple #[.int .i64 (sumV n zs).1, .int .i64 (sumV n zs).2]) ∧ w = w' := by
  unfold maxLen at hn
  have hl : zs.length = n := by simpa using hr.1
  by_cases hbig : 2000 < n
  · have hv : sumV n zs = (0, 1) := by unfold sumV; rw [if_pos (.inl hbig)]
    replace hv := Lib.hid hv
    go_enter Tryz.func24, Tryz.ntmps24
    go_wp2
    go_ret2
    exact ⟨by rw [hv.out] <;> rfl, rfl⟩
  · replace hr := Lib.hid hr
    replace hl := Lib.hid hl
    go_enter Tryz.func24, Tryz.ntmps24
    go_wp2_with fail
    go_loop [4, 5] (fun s i => ∃ (k : Nat) (S : Int), k ≤ n ∧ i = .int .i64 k ∧ s = .int .i64 S ∧ Hid (S = (zs.take k).sum) ∧ Hid (∀ x ∈ zs.take k, In x)) (fun _ i => n - (intOf i).toNat)
    case atStart => exact ⟨0, 0, Nat.zero_le _, rfl, rfl, by simp [Hid], by intro x hx; simp at hx⟩
    case round =>
      obtain ⟨k, S, hk, rfl, rfl, hS, hp⟩ := hrel
      have hb0 := part_bound k (by rw [hl.out]; omega) hp.out
      rw [← hS.out] at hb0
      by_cases hlt : k < n
      · obtain ⟨x, B, o, hx, rfl, hc⟩ := row_elem hr.out hlt
        replace hx := Lib.hid hx
        by_cases hin : In x
        · have hin' := hin
          unfold In at hin'
          go_wp2_with fail
          refine (value_yes x _ hin).mono ?_
          rintro e w' ⟨rfl, rfl⟩
          go_wp2
          go_round
          case rel => exact ⟨k + 1, S + x, by omega, by go_num, rfl, by show _ = _; rw [sum_take hx.out, hS.out], in_more hx.out hp.out hin⟩
          case measure => simp [intOf]; omega
        · have hv : sumV n zs = (0, 1) := by unfold sumV; rw [if_pos (.inr fun h => hin (h x (List.mem_of_getElem? hx.out)))]
          replace hv := Lib.hid hv
          go_wp2_with fail
          refine (value_no x _ hin).mono ?_
          rintro e w' ⟨rfl, rfl⟩
          go_wp2
          go_ret2
          exact ⟨by rw [hv.out] <;> rfl, rfl⟩
      · obtain rfl : k = n := by omega
        have hfin := hS.out
        have hp' := hp.out
        rw [List.take_of_length_le (by rw [hl.out]; exact Nat.le_refl _)] at hfin hp'
        clear hS hp
        by_cases hs : In zs.sum
        · have hv : sumV k zs = (zs.sum, 0) := by unfold sumV; rw [if_neg (by simp [hbig]; exact hp'), if_pos hs]
          replace hv := Lib.hid hv
          rw [← hfin] at hs
          replace hfin := Lib.hid hfin
          replace hp' := Lib.hid hp'
          go_wp2_with fail
          refine (value_yes S _ hs).mono ?_
          rintro e w' ⟨rfl, rfl⟩
          go_wp2
          go_ret2
          exact ⟨by rw [hv.out, ← hfin.out] <;> rfl, rfl⟩
        · have hv : sumV k zs = (0, 4) := by unfold sumV; rw [if_neg (by simp [hbig]; exact hp'), if_neg hs]
          replace hv := Lib.hid hv
          rw [← hfin] at hs
          replace hfin := Lib.hid hfin
          replace hp' := Lib.hid hp'
          go_wp2_with fail
          refine (value_no S _ hs).mono ?_
          rintro e w' ⟨rfl, rfl⟩
          go_wp2
          go_ret2
          exact ⟨by rw [hv.out] <;> rfl, rfl⟩

theorem refMean_any (A : Option Addr) (n c : Nat) (zs : List Int) (w : World) (hn : n ≤ maxLen) (hr : Row w A n 1 (zs.map (.int .i64))) :
    Calls Tryz.prog 25 #[.slice A n c] w fun e w' => e = .returned (.tuple #[.int .i64 (meanV n zs).1, .int .i64 (meanV n zs).2]) ∧ w = w' := by
  unfold maxLen at hn
  have hl : zs.length = n := by simpa using hr.1
  rcases Nat.eq_zero_or_pos n with h0 | h0
  · subst h0
    have hv : meanV 0 zs = (0, 7) := rfl
    replace hv := Lib.hid hv
    go_enter Tryz.func25, Tryz.ntmps25
    go_wp2
    go_ret2
    exact ⟨by rw [hv.out] <;> rfl, rfl⟩
  · have nz : ((n : Int) == 0) = false := eqF (by omega)
    replace hr := Lib.hid hr
    replace hl := Lib.hid hl
    go_enter Tryz.func25, Tryz.ntmps25
    go_wp2_with fail
    go_loopw [4, 5] (fun s i wr => ∃ (k : Nat) (S : Int), wr = w ∧ k ≤ n ∧ i = .int .i64 k ∧ s = .int .i64 S ∧ Hid (S = (zs.take k).sum) ∧ Hid (∀ x ∈ zs.take k, In x) ∧ Hid (0 < k → n ≤ 2000)) (fun _ i _ => n - (intOf i).toNat)
    case atStart => exact ⟨0, 0, rfl, Nat.zero_le _, rfl, rfl, by simp [Hid], by intro x hx; simp at hx, by intro h; omega⟩
    case round =>
      obtain ⟨k, S, rfl, hk, rfl, rfl, hS, hp, hz⟩ := hrel
      by_cases hlt : k < n
      · obtain ⟨x, B, o, hx, rfl, hc⟩ := row_elem hr.out hlt
        replace hx := Lib.hid hx
        by_cases hin : In x
        · by_cases hbig : 2000 < n
          · have hv : meanV n zs = (0, 1) := by unfold meanV; rw [if_neg (by omega), if_pos (.inl hbig)]
            replace hv := Lib.hid hv
            go_wp2_with fail
            refine (value_yes x _ hin).mono ?_
            rintro e w' ⟨rfl, rfl⟩
            go_wp2
            go_ret2
            exact ⟨by rw [hv.out] <;> rfl, rfl⟩
          · have hb0 := part_bound k (by rw [hl.out]; omega) hp.out
            rw [← hS.out] at hb0
            have hin' := hin
            unfold In at hin'
            go_wp2_with fail
            refine (value_yes x _ hin).mono ?_
            rintro e w' ⟨rfl, rfl⟩
            go_wp2
            go_roundw
            case rel => exact ⟨k + 1, S + x, trivial, by omega, by go_num, rfl, by show _ = _; rw [sum_take hx.out, hS.out], in_more hx.out hp.out hin, by intro _; omega⟩
            case measure => simp [intOf]; omega
        · have hv : meanV n zs = (0, 1) := by unfold meanV; rw [if_neg (by omega), if_pos (.inr fun h => hin (h x (List.mem_of_getElem? hx.out)))]
          replace hv := Lib.hid hv
          go_wp2_with fail
          refine (value_no x _ hin).mono ?_
          rintro e w' ⟨rfl, rfl⟩
          go_wp2
          go_ret2
          exact ⟨by rw [hv.out] <;> rfl, rfl⟩
      · obtain rfl : k = n := by omega
        have hbig := hz.out h0
        have hb0 := part_bound k (by rw [hl.out]; omega) hp.out
        rw [← hS.out] at hb0
        have hfin := hS.out
        have hp' := hp.out
        rw [List.take_of_length_le (by rw [hl.out]; exact Nat.le_refl _)] at hfin hp'
        clear hS hp hz
        have hv : meanV k zs = (zs.sum.tdiv k, 0) := by unfold meanV; rw [if_neg (by omega), if_neg (by simp [show ¬ 2000 < k by omega]; exact hp')]
        replace hv := Lib.hid hv
        have h2 : (S.tdiv (k : Int)).natAbs = S.natAbs / (k : Int).natAbs := Int.natAbs_tdiv _ _
        have h3 : S.natAbs / (k : Int).natAbs ≤ S.natAbs := Nat.div_le_self _ _
        have hw : wrap64 (S.tdiv (k : Int)) = S.tdiv (k : Int) := by unfold wrap64; omega
        clear h2 h3
        replace hfin := Lib.hid hfin
        replace hp' := Lib.hid hp'
        go_wp2
        go_ret2
        exact ⟨by rw [hv.out, ← hfin.out] <;> rfl, rfl⟩
end Go.Proofs.YtkpmonefhpnljaaGreat
