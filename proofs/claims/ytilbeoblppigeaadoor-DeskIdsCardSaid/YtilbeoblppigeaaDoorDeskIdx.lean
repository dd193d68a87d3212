/-
  slices.IndexFunc of cursors at the desk's own test; slices.Index and Contains of ints. No condition but the row's own.
-/
import Derived.Test.YtilbeoblppigeaaDoorRowMore
import Derived.Test.YtilbeoblppigeaaDoorDeskMath
namespace Go.Proofs.YtilbeoblppigeaaDoor
open Go.RowKit

/-- Where the first of them is. -/
def IdxP (p : Cur → Bool) (zs : List Cur) (r : Int) : Prop := (r = -1 ∧ ∀ y ∈ zs, p y = false) ∨ ∃ (k : Nat) (x : Cur), r = k ∧ zs[k]? = some x ∧ p x = true ∧ ∀ y ∈ zs.take k, p y = false
theorem take_step {α : Type} {zs : List α} {k : Nat} {x : α} (h : zs[k]? = some x) : zs.take (k + 1) = zs.take k ++ [x] := by
  obtain ⟨h1, h2⟩ := List.getElem?_eq_some_iff.1 h
  rw [List.take_succ_eq_append_getElem h1, h2]
theorem all_step {α : Type} {p : α → Bool} {zs : List α} {k : Nat} {x : α} (h : zs[k]? = some x) (ha : ∀ y ∈ zs.take k, p y = false) (hx : p x = false) : ∀ y ∈ zs.take (k + 1), p y = false := by
  rw [take_step h]
  intro y hy
  rcases List.mem_append.1 hy with hy | hy
  · exact ha y hy
  · rw [List.mem_singleton.1 hy]; exact hx
set_option maxHeartbeats 4000000 in
set_option maxRecDepth 100000 in
theorem didx_desk (H : World → Prop) (p : Cur → Bool) (cv : Value) (hp : ∀ x W, H W → Calls Tryd.prog 47 #[curV x, cv] W fun e W' => e = .returned (.bool (p x)) ∧ Gr W W') (hH : ∀ W W', H W → Gr W W' → H W')
    (A : Option Addr) (n c : Nat) (zs : List Cur) (w : World) (hr : Row w A n 5 (sR curC zs)) (hn : n ≤ 9223372036854775807) (hw : H w) :
    Calls Tryd.prog 46 #[.slice A n c, .func (.func 47) #[] #[cv]] w fun e w' => (∃ r, e = .returned (.int .i64 r) ∧ IdxP p zs r) ∧ Gr w w' := by
  have hl : zs.length = n := by have := hr.1; rw [sR_len curC 5 curC_len] at this; omega
  unfold curV at hp
  replace hr := Lib.hid hr
  replace hw := Lib.hid hw
  replace hp := Lib.hid hp
  replace hH := Lib.hid hH
  replace hl := Lib.hid hl
  go_enter Tryd.func46, Tryd.ntmps46
  go_wp2
  go_loopw [8] (fun i wr => ∃ k : Nat, k ≤ n ∧ i = .int .i64 k ∧ Hid (∀ y ∈ zs.take k, p y = false) ∧ Hid (Gr w wr)) (fun i _ => n - (intOf i).toNat)
  case atStart => exact ⟨0, Nat.zero_le _, rfl, by show ∀ y ∈ zs.take 0, _; simp, gr_refl _ _⟩
  case round =>
    obtain ⟨k, hk, rfl, hno, hg⟩ := hrel
    by_cases hlt : k < n
    · obtain ⟨x, B, o, hx, rfl, _, hc⟩ := rowS_elem curC_len (row_gr hr.out hg.out) (by decide) hlt
      have hki : (k : Int) < (n : Int) := by omega
      have hk0 : (0 : Int) ≤ (k : Int) := by omega
      have d0 : wr.cell? ⟨B, o + k * 5, none⟩ = some (.int .i64 x.id) := hc 0 (by decide)
      have d1 : wr.cell? ⟨B, o + k * 5 + 1, none⟩ = some (.int .i64 x.rows) := hc 1 (by decide)
      have d2 : wr.cell? ⟨B, o + k * 5 + 2, none⟩ = some (.int .i64 x.size) := hc 2 (by decide)
      have d3 : wr.cell? ⟨B, o + k * 5 + 3, none⟩ = some (.int .i64 x.tl) := hc 3 (by decide)
      have d4 : wr.cell? ⟨B, o + k * 5 + 4, none⟩ = some (.string (txt x.file)) := hc 4 (by decide)
      clear hc
      go_wp2_with fail
      refine (hp.out x _ (hH.out _ _ hw.out hg.out)).mono ?_
      rintro e W2 ⟨rfl, g2⟩
      replace g2 := Lib.hid g2
      replace hx := Lib.hid hx
      cases hpx : p x with
      | true =>
        go_wp2
        go_ret
        exact ⟨⟨_, rfl, .inr ⟨k, x, rfl, hx.out, hpx, hno.out⟩⟩, gr_trans hg.out g2.out⟩
      | false =>
        go_wp2
        go_roundw
        case rel => exact ⟨k + 1, by omega, by go_num, all_step hx.out hno.out hpx, gr_trans hg.out g2.out⟩
        case measure => simp [intOf]; omega
    · obtain rfl : k = n := by omega
      go_wp2
      go_ret
      exact ⟨⟨_, rfl, .inl ⟨rfl, by have := hno.out; rwa [← hl.out, List.take_length] at this⟩⟩, hg.out⟩
set_option maxRecDepth 100000 in
theorem pdesk_any (x : Cur) (b : Nat) (v : Int) (W : World) (h : W.cell? ⟨b, 0, none⟩ = some (.int .i64 v)) : Calls Tryd.prog 47 #[curV x, .pointer (some ⟨b, 0, none⟩)] W fun e W' => e = .returned (.bool (x.id == v)) ∧ Gr W W' := by
  unfold curV
  have h2 := gr_cell (gr_alloc W (.cells #[.int .i64 x.id, .int .i64 x.rows, .int .i64 x.size, .int .i64 x.tl, .string (txt x.file)] 30) none) h
  go_enter Tryd.func47, Tryd.ntmps47
  go_wp2
  go_ret
  exact ⟨rfl, gr_alloc _ _ _⟩

theorem not_step {v y : Int} {xs : List Int} {k : Nat} (h : xs[k]? = some y) (hno : v ∉ xs.take k) (hne : ¬ v = y) : v ∉ xs.take (k + 1) := by
  rw [take_step h]
  intro hm
  rcases List.mem_append.1 hm with hm | hm
  · exact hno hm
  · exact hne (List.mem_singleton.1 hm)
def IntIdx (v : Int) (xs : List Int) (r : Int) : Prop := (r = -1 ∧ v ∉ xs) ∨ ∃ k : Nat, r = k ∧ xs[k]? = some v
set_option maxHeartbeats 4000000 in
set_option maxRecDepth 100000 in
theorem index_any (v : Int) (A : Option Addr) (n c : Nat) (xs : List Int) (w : World) (hr : Row w A n 1 (xs.map (.int .i64))) (hn : n ≤ 9223372036854775807) :
    Calls Tryd.prog 48 #[.slice A n c, .int .i64 v] w fun e w' => (∃ r, e = .returned (.int .i64 r) ∧ IntIdx v xs r) ∧ Gr w w' := by
  have hl : xs.length = n := by have := hr.1; simpa using this
  replace hr := Lib.hid hr
  replace hl := Lib.hid hl
  go_enter Tryd.func48, Tryd.ntmps48
  go_wp2
  go_loopw [8] (fun i wr => ∃ k : Nat, k ≤ n ∧ i = .int .i64 k ∧ Hid (v ∉ xs.take k) ∧ Hid (Gr w wr)) (fun i _ => n - (intOf i).toNat)
  case atStart => exact ⟨0, Nat.zero_le _, rfl, by show v ∉ xs.take 0; simp, gr_refl _ _⟩
  case round =>
    obtain ⟨k, hk, rfl, hno, hg⟩ := hrel
    by_cases hlt : k < n
    · obtain ⟨y, B, o, hy, rfl, hc⟩ := row_elem (row_gr hr.out hg.out) hlt
      have hki : (k : Int) < (n : Int) := by omega
      have hk0 : (0 : Int) ≤ (k : Int) := by omega
      replace hy := Lib.hid hy
      by_cases hyv : v = y
      · subst hyv
        go_wp2
        go_ret
        exact ⟨⟨_, rfl, .inr ⟨k, rfl, hy.out⟩⟩, hg.out⟩
      · have hyv2 : (v == y) = false := by simpa using hyv
        go_wp2
        go_roundw
        case rel => exact ⟨k + 1, by omega, by go_num, not_step hy.out hno.out hyv, hg.out⟩
        case measure => simp [intOf]; omega
    · obtain rfl : k = n := by omega
      go_wp2
      go_ret
      exact ⟨⟨_, rfl, .inl ⟨rfl, by have := hno.out; rwa [← hl.out, List.take_length] at this⟩⟩, hg.out⟩
set_option maxHeartbeats 4000000 in
set_option maxRecDepth 100000 in
theorem contains_any (v : Int) (A : Option Addr) (n c : Nat) (xs : List Int) (w : World) (hr : Row w A n 1 (xs.map (.int .i64))) (hn : n ≤ 9223372036854775807) :
    Calls Tryd.prog 26 #[.slice A n c, .int .i64 v] w fun e w' => e = .returned (.bool (decide (v ∈ xs))) ∧ Gr w w' := by
  have cI := index_any v A n c xs w hr hn
  clear hr
  go_enter Tryd.func26, Tryd.ntmps26
  go_wp2_with fail
  refine cI.mono ?_
  rintro e w1 ⟨⟨r, rfl, hix⟩, g1⟩
  clear cI
  have hd : decide (0 ≤ r) = decide (v ∈ xs) := by
    rcases hix with ⟨rfl, h⟩ | ⟨k, rfl, h⟩
    · simp [h]
    · have h2 := List.mem_of_getElem? h
      simp [h2]
  clear hix
  go_wp2
  go_ret
  exact ⟨by simp [hd], g1⟩
end Go.Proofs.YtilbeoblppigeaaDoor
