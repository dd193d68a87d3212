/-
  What window.numbers, least, most, many and last answer. No condition but a bound on the length.
-/
import Derived.Test.YtkpmonefhpnljaaGreatWinAlive
import Derived.Test.YtkpmonefhpnljaaGreatShelf
namespace Go.Proofs.YtkpmonefhpnljaaGreat
open Go.RowKit

def nums (zs : List (Int × Int)) : List Int := zs.map (·.2)
def NumsPost (n : Nat) (zs : List (Int × Int)) (w : World) (e : Ending) (w' : World) : Prop := ∃ A c, e = .returned (.slice A n c) ∧ Row w' A n 1 ((nums zs).map (.int .i64)) ∧ Gr w w'
set_option maxHeartbeats 2000000 in
set_option maxRecDepth 100000 in
theorem numbers_any (A : Option Addr) (n c : Nat) (zs : List (Int × Int)) (w : World) (hn : n ≤ 1000) (hr : PtRow w A n zs) :
    Calls Tryz.prog 21 #[.slice A n c] w (NumsPost n zs w) := by
  have hl := pt_len hr
  obtain ⟨ii, hi, hz0, hz1, hz2⟩ := info_parts infoInt
  replace hl := Lib.hid hl
  replace hr := Lib.hid hr
  go_enter Tryz.func21, Tryz.ntmps21
  go_wp2
  go_loopw [3, 8] (fun ov i wr => ∃ k : Nat, k ≤ n ∧ i = .int .i64 k ∧ Hid (wr.ownsRow w.heap.size 3 1 ov k ((nums (zs.take k)).map (.int .i64))) ∧ Hid (Below w.heap.size w wr)) (fun _ i _ => n - (intOf i).toNat)
  case atStart => exact ⟨0, Nat.zero_le _, rfl, World.ownsRow_nil _ _ _ _, Below.refl _ _⟩
  case round =>
    obtain ⟨k, hk, rfl, hown, hbel⟩ := hrel
    have hs := hbel.out.size
    by_cases hlt : k < n
    · obtain ⟨⟨T, V⟩, B, o, hx, rfl, hB, hc1, hc2⟩ := pt_elem (pt_gr hr.out (gr_of_below hbel.out (Nat.le_refl _))) hlt
      have hki : (k : Int) < (n : Int) := by omega
      have hnx : nums (zs.take (k + 1)) = nums (zs.take k) ++ [V] := by
        obtain ⟨h1, h2⟩ := List.getElem?_eq_some_iff.1 hx
        unfold nums
        rw [List.take_succ_eq_append_getElem h1, h2, List.map_append]
        rfl
      replace hnx := Lib.hid hnx
      replace hx := Lib.hid hx
      go_wp2_with (at_builtin; refine wpList_append_own _ rfl _ _ 57 rfl w.heap.size 3 ii (.int .i64 0) 1 8 Tryz.underlying57 hi hz0 hz1 hz2 rfl (by decide) u3 _ _ rfl ((hown.out.alloc _).alloc _) ⟨wr.heap.size + 1, 0, none⟩ 1 1 [.int .i64 V] rfl rfl ?c1 ?c2 ?c3 ?c4 ?c5 ?_; rotate_right; intro v' W4 hown4 hgrow _nl; clear _nl; have hb4 := (below_gr hbel.out (gr_alloc wr _ none) hs (by simp)).trans (below_append (hown.out.alloc _) hgrow (by simp; omega)); clear hgrow; replace hown4 := Lib.hid hown4; replace hb4 := Lib.hid hb4)
      case c2 => simp [Value.oneCell']
      case c3 => unfold maxLen; omega
      case c4 => omega
      case c5 => omega
      go_roundw
      case rel => exact ⟨k + 1, by omega, by go_num, by rw [hnx.out, List.map_append]; exact hown4.out, hb4.out⟩
      case measure => simp [intOf]; omega
    · obtain rfl : k = n := by omega
      have ho := hown.out
      rw [List.take_of_length_le (Nat.le_of_eq hl.out)] at ho
      replace ho := Lib.hid ho
      go_wp2
      go_ret
      obtain ⟨AA, cc, rfl, hxl, hxs⟩ := own_open ho.out
      exact ⟨AA, cc, rfl, row_own ho.out, gr_of_below hbel.out (Nat.le_refl _)⟩
theorem many_any (A : Option Addr) (n c : Nat) (w : World) : Calls Tryz.prog 72 #[.slice A n c] w fun e w' => e = .returned (.int .i64 n) ∧ w = w' := by
  go_enter Tryz.func72, Tryz.ntmps72
  go_wp2
  go_ret
  exact ⟨rfl, rfl⟩
theorem lastI_any (A : Option Addr) (n c : Nat) (zs : List Int) (w : World) (hn : n ≤ 1000) (h0 : 0 < n) (hr : Row w A n 1 (zs.map (.int .i64))) : Calls Tryz.prog 73 #[.slice A n c] w fun e w' => e = .returned (.int .i64 (zs.getD (n - 1) 0)) ∧ w = w' := by
  obtain ⟨m, rfl⟩ : ∃ m, n = m + 1 := ⟨n - 1, by omega⟩
  obtain ⟨x, B, o, hx, rfl, hc⟩ := row_elem hr (k := m) (by omega)
  have hv : zs.getD (m + 1 - 1) 0 = x := by rw [Nat.add_sub_cancel, List.getD_eq_getElem?_getD, hx]; rfl
  rw [hv]
  replace hv := Lib.hid hv
  replace hx := Lib.hid hx
  have hB := (hr.2 m (.int .i64 x) (by simp [hx.out]))
  clear hB hr
  go_enter Tryz.func73, Tryz.ntmps73
  go_wp2
  go_ret
  exact ⟨rfl, rfl⟩
theorem row_all {w : World} {A : Option Addr} {n : Nat} {zs : List Int} (hr : Row w A n 1 (zs.map (.int .i64))) (h0 : 0 < n) : ∃ B o, A = some ⟨B, o, none⟩ ∧ ∀ j, j < zs.length → w.cell? ⟨B, o + j, none⟩ = some (.int .i64 (zs.getD j 0)) := by
  have hl : zs.length = n := by simpa using hr.1
  obtain ⟨_, B, o, _, rfl, _⟩ := row_elem hr h0
  refine ⟨B, o, rfl, fun j hj => ?_⟩
  obtain ⟨x, B', o', hx, e, hc⟩ := row_elem hr (k := j) (by omega)
  have e2 := Option.some.inj e
  injection e2 with e3 e4
  subst e3 e4
  rw [hc, List.getD_eq_getElem?_getD, hx]
  rfl
theorem least_any (A : Option Addr) (n c : Nat) (zs : List Int) (w : World) (hn : n ≤ 1000) (h0 : 0 < n) (hr : Row w A n 1 (zs.map (.int .i64))) : Calls Tryz.prog 70 #[.slice A n c] w fun e w' => e = .returned (.int .i64 (Lib.minOf zs)) ∧ w = w' := by
  have hl : zs.length = n := by simpa using hr.1
  obtain ⟨B, o, rfl, hc⟩ := row_all hr h0
  have cM := Tryz.slices_Min_int B o n c zs w h0 (by omega) (by omega) hc
  rw [List.take_of_length_le (by omega)] at cM
  replace cM := Lib.hid cM
  clear hc hr hl
  go_enter Tryz.func70, Tryz.ntmps70
  go_wp2_with fail
  refine cM.out.mono ?_
  rintro e w2 ⟨rfl, rfl⟩
  go_wp2
  go_ret
  exact ⟨rfl, rfl⟩
theorem most_any (A : Option Addr) (n c : Nat) (zs : List Int) (w : World) (hn : n ≤ 1000) (h0 : 0 < n) (hr : Row w A n 1 (zs.map (.int .i64))) : Calls Tryz.prog 71 #[.slice A n c] w fun e w' => e = .returned (.int .i64 (Lib.maxOf zs)) ∧ w = w' := by
  have hl : zs.length = n := by simpa using hr.1
  obtain ⟨B, o, rfl, hc⟩ := row_all hr h0
  have cM := Tryz.slices_Max_int B o n c zs w h0 (by omega) (by omega) hc
  rw [List.take_of_length_le (by omega)] at cM
  replace cM := Lib.hid cM
  clear hc hr hl
  go_enter Tryz.func71, Tryz.ntmps71
  go_wp2_with fail
  refine cM.out.mono ?_
  rintro e w2 ⟨rfl, rfl⟩
  go_wp2
  go_ret
  exact ⟨rfl, rfl⟩
end Go.Proofs.YtkpmonefhpnljaaGreat
