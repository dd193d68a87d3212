/-
  What the book's LentInts and StaysInts do: a copy with a mark behind it; is it as it was? No condition but a bound on the length.
-/
import Derived.Test.YtoickcaccielkaaSameInts
import Derived.Maps.AppendAt
namespace Go.Proofs.Ytoickcaccielkaa
open Go.RowKit

theorem infoInt' : (Try.prog.info? 3).map (fun i => (i.zero, i.size, i.bytes)) = some (some (.int .i64 0), 1, 8) := by kernel_rfl
/-- A row of ints with the mark behind its length. -/
def Lent (w : World) (A : Option Addr) (n c : Nat) (xs : List Int) : Prop := n < c ∧ c ≤ maxLen ∧ Row w A (n + 1) 1 ((xs ++ [-77]).map (.int .i64)) ∧ xs.length = n

theorem row_head {w : World} {A : Option Addr} {n m : Nat} {xs ys : List Value} (h : Row w A (n + m) 1 (xs ++ ys)) (hn : xs.length = n) : Row w A n 1 xs :=
  ⟨by simp [hn], fun j u hj => h.2 j u (by rw [List.getElem?_append_left (List.getElem?_eq_some_iff.1 hj).1]; exact hj)⟩
theorem lent_row {w : World} {A : Option Addr} {n c : Nat} {xs : List Int} (h : Lent w A n c xs) : Row w A n 1 (xs.map (.int .i64)) :=
  row_head (ys := [.int .i64 (-77)]) (by have := h.2.2.1; rw [List.map_append] at this; exact this) (by simp [h.2.2.2])
theorem lent_gr {w w' : World} {A : Option Addr} {n c : Nat} {xs : List Int} (h : Lent w A n c xs) (g : Gr w w') : Lent w' A n c xs := ⟨h.1, h.2.1, row_gr h.2.2.1 g, h.2.2.2⟩
theorem lent_mark {w : World} {A : Option Addr} {n c : Nat} {xs : List Int} (h : Lent w A n c xs) : ∃ B o, A = some ⟨B, o, none⟩ ∧ w.cell? ⟨B, o + n, none⟩ = some (.int .i64 (-77)) := by
  obtain ⟨B, o, e, _, hc⟩ := h.2.2.1.2 n (.int .i64 (-77)) (by rw [List.map_append, List.getElem?_append_right (by simp [h.2.2.2])]; simp [h.2.2.2])
  exact ⟨B, o, e, hc⟩

theorem staysInts_any (A B : Option Addr) (n ca cb : Nat) (xs : List Int) (w : World) (hn : n ≤ 1000000) (hx : Lent w A n ca xs) (hy : Row w B n 1 (xs.map (.int .i64))) :
    Calls Try.prog 22 #[.slice A n ca, .slice B n cb] w fun e w' => e = .returned (.bool true) ∧ Gr w w' := by
  have hs := fun W (g : Gr w W) => sameInts_any A B n n ca cb xs xs W (by unfold maxLen; omega) (by unfold maxLen; omega) (row_gr (lent_row hx) g) (row_gr hy g)
  obtain ⟨Bb, o, rfl, hc⟩ := lent_mark hx
  have hcap : n + 1 ≤ ca := hx.1
  have hmx := hx.2.1
  unfold maxLen at hmx
  replace hx := Lib.hid hx
  replace hy := Lib.hid hy
  replace hs := Lib.hid hs
  go_enter Try.func22, Try.ntmps22
  go_wp2_with fail
  refine (hs.out _ (gr_refl _ _)).mono ?_
  rintro e w1 ⟨rfl, g1⟩
  have hd : decide (xs = xs) = true := by simp
  have hc1 := gr_cell g1 hc
  go_wp2
  go_ret
  exact ⟨rfl, g1⟩

theorem copyInts_any (A : Option Addr) (n c : Nat) (xs : List Int) (w : World) (hn : n ≤ 1000000) (hx : Row w A n 1 (xs.map (.int .i64))) :
    Calls Try.prog 32 #[.slice A n c] w fun e w' => ∃ v, e = .returned v ∧ w'.ownsRow w.heap.size 3 1 v n (xs.map (.int .i64)) ∧ Gr w w' := by
  have hl : xs.length = n := by simpa using hx.1
  rcases Nat.eq_zero_or_pos n with h0 | h0
  · subst h0
    obtain rfl : xs = [] := List.eq_nil_of_length_eq_zero hl
    clear hx
    go_enter Try.func32, Try.ntmps32
    cases A with
    | none =>
      go_wp2
      go_ret
      exact ⟨_, rfl, ⟨rfl, .inl ⟨rfl, rfl⟩⟩, gr_refl _ _⟩
    | some ad =>
      go_wp2
      go_ret
      exact ⟨_, rfl, ⟨rfl, .inl ⟨rfl, rfl⟩⟩, gr_refl _ _⟩
  · obtain ⟨ii, hi, hz0, hz1, hz2⟩ := info_parts infoInt'
    obtain ⟨x0, hx0⟩ : ∃ x, (xs.map (Value.int .i64))[0]? = some x := ⟨_, List.getElem?_eq_getElem (by simp [hl]; omega)⟩
    obtain ⟨B, o, rfl, _, _⟩ := hx.2 0 x0 hx0
    replace hx := Lib.hid hx
    have hnil : w.ownsRow w.heap.size 3 1 (.slice none 0 0) 0 [] := ⟨rfl, .inl ⟨rfl, rfl⟩⟩
    go_enter Try.func32, Try.ntmps32
    go_wp2_with (at_builtin; refine wpList_append_own _ rfl _ _ 30 rfl w.heap.size 3 ii (.int .i64 0) 1 8 Try.underlying30 hi hz0 hz1 hz2 rfl (by decide) _ 0 [] rfl hnil ⟨B, o, none⟩ n c (xs.map (.int .i64)) rfl ?c1 ?c2 ?c3 ?c4 ?c5 ?c6 ?_; rotate_right; intro v' W4 hown4 hgrow _nl; clear _nl; replace hown4 := Lib.hid hown4; replace hgrow := Lib.hid hgrow)
    case c1 => simp [hl]
    case c2 =>
      intro j u hu
      obtain ⟨B', o', e, _, hc⟩ := hx.out.2 j u hu
      simp only [Option.some.injEq, Addr.mk.injEq] at e
      obtain ⟨rfl, rfl, _⟩ := e
      rw [Addr.add_lit]
      exact hc
    case c3 =>
      intro u hu
      obtain ⟨z, _, rfl⟩ := List.mem_map.1 hu
      rfl
    case c4 => unfold maxLen; omega
    case c5 => omega
    case c6 => exact Nat.le_refl _
    go_ret
    refine ⟨_, rfl, ?_, hgrow.out⟩
    have := hown4.out
    rw [Nat.zero_add, List.nil_append] at this
    exact this

theorem own_lent {w : World} {base n : Nat} {v : Value} {xs : List Int} (h : w.ownsRow base 3 1 v (n + 1) (xs.map (.int .i64) ++ [.int .i64 (-77)])) (hl : xs.length = n) :
    ∃ g c, v = .slice (some ⟨g, 0, none⟩) (n + 1) c ∧ Lent w (some ⟨g, 0, none⟩) n c xs := by
  rcases h.2 with ⟨_, h0⟩ | ⟨g, cap, cur, rfl, hg, hh, hn, hc, hs, hx⟩
  · omega
  · exact ⟨g, cap, rfl, by omega, hc, by rw [List.map_append]; exact row_own h, hl⟩

theorem lentInts_any (A : Option Addr) (n c : Nat) (xs : List Int) (w : World) (hn : n ≤ 1000000) (hx : Row w A n 1 (xs.map (.int .i64))) :
    Calls Try.prog 17 #[.slice A n c] w fun e w' => ∃ A' c', e = .returned (.slice A' n c') ∧ Lent w' A' n c' xs ∧ Gr w w' := by
  have hl : xs.length = n := by simpa using hx.1
  have hcp := copyInts_any A n c xs w hn hx
  obtain ⟨ii, hi, hz0, hz1, hz2⟩ := info_parts infoInt'
  replace hcp := Lib.hid hcp
  replace hx := Lib.hid hx
  go_enter Try.func17, Try.ntmps17
  go_wp2_with fail
  refine hcp.out.mono ?_
  rintro e w1 ⟨v, rfl, hown, hg⟩
  have hs := hg.size
  replace hown := Lib.hid hown
  replace hg := Lib.hid hg
  go_wp2_with (at_builtin; refine wpList_append_own _ rfl _ _ 30 rfl w.heap.size 3 ii (.int .i64 0) 1 8 Try.underlying30 hi hz0 hz1 hz2 rfl (by decide) v _ _ rfl (hown.out.alloc _) ⟨w1.heap.size, 0, none⟩ 1 1 [.int .i64 (-77)] rfl rfl ?c1 ?c2 ?c3 ?c4 ?c5 ?_; rotate_right; intro v' W4 hown4 hgrow _nl; clear _nl; have hb4 := Lib.hid (below_append hown.out hgrow hs); clear hgrow; obtain ⟨g, c', hv, hlent⟩ := own_lent hown4 hl; subst hv; clear hown4; have hcc : n + 1 ≤ c' := hlent.1; have hmx := hlent.2.1; unfold maxLen at hmx; replace hlent := Lib.hid hlent)
  case c1 => exact cell_one_new _ _ _
  case c2 => simp [Value.oneCell']
  case c3 => unfold maxLen; omega
  case c4 => omega
  case c5 => simp; omega
  go_ret
  exact ⟨_, _, rfl, hlent.out, gr_of_below ((gr_below hg.out).trans hb4.out) (Nat.le_refl _)⟩
end Go.Proofs.Ytoickcaccielkaa
