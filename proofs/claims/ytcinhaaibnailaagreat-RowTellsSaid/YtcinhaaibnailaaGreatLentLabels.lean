/-
  Lists of Labels that are lent with a mark behind them, and whether they stay. No condition but bounds.
-/
import Derived.Test.YtcinhaaibnailaaGreatBookLabels
namespace Go.Proofs.YtcinhaaibnailaaGreat.BkL
open Go.RowKit

def LentLabels (w : World) (A : Option Addr) (n c : Nat) (zs : List Lb) : Prop := LentS bkC 2 (⟨[109, 97, 114, 107], []⟩ : Lb) w A n c zs
theorem lent_rowLabels {w : World} {A : Option Addr} {n c : Nat} {zs : List Lb} (h : LentLabels w A n c zs) : Row w A n 2 (bkR zs) := lentS_row bkC_len h
set_option maxRecDepth 100000 in
theorem staysLabels_any (A B : Option Addr) (n ca cb : Nat) (zs : List Lb) (w : World) (hn : n ≤ 100000) (hx : LentLabels w A n ca zs) (hy : Row w B n 2 (bkR zs)) :
    Calls Tryz.prog 13 #[.slice A n ca, .slice B n cb] w fun e w' => e = .returned (.bool true) ∧ Gr w w' := by
  have hs := fun W (g : Gr w W) => same_yes A B n ca cb zs W (by omega) (row_gr (lent_rowLabels hx) g) (row_gr hy g)
  obtain ⟨Bb, o, rfl, hc⟩ := lentS_mark bkC_len (by decide) hx
  have hc0 := hc 0 (by decide)
  have hcap : n + 1 ≤ ca := hx.1
  have hmx := hx.2.1
  unfold maxLen at hmx
  clear hx hy hc
  replace hs := Lib.hid hs
  go_enter Tryz.func13, Tryz.ntmps13
  go_wp2_with fail
  refine (hs.out _ (gr_refl _ _)).mono ?_
  rintro e w1 ⟨rfl, g1⟩
  have hc1 : w1.cell? ⟨Bb, o + n * 2, none⟩ = some (.string (txt [109, 97, 114, 107])) := gr_cell g1 hc0
  clear hc0
  go_wp2
  go_ret
  exact ⟨rfl, g1⟩
set_option maxRecDepth 100000 in
theorem copy0Labels (A : Option Addr) (n c : Nat) (zs : List Lb) (w : World) (hn : n ≤ 100000) (hx : Row w A n 2 (bkR zs)) :
    Calls Tryz.prog 20 #[.slice A n c] w fun e w' => ∃ v, e = .returned v ∧ w'.ownsRow w.heap.size 58 2 v n (bkR zs) ∧ Gr w w' := by
  have hl : zs.length = n := by have := hx.1; rw [bkR_len] at this; omega
  rcases Nat.eq_zero_or_pos n with h0 | h0
  · subst h0
    obtain rfl : zs = [] := List.eq_nil_of_length_eq_zero hl
    clear hx
    go_enter Tryz.func20, Tryz.ntmps20
    cases A with
    | none =>
      go_wp2
      go_ret
      exact ⟨_, rfl, ⟨rfl, .inl ⟨rfl, rfl⟩⟩, gr_refl _ _⟩
    | some ad =>
      go_wp2
      go_ret
      exact ⟨_, rfl, ⟨rfl, .inl ⟨rfl, rfl⟩⟩, gr_refl _ _⟩
  · obtain ⟨_, B, o, _, rfl, _, _⟩ := rowS_elem bkC_len hx (by decide) h0
    exact (copy_any _ n c zs w (by omega) (by simp) hx).mono (by
      rintro e w' ⟨A', c', rfl, ho, g⟩
      exact ⟨_, rfl, ho, g⟩)
set_option maxRecDepth 100000 in
theorem lentLabels_any (A : Option Addr) (n c : Nat) (zs : List Lb) (w : World) (hn : n ≤ 100000) (hx : Row w A n 2 (bkR zs)) :
    Calls Tryz.prog 7 #[.slice A n c] w fun e w' => ∃ A' c', e = .returned (.slice A' n c') ∧ LentLabels w' A' n c' zs ∧ Gr w w' := by
  have hl : zs.length = n := by have := hx.1; rw [bkR_len] at this; omega
  have hcp := copy0Labels A n c zs w hn hx
  obtain ⟨ii, hi, hz0, hz1, hz2⟩ := info_parts infoE
  replace hcp := Lib.hid hcp
  replace hx := Lib.hid hx
  go_enter Tryz.func7, Tryz.ntmps7
  go_wp2_with fail
  refine hcp.out.mono ?_
  rintro e w1 ⟨v, rfl, hown, hg⟩
  have hs := hg.size
  replace hown := Lib.hid hown
  replace hg := Lib.hid hg
  go_wp2_with (at_builtin; refine wpList_append_own _ rfl _ _ 22 rfl w.heap.size 58 ii (.agg #[.string ⟨#[]⟩, .string ⟨#[]⟩]) 2 32 Tryz.underlying22 hi hz0 hz1 hz2 rfl (by decide) v _ _ rfl (hown.out.alloc _) ⟨w1.heap.size, 0, none⟩ 1 1 (bkC (⟨[109, 97, 114, 107], []⟩ : Lb)) rfl rfl ?c1 ?c2 ?c3 ?c4 ?c5 ?_; rotate_right; intro v' W4 hown4 hgrow _nl; clear _nl; have hb4 := Lib.hid (below_append hown.out hgrow hs); clear hgrow; obtain ⟨g, c', hv, hlent⟩ := own_lentS hown4 hl; subst hv; clear hown4; have hcc : n + 1 ≤ c' := hlent.1; have hmx := hlent.2.1; unfold maxLen at hmx; replace hlent := Lib.hid hlent)
  case c1 =>
    intro j u hj
    have hjl := (List.getElem?_eq_some_iff.1 hj).1
    rw [bkC_len] at hjl
    rw [add_plain, Nat.zero_add, World.cell?_alloc_new]
    exact (show (bkC (⟨[109, 97, 114, 107], []⟩ : Lb)).toArray[j]? = some u by rw [List.getElem?_toArray]; exact hj)
  case c2 => exact bkC_ones _
  case c3 => unfold maxLen; omega
  case c4 => omega
  case c5 => simp; omega
  go_ret
  exact ⟨_, _, rfl, hlent.out, gr_of_below ((gr_below hg.out).trans hb4.out) (Nat.le_refl _)⟩
end Go.Proofs.YtcinhaaibnailaaGreat.BkL
