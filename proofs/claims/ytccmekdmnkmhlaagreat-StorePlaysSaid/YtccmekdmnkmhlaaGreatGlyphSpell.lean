/-
  What glyph.Spell, the document's Spell and glyph.Count answer. No condition but a bound on the length. (soft)
-/
import Derived.Test.YtccmekdmnkmhlaaGreatIterAid
import Derived.Test.YtccmekdmnkmhlaaGreatProg
namespace Go.Proofs.YtccmekdmnkmhlaaGreat
open Go.RowKit

theorem infoRune : (Tryz.prog.info? 21).map (fun i => (i.zero, i.size, i.bytes)) = some (some (.int .i32 0), 1, 4) := by kernel_rfl
def runeV (c : Nat × List UInt8) : Value := .int .i32 (c.1 : Nat)
def SpellPost (l : List UInt8) (w : World) (e : Ending) (w' : World) : Prop :=
  ∃ v, e = .returned v ∧ w'.ownsRow w.heap.size 21 1 v (chunks l).length ((chunks l).map runeV) ∧ Gr w w'

set_option maxHeartbeats 1000000 in
theorem spell_any (l : List UInt8) (w : World) (hl : l.length ≤ 10000000000000) : Calls Tryz.prog 133 #[.string (txt l)] w (SpellPost l w) := by
  obtain ⟨ii, hi, hz0, hz1, hz2⟩ := info_parts infoRune
  have it0 := it_new w (txt l)
  have bel0 := gr_below (it_new_gr w (txt l) none)
  replace it0 := Lib.hid it0
  go_enter Tryz.func133, Tryz.ntmps133
  go_wp2
  go_loopw [3] (fun o wr => ∃ (p : Nat) (done : List (Nat × List UInt8)), p ≤ l.length ∧ Hid (chunks l = done ++ chunks (l.drop p)) ∧ Hid (wr.ownsRow w.heap.size 21 1 o done.length (done.map runeV)) ∧ Hid (It wr w.heap.size (txt l) p) ∧ Hid (Below w.heap.size w wr)) (fun _ wr => l.length - wr.iterPos w.heap.size)
  case atStart => exact ⟨0, [], Nat.zero_le _, rfl, World.ownsRow_nil _ _ _ _, it0, bel0⟩
  case round =>
    obtain ⟨p, done, hp, hch, hown, hit, hbel⟩ := hrel
    by_cases hlt : p < l.length
    · obtain ⟨r, k, b, hR⟩ := round_at hch.out hlt
      have hn := fun ty => next_round (P := Tryz.prog) hR hit.out ty
      have hit2 := it_step hit.out (p + k)
      have hown2 := own_it hown.out hit.out (p + k)
      have hbel2 := below_gr hbel.out (it_gr wr w.heap.size (txt l) (p + k)) hbel.out.size (by intro q hq; cases hq; exact Nat.le_refl _)
      have hdl := done_len hch.out
      have hfit := hR.fits
      have hw1 := hR.width
      generalize itW wr w.heap.size (txt l) (p + k) = W2 at hn hit2 hbel2 hown2
      have hpos := it_pos hit.out
      have hbs := hbel2.size
      replace hpos := Lib.hid hpos
      replace hit2 := Lib.hid hit2
      replace hown2 := Lib.hid hown2
      replace hR := Lib.hid hR
      replace hbel2 := Lib.hid hbel2
      clear hbel hit hown
      go_wp2_with (at_builtin; refine wpList_append_own _ rfl _ _ 123 rfl w.heap.size 21 ii (.int .i32 0) 1 4 Tryz.underlying123 hi hz0 hz1 hz2 rfl (by decide) u3 _ _ rfl (hown2.out.alloc _) ⟨W2.heap.size, 0, none⟩ 1 1 [.int .i32 (r : Nat)] rfl rfl ?c1 ?c2 ?c3 ?c4 ?c5 ?_; rotate_right; intro v' W4 hown4 hgrow _nl; clear _nl; have hb4 := below_append hown2.out hgrow hbs; have hit4 := it_append hit2.out hown2.out hgrow; clear hgrow; replace hown4 := Lib.hid hown4; replace hit4 := Lib.hid hit4; replace hb4 := Lib.hid hb4)
      case c1 => exact cell_one_new _ _ _
      case c2 => simp [Value.oneCell']
      case c3 => unfold maxLen; omega
      case c4 => omega
      case c5 => simp; omega
      go_roundw
      case rel =>
        refine ⟨p + k, done ++ [(r, b)], by omega, hR.out.next, ?_, hit4.out, hbel2.out.trans hb4.out⟩
        have := hown4.out
        rw [List.map_append, List.length_append]
        exact this
      case measure => rw [it_pos hit4.out, hpos.out]; omega
    · have hn := fun ty => next_end (P := Tryz.prog) (by omega) hit.out ty
      have hd := chunks_done hch.out (by omega)
      subst hd
      go_wp2
      go_ret
      exact ⟨_, rfl, hown.out, gr_of_below hbel.out (Nat.le_refl _)⟩
set_option maxHeartbeats 1000000 in
theorem refSpell_any (l : List UInt8) (w : World) (hl : l.length ≤ 10000000000000) : Calls Tryz.prog 93 #[.string (txt l)] w (SpellPost l w) := by
  obtain ⟨ii, hi, hz0, hz1, hz2⟩ := info_parts infoRune
  have it0 := it_new w (txt l)
  have bel0 := gr_below (it_new_gr w (txt l) none)
  replace it0 := Lib.hid it0
  go_enter Tryz.func93, Tryz.ntmps93
  go_wp2
  go_loopw [3] (fun o wr => ∃ (p : Nat) (done : List (Nat × List UInt8)), p ≤ l.length ∧ Hid (chunks l = done ++ chunks (l.drop p)) ∧ Hid (wr.ownsRow w.heap.size 21 1 o done.length (done.map runeV)) ∧ Hid (It wr w.heap.size (txt l) p) ∧ Hid (Below w.heap.size w wr)) (fun _ wr => l.length - wr.iterPos w.heap.size)
  case atStart => exact ⟨0, [], Nat.zero_le _, rfl, World.ownsRow_nil _ _ _ _, it0, bel0⟩
  case round =>
    obtain ⟨p, done, hp, hch, hown, hit, hbel⟩ := hrel
    by_cases hlt : p < l.length
    · obtain ⟨r, k, b, hR⟩ := round_at hch.out hlt
      have hn := fun ty => next_round (P := Tryz.prog) hR hit.out ty
      have hit2 := it_step hit.out (p + k)
      have hown2 := own_it hown.out hit.out (p + k)
      have hbel2 := below_gr hbel.out (it_gr wr w.heap.size (txt l) (p + k)) hbel.out.size (by intro q hq; cases hq; exact Nat.le_refl _)
      have hdl := done_len hch.out
      have hfit := hR.fits
      have hw1 := hR.width
      generalize itW wr w.heap.size (txt l) (p + k) = W2 at hn hit2 hbel2 hown2
      have hpos := it_pos hit.out
      have hbs := hbel2.size
      replace hpos := Lib.hid hpos
      replace hit2 := Lib.hid hit2
      replace hown2 := Lib.hid hown2
      replace hR := Lib.hid hR
      replace hbel2 := Lib.hid hbel2
      clear hbel hit hown
      go_wp2_with (at_builtin; refine wpList_append_own _ rfl _ _ 123 rfl w.heap.size 21 ii (.int .i32 0) 1 4 Tryz.underlying123 hi hz0 hz1 hz2 rfl (by decide) u3 _ _ rfl (hown2.out.alloc _) ⟨W2.heap.size, 0, none⟩ 1 1 [.int .i32 (r : Nat)] rfl rfl ?c1 ?c2 ?c3 ?c4 ?c5 ?_; rotate_right; intro v' W4 hown4 hgrow _nl; clear _nl; have hb4 := below_append hown2.out hgrow hbs; have hit4 := it_append hit2.out hown2.out hgrow; clear hgrow; replace hown4 := Lib.hid hown4; replace hit4 := Lib.hid hit4; replace hb4 := Lib.hid hb4)
      case c1 => exact cell_one_new _ _ _
      case c2 => simp [Value.oneCell']
      case c3 => unfold maxLen; omega
      case c4 => omega
      case c5 => simp; omega
      go_roundw
      case rel =>
        refine ⟨p + k, done ++ [(r, b)], by omega, hR.out.next, ?_, hit4.out, hbel2.out.trans hb4.out⟩
        have := hown4.out
        rw [List.map_append, List.length_append]
        exact this
      case measure => rw [it_pos hit4.out, hpos.out]; omega
    · have hn := fun ty => next_end (P := Tryz.prog) (by omega) hit.out ty
      have hd := chunks_done hch.out (by omega)
      subst hd
      go_wp2
      go_ret
      exact ⟨_, rfl, hown.out, gr_of_below hbel.out (Nat.le_refl _)⟩

end Go.Proofs.YtccmekdmnkmhlaaGreat
