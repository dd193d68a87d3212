/-
  What guard.All answers, of every text. No condition.
-/
import Derived.Test.YtmldoeeangekoaaGreatGuardFrame
namespace Go.Proofs.YtmldoeeangekoaaGreat
open Go.RowKit

theorem infoText : (Tryz.prog.info? 9).map (fun i => (i.zero, i.size, i.bytes)) = some (some (.string ByteArray.empty), 1, 16) := by kernel_rfl

namespace Crc
/-- The frames from the beginning on, and what is left. -/
def all : Nat → List UInt8 → List (List UInt8) × List UInt8
  | 0, L => ([], L)
  | f + 1, L => if (take L).2.2 = 0 then let r := all f (take L).2.1; ((take L).1 :: r.1, r.2) else ([], L)

theorem take_shorter (L : List UInt8) (h : (take L).2.2 = 0) : (take L).2.1.length + 10 ≤ L.length ∧ (take L).1.length + (take L).2.1.length + 10 = L.length := by
  unfold take at h ⊢
  split at h
  · simp at h
  · rename_i h1
    rw [if_neg h1]
    split at h
    · simp at h
    · rename_i h2
      rw [if_neg h2]
      split at h
      · simp at h
      · rename_i h3
        rw [if_neg h3]
        split at h
        · simp at h
        · rename_i h4
          rw [if_neg h4]
          split at h
          · simp at h
          · rename_i h5
            rw [if_neg h5]
            simp only [List.length_take, List.length_drop]
            omega
/-- So far these frames, and this is left. -/
inductive Got : List UInt8 → List (List UInt8) → List UInt8 → Prop
  | start (L) : Got L [] L
  | more {L xs R x R'} : Got L xs R → take R = (x, R', 0) → Got L (xs ++ [x]) R'
theorem got_all {L : List UInt8} {xs : List (List UInt8)} {R : List UInt8} (h : Got L xs R) : ∀ f, R.length ≤ f → ∃ f', L.length ≤ f' ∧ all f' L = (xs ++ (all f R).1, (all f R).2) := by
  induction h with
  | start => intro f hf; exact ⟨f, hf, by simp⟩
  | @more xs R x R' h1 h2 ih =>
    intro f hf
    have h3 := take_shorter R (by rw [h2])
    rw [h2] at h3
    obtain ⟨f', hf', he⟩ := ih (f + (R.length - R'.length)) (by simp at h3; omega)
    refine ⟨f', hf', ?_⟩
    have hR : R.length - R'.length = (R.length - R'.length - 1) + 1 := by simp at h3; omega
    have hst : ∀ g L, L.length ≤ g → ∀ g', g ≤ g' → all g' L = all g L := by
      intro g
      induction g with
      | zero =>
        intro L hL g' _
        have : L = [] := List.eq_nil_of_length_eq_zero (by omega)
        subst this
        cases g' with
        | zero => rfl
        | succ g' => simp [all, take]
      | succ g ihg =>
        intro L hL g' hg'
        obtain ⟨g'', rfl⟩ : ∃ g'', g' = g'' + 1 := ⟨g' - 1, by omega⟩
        unfold all
        split
        · rename_i ht
          have := take_shorter L ht
          rw [ihg _ (by omega) g'' (by omega)]
        · rfl
    rw [he, hR, ← Nat.add_assoc]
    have e : all (f + (R.length - R'.length - 1) + 1) R = (x :: (all f R').1, (all f R').2) := by
      show (if (take R).2.2 = 0 then _ else _) = _
      rw [h2, if_pos rfl]
      simp only
      rw [hst f R' hf _ (by omega)]
    rw [e]
    simp
/-- The loop's end. -/
theorem got_end {L : List UInt8} {xs : List (List UInt8)} {R : List UInt8} (h : Got L xs R) (he : (take R).2.2 ≠ 0) : all L.length L = (xs, R) := by
  obtain ⟨f', hf', hf⟩ := got_all h R.length (Nat.le_refl _)
  have e : all R.length R = ([], R) := by
    cases hr : R.length with
    | zero => rfl
    | succ n => unfold all; rw [if_neg he]
  rw [e] at hf
  have hst : ∀ g L, L.length ≤ g → ∀ g', g ≤ g' → all g' L = all g L := by
    intro g
    induction g with
    | zero =>
      intro L hL g' _
      have : L = [] := List.eq_nil_of_length_eq_zero (by omega)
      subst this
      cases g' with
      | zero => rfl
      | succ g' => simp [all, take]
    | succ g ihg =>
      intro L hL g' hg'
      obtain ⟨g'', rfl⟩ : ∃ g'', g' = g'' + 1 := ⟨g' - 1, by omega⟩
      unfold all
      split
      · rename_i ht
        have := take_shorter L ht
        rw [ihg _ (by omega) g'' (by omega)]
      · rfl
  rw [← hst L.length L (Nat.le_refl _) f' hf', hf]
  simp
theorem got_length {L : List UInt8} {xs : List (List UInt8)} {R : List UInt8} (h : Got L xs R) : R.length + 10 * xs.length ≤ L.length := by
  induction h with
  | start => simp
  | @more xs R x R' h1 h2 ih =>
    have h3 := take_shorter R (by rw [h2])
    rw [h2] at h3
    simp at h3 ⊢
    omega
end Crc

/-- A list of texts that the call owns. -/
def OwnTexts (w : World) (base : Nat) (v : Value) (xs : List (List UInt8)) : Prop := w.ownsRow base 9 1 v xs.length (xs.map fun l => .string (txt l))
def AllPost (w : World) (L : List UInt8) (e : Ending) (w' : World) : Prop :=
  ∃ v, e = .returned (.tuple #[v, .int .i64 ((L.length - (Crc.all L.length L).2.length : Nat) : Int)]) ∧ OwnTexts w' w.heap.size v (Crc.all L.length L).1 ∧ Gr w w'

set_option maxHeartbeats 2000000 in
set_option maxRecDepth 100000 in
theorem all_any (s : ByteArray) (w : World) (hs : s.size ≤ 1000000000) :
    Calls Tryz.prog 47 #[.string s] w (AllPost w s.data.toList) := by
  obtain ⟨ii, hi, hz0, hz1, hz2⟩ := info_parts infoText
  obtain ⟨L, rfl⟩ : ∃ L, s = txt L := ⟨_, (txt_of s).symm⟩
  rw [txt_data]
  have hL : L.length ≤ 1000000000 := by simpa [txt_size] using hs
  clear hs
  go_enter Tryz.func47, Tryz.ntmps47
  go_wp2
  go_loopw [4, 5] (fun o r wr => ∃ (xs : List (List UInt8)) (R : List UInt8), r = .string (txt R) ∧ Crc.Got L xs R ∧ OwnTexts wr w.heap.size o xs ∧ Below w.heap.size w wr) (fun _ r _ => match r with | .string s => s.size | _ => 0)
  case atStart => exact ⟨[], L, rfl, .start L, World.ownsRow_nil _ _ _ _, Below.refl _ _⟩
  case round =>
    obtain ⟨xs, R, rfl, hgot, hown, hbel⟩ := hrel
    have hgl := Crc.got_length hgot
    obtain ⟨x, R', n, hr⟩ : ∃ x R' n, Crc.take R = (x, R', n) := ⟨_, _, _, rfl⟩
    have hm : (txt R).size ≤ maxLen := by rw [txt_size]; unfold maxLen; omega
    replace hgot := Lib.hid hgot
    replace hown := Lib.hid hown
    have hbs := hbel.size
    replace hbel := Lib.hid hbel
    by_cases hn : n = 0
    · subst hn
      have hsh := Crc.take_shorter R (by rw [hr])
      rw [hr] at hsh
      simp only at hsh
      replace hr := Lib.hid hr
      go_wp2_with fail
      refine (take_eq _ _ hm _ _ _ hr.out).mono ?_
      rintro e W1 ⟨rfl, g1⟩
      have hown1 := Lib.hid (hown.out.kept g1 (by cases u4.ownBlock <;> simp))
      have hs1 := g1.size
      go_wp2_with (at_builtin; refine wpList_append_own _ rfl _ _ 103 rfl w.heap.size 9 ii (.string ByteArray.empty) 1 16 Tryz.underlying103 hi hz0 hz1 hz2 rfl (by decide) u4 _ _ rfl (hown1.out.alloc _) ⟨W1.heap.size, 0, none⟩ 1 1 [.string (txt x)] rfl rfl ?c1 ?c2 ?c3 ?c4 ?c5 ?_; rotate_right; intro v' W4 hown4 hgrow _nl; clear _nl; have hb4 := below_append hown1.out hgrow (Nat.le_trans hbs hs1); clear hgrow; replace hown4 := Lib.hid hown4)
      case c1 => exact cell_one_new _ _ _
      case c2 => simp [Value.oneCell']
      case c3 => unfold maxLen; omega
      case c4 => omega
      case c5 => simp; omega
      go_roundw
      case rel =>
        refine ⟨xs ++ [x], R', rfl, .more hgot.out hr.out, ?_, (below_gr hbel.out g1 hbs (by simp)).trans hb4⟩
        have := hown4.out
        simpa [OwnTexts] using this
      case measure => simp [txt_size]; omega
    · have hnf : (n == 0) = false := eqF hn
      have hfin := Crc.got_end hgot.out (by rw [hr]; exact hn)
      replace hfin := Lib.hid hfin
      replace hn := Lib.hid hn
      replace hr := Lib.hid hr
      have hRL : R.length ≤ L.length := by omega
      go_wp2_with fail
      refine (take_eq _ _ hm _ _ _ hr.out).mono ?_
      rintro e W1 ⟨rfl, g1⟩
      have hown1 := Lib.hid (hown.out.kept g1 (by cases u4.ownBlock <;> simp))
      go_wp2
      go_ret2
      refine ⟨u4, ?_, ?_, gr_trans (gr_of_below hbel.out (Nat.le_refl _)) g1⟩
      · rw [hfin.out]
        have hd : ((L.length - R.length : Nat) : Int) = (L.length : Int) - (R.length : Int) := by omega
        show _ = Ending.returned (.tuple #[u4, .int .i64 ((L.length - R.length : Nat) : Int)])
        rw [hd]
        rfl
      · rw [hfin.out]
        exact hown1.out
end Go.Proofs.YtmldoeeangekoaaGreat
