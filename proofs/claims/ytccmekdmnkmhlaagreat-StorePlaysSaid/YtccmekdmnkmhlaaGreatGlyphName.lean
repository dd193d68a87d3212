/-
  What glyph.Name and glyph.Cut answer. No condition but a bound on the length. (soft)
-/
import Derived.Test.YtccmekdmnkmhlaaGreatGlyphSpell
import Derived.Test.YtccmekdmnkmhlaaGreatGlyphKind
namespace Go.Proofs.YtccmekdmnkmhlaaGreat
open Go.RowKit

/-- May these runes be a name's first ones? -/
def okD : List (Nat × List UInt8) → Bool
  | [] => true
  | c :: cs => decide (kind (c.1 : Nat) = 1) && cs.all fun c => decide (kind (c.1 : Nat) = 1 ∨ kind (c.1 : Nat) = 2)
def okNext (done : List (Nat × List UInt8)) (r : Nat) : Bool := decide (kind (r : Nat) = 1 ∨ (kind (r : Nat) = 2 ∧ done ≠ []))
theorem okD_snoc (done : List (Nat × List UInt8)) (c : Nat × List UInt8) : okD (done ++ [c]) = (okD done && okNext done c.1) := by
  cases done with
  | nil => simp [okD, okNext]
  | cons d ds => simp [okD, okNext, Bool.and_assoc]
theorem okD_append {a b : List (Nat × List UInt8)} (h : okD a = false) : okD (a ++ b) = false := by
  cases a with
  | nil => simp [okD] at h
  | cons d ds =>
    simp only [okD, List.cons_append, List.all_append, ← Bool.and_assoc] at h ⊢
    rw [h]
    rfl
def isName (l : List UInt8) : Bool := okD (chunks l) && decide (1 ≤ (chunks l).length ∧ (chunks l).length ≤ 30)

set_option maxHeartbeats 1000000 in
set_option maxRecDepth 100000 in
theorem name_any (l : List UInt8) (w : World) (hl : l.length ≤ 9223372036854775807) : Calls Tryz.prog 120 #[.string (txt l)] w fun e w' => e = .returned (.bool (isName l)) ∧ Gr w w' := by
  have it0 := it_new w (txt l)
  have bel0 := gr_below (it_new_gr w (txt l) none)
  replace it0 := Lib.hid it0
  go_enter Tryz.func120, Tryz.ntmps120
  go_wp2
  go_loopw [3] (fun o wr => ∃ (p : Nat) (done : List (Nat × List UInt8)), p ≤ l.length ∧ o = .int .i64 done.length ∧ Hid (chunks l = done ++ chunks (l.drop p)) ∧ Hid (okD done = true) ∧ Hid (It wr w.heap.size (txt l) p) ∧ Hid (Below w.heap.size w wr)) (fun _ wr => l.length - wr.iterPos w.heap.size)
  case atStart => exact ⟨0, [], Nat.zero_le _, rfl, rfl, rfl, it0, bel0⟩
  case round =>
    obtain ⟨p, done, hp, rfl, hch, hok, hit, hbel⟩ := hrel
    by_cases hlt : p < l.length
    · obtain ⟨r, k, b, hR⟩ := round_at hch.out hlt
      have hn := fun ty => next_round (P := Tryz.prog) hR hit.out ty
      have hit2 := it_step hit.out (p + k)
      have hbel2 := below_gr hbel.out (it_gr wr w.heap.size (txt l) (p + k)) hbel.out.size (by intro q hq; cases hq; exact Nat.le_refl _)
      have hdl := done_len hch.out
      have hdl2 := done_len hR.next
      rw [List.length_append, List.length_singleton] at hdl2
      have hfit := hR.fits
      have hw1 := hR.width
      generalize itW wr w.heap.size (txt l) (p + k) = W2 at hn hit2 hbel2
      have hpos := it_pos hit.out
      replace hpos := Lib.hid hpos
      replace hit2 := Lib.hid hit2
      replace hR := Lib.hid hR
      replace hbel2 := Lib.hid hbel2
      have hsn := okD_snoc done (r, b)
      rw [hok.out, Bool.true_and] at hsn
      replace hsn := Lib.hid hsn
      clear hbel hit
      go_wp2_with fail
      refine (kind_any _ _).mono ?_
      rintro e W3 ⟨rfl, rfl⟩
      have hbad : okNext done r = false → isName l = false := by
        intro h
        unfold isName
        have h2 : okD (done ++ [(r, b)]) = false := by rw [hsn.out]; exact h
        rw [hR.out.next, okD_append h2]
        rfl
      have hnx : okNext done r = decide (kind (r : Nat) = 1 ∨ (kind (r : Nat) = 2 ∧ done ≠ [])) := rfl
      have hln : done.length = 0 ↔ done = [] := List.length_eq_zero_iff
      generalize hK : kind (r : Nat) = K at hnx ⊢
      clear hK
      generalize hN : done.length = N at *
      by_cases k1 : K = 1
      · subst k1
        have ht : okNext done r = true := by rw [hnx]; simp
        clear hnx hbad hln
        replace ht := Lib.hid ht
        replace hN := Lib.hid hN
        go_wp2
        go_roundw
        case rel => exact ⟨p + k, done ++ [(r, b)], by omega, by rw [List.length_append, hN.out]; go_num, hR.out.next, by show _ = _; rw [hsn.out]; exact ht.out, hit2.out, hbel2.out⟩
        case measure => rw [it_pos hit2.out, hpos.out]; omega
      · by_cases k2 : K = 2 ∧ 0 < N
        · obtain ⟨rfl, k3⟩ := k2
          have ht : okNext done r = true := by rw [hnx]; have : done ≠ [] := fun e => by rw [← hln] at e; omega
                                               simp [this]
          have nz : ((N : Int) == 0) = false := eqF (by omega)
          clear hnx hbad hln k1
          replace ht := Lib.hid ht
          replace hN := Lib.hid hN
          go_wp2
          go_roundw
          case rel => exact ⟨p + k, done ++ [(r, b)], by omega, by rw [List.length_append, hN.out]; go_num, hR.out.next, by show _ = _; rw [hsn.out]; exact ht.out, hit2.out, hbel2.out⟩
          case measure => rw [it_pos hit2.out, hpos.out]; omega
        · have hf : isName l = false := hbad (by
            rw [hnx]
            simp only [decide_eq_false_iff_not]
            rintro (h | ⟨h, h'⟩)
            · exact k1 h
            · exact k2 ⟨h, Nat.pos_of_ne_zero fun e => h' (hln.1 e)⟩)
          replace hf := Lib.hid hf
          clear hnx hbad hln
          by_cases k3 : K = 2
          · subst k3
            obtain rfl : N = 0 := by omega
            clear k2 k1
            replace hN := Lib.hid hN
            go_wp2
            go_ret
            exact ⟨by rw [hf.out]; rfl, gr_of_below hbel2.out (Nat.le_refl _)⟩
          · have d1 : (K == 1) = false := eqF k1
            have d2 : (K == 2) = false := eqF k3
            have d3 : (K != 1) = true := by simpa using k1
            have d4 : (K != 2) = true := by simpa using k3
            clear k2
            replace hN := Lib.hid hN
            go_wp2
            go_ret
            exact ⟨by rw [hf.out]; rfl, gr_of_below hbel2.out (Nat.le_refl _)⟩
    · have hn := fun ty => next_end (P := Tryz.prog) (by omega) hit.out ty
      have hd := chunks_done hch.out (by omega)
      subst hd
      have hdl := chunks_len l
      have hnm : isName l = decide (1 ≤ (chunks l).length ∧ (chunks l).length ≤ 30) := by unfold isName; rw [hok.out, Bool.true_and]
      generalize (chunks l).length = N at *
      replace hnm := Lib.hid hnm
      by_cases c1 : 1 ≤ (N : Int)
      · by_cases c2 : (N : Int) ≤ 30
        · go_wp2
          go_ret
          exact ⟨by rw [hnm.out, decide_eq_true (by omega)]; rfl, gr_of_below hbel.out (Nat.le_refl _)⟩
        · go_wp2
          go_ret
          exact ⟨by rw [hnm.out, decide_eq_false (by omega)]; rfl, gr_of_below hbel.out (Nat.le_refl _)⟩
      · go_wp2
        go_ret
        exact ⟨by rw [hnm.out, decide_eq_false (by omega)]; rfl, gr_of_below hbel.out (Nat.le_refl _)⟩

theorem txt_first (l : List UInt8) (p : Nat) : (txt l).extract 0 p = txt (l.take p) := str_eq (by rw [Lib.extract_data, txt_data]; simp)
theorem txt_last (l : List UInt8) (p : Nat) : (txt l).extract p l.length = txt (l.drop p) := by
  have := ext_end (txt l) p
  rw [txt_size, txt_data] at this
  exact str_eq this
def CutPost (l : List UInt8) (n : Int) (w : World) (e : Ending) (w' : World) : Prop :=
  e = .returned (.tuple #[.string (txt (upto n.toNat l)), .string (txt (joinC ((chunks l).drop n.toNat)))]) ∧ Gr w w'
theorem done_upto {l : List UInt8} {done : List (Nat × List UInt8)} {p n : Nat} (h : chunks l = done ++ chunks (l.drop p)) (hp : p ≤ l.length) (hn : done.length = n) :
    upto n l = l.take p ∧ joinC ((chunks l).drop n) = l.drop p := by
  subst hn
  constructor
  · rw [← chunks_at h hp]
    unfold upto
    rw [h, List.take_left']
    rfl
  · rw [h, List.drop_left' rfl, chunks_join]

end Go.Proofs.YtccmekdmnkmhlaaGreat
