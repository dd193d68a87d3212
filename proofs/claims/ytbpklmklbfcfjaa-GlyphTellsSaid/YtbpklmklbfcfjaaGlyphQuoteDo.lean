/-
  What glyph.Quote answers. No condition but a bound on the length.
-/
import Derived.Test.YtbpklmklbfcfjaaIterAid
import Derived.Test.YtbpklmklbfcfjaaBuilderAid
import Derived.Test.YtbpklmklbfcfjaaGlyphQuote
namespace Go.Proofs.Ytbpklmklbfcfjaa
open Go.RowKit

theorem hasPrefix_any (s : ByteArray) (m : List UInt8) (v : Bool) (w : World) (h : Lib.hasPrefix s.data.toList m = v) : Calls Try.prog 66 #[.string s, .string (txt m)] w fun e w' => e = .returned (.bool v) ∧ w = w' := by
  subst h
  exact (Try.strings_HasPrefix s (txt m) w).mono fun _ _ ⟨h1, h2⟩ => ⟨h1, h2.symm⟩

theorem digs_at (n : Nat) (h : n < (⟨#[48, 49, 50, 51, 52, 53, 54, 55, 56, 57, 97, 98, 99, 100, 101, 102]⟩ : ByteArray).size) : (⟨#[48, 49, 50, 51, 52, 53, 54, 55, 56, 57, 97, 98, 99, 100, 101, 102]⟩ : ByteArray)[n]'h = hexd n := by
  have h' : n < digs.length := h
  show digs.toArray[n] = _
  rw [List.getElem_toArray]
  unfold hexd
  rw [List.getD_eq_getElem?_getD, List.getElem?_eq_getElem h']
  rfl
theorem txt_at {l : List UInt8} {p : Nat} {x : UInt8} {b : List UInt8} {k : Nat} (h : p < (txt l).size) (hb : b = (l.drop p).take k) (hx : b = [x]) : (txt l)[p]'h = x := by
  have h' : p < l.length := by rw [txt_size] at h; exact h
  show l.toArray[p] = x
  rw [List.getElem_toArray]
  have : ((l.drop p).take k)[0]? = some x := by rw [← hb, hx]; rfl
  rw [List.getElem?_take] at this
  split at this
  · rw [List.getElem?_drop, Nat.add_zero, List.getElem?_eq_getElem h'] at this
    exact Option.some.inj this
  · simp at this
theorem wide_pre {l : List UInt8} {done : List (Nat × List UInt8)} {p r k : Nat} {b : List UInt8} (h : Round l done p r k b) (hr : r = 65533) : Lib.hasPrefix (l.drop p) [239, 191, 189] = decide (b = [239, 191, 189]) := by
  rw [Bool.eq_iff_iff, decide_eq_true_iff]
  unfold Lib.hasPrefix
  rw [List.isPrefixOf_iff_prefix]
  constructor
  · rintro ⟨t, ht⟩
    have h1 := h.dec
    have h2 := dec_enc (r := 65533) (by unfold RuneOk; omega) t
    rw [wide_enc, ht, h1] at h2
    have hk : k = 3 := (Prod.mk.inj h2).2
    rw [h.bytes, ← ht, hk]
    rfl
  · intro hb
    rw [← hb, h.bytes]
    exact List.take_prefix _ _

set_option maxHeartbeats 4000000 in
theorem quote_any (l : List UInt8) (w : World) (hl : l.length ≤ 10000000000000) : Calls Try.prog 17 #[.string (txt l)] w fun e w' => e = .returned (.string (txt (quote l))) ∧ Gr w w' := by
  have hB0 := bld_new w
  have bel0 : Below w.heap.size w (w.alloc (.cells #[.pointer none, .slice none 0 0] 73)) := (Below.refl _ w).alloc (Nat.le_refl _) _
  replace hB0 := Lib.hid hB0
  replace bel0 := Lib.hid bel0
  have hsz : (txt l).size = l.length := txt_size l
  replace hsz := Lib.hid hsz
  go_enter Try.func17, Try.ntmps17
  go_wp2_with fail
  refine (writeByte_any w.heap.size [] 34 34 rfl _ hB0.out (by simp)).mono ?_
  rintro e W1 ⟨rfl, hB1, k1⟩
  have bel1 := bel0.out.trans k1.bel
  have hit1 := it_new W1 (txt l)
  have hB2 := bld_alloc hB1 (.stringIter (txt l) 0)
  have bel2 := below_gr bel1 (it_new_gr W1 (txt l) none) (by have := bel1.size; omega) (by simp)
  have hbb : w.heap.size < W1.heap.size := by have := k1.bel.size; simp at this; omega
  obtain ⟨bb, hbe⟩ : ∃ bb, bb = W1.heap.size := ⟨_, rfl⟩
  rw [← hbe] at hit1 hbb
  replace hit1 := Lib.hid hit1
  replace hB2 := Lib.hid hB2
  replace bel2 := Lib.hid bel2
  clear hB1 k1 bel1 hB0 bel0
  replace hbe := Lib.hid hbe
  go_wp2_with fail
  rw [← hbe.out]
  go_loopw [] (fun wr => ∃ (p : Nat) (done : List (Nat × List UInt8)), p ≤ l.length ∧ Hid (chunks l = done ++ chunks (l.drop p)) ∧ Hid (Bld w.heap.size (34 :: qbody done) wr) ∧ Hid (It wr bb (txt l) p) ∧ Hid (Below w.heap.size w wr)) (fun wr => l.length - wr.iterPos bb)
  case atStart => exact ⟨0, [], Nat.zero_le _, rfl, hB2, hit1, bel2⟩
  case round =>
    obtain ⟨p, done, hp, hch, hB, hit, hbel⟩ := hrel
    by_cases hlt : p < l.length
    · obtain ⟨r, k, b, hR⟩ := round_at hch.out hlt
      have hn := fun ty => next_round (P := Try.prog) hR hit.out ty
      have hit2 := it_step hit.out (p + k)
      have hB2' := bld_it hB.out hit.out (p + k)
      have hbel2 := below_gr hbel.out (it_gr wr bb (txt l) (p + k)) hbel.out.size (by intro q hq; cases hq; omega)
      have hfit := hR.fits
      have hw1 := hR.width
      have hrr := (round_rng hR).1
      have hpos := it_pos hit.out
      have hql : (34 :: qbody done).length ≤ 4 * l.length + 1 := by
        have h1 := qbody_len (l := l) done (fun c hc => by rw [hch.out]; simp [hc])
        have h2 := chunks_at hch.out hp
        have h3 := List.length_take_le p l
        rw [← h2] at h3
        simp only [List.length_cons]
        have h4 : (joinC done).length ≤ l.length := by rw [h2, List.length_take]; omega
        omega
      generalize itW wr bb (txt l) (p + k) = W2 at hn hit2 hbel2 hB2'
      replace hpos := Lib.hid hpos
      replace hit2 := Lib.hid hit2
      replace hB2' := Lib.hid hB2'
      replace hbel2 := Lib.hid hbel2
      clear hbel hit hB hB2 hit1 bel2
      have fin : ∀ (W' : World), Bld w.heap.size (34 :: qbody (done ++ [(r, b)])) W' → BKept w.heap.size W2 W' → ∃ (p : Nat) (done : List (Nat × List UInt8)), p ≤ l.length ∧ Hid (chunks l = done ++ chunks (l.drop p)) ∧ Hid (Bld w.heap.size (34 :: qbody done) W') ∧ Hid (It W' bb (txt l) p) ∧ Hid (Below w.heap.size w W') :=
        fun W' h1 h2 => ⟨p + k, _, hfit, hR.next, h1, kept_it h2 hit2.out (by omega), hbel2.out.trans h2.bel⟩
      have mea : ∀ (W' : World), BKept w.heap.size W2 W' → l.length - W'.iterPos bb < l.length - wr.iterPos bb :=
        fun W' h2 => by rw [it_pos (kept_it h2 hit2.out (by omega)), hpos.out]; omega
      replace fin := Lib.hid fin
      replace mea := Lib.hid mea
      have hqs : qbody (done ++ [(r, b)]) = qbody done ++ qc (r, b) := qbody_snoc _ _
      replace hqs := Lib.hid hqs
      by_cases c1 : r = 34 ∨ r = 92
      · have hqc : qc (r, b) = 92 :: b := if_pos c1
        have hnb : ¬ BadC (r, b) := fun h => by have := h.1; simp only at this; omega
        have henc : Lib.encodeRune (r : Int) = b := chunk_enc hR.mem hnb
        have e : 34 :: qbody (done ++ [(r, b)]) = (34 :: qbody done) ++ [92] ++ Lib.encodeRune (r : Int) := by rw [hqs.out, hqc, henc]; simp
        clear hqc henc hnb
        replace e := Lib.hid e
        replace hR := Lib.hid hR
        rcases c1 with c1 | c1
        · have d1 : ((r : Int) == 34) = true := eqT (by omega)
          replace c1 := Lib.hid c1
          go_wp2_with fail
          refine (writeByte_any w.heap.size _ 92 92 rfl _ hB2'.out (by omega)).mono ?_
          rintro e W3 ⟨rfl, hB3, k3⟩
          go_wp2_with fail
          refine (writeRune_any w.heap.size _ r (by omega) (by omega) _ hB3 (by rw [List.length_append]; simp only [List.length_cons, List.length_nil] at hql ⊢; omega)).mono ?_
          rintro e W4 ⟨rfl, hB4, k4⟩
          go_wp2
          go_roundw
          case rel => exact fin.out W4 (by rw [e.out]; exact hB4) (k3.trans k4)
          case measure => exact mea.out W4 (k3.trans k4)
        · have d1 : ((r : Int) == 34) = false := eqF (by omega)
          have d2 : ((r : Int) == 92) = true := eqT (by omega)
          replace c1 := Lib.hid c1
          go_wp2_with fail
          refine (writeByte_any w.heap.size _ 92 92 rfl _ hB2'.out (by omega)).mono ?_
          rintro e W3 ⟨rfl, hB3, k3⟩
          go_wp2_with fail
          refine (writeRune_any w.heap.size _ r (by omega) (by omega) _ hB3 (by rw [List.length_append]; simp only [List.length_cons, List.length_nil] at hql ⊢; omega)).mono ?_
          rintro e W4 ⟨rfl, hB4, k4⟩
          go_wp2
          go_roundw
          case rel => exact fin.out W4 (by rw [e.out]; exact hB4) (k3.trans k4)
          case measure => exact mea.out W4 (k3.trans k4)
      · have d1 : ((r : Int) == 34) = false := eqF (by omega)
        have d2 : ((r : Int) == 92) = false := eqF (by omega)
        by_cases c2 : r = 10
        · have hqc : qc (r, b) = [92, 110] := by unfold qc; rw [if_neg c1, if_pos c2]
          have e : 34 :: qbody (done ++ [(r, b)]) = (34 :: qbody done) ++ [92, 110] := by rw [hqs.out, hqc]; simp
          have d3 : ((r : Int) == 10) = true := eqT (by omega)
          clear hqc
          replace e := Lib.hid e
          replace hR := Lib.hid hR
          replace c2 := Lib.hid c2
          go_wp2_with fail
          refine (writeString_any w.heap.size _ [92, 110] _ hB2'.out (by omega) (by simp)).mono ?_
          rintro e W3 ⟨rfl, hB3, k3⟩
          go_wp2
          go_roundw
          case rel => exact fin.out W3 (by rw [e.out]; exact hB3) k3
          case measure => exact mea.out W3 k3
        · have d3 : ((r : Int) == 10) = false := eqF (by omega)
          by_cases c3 : r = 65533 ∧ b ≠ [239, 191, 189]
          · have hqc : qc (r, b) = [92, 120, hexd ((b.headD 0).toNat / 16), hexd ((b.headD 0).toNat % 16)] := by unfold qc; rw [if_neg c1, if_neg c2, if_pos c3]
            have e : 34 :: qbody (done ++ [(r, b)]) = (34 :: qbody done) ++ [92, 120] ++ [hexd ((b.headD 0).toNat / 16)] ++ [hexd ((b.headD 0).toNat % 16)] := by rw [hqs.out, hqc]; simp
            have d4 : ((r : Int) == 65533) = true := eqT (by omega)
            replace e := Lib.hid e
            have hpx : Lib.hasPrefix (l.drop p) [239, 191, 189] = false := by rw [wide_pre hR c3.1]; exact decide_eq_false c3.2
            obtain ⟨x, hx⟩ := chunk_wide hR.mem c3.1 c3.2
            have hps : (p : Int) ≤ ((txt l).size : Int) := by rw [hsz.out]; omega
            have hpl : p < (txt l).size := by rw [hsz.out]; omega
            have hgx : (txt l)[p]'hpl = x := txt_at hpl hR.bytes hx
            have hxl := UInt8.toNat_lt x
            have hx1 : (0 : Int) ≤ (x.toNat : Int) / 16 := by omega
            have hx2 : (x.toNat : Int) / 16 < 16 := by omega
            have hx3 : x.toNat / 16 < 16 := by omega
            have hx4 : x.toNat % 16 < 16 := by omega
            simp only at hx
            rw [hx, List.headD_cons] at e
            replace hpx := Lib.hid hpx
            replace hx := Lib.hid hx
            replace hR := Lib.hid hR
            replace c3 := Lib.hid c3
            clear hqc
            go_wp2_with fail
            refine (hasPrefix_any _ [239, 191, 189] false _ (by rw [← hsz.out, ext_end, txt_data]; exact hpx.out)).mono ?_
            rintro e W3 ⟨rfl, rfl⟩
            go_wp2_with fail
            refine (writeString_any w.heap.size _ [92, 120] _ hB2'.out (by omega) (by simp)).mono ?_
            rintro e W3 ⟨rfl, hB3, k3⟩
            go_wp2_with fail
            refine (writeByte_any w.heap.size _ (hexd (x.toNat / 16)) _ (by rw [digs_at]) _ hB3 (by rw [List.length_append]; simp only [List.length_cons, List.length_nil] at hql ⊢; omega)).mono ?_
            rintro e W4 ⟨rfl, hB4, k4⟩
            go_wp2_with fail
            refine (writeByte_any w.heap.size _ (hexd (x.toNat % 16)) _ (by rw [digs_at]) _ hB4 (by rw [List.length_append, List.length_append]; simp only [List.length_cons, List.length_nil] at hql ⊢; omega)).mono ?_
            rintro e W5 ⟨rfl, hB5, k5⟩
            go_wp2
            go_roundw
            case rel => exact fin.out W5 (by rw [hx.out, e.out]; exact hB5) ((k3.trans k4).trans k5)
            case measure => exact mea.out W5 ((k3.trans k4).trans k5)
          · have hnb : ¬ BadC (r, b) := fun ⟨h1, h2⟩ => c3 ⟨h1, fun h => by simp only at h2; rw [h] at h2; simp at h2⟩
            have henc : Lib.encodeRune (r : Int) = b := chunk_enc hR.mem hnb
            have hqc : qc (r, b) = b := by unfold qc; rw [if_neg c1, if_neg c2, if_neg c3]
            have e : 34 :: qbody (done ++ [(r, b)]) = (34 :: qbody done) ++ Lib.encodeRune (r : Int) := by rw [hqs.out, hqc, henc]; simp
            replace e := Lib.hid e
            have hps : (p : Int) ≤ ((txt l).size : Int) := by rw [hsz.out]; omega
            clear hqc henc
            by_cases c4 : r = 65533
            · have hpx : Lib.hasPrefix (l.drop p) [239, 191, 189] = true := by
                rw [wide_pre hR c4]
                exact decide_eq_true (Decidable.byContradiction fun h => c3 ⟨c4, h⟩)
              have d4 : ((r : Int) == 65533) = true := eqT (by omega)
              replace hR := Lib.hid hR
              replace hpx := Lib.hid hpx
              replace c4 := Lib.hid c4
              clear hnb c3
              go_wp2_with fail
              refine (hasPrefix_any _ [239, 191, 189] true _ (by rw [← hsz.out, ext_end, txt_data]; exact hpx.out)).mono ?_
              rintro e W3 ⟨rfl, rfl⟩
              go_wp2_with fail
              refine (writeRune_any w.heap.size _ r (by omega) (by omega) _ hB2'.out (by omega)).mono ?_
              rintro e W3 ⟨rfl, hB3, k3⟩
              go_wp2
              go_roundw
              case rel => exact fin.out W3 (by rw [e.out]; exact hB3) k3
              case measure => exact mea.out W3 k3
            · have d4 : ((r : Int) == 65533) = false := eqF (by omega)
              replace hR := Lib.hid hR
              clear hnb c3
              go_wp2_with fail
              refine (writeRune_any w.heap.size _ r (by omega) (by omega) _ hB2'.out (by omega)).mono ?_
              rintro e W3 ⟨rfl, hB3, k3⟩
              go_wp2
              go_roundw
              case rel => exact fin.out W3 (by rw [e.out]; exact hB3) k3
              case measure => exact mea.out W3 k3
    · have hn := fun ty => next_end (P := Try.prog) (by omega) hit.out ty
      have hd := chunks_done hch.out (by omega)
      subst hd
      go_wp2_with fail
      have hql : (34 :: qbody (chunks l)).length ≤ 4 * l.length + 1 := by
        have h1 := qbody_len (l := l) (chunks l) (fun c hc => hc)
        rw [chunks_join] at h1
        simp only [List.length_cons]
        omega
      refine (writeByte_any w.heap.size _ 34 34 rfl _ hB.out (by omega)).mono ?_
      rintro e W3 ⟨rfl, hB3, k3⟩
      go_wp2_with fail
      refine (builderString_any w.heap.size _ _ hB3).mono ?_
      rintro e W4 ⟨rfl, hB4, k4⟩
      go_wp2
      go_ret
      exact ⟨rfl, gr_of_below ((hbel.out.trans k3.bel).trans k4.bel) (Nat.le_refl _)⟩
end Go.Proofs.Ytbpklmklbfcfjaa
