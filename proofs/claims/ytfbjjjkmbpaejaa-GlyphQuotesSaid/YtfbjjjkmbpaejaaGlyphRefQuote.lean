/-
  What the document's Quote answers. No condition but a bound on the length.
-/
import Derived.Test.YtfbjjjkmbpaejaaGlyphQuoteDo
import Derived.Test.YtfbjjjkmbpaejaaGlyphName
import Derived.LoopN
import Derived.Deep.CutBlock
namespace Go.Proofs.Ytfbjjjkmbpaejaa
open Go.RowKit

theorem txt_sub {l b : List UInt8} {p k : Nat} (h : b = (l.drop p).take k) : (txt l).extract p (p + k) = txt b := str_eq (by rw [Lib.extract_data, txt_data, h]; simp)
theorem digs_sub (n : Nat) (h : n < 16) : (⟨#[48, 49, 50, 51, 52, 53, 54, 55, 56, 57, 97, 98, 99, 100, 101, 102]⟩ : ByteArray).extract n (n + 1) = txt [hexd n] := by
  have h1 : n < digs.length := h
  have := txt_sub (l := digs) (b := [hexd n]) (p := n) (k := 1) (by
    rw [List.drop_eq_getElem_cons h1]
    unfold hexd
    rw [List.getD_eq_getElem?_getD, List.getElem?_eq_getElem h1]
    rfl)
  exact this

set_option maxHeartbeats 4000000 in
set_option maxRecDepth 100000 in
theorem refQuote_any (l : List UInt8) (w : World) (hl : l.length ≤ 1000000000) : Calls Try.prog 13 #[.string (txt l)] w fun e w' => e = .returned (.string (txt (quote l))) ∧ Gr w w' := by
  have it0 := it_new w (txt l)
  have bel0 := gr_below (it_new_gr w (txt l) none)
  have hsz : (txt l).size = l.length := txt_size l
  replace hsz := Lib.hid hsz
  replace it0 := Lib.hid it0
  go_enter Try.func13, Try.ntmps13
  go_wp2
  go_loopw [3] (fun o wr => ∃ (p : Nat) (done : List (Nat × List UInt8)), p ≤ l.length ∧ o = .string (txt (34 :: qbody done)) ∧ Hid (chunks l = done ++ chunks (l.drop p)) ∧ Hid (It wr w.heap.size (txt l) p) ∧ Hid (Below w.heap.size w wr)) (fun _ wr => l.length - wr.iterPos w.heap.size)
  case atStart => exact ⟨0, [], Nat.zero_le _, rfl, rfl, it0, bel0⟩
  case round =>
    obtain ⟨p, done, hp, rfl, hch, hit, hbel⟩ := hrel
    by_cases hlt : p < l.length
    · obtain ⟨r, k, b, hR⟩ := round_at hch.out hlt
      have hn := fun ty => next_round (P := Try.prog) hR hit.out ty
      have hit2 := it_step hit.out (p + k)
      have hbel2 := below_gr hbel.out (it_gr wr w.heap.size (txt l) (p + k)) hbel.out.size (by intro q hq; cases hq; exact Nat.le_refl _)
      have hfit := hR.fits
      have hw1 := hR.width
      have hrr := (round_rng hR).1
      have hpos := it_pos hit.out
      have hql : (34 :: qbody done).length ≤ 4 * l.length + 1 := by
        have h1 := qbody_len (l := l) done (fun c hc => by rw [hch.out]; simp [hc])
        have h2 := chunks_at hch.out hp
        simp only [List.length_cons]
        have h4 : (joinC done).length ≤ l.length := by rw [h2, List.length_take]; omega
        omega
      generalize itW wr w.heap.size (txt l) (p + k) = W2 at hn hit2 hbel2
      have hlast := txt_last l p
      have hsub := txt_sub hR.bytes
      have hR1 : Round (l.drop p) [] 0 r k b := ⟨by simpa using hR.dec, by
        have h1 := hR.next
        rw [hch.out, List.append_assoc] at h1
        have h2 := List.append_cancel_left h1
        simp only [List.nil_append, Nat.zero_add, List.drop_drop]
        exact h2, hR.width, by rw [List.length_drop]; omega, by simpa using hR.bytes, hR.len, hR.ok, by
          have h1 := hR.next
          rw [hch.out, List.append_assoc] at h1
          rw [List.append_cancel_left h1]
          simp⟩
      have hii := it_new W2 (txt (l.drop p))
      have hn1 := fun ty => next_round (P := Try.prog) hR1 hii ty
      have hii2 := it_step hii (0 + k)
      have gi : Gr W2 (itW (W2.iter (txt (l.drop p)) 0) W2.heap.size (txt (l.drop p)) (0 + k)) := by
        have h1 := it_new_gr W2 (txt (l.drop p)) none
        have h2 := below_gr (gr_below h1) (it_gr (W2.iter (txt (l.drop p)) 0) W2.heap.size (txt (l.drop p)) (0 + k)) h1.size (by intro q hq; cases hq; exact Nat.le_refl _)
        exact gr_of_below h2 (Nat.le_refl _)
      rw [Nat.zero_add] at hn1 hii2 gi
      generalize itW (W2.iter (txt (l.drop p)) 0) W2.heap.size (txt (l.drop p)) k = V1 at hn1 hii2 gi
      replace hpos := Lib.hid hpos
      replace hit2 := Lib.hid hit2
      replace hbel2 := Lib.hid hbel2
      replace hii := Lib.hid hii
      replace hii2 := Lib.hid hii2
      replace gi := Lib.hid gi
      have hps : (p : Int) ≤ ((txt l).size : Int) := by rw [hsz.out]; omega
      clear hbel hit
      have hqs : qbody (done ++ [(r, b)]) = qbody done ++ qc (r, b) := qbody_snoc _ _
      replace hqs := Lib.hid hqs
      replace hR1 := Lib.hid hR1
      replace hsub := Lib.hid hsub
      go_upto_block 2 with fail
      go_cut [6] (fun s6 wx => s6 = .int .i64 k ∧ Hid (Gr W2 wx))
      case first =>
        have hk0 : (0 : Int) < (k : Int) := by omega
        by_cases h2 : p + k < l.length
        · have hl2 : k < (l.drop p).length := by rw [List.length_drop]; omega
          obtain ⟨r2, k2, b2, hR2⟩ := round_at (l := l.drop p) (done := [(r, b)]) (p := k) (by have := hR1.out.next; simpa using this) hl2
          have hn2 := fun ty => next_round (P := Try.prog) hR2 hii2.out ty
          have gi2 : Gr W2 (itW V1 W2.heap.size (txt (l.drop p)) (k + k2)) := gr_of_below (below_gr (gr_below gi.out) (it_gr V1 W2.heap.size (txt (l.drop p)) (k + k2)) gi.out.size (by intro q hq; cases hq; exact Nat.le_refl _)) (Nat.le_refl _)
          generalize itW V1 W2.heap.size (txt (l.drop p)) (k + k2) = V2 at hn2 gi2
          replace gi2 := Lib.hid gi2
          replace hR2 := Lib.hid hR2
          go_wp2
          refine wp_loop_rounds 2 ?_
          rw [rounds_succ]
          go_wp2
          rw [rounds_succ]
          go_wp2
          go_meet
          exact ⟨rfl, gi2.out⟩
        · have hl2 : (l.drop p).length ≤ k := by rw [List.length_drop]; omega
          have hn2 := fun ty => next_end (P := Try.prog) hl2 hii2.out ty
          have hkk : (l.length : Int) - (p : Int) = (k : Int) := by omega
          go_wp2
          refine wp_loop_rounds 2 ?_
          rw [rounds_succ]
          go_wp2
          rw [rounds_succ]
          go_wp2
          go_meet
          exact ⟨rfl, gi.out⟩
      case rest =>
        obtain ⟨rfl, gx⟩ := hcut
        have hit3 := it_keep hit2.out gx.out (by simp)
        have hbel3 := below_gr hbel2.out gx.out hbel2.out.size (by simp)
        replace hit3 := Lib.hid hit3
        replace hbel3 := Lib.hid hbel3
        have hsb := hsub.out
        have hpk : (p : Int) + (k : Int) ≤ ((txt l).size : Int) := by rw [hsz.out]; omega
        have hbl := hR.len
        have hbl2 : b.length ≤ 4 := by have := (round_rng hR).2; omega
        have s1 : (34 :: qbody done).length + 2 ≤ 9223372036854775807 := by omega
        have s2 : (34 :: qbody done).length + 1 ≤ 9223372036854775807 := by omega
        have s3 : (34 :: qbody done).length + b.length ≤ 9223372036854775807 := by omega
        have s4 : (34 :: qbody done).length + 1 + b.length ≤ 9223372036854775807 := by omega
        have s5 : (34 :: qbody done).length + 2 + 1 ≤ 9223372036854775807 := by omega
        have s6 : (34 :: qbody done).length + 2 + 1 + 1 ≤ 9223372036854775807 := by omega
        replace hbl := Lib.hid hbl
        have fin : ∀ (wy : World) (o : List UInt8), o = 34 :: qbody (done ++ [(r, b)]) → Gr wc wy → ∃ (p : Nat) (done : List (Nat × List UInt8)), p ≤ l.length ∧ Value.string (txt o) = .string (txt (34 :: qbody done)) ∧ Hid (chunks l = done ++ chunks (l.drop p)) ∧ Hid (It wy w.heap.size (txt l) p) ∧ Hid (Below w.heap.size w wy) :=
          fun wy o ho g => ⟨p + k, _, hfit, by rw [ho], hR.next, it_keep hit3.out g (by simp), below_gr hbel3.out g hbel3.out.size (by simp)⟩
        have mea : ∀ wy, Gr wc wy → l.length - wy.iterPos w.heap.size < l.length - wr.iterPos w.heap.size := fun wy g => by rw [it_pos (it_keep hit3.out g (by simp)), hpos.out]; omega
        replace fin := Lib.hid fin
        replace mea := Lib.hid mea
        generalize hO : 34 :: qbody done = O at *
        have hO2 : 34 :: qbody (done ++ [(r, b)]) = O ++ qc (r, b) := by rw [hqs.out, ← hO]; rfl
        replace hO := Lib.hid hO
        clear hqs hlast hn hn1 hps
        by_cases c3 : r = 65533 ∧ b ≠ [239, 191, 189]
        · have hqc : qc (r, b) = [92, 120, hexd ((b.headD 0).toNat / 16), hexd ((b.headD 0).toNat % 16)] := by unfold qc; rw [if_neg (by simp only; omega), if_neg (by simp only; omega), if_pos c3]
          obtain ⟨x, hx⟩ := chunk_wide hR.mem c3.1 c3.2
          simp only at hx
          have hf : O ++ [92, 120] ++ [hexd (x.toNat / 16)] ++ [hexd (x.toNat % 16)] = 34 :: qbody (done ++ [(r, b)]) := by rw [hO2, hqc, hx]; simp
          have d4 : ((r : Int) == 65533) = true := eqT (by omega)
          have d5 : (b == [239, 191, 189]) = false := by rw [beq_eq_false_iff_ne]; exact c3.2
          have hxl := UInt8.toNat_lt x
          have e1 := digs_sub (x.toNat / 16) (by omega)
          have e2 := digs_sub (x.toNat % 16) (by omega)
          have hbl0 : 0 < b.length := by rw [hx]; simp
          have hb1 : 0 < (txt b).size := by rw [txt_size, hx]; simp
          have hbx : (txt b)[0]'hb1 = x := by subst hx; rfl
          have hbi : (0 : Int) < ((txt b).size : Int) := by omega
          have i1 : (0 : Int) ≤ (x.toNat : Int) / 16 := by omega
          have i2 : (x.toNat : Int) / 16 + 1 ≤ 16 := by omega
          have i3 : (x.toNat : Int) % 16 + 1 ≤ 16 := by omega
          have i4 : (0 : Int) ≤ (x.toNat : Int) % 16 := by omega
          have i5 : ((x.toNat : Int) / 16 + 1).toNat = x.toNat / 16 + 1 := by omega
          have i6 : ((x.toNat : Int) % 16 + 1).toNat = x.toNat % 16 + 1 := by omega
          replace hx := Lib.hid hx
          replace hf := Lib.hid hf
          replace hR := Lib.hid hR
          clear hqc hO2 c3
          have n1 : (9223372036854775807 < O.length + 2) = False := by simp; omega
          have n2 : (9223372036854775807 < O.length + 2 + 1) = False := by simp; omega
          have n3 : (9223372036854775807 < O.length + 2 + 1 + 1) = False := by simp; omega
          have k1 : txt O ++ (⟨#[92, 120]⟩ : ByteArray) = txt (O ++ [92, 120]) := txt_append O [92, 120]
          go_wp2_with fail
          go_quiet (fail)
          go_wp2
          go_roundw
          case rel => exact fin.out _ _ (by rw [← hf.out]; simp) (gr_drewN _ _ _)
          case measure => exact mea.out _ (gr_drewN _ _ _)
        · have d6 : r = 65533 → b = [239, 191, 189] := fun h => Decidable.byContradiction fun hb => c3 ⟨h, hb⟩
          have hdec : (((r : Int) == 65533) = true ∧ (b == [239, 191, 189]) = true) ∨ ((r : Int) == 65533) = false := by
            by_cases h : r = 65533
            · exact Or.inl ⟨eqT (by omega), by rw [d6 h]; rfl⟩
            · exact Or.inr (eqF (by omega))
          have hdefault : ¬ (r = 34 ∨ r = 92) → r ≠ 10 → qc (r, b) = b := fun h1 h2 => by unfold qc; rw [if_neg h1, if_neg h2, if_neg c3]
          clear d6 c3
          by_cases c1 : r = 34 ∨ r = 92
          · have hqc : qc (r, b) = 92 :: b := if_pos c1
            have hf : O ++ [92] ++ b = 34 :: qbody (done ++ [(r, b)]) := by rw [hO2, hqc]; simp
            have d4 : ((r : Int) == 65533) = false := eqF (by omega)
            have hcs : (((r : Int) == 34) = true) ∨ (((r : Int) == 34) = false ∧ ((r : Int) == 92) = true) := by
              rcases c1 with h | h
              · exact Or.inl (eqT (by omega))
              · exact Or.inr ⟨eqF (by omega), eqT (by omega)⟩
            have e5 : txt O ++ txt [92] ++ txt b = txt (O ++ [92] ++ b) := by rw [txt_append, txt_append]
            replace hf := Lib.hid hf
            replace hR := Lib.hid hR
            replace e5 := Lib.hid e5
            clear hdec hqc hO2 hdefault c1
            rcases hcs with d1 | ⟨d1, d2⟩
            all_goals
              go_wp2
              go_roundw
              case rel => first | exact fin.out _ _ hf.out (gr_refl _ _) | (rw [show (⟨#[92]⟩ : ByteArray) = txt [92] from rfl, e5.out]; exact fin.out _ _ hf.out (gr_refl _ _))
              case measure => exact mea.out _ (gr_refl _ _)
          · have d1 : ((r : Int) == 34) = false := eqF (by omega)
            have d2 : ((r : Int) == 92) = false := eqF (by omega)
            by_cases c2 : r = 10
            · have hqc : qc (r, b) = [92, 110] := by unfold qc; rw [if_neg c1, if_pos c2]
              have hf : O ++ [92, 110] = 34 :: qbody (done ++ [(r, b)]) := by rw [hO2, hqc]
              have d3 : ((r : Int) == 10) = true := eqT (by omega)
              have d4 : ((r : Int) == 65533) = false := eqF (by omega)
              have e5 : txt O ++ txt [92, 110] = txt (O ++ [92, 110]) := by rw [txt_append]
              replace hf := Lib.hid hf
              replace hR := Lib.hid hR
              replace e5 := Lib.hid e5
              clear hdec hqc hO2 hdefault c2
              go_wp2
              go_roundw
              case rel => first | exact fin.out _ _ hf.out (gr_refl _ _) | (rw [show (⟨#[92, 110]⟩ : ByteArray) = txt [92, 110] from rfl, e5.out]; exact fin.out _ _ hf.out (gr_refl _ _))
              case measure => exact mea.out _ (gr_refl _ _)
            · have d3 : ((r : Int) == 10) = false := eqF (by omega)
              have hf : O ++ b = 34 :: qbody (done ++ [(r, b)]) := by rw [hO2, hdefault c1 c2]
              replace hf := Lib.hid hf
              replace hR := Lib.hid hR
              clear hO2 hdefault
              rcases hdec with ⟨d4, d5⟩ | d4
              all_goals
                go_wp2
                go_roundw
                case rel => exact fin.out _ _ hf.out (gr_refl _ _)
                case measure => exact mea.out _ (gr_refl _ _)
    · have hn := fun ty => next_end (P := Try.prog) (by omega) hit.out ty
      have hd := chunks_done hch.out (by omega)
      subst hd
      have hql : (34 :: qbody (chunks l)).length ≤ 4 * l.length + 1 := by
        have h1 := qbody_len (l := l) (chunks l) (fun c hc => hc)
        rw [chunks_join] at h1
        simp only [List.length_cons]
        omega
      have hq2 : (34 :: qbody (chunks l)).length + 1 ≤ 9223372036854775807 := by omega
      have hq3 : (qbody (chunks l)).length + 1 + 1 ≤ 9223372036854775807 := by simp only [List.length_cons] at hql; omega
      go_wp2
      go_ret
      exact ⟨rfl, gr_of_below hbel.out (Nat.le_refl _)⟩
end Go.Proofs.Ytfbjjjkmbpaejaa
