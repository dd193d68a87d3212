/-
  What a pattern's Whole, Begins and Text answer. No condition but that the pattern lies in memory as Compile lays it, and a bound on the text.
-/
import Derived.Test.YtdccmmibfacpkaaPatRun
namespace Go.Proofs.Ytdccmmibfacpkaa
open Go.RowKit

/-- A function that tells what patterns take. -/
def Holds (H : T → List Int → Bool) : Prop := ∀ x u, H x u = true ↔ Lang x u
theorem holds_ex : ∃ H, Holds H := ⟨fun x u => @decide (Lang x u) (Classical.propDecidable _), fun _ _ => @decide_eq_true_iff _ (Classical.propDecidable _)⟩
theorem holds_yes {H : T → List Int → Bool} (hH : Holds H) {x : T} {u : List Int} (h : Lang x u) : H x u = true := (hH x u).2 h
theorem holds_no {H : T → List Int → Bool} (hH : Holds H) {x : T} {u : List Int} (h : ¬ Lang x u) : H x u = false := by
  cases hh : H x u with
  | false => rfl
  | true => exact absurd ((hH x u).1 hh) h
theorem holds_eq {H : T → List Int → Bool} (hH : Holds H) {x y : T} {u v : List Int} (h : Lang x u ↔ Lang y v) : H x u = H y v := by
  cases hh : H y v with
  | true => exact holds_yes hH (h.2 ((hH y v).1 hh))
  | false => exact holds_no hH (fun k => by rw [holds_yes hH (h.1 k)] at hh; cases hh)
def rnsOf (done : List (Nat × List UInt8)) : List Int := done.map fun c => (c.1 : Int)
theorem rnsOf_snoc (done : List (Nat × List UInt8)) (r : Nat) (b : List UInt8) : rnsOf (done ++ [(r, b)]) = rnsOf done ++ [(r : Int)] := by simp [rnsOf]
theorem rnsOf_take {l : List UInt8} {done : List (Nat × List UInt8)} {p : Nat} (h : chunks l = done ++ chunks (l.drop p)) : rnsOf done = (runesOf l).take done.length ∧ done.length ≤ (runesOf l).length := by
  unfold rnsOf runesOf
  rw [h, List.map_append]
  constructor
  · rw [List.take_left' (by simp)]
  · simp
set_option maxHeartbeats 8000000 in
set_option maxRecDepth 100000 in
theorem whole_any (H : T → List Int → Bool) (hH : Holds H) (p : Nat) (l0 : List UInt8) (x : T) (l : List UInt8) (w : World) (hpat : PatAt w p l0 x) (_hl : l.length ≤ 1000000) :
    Calls Try.prog 12 #[.pointer (some ⟨p, 0, none⟩), .string (txt l)] w fun e w' => e = .returned (.bool (H x (runesOf l))) ∧ Gr w w' := by
  obtain ⟨zs, A, c, first, hb, hm, hzl, _⟩ := hpat
  have k1 : w.cell? ⟨p, 1, none⟩ = some (.slice A zs.length c) := blk_cell hb.pb rfl
  have hz : 0 < zs.length := by have := mach_in hm; rw [List.length_map] at this; omega
  have hzF : ((zs.length : Int) == 0) = false := eqF (by omega)
  have hB := begin_any p (txt l0) zs A c first x hm hzl w hb
  have hO := fun u r I1 cap1 bs1 w => on_any p (txt l0) zs A c first x hm hzl u r I1 cap1 bs1 w
  obtain ⟨n, hn⟩ : ∃ n, n = zs.length := ⟨_, rfl⟩
  unfold MarkPost at hB hO
  rw [← hn] at k1 hz hzF hB hO
  replace hO := Lib.hid hO
  replace hB := Lib.hid hB
  replace hb := Lib.hid hb
  replace hm := Lib.hid hm
  replace hn := Lib.hid hn
  go_enter Try.func12, Try.ntmps12
  go_wp2_with fail
  refine hB.out.mono ?_
  rintro e W1 ⟨I, cap, bs, rfl, hI, hb1, hl1, g1, hset⟩
  have it0 := it_new W1 (txt l)
  have bel0 := gr_below (it_new_gr W1 (txt l) none)
  have hb0 : BoolAt (W1.iter (txt l) 0) I bs := gr_blk (it_new_gr W1 (txt l) none) hb1 (by simp)
  replace it0 := Lib.hid it0
  replace bel0 := Lib.hid bel0
  replace hb0 := Lib.hid hb0
  replace hset := Lib.hid hset
  replace hl1 := Lib.hid hl1
  replace g1 := Lib.hid g1
  clear hb1 hI
  go_wp2
  go_loopw [5] (fun iv wr => ∃ (q : Nat) (done : List (Nat × List UInt8)) (I cap : Nat) (bs : List Bool), q ≤ l.length ∧ iv = .slice (some ⟨I, 0, none⟩) n cap ∧ Hid (chunks l = done ++ chunks (l.drop q)) ∧ Hid (It wr W1.heap.size (txt l) q) ∧ Hid (Below W1.heap.size W1 wr) ∧ Hid (BoolAt wr I bs) ∧ Hid (bs.length = n) ∧ Hid (∀ k : Nat, bs[k]? = some true ↔ Path (zs.map (·.1)) first (rnsOf done) k)) (fun _ wr => l.length - wr.iterPos W1.heap.size)
  case atStart => exact ⟨0, [], I, cap, bs, Nat.zero_le _, rfl, rfl, it0, bel0, hb0, hl1, hset⟩
  case round =>
    obtain ⟨q, done, I, cap, bs, hq, rfl, hch, hit, hbel, hbs, hbl, hst⟩ := hrel
    by_cases hlt : q < l.length
    · obtain ⟨r, k, b, hR⟩ := round_at hch.out hlt
      have hnx := fun ty => next_round (P := Try.prog) hR hit.out ty
      have hit2 := it_step hit.out (q + k)
      have hbel2 := below_gr hbel.out (it_gr wr W1.heap.size (txt l) (q + k)) hbel.out.size (by intro y hy; cases hy; exact Nat.le_refl _)
      have hIit : I ≠ W1.heap.size := fun e => by
        subst e
        have h1 := hbs.out
        have h2 := hit.out
        unfold BoolAt at h1
        unfold It at h2
        rw [h1] at h2
        simp at h2
      have hbs2 : BoolAt (itW wr W1.heap.size (txt l) (q + k)) I bs := gr_blk (it_gr wr W1.heap.size (txt l) (q + k)) hbs.out (fun e => hIit (Option.some.inj e))
      have hfit := hR.fits
      have hw1 := hR.width
      have hpos := it_pos hit.out
      generalize itW wr W1.heap.size (txt l) (q + k) = W2 at hnx hit2 hbel2 hbs2
      have hb2 := bld_gr (bld_gr hb.out g1.out) (gr_of_below hbel2 (Nat.le_refl _))
      have hc := hO.out (rnsOf done) (r : Int) I cap bs W2 hb2 hbs2 hbl.out hst.out
      replace hc := Lib.hid hc
      replace hpos := Lib.hid hpos
      replace hit2 := Lib.hid hit2
      replace hbel2 := Lib.hid hbel2
      replace hbs2 := Lib.hid hbs2
      replace hb2 := Lib.hid hb2
      replace hR := Lib.hid hR
      replace hIit := Lib.hid hIit
      clear hit hbel
      go_wp2_with fail
      refine hc.out.mono ?_
      rintro e W3 ⟨I', cap', bs', rfl, hI', hb3, hl3, g3, hst3⟩
      have hit3 := it_keep hit2.out g3 (by simp)
      have hbel3 := below_gr hbel2.out g3 hbel2.out.size (by simp)
      have hpos3 := it_pos hit3
      rw [← rnsOf_snoc done r b] at hst3
      replace hst3 := Lib.hid hst3
      replace hit3 := Lib.hid hit3
      replace hbel3 := Lib.hid hbel3
      replace hpos3 := Lib.hid hpos3
      replace hb3 := Lib.hid hb3
      replace hl3 := Lib.hid hl3
      replace g3 := Lib.hid g3
      go_wp2
      go_roundw
      case rel => exact ⟨q + k, done ++ [(r, b)], I', cap', bs', hfit, rfl, hR.out.next, hit3, hbel3, hb3, hl3, hst3⟩
      case measure => rw [hpos3.out, hpos.out]; omega
    · have hnx := fun ty => next_end (P := Try.prog) (by omega) hit.out ty
      have hd := chunks_done hch.out (by omega)
      have hru : rnsOf done = runesOf l := by rw [hd]; rfl
      have hs0 := hst.out 0
      rw [hru, mach_lang hm.out] at hs0
      obtain ⟨b0, hb0'⟩ : ∃ b0, bs[0]? = some b0 := ⟨_, List.getElem?_eq_getElem (by rw [hbl.out]; exact hz)⟩
      have hbv : b0 = H x (runesOf l) := by
        cases b0 with
        | true => exact (holds_yes hH (hs0.1 hb0')).symm
        | false => exact (holds_no hH (fun h => by rw [hs0.2 h] at hb0'; cases hb0')).symm
      have kc := bool_cell hbs.out hb0'
      have hz0 : (0 : Int) < (n : Int) := by omega
      have gg : Gr w wr := gr_trans g1.out (gr_of_below hbel.out (Nat.le_refl _))
      replace hbv := Lib.hid hbv
      replace hs0 := Lib.hid hs0
      replace hd := Lib.hid hd
      replace hru := Lib.hid hru
      replace hb0' := Lib.hid hb0'
      go_wp2
      go_ret
      exact ⟨by rw [← hbv.out]; rfl, gg⟩
/-- Begins, as far as d runes. -/
def BegUp (x : T) (rs : List Int) (d : Nat) (m : Int) : Prop := (m = -1 ∧ ∀ k, k ≤ d → ¬ Lang x (rs.take k)) ∨ ∃ k : Nat, m = k ∧ k ≤ d ∧ Lang x (rs.take k) ∧ ∀ j, k < j → j ≤ d → ¬ Lang x (rs.take j)
theorem begup_yes {x : T} {rs : List Int} {d : Nat} (h : Lang x (rs.take d)) : BegUp x rs d (d : Int) := .inr ⟨d, rfl, Nat.le_refl _, h, fun j h1 h2 => by omega⟩
theorem begup_no {x : T} {rs : List Int} {d : Nat} {m : Int} (h : BegUp x rs d m) (hn : ¬ Lang x (rs.take (d + 1))) : BegUp x rs (d + 1) m := by
  rcases h with ⟨rfl, h⟩ | ⟨k, rfl, h1, h2, h3⟩
  · refine .inl ⟨rfl, fun k hk => ?_⟩
    rcases Nat.lt_or_ge d k with h' | h'
    · obtain rfl : k = d + 1 := by omega
      exact hn
    · exact h k h'
  · refine .inr ⟨k, rfl, by omega, h2, fun j hj hj2 => ?_⟩
    rcases Nat.lt_or_ge d j with h' | h'
    · obtain rfl : j = d + 1 := by omega
      exact hn
    · exact h3 j hj h'
theorem begup_end {x : T} {rs : List Int} {m : Int} (h : BegUp x rs rs.length m) : BegIn x rs m := h
set_option maxHeartbeats 8000000 in
set_option maxRecDepth 100000 in
theorem begins_any (p : Nat) (l0 : List UInt8) (x : T) (l : List UInt8) (w : World) (hpat : PatAt w p l0 x) (hl : l.length ≤ 1000000) :
    Calls Try.prog 13 #[.pointer (some ⟨p, 0, none⟩), .string (txt l)] w fun e w' => ∃ m, e = .returned (.int .i64 m) ∧ BegIn x (runesOf l) m ∧ Gr w w' := by
  obtain ⟨zs, A, c, first, hb, hm, hzl, _⟩ := hpat
  have k1 : w.cell? ⟨p, 1, none⟩ = some (.slice A zs.length c) := blk_cell hb.pb rfl
  have hz : 0 < zs.length := by have := mach_in hm; rw [List.length_map] at this; omega
  have hzF : ((zs.length : Int) == 0) = false := eqF (by omega)
  have hz0 : (0 : Int) < (zs.length : Int) := by omega
  have hB := begin_any p (txt l0) zs A c first x hm hzl w hb
  have hO := fun u r I1 cap1 bs1 w => on_any p (txt l0) zs A c first x hm hzl u r I1 cap1 bs1 w
  have hML := fun u => mach_lang hm u
  have hcl := chunks_len l
  have hrl := runes_len l
  obtain ⟨n, hn⟩ : ∃ n, n = zs.length := ⟨_, rfl⟩
  unfold MarkPost at hB hO
  rw [← hn] at k1 hz hz0 hzF hB hO
  replace hO := Lib.hid hO
  replace hB := Lib.hid hB
  replace hb := Lib.hid hb
  replace hm := Lib.hid hm
  replace hn := Lib.hid hn
  replace hML := Lib.hid hML
  replace hrl := Lib.hid hrl
  go_enter Try.func13, Try.ntmps13
  go_wp2_with fail
  refine hB.out.mono ?_
  rintro e W1 ⟨I, cap, bs, rfl, hI, hb1, hl1, g1, hset⟩
  obtain ⟨b0, hb0'⟩ : ∃ b0, bs[0]? = some b0 := ⟨_, List.getElem?_eq_getElem (by rw [hl1]; exact hz)⟩
  have kc0 := bool_cell hb1 hb0'
  obtain ⟨m0, hm0, hbeg0⟩ : ∃ m0 : Int, ((b0 = true ∧ m0 = 0) ∨ (b0 = false ∧ m0 = -1)) ∧ BegUp x (runesOf l) 0 m0 := by
    have hs0 := hset 0
    rw [hML.out] at hs0
    cases b0 with
    | true => exact ⟨0, .inl ⟨rfl, rfl⟩, begup_yes (d := 0) (by rw [List.take_zero]; exact hs0.1 hb0')⟩
    | false => exact ⟨-1, .inr ⟨rfl, rfl⟩, .inl ⟨rfl, fun k hk hh => by
        obtain rfl : k = 0 := by omega
        rw [List.take_zero] at hh
        rw [hs0.2 hh] at hb0'
        cases hb0'⟩⟩
  have it0 := it_new W1 (txt l)
  have bel0 := gr_below (it_new_gr W1 (txt l) none)
  have hb0 : BoolAt (W1.iter (txt l) 0) I bs := gr_blk (it_new_gr W1 (txt l) none) hb1 (by simp)
  replace it0 := Lib.hid it0
  replace bel0 := Lib.hid bel0
  replace hb0 := Lib.hid hb0
  replace hset := Lib.hid hset
  replace hl1 := Lib.hid hl1
  replace g1 := Lib.hid g1
  replace hb0' := Lib.hid hb0'
  replace hbeg0 := Lib.hid hbeg0
  clear hb1 hI
  rcases hm0 with ⟨rfl, rfl⟩ | ⟨rfl, rfl⟩
  all_goals
    go_wp2
    go_loopw [5, 6, 7] (fun iv ov nv wr => ∃ (q : Nat) (done : List (Nat × List UInt8)) (I cap : Nat) (bs : List Bool) (m : Int), q ≤ l.length ∧ iv = .slice (some ⟨I, 0, none⟩) n cap ∧ ov = .int .i64 m ∧ nv = .int .i64 done.length ∧ Hid (BegUp x (runesOf l) done.length m) ∧ Hid (chunks l = done ++ chunks (l.drop q)) ∧ Hid (It wr W1.heap.size (txt l) q) ∧ Hid (Below W1.heap.size W1 wr) ∧ Hid (BoolAt wr I bs) ∧ Hid (bs.length = n) ∧ Hid (∀ k : Nat, bs[k]? = some true ↔ Path (zs.map (·.1)) first (rnsOf done) k)) (fun _ _ _ wr => l.length - wr.iterPos W1.heap.size)
    case atStart => exact ⟨0, [], I, cap, bs, _, Nat.zero_le _, rfl, rfl, rfl, hbeg0, rfl, it0, bel0, hb0, hl1, hset⟩
    case round =>
      obtain ⟨q, done, I, cap, bs, m, hq, rfl, rfl, rfl, hbeg, hch, hit, hbel, hbs, hbl, hst⟩ := hrel
      by_cases hlt : q < l.length
      · obtain ⟨r, k, b, hR⟩ := round_at hch.out hlt
        have hnx := fun ty => next_round (P := Try.prog) hR hit.out ty
        have hit2 := it_step hit.out (q + k)
        have hbel2 := below_gr hbel.out (it_gr wr W1.heap.size (txt l) (q + k)) hbel.out.size (by intro y hy; cases hy; exact Nat.le_refl _)
        have hIit : I ≠ W1.heap.size := fun e => by
          subst e
          have h1 := hbs.out
          have h2 := hit.out
          unfold BoolAt at h1
          unfold It at h2
          rw [h1] at h2
          simp at h2
        have hbs2 : BoolAt (itW wr W1.heap.size (txt l) (q + k)) I bs := gr_blk (it_gr wr W1.heap.size (txt l) (q + k)) hbs.out (fun e => hIit (Option.some.inj e))
        have hfit := hR.fits
        have hw1 := hR.width
        have hpos := it_pos hit.out
        have hdl := done_len hch.out
        generalize itW wr W1.heap.size (txt l) (q + k) = W2 at hnx hit2 hbel2 hbs2
        have hb2 := bld_gr (bld_gr hb.out g1.out) (gr_of_below hbel2 (Nat.le_refl _))
        have hc := hO.out (rnsOf done) (r : Int) I cap bs W2 hb2 hbs2 hbl.out hst.out
        have htk := rnsOf_take (done := done ++ [(r, b)]) hR.next
        rw [List.length_append, List.length_singleton] at htk
        replace hc := Lib.hid hc
        replace hpos := Lib.hid hpos
        replace hit2 := Lib.hid hit2
        replace hbel2 := Lib.hid hbel2
        replace hbs2 := Lib.hid hbs2
        replace hb2 := Lib.hid hb2
        replace hR := Lib.hid hR
        replace hIit := Lib.hid hIit
        replace htk := Lib.hid htk
        clear hit hbel
        go_wp2_with fail
        refine hc.out.mono ?_
        rintro e W3 ⟨I', cap', bs', rfl, hI', hb3, hl3, g3, hst3⟩
        have hit3 := it_keep hit2.out g3 (by simp)
        have hbel3 := below_gr hbel2.out g3 hbel2.out.size (by simp)
        have hpos3 := it_pos hit3
        rw [← rnsOf_snoc done r b] at hst3
        obtain ⟨b1, hb1'⟩ : ∃ b1, bs'[0]? = some b1 := ⟨_, List.getElem?_eq_getElem (by rw [hl3]; exact hz)⟩
        have kc1 := bool_cell hb3 hb1'
        have hs1 := hst3 0
        rw [hML.out, htk.out.1] at hs1
        replace hst3 := Lib.hid hst3
        replace hit3 := Lib.hid hit3
        replace hbel3 := Lib.hid hbel3
        replace hpos3 := Lib.hid hpos3
        replace hb3 := Lib.hid hb3
        replace hl3 := Lib.hid hl3
        replace g3 := Lib.hid g3
        cases b1 with
        | true =>
          have hbeg3 : BegUp x (runesOf l) (done.length + 1) ((done.length + 1 : Nat) : Int) := begup_yes (hs1.1 hb1')
          replace hbeg3 := Lib.hid hbeg3
          replace hs1 := Lib.hid hs1
          replace hb1' := Lib.hid hb1'
          go_wp2
          go_roundw
          case rel => exact ⟨q + k, done ++ [(r, b)], I', cap', bs', ((done.length + 1 : Nat) : Int), hfit, rfl, by go_num, by simp, Lib.hid (by rw [List.length_append]; exact hbeg3.out), hR.out.next, hit3, hbel3, hb3, hl3, hst3⟩
          case measure => rw [hpos3.out, hpos.out]; omega
        | false =>
          have hbeg3 : BegUp x (runesOf l) (done.length + 1) m := begup_no hbeg.out (fun h => by rw [hs1.2 h] at hb1'; cases hb1')
          replace hbeg3 := Lib.hid hbeg3
          replace hs1 := Lib.hid hs1
          replace hb1' := Lib.hid hb1'
          go_wp2
          go_roundw
          case rel => exact ⟨q + k, done ++ [(r, b)], I', cap', bs', m, hfit, rfl, rfl, by simp, Lib.hid (by rw [List.length_append]; exact hbeg3.out), hR.out.next, hit3, hbel3, hb3, hl3, hst3⟩
          case measure => rw [hpos3.out, hpos.out]; omega
      · have hnx := fun ty => next_end (P := Try.prog) (by omega) hit.out ty
        have hd := chunks_done hch.out (by omega)
        have hfin : BegIn x (runesOf l) m := by
          have := hbeg.out
          have e : done.length = (runesOf l).length := by rw [hd, hrl.out]
          rw [e] at this
          exact begup_end this
        have gg : Gr w wr := gr_trans g1.out (gr_of_below hbel.out (Nat.le_refl _))
        replace hfin := Lib.hid hfin
        replace hd := Lib.hid hd
        go_wp2
        go_ret
        exact ⟨m, rfl, hfin.out, gg⟩
set_option maxRecDepth 100000 in
theorem text_any (p : Nat) (l0 : List UInt8) (x : T) (w : World) (hpat : PatAt w p l0 x) : Calls Try.prog 14 #[.pointer (some ⟨p, 0, none⟩)] w fun e w' => e = .returned (.string (txt l0)) ∧ w = w' := by
  obtain ⟨zs, A, c, first, hb, hm, hzl, _⟩ := hpat
  have k0 : w.cell? ⟨p, 0, none⟩ = some (.string (txt l0)) := blk_cell hb.pb rfl
  clear hb hm hzl
  go_enter Try.func14, Try.ntmps14
  go_wp2
  go_ret
  exact ⟨rfl, rfl⟩
end Go.Proofs.Ytdccmmibfacpkaa
