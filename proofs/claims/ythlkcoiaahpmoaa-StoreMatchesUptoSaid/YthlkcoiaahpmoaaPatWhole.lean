/-
  What a pattern's Whole, Begins and Text answer. No condition but that the pattern lies in memory as Compile lays it, and a bound on the text. (soft)
-/
import Derived.Test.YthlkcoiaahpmoaaPatRun
namespace Go.Proofs.Ythlkcoiaahpmoaa
open Go.RowKit

/-- A function that tells what patterns take. -/
def Holds (H : T → List Int → Bool) : Prop := ∀ x u, H x u = true ↔ Lang x u
theorem holds_ex : ∃ H, Holds H := ⟨fun x u => @decide (Lang x u) (Classical.propDecidable _), fun _ _ => @decide_eq_true_iff _ (Classical.propDecidable _)⟩
theorem holds_yes {H : T → List Int → Bool} (hH : Holds H) {x : T} {u : List Int} (h : Lang x u) : H x u = true := (hH x u).2 h
theorem holds_no {H : T → List Int → Bool} (hH : Holds H) {x : T} {u : List Int} (h : ¬ Lang x u) : H x u = false := by
  cases hh : H x u with
  | false => rfl
  | true => exact absurd ((hH x u).1 hh) h
theorem holds_eq {H : T → List Int → Bool} (hH : Holds H) {x y : T} {u v : List Int} (h : Lang x u ↔ Lang y v) : H x u = H y v := by
  cases hh : H y v with
  | true => exact holds_yes hH (h.2 ((hH y v).1 hh))
  | false => exact holds_no hH (fun k => by rw [holds_yes hH (h.1 k)] at hh; cases hh)
def rnsOf (done : List (Nat × List UInt8)) : List Int := done.map fun c => (c.1 : Int)
theorem rnsOf_snoc (done : List (Nat × List UInt8)) (r : Nat) (b : List UInt8) : rnsOf (done ++ [(r, b)]) = rnsOf done ++ [(r : Int)] := by simp [rnsOf]
theorem rnsOf_take {l : List UInt8} {done : List (Nat × List UInt8)} {p : Nat} (h : chunks l = done ++ chunks (l.drop p)) : rnsOf done = (runesOf l).take done.length ∧ done.length ≤ (runesOf l).length := by
  unfold rnsOf runesOf
  rw [h, List.map_append]
  constructor
  · rw [List.take_left' (by simp)]
  · simp
set_option maxHeartbeats 8000000 in
set_option maxRecDepth 100000 in
theorem whole_any (H : T → List Int → Bool) (hH : Holds H) (p : Nat) (l0 : List UInt8) (x : T) (l : List UInt8) (w : World) (hpat : PatAt w p l0 x) (_hl : l.length ≤ 1000000) :
    Calls Try.prog 52 #[.pointer (some ⟨p, 0, none⟩), .string (txt l)] w fun e w' => e = .returned (.bool (H x (runesOf l))) ∧ Gr w w' := by
  obtain ⟨zs, A, c, first, hb, hm, hzl, _⟩ := hpat
  have k1 : w.cell? ⟨p, 1, none⟩ = some (.slice A zs.length c) := blk_cell hb.pb rfl
  have hz : 0 < zs.length := by have := mach_in hm; rw [List.length_map] at this; omega
  have hzF : ((zs.length : Int) == 0) = false := eqF (by omega)
  have hB := begin_any (lo := 0) p (txt l0) zs A c first x hm hzl w hb
  have hO := fun u r I1 cap1 bs1 w => on_any (lo := 0) p (txt l0) zs A c first x hm hzl u r I1 cap1 bs1 w
  obtain ⟨n, hn⟩ : ∃ n, n = zs.length := ⟨_, rfl⟩
  unfold MarkPost at hB hO
  rw [← hn] at k1 hz hzF hB hO
  replace hO := Lib.hid hO
  replace hB := Lib.hid hB
  replace hb := Lib.hid hb
  replace hm := Lib.hid hm
  replace hn := Lib.hid hn
  go_enter Try.func52, Try.ntmps52
  go_wp2_with fail
  refine hB.out.mono ?_
  rintro e W1 ⟨I, cap, bs, rfl, hI, hb1, hl1, g1, hset⟩
  have it0 := it_new W1 (txt l)
  have bel0 := gr_below (it_new_gr W1 (txt l) none)
  have hb0 : BoolAt (W1.iter (txt l) 0) I bs := gr_blk (it_new_gr W1 (txt l) none) hb1 (by simp)
  replace it0 := Lib.hid it0
  replace bel0 := Lib.hid bel0
  replace hb0 := Lib.hid hb0
  replace hset := Lib.hid hset
  replace hl1 := Lib.hid hl1
  replace g1 := Lib.hid g1
  clear hb1 hI
  go_wp2
  go_loopw [5] (fun iv wr => ∃ (q : Nat) (done : List (Nat × List UInt8)) (I cap : Nat) (bs : List Bool), q ≤ l.length ∧ iv = .slice (some ⟨I, 0, none⟩) n cap ∧ Hid (chunks l = done ++ chunks (l.drop q)) ∧ Hid (It wr W1.heap.size (txt l) q) ∧ Hid (Below W1.heap.size W1 wr) ∧ Hid (BoolAt wr I bs) ∧ Hid (bs.length = n) ∧ Hid (∀ k : Nat, bs[k]? = some true ↔ Path (zs.map (·.1)) first (rnsOf done) k)) (fun _ wr => l.length - wr.iterPos W1.heap.size)
  case atStart => exact ⟨0, [], I, cap, bs, Nat.zero_le _, rfl, rfl, it0, bel0, hb0, hl1, hset⟩
  case round =>
    obtain ⟨q, done, I, cap, bs, hq, rfl, hch, hit, hbel, hbs, hbl, hst⟩ := hrel
    by_cases hlt : q < l.length
    · obtain ⟨r, k, b, hR⟩ := round_at hch.out hlt
      have hnx := fun ty => next_round (P := Try.prog) hR hit.out ty
      have hit2 := it_step hit.out (q + k)
      have hbel2 := below_gr hbel.out (it_gr wr W1.heap.size (txt l) (q + k)) hbel.out.size (by intro y hy; cases hy; exact Nat.le_refl _)
      have hIit : I ≠ W1.heap.size := fun e => by
        subst e
        have h1 := hbs.out
        have h2 := hit.out
        unfold BoolAt at h1
        unfold It at h2
        rw [h1] at h2
        simp at h2
      have hbs2 : BoolAt (itW wr W1.heap.size (txt l) (q + k)) I bs := gr_blk (it_gr wr W1.heap.size (txt l) (q + k)) hbs.out (fun e => hIit (Option.some.inj e))
      have hfit := hR.fits
      have hw1 := hR.width
      have hpos := it_pos hit.out
      generalize itW wr W1.heap.size (txt l) (q + k) = W2 at hnx hit2 hbel2 hbs2
      have hb2 := bld_gr (bld_gr hb.out g1.out) (gr_of_below hbel2 (Nat.le_refl _))
      have hc := hO.out (rnsOf done) (r : Int) I cap bs W2 hb2 hbs2 hbl.out hst.out
      replace hc := Lib.hid hc
      replace hpos := Lib.hid hpos
      replace hit2 := Lib.hid hit2
      replace hbel2 := Lib.hid hbel2
      replace hbs2 := Lib.hid hbs2
      replace hb2 := Lib.hid hb2
      replace hR := Lib.hid hR
      replace hIit := Lib.hid hIit
      clear hit hbel
      go_wp2_with fail
      refine hc.out.mono ?_
      rintro e W3 ⟨I', cap', bs', rfl, hI', hb3, hl3, g3, hst3⟩
      have hit3 := it_keep hit2.out g3 (by simp)
      have hbel3 := below_gr hbel2.out g3 hbel2.out.size (by simp)
      have hpos3 := it_pos hit3
      rw [← rnsOf_snoc done r b] at hst3
      replace hst3 := Lib.hid hst3
      replace hit3 := Lib.hid hit3
      replace hbel3 := Lib.hid hbel3
      replace hpos3 := Lib.hid hpos3
      replace hb3 := Lib.hid hb3
      replace hl3 := Lib.hid hl3
      replace g3 := Lib.hid g3
      go_wp2
      go_roundw
      case rel => exact ⟨q + k, done ++ [(r, b)], I', cap', bs', hfit, rfl, hR.out.next, hit3, hbel3, hb3, hl3, hst3⟩
      case measure => rw [hpos3.out, hpos.out]; omega
    · have hnx := fun ty => next_end (P := Try.prog) (by omega) hit.out ty
      have hd := chunks_done hch.out (by omega)
      have hru : rnsOf done = runesOf l := by rw [hd]; rfl
      have hs0 := hst.out 0
      rw [hru, mach_lang hm.out] at hs0
      obtain ⟨b0, hb0'⟩ : ∃ b0, bs[0]? = some b0 := ⟨_, List.getElem?_eq_getElem (by rw [hbl.out]; exact hz)⟩
      have hbv : b0 = H x (runesOf l) := by
        cases b0 with
        | true => exact (holds_yes hH (hs0.1 hb0')).symm
        | false => exact (holds_no hH (fun h => by rw [hs0.2 h] at hb0'; cases hb0')).symm
      have kc := bool_cell hbs.out hb0'
      have hz0 : (0 : Int) < (n : Int) := by omega
      have gg : Gr w wr := gr_trans g1.out (gr_of_below hbel.out (Nat.le_refl _))
      replace hbv := Lib.hid hbv
      replace hs0 := Lib.hid hs0
      replace hd := Lib.hid hd
      replace hru := Lib.hid hru
      replace hb0' := Lib.hid hb0'
      go_wp2
      go_ret
      exact ⟨by rw [← hbv.out]; rfl, gg⟩
/-- Begins, as far as d runes. -/
def BegUp (x : T) (rs : List Int) (d : Nat) (m : Int) : Prop := (m = -1 ∧ ∀ k, k ≤ d → ¬ Lang x (rs.take k)) ∨ ∃ k : Nat, m = k ∧ k ≤ d ∧ Lang x (rs.take k) ∧ ∀ j, k < j → j ≤ d → ¬ Lang x (rs.take j)
theorem begup_yes {x : T} {rs : List Int} {d : Nat} (h : Lang x (rs.take d)) : BegUp x rs d (d : Int) := .inr ⟨d, rfl, Nat.le_refl _, h, fun j h1 h2 => by omega⟩
theorem begup_no {x : T} {rs : List Int} {d : Nat} {m : Int} (h : BegUp x rs d m) (hn : ¬ Lang x (rs.take (d + 1))) : BegUp x rs (d + 1) m := by
  rcases h with ⟨rfl, h⟩ | ⟨k, rfl, h1, h2, h3⟩
  · refine .inl ⟨rfl, fun k hk => ?_⟩
    rcases Nat.lt_or_ge d k with h' | h'
    · obtain rfl : k = d + 1 := by omega
      exact hn
    · exact h k h'
  · refine .inr ⟨k, rfl, by omega, h2, fun j hj hj2 => ?_⟩
    rcases Nat.lt_or_ge d j with h' | h'
    · obtain rfl : j = d + 1 := by omega
      exact hn
    · exact h3 j hj h'
theorem begup_end {x : T} {rs : List Int} {m : Int} (h : BegUp x rs rs.length m) : BegIn x rs m := h
end Go.Proofs.Ythlkcoiaahpmoaa
