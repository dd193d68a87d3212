/-
  GlyphTells holds of the program: for every input the call returns true and leaves what came in as it was. No condition.
-/
import Derived.Test.YtbpklmklbfcfjaaRows
import Derived.Test.YtbpklmklbfcfjaaGlyphRefName
import Derived.Test.YtbpklmklbfcfjaaGlyphAlive
import Derived.Test.YtbpklmklbfcfjaaApartRunes
import Derived.WalkKit
import Derived.ProofKit
import Derived.OpenShut
import Derived.ShutString
import Derived.ChangeOld
import Derived.Below
namespace Go.Proofs.Ytbpklmklbfcfjaa.glyphTells
open Go.ChangeShapes Go.WideShapes Go.ChangeAt Go.RowKit
open Go.ChangeMaps (open_string shut_string)
set_option linter.unusedVariables false

theorem own : ownKnob Try.prog.godebug = none := by kernel_rfl
theorem laidOut : laidOutB Try.prog = true := by kernel_rfl
theorem below_le {B B' : Nat} {w w' : World} (h : Below B w w') (hB : B' ≤ B) : Below B' w w' := ⟨h.os, h.tape, h.output, h.size, fun k hk => h.block k (Nat.lt_of_lt_of_le hk hB)⟩
theorem kept_new (w : World) : Kept (w.alloc (.cells (bkCells (.slice none 0 0) (.slice none 0 0)) 39)) w.heap.size ⟨none, 0, 0⟩ ⟨none, 0, 0⟩ [] [] :=
  ⟨blk_new w _, World.ownsRow_nil _ _ _ _, World.ownsRow_nil _ _ _ _, rfl, rfl, fun k h => by simp [Value.ownBlock] at h⟩
theorem kept_gr {w w' : World} {K : Nat} {T V : Lst} {ls cs : List Lst} (h : Kept w K T V ls cs) (g : Gr w w') : Kept w' K T V ls cs :=
  ⟨gr_blk g h.blk (by simp), h.hT.kept g (by cases T.v.ownBlock <;> simp), h.hV.kept g (by cases V.v.ownBlock <;> simp), h.nT, h.nV, h.ne⟩
theorem kept0 {w w' : World} {base : Nat} {e : TypeId} {v : Value} {n : Nat} {xs : List Value} (h : w.ownsRow base e 1 v n xs) (g : Gr w w') : w'.ownsRow base e 1 v n xs := h.kept g (by cases v.ownBlock <;> simp)
def rl (l : List UInt8) : List Int := (chunks l).map fun c => (c.1 : Int)
theorem rl_map (l : List UInt8) : (chunks l).map runeV = (rl l).map bkE := by unfold rl; rw [List.map_map]; rfl
set_option maxHeartbeats 40000000 in
set_option maxRecDepth 100000 in
theorem walk (w : World) (a0 : ByteArray) (w0 : a0.size ≤ maxLen) (a1 : Int) (w1 : (Lit.int .i64 a1).wf = true) (a2 : Int) (w2 : (Lit.int .i32 a2).wf = true) :
    Calls Try.prog 3 #[.string a0, .int .i64 a1, .int .i32 a2] w fun e w' => e = .returned (.bool true) ∧ Below w.heap.size w w' := by
  have x1 := rng_i64 w1
  clear w1 w2
  obtain ⟨l, rfl⟩ : ∃ l, a0 = txt l := ⟨_, (txt_of a0).symm⟩
  rw [txt_size] at w0
  unfold maxLen at w0
  by_cases c : 2000 < l.length
  · have ci : (2000 : Int) < (l.length : Int) := by omega
    go_enter Try.func3, Try.ntmps3
    go_wp2_with fail
    refine (alive_any _).mono ?_
    rintro e W1 ⟨rfl, g1⟩
    go_wp2
    go_ret
    exact ⟨rfl, gr_below g1⟩
  have ci : (l.length : Int) ≤ 2000 := by omega
  have ci' : ((2000 : Int) < (l.length : Int)) = False := by simp; omega
  have hNl := chunks_len l
  obtain ⟨N, hN⟩ : ∃ N, N = (chunks l).length := ⟨_, rfl⟩
  have hNle : N ≤ 2000 := by omega
  have hrl := rl_map l
  obtain ⟨L, hL⟩ : ∃ L, L = rl l := ⟨_, rfl⟩
  rw [← hL] at hrl
  have hLN : L.length = N := by rw [hL, hN]; simp [rl]
  have cSp : ∀ w, Calls Try.prog 5 #[.string (txt l)] w fun e w' => ∃ A cc, e = .returned (.slice A N cc) ∧ w'.ownsRow w.heap.size 21 1 (.slice A N cc) N (L.map bkE) ∧ Gr w w' := fun w => (refSpell_any l w (by omega)).mono (by
    rintro e w' ⟨v, rfl, ho, g⟩
    rw [hrl, ← hN] at ho
    obtain ⟨A, cc, rfl, _, _⟩ := own_open ho
    exact ⟨A, cc, rfl, ho, g⟩)
  have cSq : ∀ w, Calls Try.prog 7 #[.string (txt l)] w fun e w' => ∃ A cc, e = .returned (.slice A N cc) ∧ w'.ownsRow w.heap.size 21 1 (.slice A N cc) N (L.map bkE) ∧ Gr w w' := fun w => (spell_any l w (by omega)).mono (by
    rintro e w' ⟨v, rfl, ho, g⟩
    rw [hrl, ← hN] at ho
    obtain ⟨A, cc, rfl, _, _⟩ := own_open ho
    exact ⟨A, cc, rfl, ho, g⟩)
  have cCut : ∀ w, Calls Try.prog 6 #[.string (txt l), .int .i64 a1] w (CutPost l a1 w) := fun w => cut_any l a1 w (by omega) x1
  unfold CutPost at cCut
  have cN1 := fun w => name_any l w (by omega)
  have cN2 := fun w => refName_any l w (by omega)
  have cC := fun w => count_any l w (by omega)
  rw [← hN] at cC
  have cK1 := fun w => kind_any a2 w
  have cK2 := fun w => refKind_any a2 w
  obtain ⟨A', hA⟩ : ∃ A', A' = upto a1.toNat l := ⟨_, rfl⟩
  obtain ⟨B', hB⟩ : ∃ B', B' = joinC ((chunks l).drop a1.toNat) := ⟨_, rfl⟩
  rw [← hA, ← hB] at cCut
  obtain ⟨K0, hK0⟩ : ∃ K0 : Nat, K0 = min a1.toNat N := ⟨_, rfl⟩
  have hK0i : min (max a1 0) (N : Int) = (K0 : Int) := by omega
  have hK0N : K0 ≤ N := by omega
  generalize isName l = nm at cN1 cN2
  generalize kind a2 = kd at cK1 cK2
  have hsz : (txt l).size = l.length := txt_size l
  replace hsz := Lib.hid hsz
  replace hN := Lib.hid hN
  replace hL := Lib.hid hL
  replace hLN := Lib.hid hLN
  replace hrl := Lib.hid hrl
  replace hA := Lib.hid hA
  replace hB := Lib.hid hB
  replace hK0 := Lib.hid hK0
  replace cSp := Lib.hid cSp
  replace cSq := Lib.hid cSq
  replace cCut := Lib.hid cCut
  replace cN1 := Lib.hid cN1
  replace cN2 := Lib.hid cN2
  replace cC := Lib.hid cC
  replace cK1 := Lib.hid cK1
  replace cK2 := Lib.hid cK2
  go_enter Try.func3, Try.ntmps3
  go_wp2_with fail
  refine (alive_any _).mono ?_
  rintro e W1 ⟨rfl, g1⟩
  go_wp2_with fail
  refine (cSp.out _).mono ?_
  rintro e W2 ⟨A0, c0, rfl, hwant, g2⟩
  go_wp2_with fail
  refine (cCut.out _).mono ?_
  rintro e W3 ⟨rfl, g3⟩
  have hwant3 := kept0 hwant g3
  have hW2s : W1.heap.size ≤ W3.heap.size := (gr_trans g2 g3).size
  have hbel3 : Below W1.heap.size W1 W3 := gr_below (gr_trans g2 g3)
  have it0 := it_new W3 (txt l)
  have bel0 := gr_below (it_new_gr W3 (txt l) none)
  replace it0 := Lib.hid it0
  replace bel0 := Lib.hid bel0
  replace hwant3 := Lib.hid hwant3
  replace hbel3 := Lib.hid hbel3
  replace g1 := Lib.hid g1
  clear hwant g2 g3
  go_upto_block 0 with fail
  go_cut [11] (fun s11 wx => ∃ p : Nat, s11 = .int .i64 p ∧ p ≤ l.length ∧ Hid (A' = l.take p ∧ B' = l.drop p) ∧ Hid (Below W3.heap.size W3 wx))
  case first =>
    go_wp2
    go_loopw [10, 11] (fun kv av wr => ∃ (p : Nat) (done : List (Nat × List UInt8)), p ≤ l.length ∧ done.length ≤ K0 ∧ kv = .int .i64 ((K0 : Int) - (done.length : Int)) ∧ av = .int .i64 p ∧ Hid (chunks l = done ++ chunks (l.drop p)) ∧ Hid (It wr W3.heap.size (txt l) p) ∧ Hid (Below W3.heap.size W3 wr)) (fun _ _ wr => l.length - wr.iterPos W3.heap.size)
    case atStart => exact ⟨0, [], Nat.zero_le _, Nat.zero_le _, by simp, rfl, rfl, it0, bel0⟩
    case round =>
      obtain ⟨p, done, hp, hdk, rfl, rfl, hch, hit, hbel⟩ := hrel
      by_cases hlt : p < l.length
      · obtain ⟨r, k, b, hR⟩ := round_at hch.out hlt
        have hn := fun ty => next_round (P := Try.prog) hR hit.out ty
        have hit2 := it_step hit.out (p + k)
        have hbel2 := below_gr hbel.out (it_gr wr W3.heap.size (txt l) (p + k)) hbel.out.size (by intro q hq; cases hq; exact Nat.le_refl _)
        have hfit := hR.fits
        have hw1 := hR.width
        have hrr := (round_rng hR).1
        have hpos := it_pos hit.out
        generalize itW wr W3.heap.size (txt l) (p + k) = V2 at hn hit2 hbel2
        replace hpos := Lib.hid hpos
        replace hit2 := Lib.hid hit2
        replace hbel2 := Lib.hid hbel2
        by_cases hdone : done.length = K0
        · have hz : (K0 : Int) - (done.length : Int) = 0 := by omega
          rw [hz]
          have hcut := done_upto2 (n := a1.toNat) hch.out hp (by rw [hdone, hK0.out, hN.out])
          rw [← hA.out, ← hB.out] at hcut
          replace hcut := Lib.hid hcut
          replace hz := Lib.hid hz
          replace hdone := Lib.hid hdone
          clear hbel hit
          go_wp2
          go_meet
          exact ⟨p, rfl, hp, hcut, hbel2⟩
        · have hz : ((K0 : Int) - (done.length : Int) == 0) = false := eqF (by omega)
          have hdl : done.length + 1 ≤ K0 := by omega
          have hR1 : Round (l.drop p) [] 0 r k b := ⟨by simpa using hR.dec, by
            have h1 := hR.next
            rw [hch.out, List.append_assoc] at h1
            have h2 := List.append_cancel_left h1
            simp only [List.nil_append, Nat.zero_add, List.drop_drop]
            exact h2, hR.width, by rw [List.length_drop]; omega, by simpa using hR.bytes, hR.len, hR.ok, by
              have h1 := hR.next
              rw [hch.out, List.append_assoc] at h1
              rw [List.append_cancel_left h1]
              simp⟩
          have hlast := txt_last l p
          have hii := it_new V2 (txt (l.drop p))
          have hn1 := fun ty => next_round (P := Try.prog) hR1 hii ty
          have hii2 := it_step hii (0 + k)
          have gi : Gr V2 (itW (V2.iter (txt (l.drop p)) 0) V2.heap.size (txt (l.drop p)) (0 + k)) := by
            have h1 := it_new_gr V2 (txt (l.drop p)) none
            have h2 := below_gr (gr_below h1) (it_gr (V2.iter (txt (l.drop p)) 0) V2.heap.size (txt (l.drop p)) (0 + k)) h1.size (by intro q hq; cases hq; exact Nat.le_refl _)
            exact gr_of_below h2 (Nat.le_refl _)
          rw [Nat.zero_add] at hn1 hii2 gi
          generalize itW (V2.iter (txt (l.drop p)) 0) V2.heap.size (txt (l.drop p)) k = V1 at hn1 hii2 gi
          replace hii := Lib.hid hii
          replace hii2 := Lib.hid hii2
          replace gi := Lib.hid gi
          replace hR1 := Lib.hid hR1
          replace hR := Lib.hid hR
          replace hdone := Lib.hid hdone
          have hps : (p : Int) ≤ ((txt l).size : Int) := by rw [hsz.out]; omega
          have hk0 : (0 : Int) < (k : Int) := by omega
          clear hbel hit
          have fin : ∀ wy, Gr V2 wy → It wy W3.heap.size (txt l) (p + k) ∧ Below W3.heap.size W3 wy ∧ l.length - wy.iterPos W3.heap.size < l.length - wr.iterPos W3.heap.size := fun wy gx => by
            have hit3 := it_keep hit2.out gx (by simp)
            have hbel3 := below_gr hbel2.out gx hbel2.out.size (by simp)
            have hpos3 := it_pos hit3
            exact ⟨hit3, hbel3, by rw [hpos3, hpos.out]; omega⟩
          replace fin := Lib.hid fin
          by_cases h2 : p + k < l.length
          · have hl2 : k < (l.drop p).length := by rw [List.length_drop]; omega
            obtain ⟨r2, k2, b2, hR2⟩ := round_at (l := l.drop p) (done := [(r, b)]) (p := k) (by have := hR1.out.next; simpa using this) hl2
            have hn2 := fun ty => next_round (P := Try.prog) hR2 hii2.out ty
            have gi2 : Gr V2 (itW V1 V2.heap.size (txt (l.drop p)) (k + k2)) := gr_of_below (below_gr (gr_below gi.out) (it_gr V1 V2.heap.size (txt (l.drop p)) (k + k2)) gi.out.size (by intro q hq; cases hq; exact Nat.le_refl _)) (Nat.le_refl _)
            generalize itW V1 V2.heap.size (txt (l.drop p)) (k + k2) = V3 at hn2 gi2
            replace gi2 := Lib.hid gi2
            replace hR2 := Lib.hid hR2
            go_wp2
            refine wp_loop_rounds 2 ?_
            rw [rounds_succ]
            go_wp2
            rw [rounds_succ]
            go_wp2
            go_roundw
            case rel => exact ⟨p + k, done ++ [(r, b)], hfit, by simp; omega, by rw [List.length_append]; simp; omega, by go_num, hR.out.next, (fin.out _ gi2.out).1, (fin.out _ gi2.out).2.1⟩
            case measure => exact (fin.out _ gi2.out).2.2
          · have hl2 : (l.drop p).length ≤ k := by rw [List.length_drop]; omega
            have hn2 := fun ty => next_end (P := Try.prog) hl2 hii2.out ty
            have hkk : l.length = p + k := by omega
            replace hkk := Lib.hid hkk
            go_wp2
            refine wp_loop_rounds 2 ?_
            rw [rounds_succ]
            go_wp2
            rw [rounds_succ]
            go_wp2
            go_roundw
            case rel => exact ⟨p + k, done ++ [(r, b)], hfit, by simp; omega, by rw [List.length_append]; simp; omega, by rw [hkk.out], hR.out.next, (fin.out _ gi.out).1, (fin.out _ gi.out).2.1⟩
            case measure => exact (fin.out _ gi.out).2.2
      · have hn := fun ty => next_end (P := Try.prog) (by omega) hit.out ty
        have hd := chunks_done hch.out (by omega)
        have hdl : done.length = min a1.toNat (chunks l).length := by
          have h1 := hN.out
          have h2 := hK0.out
          have h3 : done.length = (chunks l).length := by rw [hd]
          omega
        have hcut := done_upto2 (n := a1.toNat) hch.out hp hdl
        rw [← hA.out, ← hB.out] at hcut
        replace hcut := Lib.hid hcut
        replace hd := Lib.hid hd
        replace hdl := Lib.hid hdl
        go_wp2
        go_meet
        exact ⟨p, rfl, hp, hcut, hbel⟩
  case rest =>
  obtain ⟨p, rfl, hp, hcut, hbel⟩ := hcut
  have hps : (p : Int) ≤ ((txt l).size : Int) := by rw [hsz.out]; omega
  have hp0 : (0 : Int) ≤ (p : Int) := by omega
  have hfst := txt_first l p
  have hlst := txt_last l p
  rw [← hcut.out.1] at hfst
  rw [← hcut.out.2] at hlst
  have hAA : (A' == A') = true := by simp
  have hBB : (B' == B') = true := by simp
  have hkk : (kd == kd) = true := by simp
  have hmm : (nm == nm) = true := by simp
  have hNN : ((N : Int) == (N : Int)) = true := by simp
  have hbel5 := hbel3.out.trans (below_le hbel.out hW2s)
  have hcs : W1.heap.size ≤ wc.heap.size := hbel5.size
  have hwant5 := kept0 hwant3.out (gr_of_below hbel.out (Nat.le_refl _))
  clear hbel hbel3 hwant3 it0 bel0
  obtain ⟨W8, hW8⟩ : ∃ W8, W8 = wc.alloc (.cells (bkCells (.slice none 0 0) (.slice none 0 0)) 39) := ⟨_, rfl⟩
  have hk8 := kept_new wc
  have hwant8 := hwant5.alloc (.cells (bkCells (.slice none 0 0) (.slice none 0 0)) 39)
  have hbel8 := below_gr hbel5 (gr_alloc wc (.cells (bkCells (.slice none 0 0) (.slice none 0 0)) 39) none) hcs (by simp)
  have hW8s : wc.heap.size < W8.heap.size := by rw [hW8]; simp
  rw [← hW8] at hk8 hwant8 hbel8
  replace hwant8 := Lib.hid hwant8
  replace hbel8 := Lib.hid hbel8
  replace hk8 := Lib.hid hk8
  replace hcut := Lib.hid hcut.out
  clear hwant5 hbel5
  go_wp2_with fail
  have hchg : ∀ (Q : Ending → World → Prop), Calls Try.prog 7 #[.string (txt l)] W8 Q → Calls Try.prog 7 #[.string (txt l)] (wc.alloc (.cells (bkCells (.slice none 0 0) (.slice none 0 0)) 39)) Q := fun Q h => by rw [← hW8]; exact h
  refine hchg _ ?_
  refine (cSq.out _).mono ?_
  rintro e W9 ⟨A1, cc1, rfl, hall9, g9⟩
  have hk9 := kept_gr hk8.out g9
  have hwant9 := kept0 hwant8.out g9
  have hbel9 := below_gr hbel8.out g9 hbel8.out.size (by simp)
  clear hchg
  replace hk9 := Lib.hid hk9
  replace hwant9 := Lib.hid hwant9
  replace hbel9 := Lib.hid hbel9
  replace hall9 := Lib.hid hall9
  replace hW8 := Lib.hid hW8
  go_wp2_with fail
  refine (cSq.out _).mono ?_
  rintro e W10 ⟨A2, cc2, rfl, hm10, g10⟩
  have hk10 := kept_gr hk9.out g10
  have hwant10 := kept0 hwant9.out g10
  have hall10 := kept0 hall9.out g10
  have hbel10 := below_gr hbel9.out g10 hbel9.out.size (by simp)
  have hkeep1 := keep_any wc.heap.size ⟨none, 0, 0⟩ ⟨none, 0, 0⟩ [] [] ⟨A1, N, cc1⟩ L W10 (by simp) rfl hk10 (by simp only; omega) (own_mono hall10 (Nat.zero_le _))
  have hpart : ∀ k, (Value.slice A1 N cc1).ownBlock = some k → (Value.slice A2 N cc2).ownBlock = some k → False := by
    intro k hk hk2
    have h1 := (hall9.out.lt k hk).2
    have h2 := (hm10.lt k hk2).1
    omega
  replace hk10 := Lib.hid hk10
  replace hwant10 := Lib.hid hwant10
  replace hall10 := Lib.hid hall10
  replace hm10 := Lib.hid hm10
  replace hbel10 := Lib.hid hbel10
  replace hkeep1 := Lib.hid hkeep1
  replace hpart := Lib.hid hpart
  go_wp2_with fail
  refine hkeep1.out.mono ?_
  rintro e W11 ⟨rfl, T1, V1, c1, hk11, hc1n, hc1o, hb11, ty11⟩
  have hwant11 := ty11 _ _ _ _ _ _ (by decide) (by decide) hwant10.out
  have hall11 := ty11 _ _ _ _ _ _ (by decide) (by decide) hall10.out
  have hm11 := ty11 _ _ _ _ _ _ (by decide) (by decide) hm10.out
  have hbel11 := hbel10.out.trans (below_le hb11 hcs)
  have hkeep2 := keep_any wc.heap.size T1 V1 _ _ ⟨A2, N, cc2⟩ L W11 (by simp) (by simp) hk11 (by simp only; omega) (own_mono hm11 (Nat.zero_le _))
  clear ty11 hb11
  replace hk11 := Lib.hid hk11
  replace hwant11 := Lib.hid hwant11
  replace hall11 := Lib.hid hall11
  replace hm11 := Lib.hid hm11
  replace hbel11 := Lib.hid hbel11
  replace hkeep2 := Lib.hid hkeep2
  replace hc1n := Lib.hid hc1n
  replace hc1o := Lib.hid hc1o
  go_wp2_with fail
  refine hkeep2.out.mono ?_
  rintro e W12 ⟨rfl, T2, V2, c2, hk12, hc2n, hc2o, hb12, ty12⟩
  have hwant12 := ty12 _ _ _ _ _ _ (by decide) (by decide) hwant11.out
  have hall12 := ty12 _ _ _ _ _ _ (by decide) (by decide) hall11.out
  have hm12 := ty12 _ _ _ _ _ _ (by decide) (by decide) hm11.out
  have hc112 := ty12 _ _ _ _ _ _ (by decide) (by decide) hc1o.out
  have hbel12 := hbel11.out.trans (below_le hb12 hcs)
  clear ty12 hb12
  replace hk12 := Lib.hid hk12
  replace hwant12 := Lib.hid hwant12
  replace hall12 := Lib.hid hall12
  replace hm12 := Lib.hid hm12
  replace hc112 := Lib.hid hc112
  replace hbel12 := Lib.hid hbel12
  replace hc2n := Lib.hid hc2n
  replace hc2o := Lib.hid hc2o
  go_wp2_with fail
  refine (cK1.out _).mono ?_
  rintro e W13 ⟨rfl, rfl⟩
  go_wp2_with fail
  refine (cK2.out _).mono ?_
  rintro e W13 ⟨rfl, rfl⟩
  go_wp2_with fail
  refine (cN1.out _).mono ?_
  rintro e W13 ⟨rfl, g13⟩
  go_wp2_with fail
  refine (cN2.out _).mono ?_
  rintro e W14 ⟨rfl, g14⟩
  go_wp2_with fail
  refine (cC.out _).mono ?_
  rintro e W15 ⟨rfl, g15⟩
  have gg := gr_trans (gr_trans g13 g14) g15
  clear g13 g14 g15
  have hsame := same_yes A1 A0 N cc1 c0 L W15 (by omega) (row_own (kept0 hall12.out gg)) (row_own (kept0 hwant12.out gg))
  replace hsame := Lib.hid hsame
  replace gg := Lib.hid gg
  go_wp2_with fail
  refine hsame.out.mono ?_
  rintro e W16 ⟨rfl, g16⟩
  have g13 := gr_trans gg.out g16
  have hk13 := kept_gr hk12.out g13
  have hall13 := kept0 hall12.out g13
  have hm13 := kept0 hm12.out g13
  have hc113 := kept0 hc112.out g13
  have hc213 := kept0 hc2o.out g13
  have hbel13 := below_gr hbel12.out g13 hbel12.out.size (by simp)
  have hK13 : W1.heap.size ≤ W16.heap.size := hbel13.size
  have hpd : Parted [⟨A1, N, cc1⟩, ⟨A2, N, cc2⟩] := by
    intro i j l m k hi hj hl hm
    match i, j, hi, hj with
    | 0, 0, _, _ => rfl
    | 1, 1, _, _ => rfl
    | 0, 1, hi, hj =>
      obtain rfl : (⟨A1, N, cc1⟩ : Lst) = l := by simpa using hi
      obtain rfl : (⟨A2, N, cc2⟩ : Lst) = m := by simpa using hj
      exact (hpart.out k hl hm).elim
    | 1, 0, hi, hj =>
      obtain rfl : (⟨A1, N, cc1⟩ : Lst) = m := by simpa using hj
      obtain rfl : (⟨A2, N, cc2⟩ : Lst) = l := by simpa using hi
      exact (hpart.out k hm hl).elim
    | i + 2, _, hi, _ => simp at hi
    | _, j + 2, _, hj => simp at hj
  have hap := apart_any wc.heap.size T2 V2 [⟨A1, N, cc1⟩, ⟨A2, N, cc2⟩] [c1, c2] W16 (by simp) rfl hk13 hpd (fun j l c hl hc => by
    match j, hl, hc with
    | 0, hl, hc =>
      obtain rfl : (⟨A1, N, cc1⟩ : Lst) = l := by simpa using hl
      obtain rfl : c1 = c := by simpa using hc
      exact ⟨by simp only; omega, hc1n.out, L, own_mono hall13 (Nat.zero_le _), own_mono hc113 (Nat.zero_le _)⟩
    | 1, hl, hc =>
      obtain rfl : (⟨A2, N, cc2⟩ : Lst) = l := by simpa using hl
      obtain rfl : c2 = c := by simpa using hc
      exact ⟨by simp only; omega, hc2n.out, L, own_mono hm13 (Nat.zero_le _), own_mono hc213 (Nat.zero_le _)⟩
    | j + 2, hl, _ => simp at hl)
  have hin : ∀ k, InL [⟨A1, N, cc1⟩, ⟨A2, N, cc2⟩] k → W1.heap.size ≤ k := by
    rintro k ⟨l, hm, hb⟩
    simp only [List.mem_cons, List.not_mem_nil, or_false] at hm
    rcases hm with rfl | rfl
    · have := (hall13.lt k hb).1; omega
    · have h1 := (hm13.lt k hb).1
      have h2 := hbel9.out.size
      omega
  replace hk13 := Lib.hid hk13
  replace hall13 := Lib.hid hall13
  replace hm13 := Lib.hid hm13
  replace hc113 := Lib.hid hc113
  replace hc213 := Lib.hid hc213
  replace hbel13 := Lib.hid hbel13
  replace hap := Lib.hid hap
  replace hin := Lib.hid hin
  clear hpd
  go_wp2_with fail
  refine hap.out.mono ?_
  rintro e W17 ⟨rfl, gs14⟩
  go_wp2
  go_ret
  exact ⟨rfl, (gr_below g1.out).trans (below_le (below_grs hbel13.out gs14 hK13 hin.out) (Nat.le_refl _) |> fun h => below_le h (gr_below g1.out).size)⟩


set_option maxRecDepth 100000 in
theorem lifted (os : Os) (started : os.Started) (H : Type) (enc : TypeId × Value → H) :
    ReturnsInHanded {} Try.checked os 3 .any (Rows.glyphTellsSpec.pre6 enc Try.prog Try.f3 Rows.glyphTellsRow.domain false) (Rows.glyphTellsSpec.post enc Try.prog Try.f3 false true false false) := by
  refine returnsInHanded_of_change (C := Try.checked) own started (by kernel_rfl) Try.func3
    (ChangeSpec.witness6 (enc := enc) (C := Try.checked) false ⟨#[], #[.string ByteArray.empty, .int .i64 0, .int .i32 0], []⟩ 8 (by kernel_rfl) (by kernel_rfl) (by kernel_rfl) (by kernel_rfl)) ?_
  intro W base args ds gs before hval0 hW hcnd _
  have hval : ∀ (j : Nat) t v, Try.f3.params[j]? = some t → args[j]? = some v → Value.okWide Try.prog W .any base t v := hval0
  have hW' := hW
  obtain ⟨p, q, hA0, hV, rfl, hfz, hnd⟩ := hW
  have hA : DataW.TrodAll enc Try.prog W 0 (fun _ => true) true Try.f3.params.toList args.toList ds p := hA0
  rw [Try.params3] at hA hval
  obtain ⟨v0, vs0, d0, ds0, p0, q0, hargs, rfl, rfl, h0, r0⟩ := trodAll_cons hA
  obtain ⟨v1, vs1, d1, ds1, p1, q1, rfl, rfl, rfl, h1, r1⟩ := trodAll_cons r0
  obtain ⟨v2, vs2, d2, ds2, p2, q2, rfl, rfl, rfl, h2, r2⟩ := trodAll_cons r1
  obtain ⟨rfl, rfl, rfl⟩ := trodAll_nil r2
  obtain rfl : args = #[v0, v1, v2] := by cases args; simp_all
  obtain ⟨rfl, rfl⟩ := trodVars_none hV
  obtain ⟨a0, rfl, rfl, rfl, w0⟩ := open_string Try.underlying9 (hval 0 9 v0 rfl rfl) h0
  obtain ⟨a1, rfl, rfl, rfl, w1⟩ := open_int Try.underlying3 (hval 1 3 v1 rfl rfl) h1
  obtain ⟨a2, rfl, rfl, rfl, w2⟩ := open_int Try.underlying21 (hval 2 21 v2 rfl rfl) h2
  clear hA0 hval0
  refine (walk W a0 w0 a1 w1 a2 w2).mono fun e W' ⟨he, bel⟩ => ?_
  subst he
  exact ⟨_, rfl, _, _, _, [], _, [], hW', trodAll_mk1 (shut_bool Try.underlying4 _), (trodAll_cons_mk (shut_string Try.underlying9 w0) (trodAll_cons_mk (shut_int Try.underlying3 w1) (trodAll_cons_mk (shut_int Try.underlying21 w2) trodAll_mk0))), rfl, bel.frame _, fun h => by cases h⟩

theorem over : Rows.glyphTellsRow.holds Try.pinned (OpenSpec.ofChange Rows.glyphTellsSpec) :=
  OpenClaim.holds_of_wide 3 Try.f3 rfl rfl rfl rfl rfl rfl rfl ⟨rfl, rfl, rfl, rfl, rfl⟩ rfl rfl rfl rfl rfl (by kernel_rfl) Try.func3 (by kernel_rfl)
    (of_decide_eq_true (by kernel_rfl)) (by unfold Func.isWrapper; first | (rw [if_pos (by decide +kernel)]; kernel_rfl) | (rw [if_neg (by decide +kernel)]; exact ⟨rfl, rfl⟩))
    (fun os started H enc _ => lifted os started H enc)

/-- THE STATEMENT -/
theorem proved : Rows.GlyphTellsSaid := over
#print axioms proved
end Go.Proofs.Ytbpklmklbfcfjaa.glyphTells

