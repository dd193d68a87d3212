/-
  RunPages holds of the program: for every input the call returns true and leaves what came in as it was. No condition.
-/
import Derived.Test.YtoidfoalhkoajaaRows
import Derived.Test.YtoidfoalhkoajaaRunPgs
import Derived.Test.YtoidfoalhkoajaaRunRefRun
import Derived.Test.YtoidfoalhkoajaaRowOpen
import Derived.WalkKit
import Derived.ProofKit
import Derived.OpenShut
import Derived.ShutString
import Derived.ChangeOld
import Derived.Below
namespace Go.Proofs.Ytoidfoalhkoajaa.runPages
open Go.ChangeShapes Go.WideShapes Go.ChangeAt Go.RowKit
open Go.ChangeMaps (open_string shut_string)
set_option linter.unusedVariables false

theorem own : ownKnob Try.prog.godebug = none := by kernel_rfl
theorem laidOut : laidOutB Try.prog = true := by kernel_rfl
set_option maxHeartbeats 32000000 in
set_option maxRecDepth 100000 in
theorem walk (w : World) (a0 : Option Addr) (len0 cap0 : Nat) (z0 : List Rw) (w0 : IsRows w a0 len0 cap0 z0) (a1 : Int) (w1 : (Lit.int .i64 a1).wf = true) :
    Calls Try.prog 4 #[.slice a0 len0 cap0, .int .i64 a1] w fun e w' => e = .returned (.bool true) ∧ Below w.heap.size w w' := by
  obtain ⟨hr0, hc1, hc2, hb0, hn0⟩ := w0
  obtain ⟨ii, hi, hz0, hz1, hz2⟩ := info_parts infoRow3
  have hl0 := rlight_any a0 len0 cap0 z0 w (by omega) hr0
  have hzl0 : z0.length = len0 := hr0.1
  replace hr0 := Lib.hid hr0
  replace hl0 := Lib.hid hl0
  replace hzl0 := Lib.hid hzl0
  clear hb0 hn0 hc1 hc2 w1
  go_enter Try.func4, Try.ntmps4
  go_wp2_with fail
  refine hl0.out.mono ?_
  rintro e W2 ⟨⟨b0, rfl, hb0⟩, rfl⟩
  cases b0 with
  | false =>
    go_wp2_with fail
    refine (alive_any _).mono ?_
    rintro e w2 ⟨rfl, g2⟩
    go_wp2
    go_ret
    exact ⟨rfl, gr_below g2⟩
  | true =>
    obtain ⟨hn60, hL0⟩ := hb0 rfl
    rw [hzl0.out] at hn60
    replace hL0 := Lib.hid hL0
    clear hb0 hl0
    by_cases hs1 : a1 < 1
    · go_wp2_with fail
      refine (alive_any _).mono ?_
      rintro e w2 ⟨rfl, g2⟩
      go_wp2
      go_ret
      exact ⟨rfl, gr_below g2⟩
    · by_cases hs2 : a1 > 100
      · go_wp2_with fail
        refine (alive_any _).mono ?_
        rintro e w2 ⟨rfl, g2⟩
        go_wp2
        go_ret
        exact ⟨rfl, gr_below g2⟩
      · obtain ⟨S, rfl⟩ : ∃ S : Nat, a1 = S := ⟨a1.toNat, by omega⟩
        have hS1 : 1 ≤ S := by omega
        have hS2 : S ≤ 100 := by omega
        go_wp2_with fail
        refine (alive_any _).mono ?_
        rintro e w2 ⟨rfl, g2⟩
        have ht0 := tidyRs_any a0 len0 cap0 z0 w2 hn60 (rows_gr hr0.out g2) hL0.out
        replace ht0 := Lib.hid ht0
        replace g2 := Lib.hid g2
        clear hr0 hzl0
        go_wp2_with fail
        refine ht0.out.mono ?_
        rintro e w3 ⟨⟨A, m, c, rs, rfl, hm60, hR⟩, g3⟩
        have G3 := gr_trans g2.out g3
        have cM := rgt_make hR (by omega)
        unfold MakePost at cM
        replace cM := Lib.hid cM
        replace hR := Lib.hid hR
        replace G3 := Lib.hid G3
        clear ht0 g3 g2
        go_wp2_with fail
        refine cM.out.mono ?_
        rintro e w4 ⟨rfl, g4⟩
        have hR4 := rgt_gr hR.out g4
        have G4 := gr_trans G3.out g4
        have hrl : rs.length = m := hR4.rows.1
        replace hR4 := Lib.hid hR4
        replace G4 := Lib.hid G4
        clear cM hR G3 g4
        by_cases hF : (fileB rs).length ≤ 60000
        · rw [if_pos hF]
          have cP := fun (k : Nat) (hk : k ≤ m) (W : World) => page_rs hR4.out.ok hrl (by omega) hF k S hk (by omega) W
          have cQ := fun (W : World) => page_out hR4.out.ok hrl (by omega) hF (m + 1) S (by omega) (by omega) (by omega) W
          generalize fileB rs = F at *
          replace cP := Lib.hid cP
          replace cQ := Lib.hid cQ
          replace hrl := Lib.hid hrl
          replace hF := Lib.hid hF
          go_wp2_with fail
          go_loopw [7, 8] (fun av kv wr => ∃ (k t : Nat) (A2 : Option Addr) (c2 : Nat), kv = .int .i64 (k : Int) ∧ av = .slice A2 t c2 ∧ Hid ((rs.take k).length = t) ∧ Hid (OwnRs wr w4.heap.size (.slice A2 t c2) (rs.take k)) ∧ Hid (k ≤ 200) ∧ Hid (Gr w4 wr)) (fun _ kv _ => m + 200 - (intOf kv).toNat)
          case atStart => exact ⟨0, 0, none, 0, rfl, rfl, Lib.hid (by simp), Lib.hid (by rw [List.take_zero]; exact ownRs_nil _ _), Lib.hid (by omega), Lib.hid (gr_refl _ _)⟩
          case round =>
            obtain ⟨k, t, A2, c2, rfl, rfl, ht, ho, hk2, hg⟩ := hrel
            by_cases hlt : k < m
            · have hltI : (k : Int) < (m : Int) := by omega
              obtain ⟨q, hq⟩ : ∃ q, q = min S (m - k) := ⟨_, rfl⟩
              have cP2 := cP.out k (by omega) wr
              rw [← hq] at cP2
              have f4 : min (S : Int) ((m : Int) - (k : Int)) = (q : Int) := by omega
              have hq1 : 1 ≤ q := by omega
              have hq2 : q ≤ 100 := by omega
              have htk : t = k := by have := ht.out; rw [List.length_take, hrl.out] at this; omega
              have hnx := pageR_next hrl.out (Nat.le_of_lt hlt) hq
              replace cP2 := Lib.hid cP2
              replace hnx := Lib.hid hnx
              replace hq := Lib.hid hq
              subst htk
              clear cP cQ
              go_wp2_with fail
              refine cP2.out.mono ?_
              rintro e w5 ⟨⟨A5, c5, rfl, hO5⟩, g5⟩
              obtain ⟨hs5, hh5, ho5⟩ := hO5
              have hpl : (pageR rs t (t + q)).length = q := pageR_len hrl.out (by have := hq.out; omega)
              rw [hpl] at ho5
              obtain ⟨g, cap, hv, hbg, hgl⟩ := ho5.form (by omega)
              injection hv with hA5 _ hc5
              subst hA5 hc5
              have hwb : w4.heap.size ≤ wr.heap.size := hg.out.size
              obtain ⟨hs0, hh0, ho0⟩ := ownRs_gr ho.out g5
              rw [ht.out] at ho0
              have G5 := gr_trans hg.out g5
              have hho5 := ownRows_append hh0 (ownRows_base hh5 hwb)
              rw [hnx.out] at hho5
              have hr5 := row_own ho5
              have hs6 := G5.size
              have hsum : (rs.take (t + S)).length = t + q := by have h1 := hrl.out; have h2 := hq.out; rw [List.length_take]; omega
              replace hr5 := Lib.hid hr5
              replace ho0 := Lib.hid ho0
              replace G5 := Lib.hid G5
              replace hho5 := Lib.hid hho5
              replace hs6 := Lib.hid hs6
              replace hsum := Lib.hid hsum
              clear hh5 ho5 hh0 hwb hbg hgl hg g5 ho cP2 hpl
              go_wp2_with (at_builtin; refine wpList_append_row rfl _ _ 23 rfl w4.heap.size 40 ii (.agg #[.slice none 0 0, .int .i64 0]) 2 32 Try.underlying23 hi hz0 hz1 hz2 rfl (by decide) (.slice A2 t c2) t (sR hdC hs0) rfl ho0.out (some ⟨g, 0, none⟩) q c5 (sR hdC hs5) rfl (by intro e; cases e) hr5.out (hds_onesR _) (t + q) (sR hdC (hs0 ++ hs5)) rfl (by rw [sR_append]) (by unfold maxLen; omega) (by omega) hs6.out ?_; intro v7 w7 hown7 hgrow7; obtain ⟨A7, c7, rfl, _, _, _⟩ := own_sliceS hown7)
              have hr7 := ownRows_kept hho5.out ho0.out hgrow7
              have G8 : Gr w4 w7 := gr_of_below ((gr_below G5.out).grown hgrow7 G5.out.size (fun q hq => (ho0.out.lt q hq).1)) (Nat.le_refl _)
              have hfin : OwnRs w7 w4.heap.size (.slice A7 (t + q) c7) (rs.take (t + S)) := ⟨_, hr7, by rw [hsum.out]; exact hown7⟩
              replace hfin := Lib.hid hfin
              replace G8 := Lib.hid G8
              clear hgrow7 hr7 hown7 hr5 ho0 G5 hho5 hs6
              go_wp2
              go_roundw
              case rel => exact ⟨t + S, t + q, A7, c7, by go_num, rfl, hsum, hfin, Lib.hid (by omega), G8⟩
              case measure => simp [intOf]; omega
            · have hltI : ¬ (k : Int) < (m : Int) := by omega
              have htr : rs.take k = rs := List.take_of_length_le (by rw [hrl.out]; omega)
              have ht2 := ht.out
              have ho2 := ho.out
              rw [htr] at ht2 ho2
              have htm : t = m := by rw [← ht2, hrl.out]
              subst htm
              have cP2 := cP.out t (Nat.le_refl _)
              rw [Nat.sub_self, Nat.min_zero] at cP2
              have cS := fun W (g : Gr wr W) => bookRows_any A2 A t t c2 c rs rs W (by omega) (by omega) (ownRs_rows (ownRs_gr ho2 g) ht2) (rows_gr hR4.out.rows (gr_trans hg.out g)) (ok_small hR4.out.ok) (ok_small hR4.out.ok)
              simp only [decide_true] at cS
              replace cS := Lib.hid cS
              replace cP2 := Lib.hid cP2
              clear hlt htr ht2 ho2 ht ho hk2 cP
              go_wp2_with fail
              refine (cP2.out _).mono ?_
              rintro e w5 ⟨⟨A5, c5, rfl, hO5⟩, g5⟩
              clear hO5 cP2
              go_wp2_with fail
              refine (cQ.out _).mono ?_
              rintro e w6 ⟨rfl, g6⟩
              have cS2 := cS.out w6 (gr_trans g5 g6)
              replace cS2 := Lib.hid cS2
              have G6 := gr_trans hg.out (gr_trans g5 g6)
              replace G6 := Lib.hid G6
              clear cQ cS hg g5 g6
              go_wp2_with fail
              refine cS2.out.mono ?_
              rintro e w7 ⟨rfl, g7⟩
              clear cS2
              go_wp2
              go_ret
              exact ⟨rfl, gr_below (gr_trans G4.out (gr_trans G6.out g7))⟩
        · rw [if_neg hF]
          have cR := refRun_any A m c rs w4 (by omega) hR4.out.rows hR4.out.ok
          generalize fileB rs = F at *
          have hFI : (F.length : Int) > 60000 := by omega
          replace cR := Lib.hid cR
          replace hrl := Lib.hid hrl
          clear hF
          go_wp2_with fail
          refine cR.out.mono ?_
          rintro e w5 ⟨rfl, g5⟩
          go_wp2
          go_ret
          exact ⟨rfl, gr_below (gr_trans G4.out g5)⟩


set_option maxRecDepth 100000 in
theorem lifted (os : Os) (started : os.Started) (H : Type) (enc : TypeId × Value → H) :
    ReturnsInHanded {} Try.checked os 4 .any (Rows.runPagesSpec.pre6 enc Try.prog Try.f4 Rows.runPagesRow.domain false) (Rows.runPagesSpec.post enc Try.prog Try.f4 false true false false) := by
  refine returnsInHanded_of_change (C := Try.checked) own started (by kernel_rfl) Try.func4
    (ChangeSpec.witness6 (enc := enc) (C := Try.checked) false ⟨#[], #[.slice none 0 0, .int .i64 0], []⟩ 8 (by kernel_rfl) (by kernel_rfl) (by kernel_rfl) (by kernel_rfl)) ?_
  intro W base args ds gs before hval0 hW hcnd _
  have hval : ∀ (j : Nat) t v, Try.f4.params[j]? = some t → args[j]? = some v → Value.okWide Try.prog W .any base t v := hval0
  have hW' := hW
  obtain ⟨p, q, hA0, hV, rfl, hfz, hnd⟩ := hW
  have hA : DataW.TrodAll enc Try.prog W 0 (fun _ => true) true Try.f4.params.toList args.toList ds p := hA0
  rw [Try.params4] at hA hval
  obtain ⟨v0, vs0, d0, ds0, p0, q0, hargs, rfl, rfl, h0, r0⟩ := trodAll_cons hA
  obtain ⟨v1, vs1, d1, ds1, p1, q1, rfl, rfl, rfl, h1, r1⟩ := trodAll_cons r0
  obtain ⟨rfl, rfl, rfl⟩ := trodAll_nil r1
  obtain rfl : args = #[v0, v1] := by cases args; simp_all
  obtain ⟨rfl, rfl⟩ := trodVars_none hV
  obtain ⟨a0, len0, cap0, rfl⟩ := okWide_slice Try.underlying23 (hval 0 23 v0 rfl rfl)
  have k0 := h0
  have lt0 : ∀ x ∈ p0, x.block < W.heap.size := by obtain ⟨m, hm⟩ := k0; exact DataW.trod_lt m _ _ _ hm
  obtain ⟨z0, w0⟩ := rows_open h0
  obtain ⟨a1, rfl, rfl, rfl, w1⟩ := open_int Try.underlying3 (hval 1 3 v1 rfl rfl) h1
  clear hA0 hval0
  refine (walk W a0 len0 cap0 z0 w0 a1 w1).mono fun e W' ⟨he, bel⟩ => ?_
  subst he
  exact ⟨_, rfl, _, _, _, [], _, [], hW', trodAll_mk1 (shut_bool Try.underlying4 _), (trodAll_cons_mk (Below.trod laidOut (by kernel_rfl) (of_decide_eq_true (by kernel_rfl)) k0 bel lt0) (trodAll_cons_mk (shut_int Try.underlying3 w1) trodAll_mk0)), rfl, bel.frame _, fun h => by cases h⟩

theorem over : Rows.runPagesRow.holds Try.pinned (OpenSpec.ofChange Rows.runPagesSpec) :=
  OpenClaim.holds_of_wide 4 Try.f4 rfl rfl rfl rfl rfl rfl rfl ⟨rfl, rfl, rfl, rfl, rfl⟩ rfl rfl rfl rfl rfl (by kernel_rfl) Try.func4 (by kernel_rfl)
    (of_decide_eq_true (by kernel_rfl)) (by unfold Func.isWrapper; first | (rw [if_pos (by decide +kernel)]; kernel_rfl) | (rw [if_neg (by decide +kernel)]; exact ⟨rfl, rfl⟩))
    (fun os started H enc _ => lifted os started H enc)

/-- THE STATEMENT -/
theorem proved : Rows.RunPagesSaid := over
#print axioms proved
end Go.Proofs.Ytoidfoalhkoajaa.runPages

