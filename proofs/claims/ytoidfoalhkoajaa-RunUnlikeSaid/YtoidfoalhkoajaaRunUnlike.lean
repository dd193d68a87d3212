/-
  RunUnlike holds of the program: for every input the call returns true and leaves what came in as it was. No condition.
-/
import Derived.Test.YtoidfoalhkoajaaRows
import Derived.Test.YtoidfoalhkoajaaRunAll
import Derived.Test.YtoidfoalhkoajaaRowOpen
import Derived.WalkKit
import Derived.ProofKit
import Derived.OpenShut
import Derived.ShutString
import Derived.ChangeOld
import Derived.Below
namespace Go.Proofs.Ytoidfoalhkoajaa.runUnlike
open Go.ChangeShapes Go.WideShapes Go.ChangeAt Go.RowKit
open Go.ChangeMaps (open_string shut_string)
set_option linter.unusedVariables false

theorem own : ownKnob Try.prog.godebug = none := by kernel_rfl
theorem laidOut : laidOutB Try.prog = true := by kernel_rfl
theorem unlike_pre {a b : List Rw} (ha : ∀ r ∈ a, okR r) (hb : ∀ r ∈ b, okR r) : (fileB a == fileB b) = decide (a = b) := by
  by_cases e : a = b
  · rw [decide_eq_true e, e]; exact beq_self_eq_true _
  · rw [decide_eq_false e]
    exact beq_eq_false_iff_ne.2 fun k => e (file_inj ha hb k)
set_option maxHeartbeats 16000000 in
set_option maxRecDepth 100000 in
theorem walk (w : World) (a0 : Option Addr) (len0 cap0 : Nat) (z0 : List Rw) (w0 : IsRows w a0 len0 cap0 z0) (a1 : Option Addr) (len1 cap1 : Nat) (z1 : List Rw) (w1 : IsRows w a1 len1 cap1 z1) :
    Calls Try.prog 6 #[.slice a0 len0 cap0, .slice a1 len1 cap1] w fun e w' => e = .returned (.bool true) ∧ Below w.heap.size w w' := by
  obtain ⟨hr0, hc1, hc2, hb0, hn0⟩ := w0
  obtain ⟨hr1, hd1, hd2, hb1, hn1⟩ := w1
  have hl0 := rlight_any a0 len0 cap0 z0 w (by omega) hr0
  have hl1 := rlight_any a1 len1 cap1 z1 w (by omega) hr1
  have hzl0 : z0.length = len0 := hr0.1
  have hzl1 : z1.length = len1 := hr1.1
  replace hr0 := Lib.hid hr0
  replace hl0 := Lib.hid hl0
  replace hzl0 := Lib.hid hzl0
  replace hr1 := Lib.hid hr1
  replace hl1 := Lib.hid hl1
  replace hzl1 := Lib.hid hzl1
  clear hb0 hn0 hb1 hn1 hc1 hc2 hd1 hd2
  go_enter Try.func6, Try.ntmps6
  go_wp2_with fail
  refine hl0.out.mono ?_
  rintro e W2 ⟨⟨b0, rfl, hb0⟩, rfl⟩
  cases b0 with
  | false =>
    go_wp2_with fail
    refine (alive_any _).mono ?_
    rintro e w2 ⟨rfl, g2⟩
    go_wp2
    go_ret
    exact ⟨rfl, gr_below g2⟩
  | true =>
    obtain ⟨hn60, hL0⟩ := hb0 rfl
    rw [hzl0.out] at hn60
    replace hL0 := Lib.hid hL0
    clear hb0
    go_wp2_with fail
    refine hl1.out.mono ?_
    rintro e W3 ⟨⟨b1, rfl, hb1⟩, rfl⟩
    cases b1 with
    | false =>
      go_wp2_with fail
      refine (alive_any _).mono ?_
      rintro e w2 ⟨rfl, g2⟩
      go_wp2
      go_ret
      exact ⟨rfl, gr_below g2⟩
    | true =>
      obtain ⟨hn61, hL1⟩ := hb1 rfl
      rw [hzl1.out] at hn61
      replace hL1 := Lib.hid hL1
      clear hb1 hl0 hl1
      go_wp2_with fail
      refine (alive_any _).mono ?_
      rintro e w2 ⟨rfl, g2⟩
      have ht0 := tidyRs_any a0 len0 cap0 z0 w2 hn60 (rows_gr hr0.out g2) hL0.out
      have ht1 := fun W (g : Gr w2 W) => tidyRs_any a1 len1 cap1 z1 W hn61 (rows_gr hr1.out (gr_trans g2 g)) hL1.out
      replace ht0 := Lib.hid ht0
      replace ht1 := Lib.hid ht1
      replace g2 := Lib.hid g2
      clear hr0 hr1 hzl0 hzl1
      go_wp2_with fail
      refine ht0.out.mono ?_
      rintro e w3 ⟨⟨A, m, c, rs, rfl, hm60, hR⟩, g3⟩
      have ht2 := ht1.out w3 g3
      have G3 := gr_trans g2.out g3
      replace ht2 := Lib.hid ht2
      replace hR := Lib.hid hR
      replace G3 := Lib.hid G3
      clear ht0 ht1 g3 g2
      go_wp2_with fail
      refine ht2.out.mono ?_
      rintro e w4 ⟨⟨B, q, d, ss, rfl, hq60, hS⟩, g4⟩
      have hR4 := rgt_gr hR.out g4
      have G4 := gr_trans G3.out g4
      have cM := rgt_make hR4 (by omega)
      have cN := fun W (g : Gr w4 W) => rgt_make (rgt_gr hS g) (by omega)
      have cS := fun W (g : Gr w4 W) => bookRows_any A B m q c d rs ss W (by omega) (by omega) (rows_gr hR4.rows g) (rows_gr hS.rows g) (ok_small hR4.ok) (ok_small hS.ok)
      have hpre := unlike_pre hR4.ok hS.ok
      unfold MakePost at cM cN
      generalize decide (rs = ss) = D at cS hpre
      generalize fileB rs = F at cM hpre
      generalize fileB ss = G at cN hpre
      replace cM := Lib.hid cM
      replace cN := Lib.hid cN
      replace cS := Lib.hid cS
      replace G4 := Lib.hid G4
      clear ht2 hR hS hR4 g4 G3
      go_wp2_with fail
      refine cM.out.mono ?_
      rintro e w5 ⟨rfl, g5⟩
      have cN2 := cN.out w5 g5
      replace cN2 := Lib.hid cN2
      clear cN cM
      by_cases hF : F.length ≤ 60000
      · rw [if_pos hF]
        go_wp2_with fail
        refine cN2.out.mono ?_
        rintro e w6 ⟨rfl, g6⟩
        have cS2 := cS.out w6 (gr_trans g5 g6)
        replace cS2 := Lib.hid cS2
        clear cN2 cS
        by_cases hG : G.length ≤ 60000
        · rw [if_pos hG]
          go_wp2_with fail
          refine cS2.out.mono ?_
          rintro e w7 ⟨rfl, g7⟩
          clear cS2
          go_wp2
          go_ret
          exact ⟨by simp [hpre], gr_below (gr_trans G4.out (gr_trans g5 (gr_trans g6 g7)))⟩
        · rw [if_neg hG]
          go_wp2
          go_ret
          exact ⟨rfl, gr_below (gr_trans G4.out (gr_trans g5 g6))⟩
      · rw [if_neg hF]
        go_wp2_with fail
        refine cN2.out.mono ?_
        rintro e w6 ⟨rfl, g6⟩
        by_cases hG : G.length ≤ 60000
        · rw [if_pos hG]
          go_wp2
          go_ret
          exact ⟨rfl, gr_below (gr_trans G4.out (gr_trans g5 g6))⟩
        · rw [if_neg hG]
          go_wp2
          go_ret
          exact ⟨rfl, gr_below (gr_trans G4.out (gr_trans g5 g6))⟩


set_option maxRecDepth 100000 in
theorem lifted (os : Os) (started : os.Started) (H : Type) (enc : TypeId × Value → H) :
    ReturnsInHanded {} Try.checked os 6 .any (Rows.runUnlikeSpec.pre6 enc Try.prog Try.f6 Rows.runUnlikeRow.domain false) (Rows.runUnlikeSpec.post enc Try.prog Try.f6 false true false false) := by
  refine returnsInHanded_of_change (C := Try.checked) own started (by kernel_rfl) Try.func6
    (ChangeSpec.witness6 (enc := enc) (C := Try.checked) false ⟨#[], #[.slice none 0 0, .slice none 0 0], []⟩ 8 (by kernel_rfl) (by kernel_rfl) (by kernel_rfl) (by kernel_rfl)) ?_
  intro W base args ds gs before hval0 hW hcnd _
  have hval : ∀ (j : Nat) t v, Try.f6.params[j]? = some t → args[j]? = some v → Value.okWide Try.prog W .any base t v := hval0
  have hW' := hW
  obtain ⟨p, q, hA0, hV, rfl, hfz, hnd⟩ := hW
  have hA : DataW.TrodAll enc Try.prog W 0 (fun _ => true) true Try.f6.params.toList args.toList ds p := hA0
  rw [Try.params6] at hA hval
  obtain ⟨v0, vs0, d0, ds0, p0, q0, hargs, rfl, rfl, h0, r0⟩ := trodAll_cons hA
  obtain ⟨v1, vs1, d1, ds1, p1, q1, rfl, rfl, rfl, h1, r1⟩ := trodAll_cons r0
  obtain ⟨rfl, rfl, rfl⟩ := trodAll_nil r1
  obtain rfl : args = #[v0, v1] := by cases args; simp_all
  obtain ⟨rfl, rfl⟩ := trodVars_none hV
  obtain ⟨a0, len0, cap0, rfl⟩ := okWide_slice Try.underlying23 (hval 0 23 v0 rfl rfl)
  have k0 := h0
  have lt0 : ∀ x ∈ p0, x.block < W.heap.size := by obtain ⟨m, hm⟩ := k0; exact DataW.trod_lt m _ _ _ hm
  obtain ⟨z0, w0⟩ := rows_open h0
  obtain ⟨a1, len1, cap1, rfl⟩ := okWide_slice Try.underlying23 (hval 1 23 v1 rfl rfl)
  have k1 := h1
  have lt1 : ∀ x ∈ p1, x.block < W.heap.size := by obtain ⟨m, hm⟩ := k1; exact DataW.trod_lt m _ _ _ hm
  obtain ⟨z1, w1⟩ := rows_open h1
  clear hA0 hval0
  refine (walk W a0 len0 cap0 z0 w0 a1 len1 cap1 z1 w1).mono fun e W' ⟨he, bel⟩ => ?_
  subst he
  exact ⟨_, rfl, _, _, _, [], _, [], hW', trodAll_mk1 (shut_bool Try.underlying4 _), (trodAll_cons_mk (Below.trod laidOut (by kernel_rfl) (of_decide_eq_true (by kernel_rfl)) k0 bel lt0) (trodAll_cons_mk (Below.trod laidOut (by kernel_rfl) (of_decide_eq_true (by kernel_rfl)) k1 bel lt1) trodAll_mk0)), rfl, bel.frame _, fun h => by cases h⟩

theorem over : Rows.runUnlikeRow.holds Try.pinned (OpenSpec.ofChange Rows.runUnlikeSpec) :=
  OpenClaim.holds_of_wide 6 Try.f6 rfl rfl rfl rfl rfl rfl rfl ⟨rfl, rfl, rfl, rfl, rfl⟩ rfl rfl rfl rfl rfl (by kernel_rfl) Try.func6 (by kernel_rfl)
    (of_decide_eq_true (by kernel_rfl)) (by unfold Func.isWrapper; first | (rw [if_pos (by decide +kernel)]; kernel_rfl) | (rw [if_neg (by decide +kernel)]; exact ⟨rfl, rfl⟩))
    (fun os started H enc _ => lifted os started H enc)

/-- THE STATEMENT -/
theorem proved : Rows.RunUnlikeSaid := over
#print axioms proved
end Go.Proofs.Ytoidfoalhkoajaa.runUnlike

