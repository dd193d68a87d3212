/-
  WindowLasts holds of the program: for every input the call returns true and leaves what came in as it was. No condition.
-/
import Derived.Test.YtklflekldhhmcaaRows
import Derived.Test.YtklflekldhhmcaaWinOpen
import Derived.WalkKit
import Derived.ProofKit
import Derived.OpenShut
import Derived.ShutString
import Derived.ChangeOld
import Derived.Below
namespace Go.Proofs.Ytklflekldhhmcaa.windowLasts
open Go.ChangeShapes Go.WideShapes Go.ChangeAt Go.RowKit
open Go.ChangeMaps (open_string shut_string)
set_option linter.unusedVariables false

theorem own : ownKnob Try.prog.godebug = none := by kernel_rfl
theorem laidOut : laidOutB Try.prog = true := by kernel_rfl

theorem lastV_snoc (P : List (Int × Int)) (x : Int × Int) : lastV (P ++ [x]) = (x.2, true) := by
  unfold lastV
  rw [if_neg (by simp), List.length_append, List.length_singleton, Nat.add_sub_cancel]
  rw [(pT_of (zs := P ++ [x]) (k := P.length) (x := x) (by simp)).2]
theorem filter_none {t d : Int} {zs : List (Int × Int)} (h : ∀ j, j < zs.length → ¬ (t - d < pT zs j ∧ pT zs j ≤ t)) : zs.filter (inWin t d) = [] := by
  rw [List.filter_eq_nil_iff]
  intro x hx hp
  obtain ⟨j, hj⟩ := List.getElem?_of_mem hx
  have hjl := (List.getElem?_eq_some_iff.1 hj).1
  apply h j hjl
  rw [(pT_of hj).1]
  unfold inWin at hp
  simp only [Bool.and_eq_true, decide_eq_true_eq] at hp
  exact hp
theorem pT_mono {zs : List (Int × Int)} (h : rightB zs = true) {i j : Nat} (hij : i ≤ j) (hj : j < zs.length) : pT zs i ≤ pT zs j := by
  have hp := List.pairwise_iff_getElem.1 (right_rise h)
  rcases Nat.lt_or_eq_of_le hij with h1 | h1
  · have := hp i j (by omega) hj h1
    rw [(pT_of (List.getElem?_eq_getElem (show i < zs.length by omega))).1, (pT_of (List.getElem?_eq_getElem hj)).1]
    omega
  · subst h1; exact Int.le_refl _
theorem last_at {zs : List (Int × Int)} {t d : Int} {m : Nat} (h : rightB zs = true) (hm : m < zs.length) (h1 : t - d < pT zs m) (h2 : pT zs m ≤ t) (h3 : ∀ j, m < j → j < zs.length → t < pT zs j) : lastV (zs.filter (inWin t d)) = (pV zs m, true) := by
  have hx : zs[m]? = some zs[m] := List.getElem?_eq_getElem hm
  have e : zs = zs.take (m + 1) ++ zs.drop (m + 1) := (List.take_append_drop _ _).symm
  have hd : (zs.drop (m + 1)).filter (inWin t d) = [] := by
    rw [List.filter_eq_nil_iff]
    intro x hxm hp
    obtain ⟨j, hj⟩ := List.getElem?_of_mem hxm
    rw [List.getElem?_drop] at hj
    have hjl := (List.getElem?_eq_some_iff.1 hj).1
    have := h3 (m + 1 + j) (by omega) hjl
    rw [(pT_of hj).1] at this
    unfold inWin at hp
    simp only [Bool.and_eq_true, decide_eq_true_eq] at hp
    omega
  have ht := filter_next (inWin t d) hx
  have hp : inWin t d zs[m] = true := by
    unfold inWin
    rw [← (pT_of hx).1, decide_eq_true h1, decide_eq_true h2]
    rfl
  rw [hp, if_pos rfl] at ht
  have hfull : zs.filter (inWin t d) = (zs.take m).filter (inWin t d) ++ [zs[m]] := by
    conv => lhs; rw [e]
    rw [List.filter_append, hd, List.append_nil, ht]
  rw [hfull, lastV_snoc, (pT_of hx).2]

def AtRel (zs : List (Int × Int)) (t : Int) (k : Nat) (a : Int) : Prop := (a = -1 ∧ ∀ j, j < k → t < pT zs j) ∨ (∃ m : Nat, a = m ∧ m < k ∧ pT zs m ≤ t ∧ ∀ j, m < j → j < k → t < pT zs j)

set_option maxHeartbeats 4000000 in
set_option maxRecDepth 100000 in
theorem walk (w : World) (a0 : Option Addr) (len0 cap0 : Nat) (z0 : List (Int × Int)) (w0 : IsPts w a0 len0 cap0 z0) (a1 : Int) (w1 : (Lit.int .i64 a1).wf = true) (a2 : Int) (w2 : (Lit.int .i64 a2).wf = true) :
    Calls Try.prog 7 #[.slice a0 len0 cap0, .int .i64 a1, .int .i64 a2] w fun e w' => e = .returned (.bool true) ∧ Below w.heap.size w w' := by
  have x1 := rng_i64 w1
  have x2 := rng_i64 w2
  obtain ⟨hr, hcap, hcap2, _⟩ := w0
  clear w1 w2
  have hl := pt_len hr
  have cP := fun W (g : Gr w W) => refPoints_any a0 len0 cap0 z0 W (by omega) (pt_gr hr g)
  cases hrb : rightB z0 with
  | false =>
    rw [hrb] at cP
    replace cP := Lib.hid cP
    replace hl := Lib.hid hl
    clear hr hrb
    go_enter Try.func7, Try.ntmps7
    go_wp2_with fail
    refine (cP.out _ (gr_refl _ _)).mono ?_
    rintro e W1 ⟨rfl, g1⟩
    go_wp2_with fail
    refine (alive_any _).mono ?_
    rintro e W2 ⟨rfl, g2⟩
    go_wp2
    go_ret
    exact ⟨rfl, gr_below (gr_trans g1 g2)⟩
  | true =>
    rw [hrb] at cP
    by_cases hbad : a1 < 0 ∨ 1000000000 < a1 ∨ a2 < 0 ∨ 1000000000 < a2
    · have hcs : a1 < 0 ∨ (¬ a1 < 0 ∧ 1000000000 < a1) ∨ (¬ a1 < 0 ∧ ¬ 1000000000 < a1 ∧ a2 < 0) ∨ (¬ a1 < 0 ∧ ¬ 1000000000 < a1 ∧ ¬ a2 < 0 ∧ 1000000000 < a2) := by omega
      replace cP := Lib.hid cP
      replace hl := Lib.hid hl
      clear hr hrb hbad
      rcases hcs with h | ⟨h, h2⟩ | ⟨h, h2, h3⟩ | ⟨h, h2, h3, h4⟩
      all_goals
        go_enter Try.func7, Try.ntmps7
        go_wp2_with fail
        refine (cP.out _ (gr_refl _ _)).mono ?_
        rintro e W1 ⟨rfl, g1⟩
        go_wp2_with fail
        refine (alive_any _).mono ?_
        rintro e W2 ⟨rfl, g2⟩
        go_wp2
        go_ret
        exact ⟨rfl, gr_below (gr_trans g1 g2)⟩
    · have t0 : 0 ≤ a1 := by omega
      have t1 : a1 ≤ 1000000000 := by omega
      have d0 : 0 ≤ a2 := by omega
      have d1 : a2 ≤ 1000000000 := by omega
      have h25 : len0 ≤ 25 := by rw [← hl]; exact (right_iff.1 hrb).1
      have cL := fun W (g : Gr w W) => last_any a0 len0 cap0 z0 a1 a2 W (by omega) (pt_gr hr g) x1 x2
      unfold LastPost at cL
      rw [ofP_ok hrb t0 t1 d0 d1] at cL
      replace cP := Lib.hid cP
      replace cL := Lib.hid cL
      replace hl := Lib.hid hl
      replace hr := Lib.hid hr
      replace hrb := Lib.hid hrb
      clear hbad
      go_enter Try.func7, Try.ntmps7
      go_wp2_with fail
      refine (cP.out _ (gr_refl _ _)).mono ?_
      rintro e W1 ⟨rfl, g1⟩
      go_wp2_with fail
      refine (alive_any _).mono ?_
      rintro e W2 ⟨rfl, g2⟩
      have g12 := Lib.hid (gr_trans g1 g2)
      clear g1 g2
      go_wp2_with fail
      go_loopw [7, 8] (fun av i wr => ∃ (k : Nat) (a : Int), k ≤ len0 ∧ i = .int .i64 k ∧ av = .int .i64 a ∧ Hid (AtRel z0 a1 k a) ∧ Hid (Gr w wr)) (fun _ i _ => len0 - (intOf i).toNat)
      case atStart => exact ⟨0, -1, Nat.zero_le _, rfl, rfl, Or.inl ⟨rfl, fun j hj => by omega⟩, g12.out⟩
      case round =>
        obtain ⟨k, a, hk, rfl, rfl, hat, hg⟩ := hrel
        by_cases hlt : k < len0
        · obtain ⟨B, o, rfl, hB, hc1, hc2⟩ := pt_cell (pt_gr hr.out hg.out) hlt
          have hki : (k : Int) < (len0 : Int) := by omega
          have hyes : pT z0 k ≤ a1 → AtRel z0 a1 (k + 1) (k : Int) := fun h => Or.inr ⟨k, rfl, by omega, h, fun j h1 h2 => by omega⟩
          have hno : ¬ pT z0 k ≤ a1 → AtRel z0 a1 (k + 1) a := fun h => by
            rcases hat.out with ⟨h1, h2⟩ | ⟨m, h1, h2, h3, h4⟩
            · refine Or.inl ⟨h1, fun j hj => ?_⟩
              rcases Nat.lt_succ_iff_lt_or_eq.1 hj with h5 | h5
              · exact h2 j h5
              · rw [h5]; omega
            · refine Or.inr ⟨m, h1, by omega, h3, fun j hj hj2 => ?_⟩
              rcases Nat.lt_succ_iff_lt_or_eq.1 hj2 with h5 | h5
              · exact h4 j hj h5
              · rw [h5]; omega
          generalize pT z0 k = T at *
          generalize pV z0 k = V at *
          by_cases hT : T ≤ a1
          · have hr2 := Lib.hid (hyes hT)
            clear hyes hno
            go_wp2
            go_roundw
            case rel => exact ⟨k + 1, k, by omega, by go_num, rfl, hr2.out, hg.out⟩
            case measure => simp [intOf]; omega
          · have hr2 := Lib.hid (hno hT)
            clear hyes hno
            go_wp2
            go_roundw
            case rel => exact ⟨k + 1, a, by omega, by go_num, rfl, hr2.out, hg.out⟩
            case measure => simp [intOf]; omega
        · obtain rfl : k = len0 := by omega
          have hlq := hl.out
          rcases hat.out with ⟨rfl, h2⟩ | ⟨m, rfl, h2, h3, h4⟩
          · have hv : lastV (z0.filter (inWin a1 a2)) = (0, false) := by
              rw [filter_none (fun j hj => by have := h2 j (by omega); omega)]
              rfl
            have cL2 : ∀ W (g : Gr w W), Calls Try.prog 13 #[.slice a0 k cap0, .int .i64 a1, .int .i64 a2] W fun e w' => e = .returned (.tuple #[.int .i64 0, .bool false]) ∧ Gr W w' := fun W g => by
              have := cL.out W g
              rw [hv] at this
              exact this
            replace cL2 := Lib.hid cL2
            replace hv := Lib.hid hv
            clear h2 hlq
            go_wp2_with fail
            refine (cL2.out _ hg.out).mono ?_
            rintro e W3 ⟨rfl, g3⟩
            go_wp2
            go_ret
            exact ⟨rfl, gr_below (gr_trans hg.out g3)⟩
          · obtain ⟨B, o, rfl, hB, hc1, hc2⟩ := pt_cell (pt_gr hr.out hg.out) h2
            have hmi : (m : Int) < (k : Int) := by omega
            have hm0 : (0 : Int) ≤ (m : Int) := by omega
            by_cases hold : pT z0 m ≤ a1 - a2
            · have hv : lastV (z0.filter (inWin a1 a2)) = (0, false) := by
                rw [filter_none (fun j hj ⟨h5, h6⟩ => by
                  have hjm : j ≤ m := by
                    rcases Nat.lt_or_ge m j with h7 | h7
                    · have := h4 j h7 (by omega); omega
                    · exact h7
                  have := pT_mono hrb.out hjm (by omega)
                  omega)]
                rfl
              have cL2 : ∀ W (g : Gr w W), Calls Try.prog 13 #[.slice (some ⟨B, o, none⟩) k cap0, .int .i64 a1, .int .i64 a2] W fun e w' => e = .returned (.tuple #[.int .i64 0, .bool false]) ∧ Gr W w' := fun W g => by
                have := cL.out W g
                rw [hv] at this
                exact this
              generalize pT z0 m = T at *
              generalize pV z0 m = V at *
              replace cL2 := Lib.hid cL2
              replace hv := Lib.hid hv
              clear h4 hlq
              go_wp2_with fail
              refine (cL2.out _ hg.out).mono ?_
              rintro e W3 ⟨rfl, g3⟩
              have hc1' := gr_cell g3 hc1
              have hc2' := gr_cell g3 hc2
              go_wp2
              go_ret
              exact ⟨rfl, gr_below (gr_trans hg.out g3)⟩
            · have hv : lastV (z0.filter (inWin a1 a2)) = (pV z0 m, true) := last_at hrb.out (by omega) (by omega) h3 (fun j hj hj2 => h4 j hj (by omega))
              have cL2 : ∀ W (g : Gr w W), Calls Try.prog 13 #[.slice (some ⟨B, o, none⟩) k cap0, .int .i64 a1, .int .i64 a2] W fun e w' => e = .returned (.tuple #[.int .i64 (pV z0 m), .bool true]) ∧ Gr W w' := fun W g => by
                have := cL.out W g
                rw [hv] at this
                exact this
              generalize pT z0 m = T at *
              generalize pV z0 m = V at *
              replace cL2 := Lib.hid cL2
              replace hv := Lib.hid hv
              clear h4 hlq
              go_wp2_with fail
              refine (cL2.out _ hg.out).mono ?_
              rintro e W3 ⟨rfl, g3⟩
              have hc1' := gr_cell g3 hc1
              have hc2' := gr_cell g3 hc2
              go_wp2
              go_ret
              exact ⟨rfl, gr_below (gr_trans hg.out g3)⟩


set_option maxRecDepth 100000 in
theorem lifted (os : Os) (started : os.Started) (H : Type) (enc : TypeId × Value → H) :
    ReturnsInHanded {} Try.checked os 7 .any (Rows.windowLastsSpec.pre6 enc Try.prog Try.f7 Rows.windowLastsRow.domain false) (Rows.windowLastsSpec.post enc Try.prog Try.f7 false true false false) := by
  refine returnsInHanded_of_change (C := Try.checked) own started (by kernel_rfl) Try.func7
    (ChangeSpec.witness6 (enc := enc) (C := Try.checked) false ⟨#[], #[.slice none 0 0, .int .i64 0, .int .i64 0], []⟩ 8 (by kernel_rfl) (by kernel_rfl) (by kernel_rfl) (by kernel_rfl)) ?_
  intro W base args ds gs before hval0 hW hcnd _
  have hval : ∀ (j : Nat) t v, Try.f7.params[j]? = some t → args[j]? = some v → Value.okWide Try.prog W .any base t v := hval0
  have hW' := hW
  obtain ⟨p, q, hA0, hV, rfl, hfz, hnd⟩ := hW
  have hA : DataW.TrodAll enc Try.prog W 0 (fun _ => true) true Try.f7.params.toList args.toList ds p := hA0
  rw [Try.params7] at hA hval
  obtain ⟨v0, vs0, d0, ds0, p0, q0, hargs, rfl, rfl, h0, r0⟩ := trodAll_cons hA
  obtain ⟨v1, vs1, d1, ds1, p1, q1, rfl, rfl, rfl, h1, r1⟩ := trodAll_cons r0
  obtain ⟨v2, vs2, d2, ds2, p2, q2, rfl, rfl, rfl, h2, r2⟩ := trodAll_cons r1
  obtain ⟨rfl, rfl, rfl⟩ := trodAll_nil r2
  obtain rfl : args = #[v0, v1, v2] := by cases args; simp_all
  obtain ⟨rfl, rfl⟩ := trodVars_none hV
  obtain ⟨a0, len0, cap0, rfl⟩ := okWide_slice Try.underlying22 (hval 0 22 v0 rfl rfl)
  have k0 := h0
  have lt0 : ∀ x ∈ p0, x.block < W.heap.size := by obtain ⟨m, hm⟩ := k0; exact DataW.trod_lt m _ _ _ hm
  obtain ⟨z0, w0⟩ := pts_open h0
  obtain ⟨a1, rfl, rfl, rfl, w1⟩ := open_int Try.underlying3 (hval 1 3 v1 rfl rfl) h1
  obtain ⟨a2, rfl, rfl, rfl, w2⟩ := open_int Try.underlying3 (hval 2 3 v2 rfl rfl) h2
  clear hA0 hval0
  refine (walk W a0 len0 cap0 z0 w0 a1 w1 a2 w2).mono fun e W' ⟨he, bel⟩ => ?_
  subst he
  exact ⟨_, rfl, _, _, _, [], _, [], hW', trodAll_mk1 (shut_bool Try.underlying4 _), (trodAll_cons_mk (Below.trod laidOut (by kernel_rfl) (of_decide_eq_true (by kernel_rfl)) k0 bel lt0) (trodAll_cons_mk (shut_int Try.underlying3 w1) (trodAll_cons_mk (shut_int Try.underlying3 w2) trodAll_mk0))), rfl, bel.frame _, fun h => by cases h⟩

theorem over : Rows.windowLastsRow.holds Try.pinned (OpenSpec.ofChange Rows.windowLastsSpec) :=
  OpenClaim.holds_of_wide 7 Try.f7 rfl rfl rfl rfl rfl rfl rfl ⟨rfl, rfl, rfl, rfl, rfl⟩ rfl rfl rfl rfl rfl (by kernel_rfl) Try.func7 (by kernel_rfl)
    (of_decide_eq_true (by kernel_rfl)) (by unfold Func.isWrapper; first | (rw [if_pos (by decide +kernel)]; kernel_rfl) | (rw [if_neg (by decide +kernel)]; exact ⟨rfl, rfl⟩))
    (fun os started H enc _ => lifted os started H enc)

/-- THE STATEMENT -/
theorem proved : Rows.WindowLastsSaid := over
#print axioms proved
end Go.Proofs.Ytklflekldhhmcaa.windowLasts

