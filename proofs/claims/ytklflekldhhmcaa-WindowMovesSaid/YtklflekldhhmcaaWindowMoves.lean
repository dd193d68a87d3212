/-
  WindowMoves holds of the program: for every input the call returns true and leaves what came in as it was. No condition.
-/
import Derived.Test.YtklflekldhhmcaaRows
import Derived.Test.YtklflekldhhmcaaWinLaw
import Derived.WalkKit
import Derived.ProofKit
import Derived.OpenShut
import Derived.ShutString
import Derived.ChangeOld
import Derived.Below
namespace Go.Proofs.Ytklflekldhhmcaa.windowMoves
open Go.ChangeShapes Go.WideShapes Go.ChangeAt Go.RowKit
open Go.ChangeMaps (open_string shut_string)
set_option linter.unusedVariables false

theorem own : ownKnob Try.prog.godebug = none := by kernel_rfl
theorem laidOut : laidOutB Try.prog = true := by kernel_rfl

theorem mono_count {zs : List (Int × Int)} {k : Nat} {x : Int × Int} (h : zs[k]? = some x) : ((zs.take (k + 1)).filter (fun y => decide (0 < y.1))).length = ((zs.take k).filter (fun y => decide (0 < y.1))).length + (if 0 < x.1 then 1 else 0) := by
  rw [filter_next _ h, List.length_append]
  congr 1
  by_cases c : 0 < x.1
  · rw [if_pos c, if_pos (decide_eq_true c)]; rfl
  · rw [if_neg c, if_neg (by simpa using c)]; rfl
theorem all_count {zs : List (Int × Int)} (h : rightB zs = true) : zs.filter (inWin 1000000000 1000000000) = zs.filter (fun y => decide (0 < y.1)) := by
  apply List.filter_congr
  intro x hx
  obtain ⟨j, hj⟩ := List.getElem?_of_mem hx
  have hjl := (List.getElem?_eq_some_iff.1 hj).1
  have h2 := (okP_iff.1 ((right_iff.1 h).2 j hjl)).2.1
  rw [(pT_of hj).1] at h2
  unfold inWin
  rw [decide_eq_true h2, Bool.and_true]
  rfl

set_option maxHeartbeats 4000000 in
set_option maxRecDepth 100000 in
theorem walk (w : World) (a0 : Option Addr) (len0 cap0 : Nat) (z0 : List (Int × Int)) (w0 : IsPts w a0 len0 cap0 z0) (a1 : Int) (w1 : (Lit.int .i64 a1).wf = true) (a2 : Int) (w2 : (Lit.int .i64 a2).wf = true) (a3 : Int) (w3 : (Lit.int .i64 a3).wf = true) :
    Calls Try.prog 4 #[.slice a0 len0 cap0, .int .i64 a1, .int .i64 a2, .int .i64 a3] w fun e w' => e = .returned (.bool true) ∧ Below w.heap.size w w' := by
  have x1 := rng_i64 w1
  have x2 := rng_i64 w2
  have x3 := rng_i64 w3
  obtain ⟨hr, hcap, hcap2, _⟩ := w0
  clear w1 w2 w3
  have hl := pt_len hr
  have cP := fun W (g : Gr w W) => refPoints_any a0 len0 cap0 z0 W (by omega) (pt_gr hr g)
  cases hrb : rightB z0 with
  | false =>
    rw [hrb] at cP
    replace cP := Lib.hid cP
    replace hl := Lib.hid hl
    clear hr hrb
    go_enter Try.func4, Try.ntmps4
    go_wp2_with fail
    refine (cP.out _ (gr_refl _ _)).mono ?_
    rintro e W1 ⟨rfl, g1⟩
    go_wp2_with fail
    refine (alive_any _).mono ?_
    rintro e W2 ⟨rfl, g2⟩
    go_wp2
    go_ret
    exact ⟨rfl, gr_below (gr_trans g1 g2)⟩
  | true =>
    rw [hrb] at cP
    by_cases hbad : a1 < 0 ∨ 1000000000 < a1 ∨ a2 < 0 ∨ a3 < 0 ∨ 500000000 < a2 ∨ 500000000 < a3
    · have hcs : a1 < 0 ∨ (¬ a1 < 0 ∧ 1000000000 < a1) ∨ (¬ a1 < 0 ∧ ¬ 1000000000 < a1 ∧ a2 < 0) ∨ (¬ a1 < 0 ∧ ¬ 1000000000 < a1 ∧ ¬ a2 < 0 ∧ a3 < 0) ∨ (¬ a1 < 0 ∧ ¬ 1000000000 < a1 ∧ ¬ a2 < 0 ∧ ¬ a3 < 0 ∧ 500000000 < a2) ∨ (¬ a1 < 0 ∧ ¬ 1000000000 < a1 ∧ ¬ a2 < 0 ∧ ¬ a3 < 0 ∧ ¬ 500000000 < a2 ∧ 500000000 < a3) := by omega
      replace cP := Lib.hid cP
      replace hl := Lib.hid hl
      clear hr hrb hbad
      rcases hcs with h | ⟨h, h2⟩ | ⟨h, h2, h3⟩ | ⟨h, h2, h3, h4⟩ | ⟨h, h2, h3, h4, h5⟩ | ⟨h, h2, h3, h4, h5, h6⟩
      all_goals
        go_enter Try.func4, Try.ntmps4
        go_wp2_with fail
        refine (cP.out _ (gr_refl _ _)).mono ?_
        rintro e W1 ⟨rfl, g1⟩
        go_wp2_with fail
        refine (alive_any _).mono ?_
        rintro e W2 ⟨rfl, g2⟩
        go_wp2
        go_ret
        exact ⟨rfl, gr_below (gr_trans g1 g2)⟩
    · have b0 : 0 ≤ a1 := by omega
      have b1 : a1 ≤ 1000000000 := by omega
      have b2 : 0 ≤ a2 := by omega
      have b3 : a2 ≤ 500000000 := by omega
      have b4 : 0 ≤ a3 := by omega
      have b5 : a3 ≤ 500000000 := by omega
      have hlaw := parts_law (t := a1) (a := a3) (b := a2) (right_rise hrb) b4 b2
      have cy := fun W (g : Gr w W) => winOf_any a0 len0 cap0 z0 a1 a2 W (by omega) (pt_gr hr g) (by omega) (by omega)
      have cz := fun W (g : Gr w W) => winOf_any a0 len0 cap0 z0 a1 (a2 + a3) W (by omega) (pt_gr hr g) (by omega) (by omega)
      have ca := fun W (g : Gr w W) => winOf_any a0 len0 cap0 z0 1000000000 1000000000 W (by omega) (pt_gr hr g) (by omega) (by omega)
      unfold OfPost at cy cz ca
      have l2 := ofP_25 z0 a1 a2
      have l3 := ofP_25 z0 a1 (a2 + a3)
      rw [ofP_ok hrb b0 b1 b2 (by omega)] at cy l2
      rw [ofP_ok hrb b0 b1 (by omega) (by omega)] at cz l3
      rw [ofP_ok hrb (by omega) (by omega) (by omega) (by omega), all_count hrb] at ca
      rw [Int.add_comm a3 a2] at hlaw
      rw [← hlaw] at cz l3
      have h25 : len0 ≤ 25 := by rw [← hl]; exact (right_iff.1 hrb).1
      generalize z0.filter (inWin (a1 - a2) a3) = X at *
      generalize z0.filter (inWin a1 a2) = Y at *
      have hXY : (X ++ Y).length = X.length + Y.length := List.length_append
      rw [hXY] at cz l3
      replace cP := Lib.hid cP
      replace cy := Lib.hid cy
      replace cz := Lib.hid cz
      replace ca := Lib.hid ca
      replace hl := Lib.hid hl
      replace hr := Lib.hid hr
      replace hrb := Lib.hid hrb
      clear hbad hlaw hXY
      go_enter Try.func4, Try.ntmps4
      go_wp2_with fail
      refine (cP.out _ (gr_refl _ _)).mono ?_
      rintro e W1 ⟨rfl, g1⟩
      go_wp2_with fail
      refine (alive_any _).mono ?_
      rintro e W2 ⟨rfl, g2⟩
      have g12 := Lib.hid (gr_trans g1 g2)
      clear g1 g2
      go_wp2_with fail
      refine (cy.out _ g12.out).mono ?_
      rintro e W4 ⟨vy, rfl, oy, g4⟩
      obtain ⟨Ay, ky, rfl, _, _, ny, ry⟩ := own_slice3 oy
      have g14 := Lib.hid (gr_trans g12.out g4)
      clear oy g4
      replace ry := Lib.hid ry
      clear ny
      go_wp2_with fail
      refine (cz.out _ g14.out).mono ?_
      rintro e W5 ⟨vz, rfl, oz, g5⟩
      obtain ⟨Az, kz, rfl, hkz, hkz2, nz, rz⟩ := own_slice3 oz
      have g15 := Lib.hid (gr_trans g14.out g5)
      have ry5 := Lib.hid (row_gr ry.out g5)
      clear oz g5 ry nz
      replace rz := Lib.hid rz
      have hk1 : (X.length : Int) + (Y.length : Int) ≤ (kz : Int) := by omega
      have hdr : ∀ A' : Option Addr, (∀ B o, Az = some ⟨B, o, none⟩ → X.length < X.length + Y.length → A' = some ⟨B, o + X.length * 2, none⟩) → PtRow W5 A' Y.length Y := fun A' hA => by
        have h1 := row_drop (A' := A') rz.out X.length hA (by omega)
        rw [← pcs_drop, List.drop_left' rfl, Nat.add_sub_cancel_left] at h1
        exact h1
      replace hdr := Lib.hid hdr
      go_wp2_with fail
      all_goals
        refine (samePts_yes _ _ Y.length _ _ Y _ (by omega) ry5.out (hdr.out _ (fun B o e h => by first | omega | (rw [e]; exact congrArg some (add_plain B o (X.length * 2)))))).mono ?_
        rintro e W6 ⟨rfl, g6⟩
        have g16 := Lib.hid (gr_trans g15.out g6)
        clear g6
        go_wp2_with fail
        refine (ca.out _ g16.out).mono ?_
        rintro e W7 ⟨va, rfl, oa, g7⟩
        obtain ⟨Aa, ka, rfl, _, _, _, _⟩ := own_slice3 oa
        have g17 := Lib.hid (gr_trans g16.out g7)
        clear oa g7
        go_wp2_with fail
        go_loopw [12, 13] (fun nv i wr => ∃ (k : Nat) (cn : Nat), k ≤ len0 ∧ i = .int .i64 k ∧ nv = .int .i64 cn ∧ Hid (cn = ((z0.take k).filter (fun y => decide (0 < y.1))).length) ∧ cn ≤ k ∧ Hid (Gr w wr)) (fun _ i _ => len0 - (intOf i).toNat)
        case atStart => exact ⟨0, 0, Nat.zero_le _, rfl, rfl, rfl, Nat.le_refl _, g17.out⟩
        case round =>
          obtain ⟨k, cn, hk, rfl, rfl, hcn, hck, hg⟩ := hrel
          by_cases hlt : k < len0
          · obtain ⟨⟨T, V⟩, B, o, hx, rfl, hB, hc1, hc2⟩ := pt_elem (pt_gr hr.out hg.out) hlt
            have hki : (k : Int) < (len0 : Int) := by omega
            have hmc := mono_count hx
            rw [← hcn.out] at hmc
            replace hx := Lib.hid hx
            by_cases hT : 0 < T
            · rw [if_pos hT] at hmc
              replace hmc := Lib.hid hmc
              go_wp2
              go_roundw
              case rel => exact ⟨k + 1, cn + 1, by omega, by go_num, by go_num, hmc.out.symm, by omega, hg.out⟩
              case measure => simp [intOf]; omega
            · rw [if_neg hT] at hmc
              replace hmc := Lib.hid hmc
              go_wp2
              go_roundw
              case rel => exact ⟨k + 1, cn, by omega, by go_num, rfl, hmc.out.symm, by omega, hg.out⟩
              case measure => simp [intOf]; omega
          · obtain rfl : k = len0 := by omega
            have hc := hcn.out
            rw [List.take_of_length_le (Nat.le_of_eq hl.out)] at hc
            rw [← hc]
            replace hc := Lib.hid hc
            go_wp2
            go_ret
            exact ⟨rfl, gr_below hg.out⟩


set_option maxRecDepth 100000 in
theorem lifted (os : Os) (started : os.Started) (H : Type) (enc : TypeId × Value → H) :
    ReturnsInHanded {} Try.checked os 4 .any (Rows.windowMovesSpec.pre6 enc Try.prog Try.f4 Rows.windowMovesRow.domain false) (Rows.windowMovesSpec.post enc Try.prog Try.f4 false true false false) := by
  refine returnsInHanded_of_change (C := Try.checked) own started (by kernel_rfl) Try.func4
    (ChangeSpec.witness6 (enc := enc) (C := Try.checked) false ⟨#[], #[.slice none 0 0, .int .i64 0, .int .i64 0, .int .i64 0], []⟩ 8 (by kernel_rfl) (by kernel_rfl) (by kernel_rfl) (by kernel_rfl)) ?_
  intro W base args ds gs before hval0 hW hcnd _
  have hval : ∀ (j : Nat) t v, Try.f4.params[j]? = some t → args[j]? = some v → Value.okWide Try.prog W .any base t v := hval0
  have hW' := hW
  obtain ⟨p, q, hA0, hV, rfl, hfz, hnd⟩ := hW
  have hA : DataW.TrodAll enc Try.prog W 0 (fun _ => true) true Try.f4.params.toList args.toList ds p := hA0
  rw [Try.params4] at hA hval
  obtain ⟨v0, vs0, d0, ds0, p0, q0, hargs, rfl, rfl, h0, r0⟩ := trodAll_cons hA
  obtain ⟨v1, vs1, d1, ds1, p1, q1, rfl, rfl, rfl, h1, r1⟩ := trodAll_cons r0
  obtain ⟨v2, vs2, d2, ds2, p2, q2, rfl, rfl, rfl, h2, r2⟩ := trodAll_cons r1
  obtain ⟨v3, vs3, d3, ds3, p3, q3, rfl, rfl, rfl, h3, r3⟩ := trodAll_cons r2
  obtain ⟨rfl, rfl, rfl⟩ := trodAll_nil r3
  obtain rfl : args = #[v0, v1, v2, v3] := by cases args; simp_all
  obtain ⟨rfl, rfl⟩ := trodVars_none hV
  obtain ⟨a0, len0, cap0, rfl⟩ := okWide_slice Try.underlying22 (hval 0 22 v0 rfl rfl)
  have k0 := h0
  have lt0 : ∀ x ∈ p0, x.block < W.heap.size := by obtain ⟨m, hm⟩ := k0; exact DataW.trod_lt m _ _ _ hm
  obtain ⟨z0, w0⟩ := pts_open h0
  obtain ⟨a1, rfl, rfl, rfl, w1⟩ := open_int Try.underlying3 (hval 1 3 v1 rfl rfl) h1
  obtain ⟨a2, rfl, rfl, rfl, w2⟩ := open_int Try.underlying3 (hval 2 3 v2 rfl rfl) h2
  obtain ⟨a3, rfl, rfl, rfl, w3⟩ := open_int Try.underlying3 (hval 3 3 v3 rfl rfl) h3
  clear hA0 hval0
  refine (walk W a0 len0 cap0 z0 w0 a1 w1 a2 w2 a3 w3).mono fun e W' ⟨he, bel⟩ => ?_
  subst he
  exact ⟨_, rfl, _, _, _, [], _, [], hW', trodAll_mk1 (shut_bool Try.underlying4 _), (trodAll_cons_mk (Below.trod laidOut (by kernel_rfl) (of_decide_eq_true (by kernel_rfl)) k0 bel lt0) (trodAll_cons_mk (shut_int Try.underlying3 w1) (trodAll_cons_mk (shut_int Try.underlying3 w2) (trodAll_cons_mk (shut_int Try.underlying3 w3) trodAll_mk0)))), rfl, bel.frame _, fun h => by cases h⟩

theorem over : Rows.windowMovesRow.holds Try.pinned (OpenSpec.ofChange Rows.windowMovesSpec) :=
  OpenClaim.holds_of_wide 4 Try.f4 rfl rfl rfl rfl rfl rfl rfl ⟨rfl, rfl, rfl, rfl, rfl⟩ rfl rfl rfl rfl rfl (by kernel_rfl) Try.func4 (by kernel_rfl)
    (of_decide_eq_true (by kernel_rfl)) (by unfold Func.isWrapper; first | (rw [if_pos (by decide +kernel)]; kernel_rfl) | (rw [if_neg (by decide +kernel)]; exact ⟨rfl, rfl⟩))
    (fun os started H enc _ => lifted os started H enc)

/-- THE STATEMENT -/
theorem proved : Rows.WindowMovesSaid := over
#print axioms proved
end Go.Proofs.Ytklflekldhhmcaa.windowMoves

