/-
  RowUnlike holds of the program: for every input the call returns true and leaves what came in as it was. No condition.
-/
import Derived.Test.YtcinhaaibnailaaRows
import Derived.Test.YtcinhaaibnailaaRowAlive
import Derived.Test.YtcinhaaibnailaaRowOpen
import Derived.WalkKit
import Derived.ProofKit
import Derived.OpenShut
import Derived.ShutString
import Derived.ChangeOld
import Derived.Below
namespace Go.Proofs.Ytcinhaaibnailaa.rowUnlike
open Go.ChangeShapes Go.WideShapes Go.ChangeAt Go.RowKit
open Go.ChangeMaps (open_string shut_string)
set_option linter.unusedVariables false

theorem own : ownKnob Try.prog.godebug = none := by kernel_rfl
theorem laidOut : laidOutB Try.prog = true := by kernel_rfl
theorem unlike_pre {a b : Rw} (ha : okR a) (hb : okR b) (sa : SmallL a.l) (sb : SmallL b.l) : ((rowL a == rowL b) = decide (a = b)) ∧ ((rowL a).length < (rowL b).length → ((rowL b).take (rowL a).length == rowL a) = false) := by
  refine ⟨?_, fun h => ?_⟩
  · by_cases e : a = b
    · rw [decide_eq_true e, e]; exact beq_self_eq_true _
    · rw [decide_eq_false e]
      refine beq_eq_false_iff_ne.2 fun k => e ?_
      exact (rowL_inj (s := []) (t := []) ha hb sa sb (by rw [k])).1
  · refine beq_eq_false_iff_ne.2 fun k => ?_
    have h1 : rowL a ++ (rowL b).drop (rowL a).length = rowL b ++ [] := by
      rw [List.append_nil]
      conv => rhs; rw [← List.take_append_drop (rowL a).length (rowL b), k]
    have h2 := (rowL_inj ha hb sa sb h1).2
    have h3 := congrArg List.length h2
    rw [List.length_drop, List.length_nil] at h3
    omega
theorem rows_one {w : World} {b : Nat} {h : Hd} {r : Rw} (k : HdOk w h r) : Rows (w.alloc (.cells (hdC h).toArray 24)) (some ⟨w.heap.size, 0, none⟩) 1 [r] := by
  refine ⟨rfl, [h], ⟨rfl, fun j u hj => ⟨w.heap.size, 0, rfl, by simp, ?_⟩⟩, fun i r' hr => ?_⟩
  · rw [sR_one] at hj
    rw [Nat.zero_add, World.cell?_alloc_new, List.getElem?_toArray]
    exact hj
  · match i, hr with
    | 0, hr => simp at hr; subst hr; exact ⟨h, rfl, hdOk_gr k (gr_alloc _ _ _)⟩
    | i + 1, hr => simp at hr
set_option maxHeartbeats 16000000 in
set_option maxRecDepth 100000 in
theorem walk (w : World) (v0 : Value) (z0 : Rw) (w0 : IsRowV w v0 z0) (v1 : Value) (z1 : Rw) (w1 : IsRowV w v1 z1) :
    Calls Try.prog 3 #[v0, v1] w fun e w' => e = .returned (.bool true) ∧ Below w.heap.size w w' := by
  obtain ⟨h0, rfl, k0⟩ := w0
  obtain ⟨h1, rfl, k1⟩ := w1
  have o0 := isHd_ok k0
  have o1 := isHd_ok k1
  have hn0 : h0.n ≤ 9223372036854775807 := Nat.le_trans o0.le o0.small
  have hn1 : h1.n ≤ 9223372036854775807 := Nat.le_trans o1.le o1.small
  have r0 := k0.2.2
  have r1 := k1.2.2
  have e0 := k0.1
  have e1 := k1.1
  clear k0 k1
  obtain ⟨A0, n0, c0, u0⟩ := h0
  obtain ⟨A1, n1, c1, u1⟩ := h1
  simp only at hn0 hn1 e0 e1
  subst e0 e1
  simp only [hdC]
  obtain ⟨W1, hW1⟩ : ∃ W1, W1 = (w.alloc (.cells #[.slice A0 n0 c0, .int .i64 z0.v] 24)).alloc (.cells #[.slice A1 n1 c1, .int .i64 z1.v] 24) := ⟨_, rfl⟩
  have hs1 : (w.alloc (.cells #[.slice A0 n0 c0, .int .i64 z0.v] 24)).heap.size = w.heap.size + 1 := by simp
  have g1 : Gr w W1 := by rw [hW1]; exact gr_trans (gr_alloc _ _ _) (gr_alloc _ _ _)
  have hA : ∀ j x, (#[.slice A0 n0 c0, .int .i64 z0.v] : Array Value)[j]? = some x → W1.cell? ⟨w.heap.size, j, none⟩ = some x := fun j x hj => by rw [hW1]; exact gr_cell (gr_alloc _ _ none) (by rw [World.cell?_alloc_new]; exact hj)
  have hB : ∀ j x, (#[.slice A1 n1 c1, .int .i64 z1.v] : Array Value)[j]? = some x → W1.cell? ⟨w.heap.size + 1, j, none⟩ = some x := fun j x hj => by rw [hW1, ← hs1, World.cell?_alloc_new]; exact hj
  have hc : ∀ w', Gr W1 w' → (w'.cell? ⟨w.heap.size, 0, none⟩ = some (.slice A0 n0 c0) ∧ w'.cell? ⟨w.heap.size, 1, none⟩ = some (.int .i64 z0.v) ∧ w'.cell? ⟨w.heap.size + 1, 0, none⟩ = some (.slice A1 n1 c1) ∧ w'.cell? ⟨w.heap.size + 1, 1, none⟩ = some (.int .i64 z1.v)) := fun w' g => ⟨gr_cell g (hA 0 _ rfl), gr_cell g (hA 1 _ rfl), gr_cell g (hB 0 _ rfl), gr_cell g (hB 1 _ rfl)⟩
  have hl0 := llight_any A0 n0 c0 z0.l W1 hn0 (row_gr o0.row g1)
  have hl1 := llight_any A1 n1 c1 z1.l W1 hn1 (row_gr o1.row g1)
  replace o0 := Lib.hid o0
  replace o1 := Lib.hid o1
  replace hc := Lib.hid hc
  replace hl0 := Lib.hid hl0
  replace hl1 := Lib.hid hl1
  replace g1 := Lib.hid g1
  replace r0 := Lib.hid r0
  replace r1 := Lib.hid r1
  go_enter Try.func3, Try.ntmps3
  go_upto_region 1 with fail
  rw [← hW1]
  clear hW1 hs1 hA hB
  obtain ⟨q0, q1, q2, q3⟩ := hc.out W1 (gr_refl _ _)
  go_wp2_with fail
  refine hl0.out.mono ?_
  rintro e W2 ⟨⟨b0, rfl, hb0⟩, rfl⟩
  cases b0 with
  | false =>
    go_wp2_with fail
    refine (alive_any _).mono ?_
    rintro e w2 ⟨rfl, g2⟩
    go_wp2
    go_ret
    exact ⟨rfl, gr_below (gr_trans g1.out g2)⟩
  | true =>
    have hL0 := hb0 rfl
    replace hL0 := Lib.hid hL0
    clear hb0
    go_wp2_with fail
    refine hl1.out.mono ?_
    rintro e W2 ⟨⟨b1, rfl, hb1⟩, rfl⟩
    cases b1 with
    | false =>
      go_wp2_with fail
      refine (alive_any _).mono ?_
      rintro e w2 ⟨rfl, g2⟩
      go_wp2
      go_ret
      exact ⟨rfl, gr_below (gr_trans g1.out g2)⟩
    | true =>
      have hL1 := hb1 rfl
      replace hL1 := Lib.hid hL1
      clear hb1
      go_wp2_with fail
      refine (alive_any _).mono ?_
      rintro e w2 ⟨rfl, g2⟩
      obtain ⟨q0, q1, q2, q3⟩ := hc.out w2 g2
      have G2 := gr_trans g1.out g2
      have hn20 : n0 ≤ 20 := by have := o0.out.n; have := hL0.out.1; simp only at *; omega
      have hn21 : n1 ≤ 20 := by have := o1.out.n; have := hL1.out.1; simp only at *; omega
      have hp0 := put_any A0 n0 c0 z0.l z0.v w2 (by omega) o0.out.nil (row_gr o0.out.row G2) (light_short hL0.out) r0.out
      have hp1 : ∀ w', Gr w2 w' → Calls Try.prog 7 #[.agg #[.slice A1 n1 c1, .int .i64 z1.v]] w' (PutPost ⟨z1.l, z1.v⟩ w') := fun w' g => put_any A1 n1 c1 z1.l z1.v w' (by omega) o1.out.nil (row_gr o1.out.row (gr_trans G2 g)) (light_short hL1.out) r1.out
      unfold PutPost at hp0 hp1
      replace hp1 := Lib.hid hp1
      replace G2 := Lib.hid G2
      replace g2 := Lib.hid g2
      by_cases ok0 : okR ⟨z0.l, z0.v⟩
      · rw [if_pos ok0] at hp0
        replace hp0 := Lib.hid hp0
        go_wp2_with fail
        refine hp0.out.mono ?_
        rintro e w3 ⟨rfl, g3⟩
        obtain ⟨q0, q1, q2, q3⟩ := hc.out w3 (gr_trans g2.out g3)
        have hp2 := hp1.out w3 g3
        by_cases ok1 : okR ⟨z1.l, z1.v⟩
        · rw [if_pos ok1] at hp2
          replace hp2 := Lib.hid hp2
          have hpre := unlike_pre ok0 ok1 (light_small hL0.out) (light_small hL1.out)
          replace hpre := Lib.hid hpre
          replace ok0 := Lib.hid ok0
          replace ok1 := Lib.hid ok1
          replace g3 := Lib.hid g3
          go_wp2_with fail
          refine hp2.out.mono ?_
          rintro e w4 ⟨rfl, g4⟩
          have G4 := gr_trans g3.out g4
          obtain ⟨q0, q1, q2, q3⟩ := hc.out w4 (gr_trans g2.out G4)
          obtain ⟨hEq, hpx⟩ := hpre.out
          have hsm : ∀ W, Gr w4 W → Calls Try.prog 8 #[.slice A0 n0 c0, .slice A1 n1 c1] W fun e w' => e = .returned (.bool (decide (z0.l = z1.l))) ∧ Gr W w' := fun W g => sameLabels_any A0 A1 n0 n1 c0 c1 z0.l z1.l W (by omega) (by omega) (row_gr o0.out.row (gr_trans G2.out (gr_trans G4 g))) (row_gr o1.out.row (gr_trans G2.out (gr_trans G4 g)))
          have hrs : ∀ W, Gr w4 W → Calls Try.prog 9 #[.slice (some ⟨W.heap.size, 0, none⟩) 1 1, .slice (some ⟨W.heap.size + 1, 0, none⟩) 1 1] ((W.alloc (.cells #[.slice A0 n0 c0, .int .i64 z0.v] 24)).alloc (.cells #[.slice A1 n1 c1, .int .i64 z1.v] 24)) fun e w' => e = .returned (.bool (decide ((⟨z0.l, z0.v⟩ : Rw) = ⟨z1.l, z1.v⟩))) ∧ Gr ((W.alloc (.cells #[.slice A0 n0 c0, .int .i64 z0.v] 24)).alloc (.cells #[.slice A1 n1 c1, .int .i64 z1.v] 24)) w' := fun W g => by
            have k0 := hdOk_gr o0.out (gr_trans G2.out (gr_trans G4 g))
            have k1 := hdOk_gr o1.out (gr_trans G2.out (gr_trans G4 g))
            have m0 := rows_gr (rows_one (b := 0) k0) (gr_alloc (W.alloc (.cells #[.slice A0 n0 c0, .int .i64 z0.v] 24)) (.cells #[.slice A1 n1 c1, .int .i64 z1.v] 24) none)
            have m1 := rows_one (b := 0) (hdOk_gr k1 (gr_alloc W (.cells #[.slice A0 n0 c0, .int .i64 z0.v] 24) none))
            have hsz : (W.alloc (.cells #[.slice A0 n0 c0, .int .i64 z0.v] 24)).heap.size = W.heap.size + 1 := by simp
            rw [hsz] at m1
            have h := rsame_any _ _ 1 1 1 1 [z0] [z1] _ (by decide) (by decide) m0 m1 (fun r hr => by rw [List.mem_singleton.1 hr]; have := hL0.out.1; omega) (fun r hr => by rw [List.mem_singleton.1 hr]; have := hL1.out.1; omega)
            have hd : decide ([z0] = [z1]) = decide ((⟨z0.l, z0.v⟩ : Rw) = ⟨z1.l, z1.v⟩) := decide_eq_decide.2 ⟨fun e => by injection e, fun e => by rw [show z0 = z1 from e]⟩
            rw [hd] at h
            exact h
          replace hsm := Lib.hid hsm
          replace hrs := Lib.hid hrs
          replace hpx := Lib.hid hpx
          generalize rowL ⟨z0.l, z0.v⟩ = S at *
          generalize rowL ⟨z1.l, z1.v⟩ = T at *
          clear hpre hp0 hp1 hp2
          by_cases hv : z0.v = z1.v
          · have hvb : (z0.v == z1.v) = true := by rw [hv]; exact beq_self_eq_true _
            by_cases hl : z0.l = z1.l
            · have hE : decide ((⟨z0.l, z0.v⟩ : Rw) = ⟨z1.l, z1.v⟩) = true := decide_eq_true (by rw [hl, hv])
              have hE2 : decide (z0.l = z1.l) = true := decide_eq_true hl
              rw [hE] at hEq hrs
              rw [hE2] at hsm
              replace hl := Lib.hid hl
              replace hv := Lib.hid hv
              clear hE hE2
              go_wp2_with fail
              refine (hsm.out _ (gr_refl _ _)).mono ?_
              rintro e w5 ⟨rfl, g5⟩
              have G5 := gr_trans G4 g5
              obtain ⟨q0, q1, q2, q3⟩ := hc.out w5 (gr_trans g2.out G5)
              have hgb := World.block_lt_of_cell? _ _ q2
              have hrs2 := hrs.out w5 g5
              replace hrs2 := Lib.hid hrs2
              replace G5 := Lib.hid G5
              by_cases hlen : S.length < T.length
              · have hli : (S.length : Int) < (T.length : Int) := by omega
                have hle : (S.length : Int) ≤ (T.length : Int) := by omega
                have hpx2 := hpx.out hlen
                have htk := txt_take T S.length
                go_wp2_with fail
                refine hrs2.out.mono ?_
                rintro e w6 ⟨rfl, g6⟩
                go_wp2
                go_ret
                exact ⟨rfl, gr_below (gr_trans G2.out (gr_trans G5.out (gr_trans (gr_alloc _ _ _) (gr_trans (gr_alloc _ _ _) g6))))⟩
              · have hli : ((S.length : Int) < (T.length : Int)) = False := eq_false (by omega)
                go_wp2_with fail
                refine hrs2.out.mono ?_
                rintro e w6 ⟨rfl, g6⟩
                go_wp2
                go_ret
                exact ⟨rfl, gr_below (gr_trans G2.out (gr_trans G5.out (gr_trans (gr_alloc _ _ _) (gr_trans (gr_alloc _ _ _) g6))))⟩

            · have hE : decide ((⟨z0.l, z0.v⟩ : Rw) = ⟨z1.l, z1.v⟩) = false := decide_eq_false (fun e => hl (by injection e))
              have hE2 : decide (z0.l = z1.l) = false := decide_eq_false hl
              rw [hE] at hEq hrs
              rw [hE2] at hsm
              replace hl := Lib.hid hl
              replace hv := Lib.hid hv
              clear hE hE2
              go_wp2_with fail
              refine (hsm.out _ (gr_refl _ _)).mono ?_
              rintro e w5 ⟨rfl, g5⟩
              have G5 := gr_trans G4 g5
              obtain ⟨q0, q1, q2, q3⟩ := hc.out w5 (gr_trans g2.out G5)
              have hgb := World.block_lt_of_cell? _ _ q2
              have hrs2 := hrs.out w5 g5
              replace hrs2 := Lib.hid hrs2
              replace G5 := Lib.hid G5
              by_cases hlen : S.length < T.length
              · have hli : (S.length : Int) < (T.length : Int) := by omega
                have hle : (S.length : Int) ≤ (T.length : Int) := by omega
                have hpx2 := hpx.out hlen
                have htk := txt_take T S.length
                go_wp2_with fail
                refine hrs2.out.mono ?_
                rintro e w6 ⟨rfl, g6⟩
                go_wp2
                go_ret
                exact ⟨rfl, gr_below (gr_trans G2.out (gr_trans G5.out (gr_trans (gr_alloc _ _ _) (gr_trans (gr_alloc _ _ _) g6))))⟩
              · have hli : ((S.length : Int) < (T.length : Int)) = False := eq_false (by omega)
                go_wp2_with fail
                refine hrs2.out.mono ?_
                rintro e w6 ⟨rfl, g6⟩
                go_wp2
                go_ret
                exact ⟨rfl, gr_below (gr_trans G2.out (gr_trans G5.out (gr_trans (gr_alloc _ _ _) (gr_trans (gr_alloc _ _ _) g6))))⟩

          · have hvb : (z0.v == z1.v) = false := beq_eq_false_iff_ne.2 hv
            have hE : decide ((⟨z0.l, z0.v⟩ : Rw) = ⟨z1.l, z1.v⟩) = false := decide_eq_false (fun e => hv (by injection e))
            rw [hE] at hEq hrs
            replace hv := Lib.hid hv
            clear hE hsm
            obtain ⟨w5, hw5⟩ : ∃ w5, w5 = w4 := ⟨_, rfl⟩
            have g5 : Gr w4 w5 := by rw [hw5]; exact gr_refl w4 none
            have G5 := gr_trans G4 g5
            rw [← hw5]
            clear hw5
            obtain ⟨q0, q1, q2, q3⟩ := hc.out w5 (gr_trans g2.out G5)
            have hgb := World.block_lt_of_cell? _ _ q2
            have hrs2 := hrs.out w5 g5
            replace hrs2 := Lib.hid hrs2
            replace G5 := Lib.hid G5
            by_cases hlen : S.length < T.length
            · have hli : (S.length : Int) < (T.length : Int) := by omega
              have hle : (S.length : Int) ≤ (T.length : Int) := by omega
              have hpx2 := hpx.out hlen
              have htk := txt_take T S.length
              go_wp2_with fail
              refine hrs2.out.mono ?_
              rintro e w6 ⟨rfl, g6⟩
              go_wp2
              go_ret
              exact ⟨rfl, gr_below (gr_trans G2.out (gr_trans G5.out (gr_trans (gr_alloc _ _ _) (gr_trans (gr_alloc _ _ _) g6))))⟩
            · have hli : ((S.length : Int) < (T.length : Int)) = False := eq_false (by omega)
              go_wp2_with fail
              refine hrs2.out.mono ?_
              rintro e w6 ⟨rfl, g6⟩
              go_wp2
              go_ret
              exact ⟨rfl, gr_below (gr_trans G2.out (gr_trans G5.out (gr_trans (gr_alloc _ _ _) (gr_trans (gr_alloc _ _ _) g6))))⟩


        · rw [if_neg ok1] at hp2
          replace hp2 := Lib.hid hp2
          replace ok0 := Lib.hid ok0
          replace ok1 := Lib.hid ok1
          replace g3 := Lib.hid g3
          go_wp2_with fail
          refine hp2.out.mono ?_
          rintro e w4 ⟨rfl, g4⟩
          go_wp2
          go_ret
          exact ⟨rfl, gr_below (gr_trans G2.out (gr_trans g3.out g4))⟩
      · rw [if_neg ok0] at hp0
        replace hp0 := Lib.hid hp0
        replace ok0 := Lib.hid ok0
        go_wp2_with fail
        refine hp0.out.mono ?_
        rintro e w3 ⟨rfl, g3⟩
        obtain ⟨q0, q1, q2, q3⟩ := hc.out w3 (gr_trans g2.out g3)
        have hp2 := hp1.out w3 g3
        replace hp2 := Lib.hid hp2
        replace g3 := Lib.hid g3
        go_wp2_with fail
        refine hp2.out.mono ?_
        rintro e w4 ⟨rfl, g4⟩
        by_cases ok1 : okR ⟨z1.l, z1.v⟩
        · rw [if_pos ok1]
          go_wp2
          go_ret
          exact ⟨rfl, gr_below (gr_trans G2.out (gr_trans g3.out g4))⟩
        · rw [if_neg ok1]
          go_wp2
          go_ret
          exact ⟨rfl, gr_below (gr_trans G2.out (gr_trans g3.out g4))⟩



set_option maxRecDepth 100000 in
theorem lifted (os : Os) (started : os.Started) (H : Type) (enc : TypeId × Value → H) :
    ReturnsInHanded {} Try.checked os 3 .any (Rows.rowUnlikeSpec.pre6 enc Try.prog Try.f3 Rows.rowUnlikeRow.domain false) (Rows.rowUnlikeSpec.post enc Try.prog Try.f3 false true false false) := by
  refine returnsInHanded_of_change (C := Try.checked) own started (by kernel_rfl) Try.func3
    (ChangeSpec.witness6 (enc := enc) (C := Try.checked) false ⟨#[], #[.agg #[.slice none 0 0, .int .i64 0], .agg #[.slice none 0 0, .int .i64 0]], []⟩ 8 (by kernel_rfl) (by kernel_rfl) (by kernel_rfl) (by kernel_rfl)) ?_
  intro W base args ds gs before hval0 hW hcnd _
  have hval : ∀ (j : Nat) t v, Try.f3.params[j]? = some t → args[j]? = some v → Value.okWide Try.prog W .any base t v := hval0
  have hW' := hW
  obtain ⟨p, q, hA0, hV, rfl, hfz, hnd⟩ := hW
  have hA : DataW.TrodAll enc Try.prog W 0 (fun _ => true) true Try.f3.params.toList args.toList ds p := hA0
  rw [Try.params3] at hA hval
  obtain ⟨v0, vs0, d0, ds0, p0, q0, hargs, rfl, rfl, h0, r0⟩ := trodAll_cons hA
  obtain ⟨v1, vs1, d1, ds1, p1, q1, rfl, rfl, rfl, h1, r1⟩ := trodAll_cons r0
  obtain ⟨rfl, rfl, rfl⟩ := trodAll_nil r1
  obtain rfl : args = #[v0, v1] := by cases args; simp_all
  obtain ⟨rfl, rfl⟩ := trodVars_none hV
  have k0 := h0
  have lt0 : ∀ x ∈ p0, x.block < W.heap.size := by obtain ⟨m, hm⟩ := k0; exact DataW.trod_lt m _ _ _ hm
  obtain ⟨z0, w0⟩ := row_open (hval 0 24 v0 rfl rfl) h0
  have k1 := h1
  have lt1 : ∀ x ∈ p1, x.block < W.heap.size := by obtain ⟨m, hm⟩ := k1; exact DataW.trod_lt m _ _ _ hm
  obtain ⟨z1, w1⟩ := row_open (hval 1 24 v1 rfl rfl) h1
  clear hA0 hval0
  refine (walk W v0 z0 w0 v1 z1 w1).mono fun e W' ⟨he, bel⟩ => ?_
  subst he
  exact ⟨_, rfl, _, _, _, [], _, [], hW', trodAll_mk1 (shut_bool Try.underlying4 _), (trodAll_cons_mk (Below.trod laidOut (by kernel_rfl) (of_decide_eq_true (by kernel_rfl)) k0 bel lt0) (trodAll_cons_mk (Below.trod laidOut (by kernel_rfl) (of_decide_eq_true (by kernel_rfl)) k1 bel lt1) trodAll_mk0)), rfl, bel.frame _, fun h => by cases h⟩

theorem over : Rows.rowUnlikeRow.holds Try.pinned (OpenSpec.ofChange Rows.rowUnlikeSpec) :=
  OpenClaim.holds_of_wide 3 Try.f3 rfl rfl rfl rfl rfl rfl rfl ⟨rfl, rfl, rfl, rfl, rfl⟩ rfl rfl rfl rfl rfl (by kernel_rfl) Try.func3 (by kernel_rfl)
    (of_decide_eq_true (by kernel_rfl)) (by unfold Func.isWrapper; first | (rw [if_pos (by decide +kernel)]; kernel_rfl) | (rw [if_neg (by decide +kernel)]; exact ⟨rfl, rfl⟩))
    (fun os started H enc _ => lifted os started H enc)

/-- THE STATEMENT -/
theorem proved : Rows.RowUnlikeSaid := over
#print axioms proved
end Go.Proofs.Ytcinhaaibnailaa.rowUnlike

