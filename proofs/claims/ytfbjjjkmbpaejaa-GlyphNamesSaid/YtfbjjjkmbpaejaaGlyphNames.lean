/-
  GlyphNames holds of the program: for every input the call returns true and leaves what came in as it was. No condition.
-/
import Derived.Test.YtfbjjjkmbpaejaaRows
import Derived.Test.YtfbjjjkmbpaejaaGlyphAlive
import Derived.Test.YtfbjjjkmbpaejaaRunesConv
import Derived.WalkKit
import Derived.ProofKit
import Derived.OpenShut
import Derived.ShutString
import Derived.ChangeOld
import Derived.Below
namespace Go.Proofs.Ytfbjjjkmbpaejaa.glyphNames
open Go.ChangeShapes Go.WideShapes Go.ChangeAt Go.RowKit
open Go.ChangeMaps (open_string shut_string)
set_option linter.unusedVariables false

theorem own : ownKnob Try.prog.godebug = none := by kernel_rfl
theorem laidOut : laidOutB Try.prog = true := by kernel_rfl

theorem okNext_ne {done : List (Nat × List UInt8)} (h : done ≠ []) (r : Nat) : okNext done r = decide (kind (r : Nat) = 1 ∨ kind (r : Nat) = 2) := by
  unfold okNext
  simp [h]
theorem name_good {l : List UInt8} (h : isName l = true) : Good l := by
  intro c hc ⟨h1, _⟩
  unfold isName at h
  simp only [Bool.and_eq_true] at h
  have h2 := h.1
  have h3 : kind (c.1 : Nat) = 1 ∨ kind (c.1 : Nat) = 2 := by
    cases hcs : chunks l with
    | nil => rw [hcs] at hc; simp at hc
    | cons d ds =>
      rw [hcs] at h2 hc
      simp only [okD, Bool.and_eq_true, decide_eq_true_eq, List.all_eq_true] at h2
      rcases List.mem_cons.1 hc with rfl | hc
      · exact Or.inl h2.1
      · exact h2.2 c hc
  rw [h1] at h3
  revert h3
  decide
theorem name_bad_head {r : Int} (h0 : RuneOk r) (h : kind r ≠ 1) (l : List UInt8) : isName (Lib.encodeRune r ++ l) = false := by
  unfold isName
  have e : ((fixR r).toNat : Int) = r := by rw [fixR_of h0]; have := h0.1; omega
  rw [chunks_enc]
  have h2 : okD (((fixR r).toNat, Lib.encodeRune r) :: chunks l) = false := by
    simp only [okD, e]
    rw [decide_eq_false h]
    rfl
  rw [h2]
  rfl

set_option maxHeartbeats 4000000 in
set_option maxRecDepth 100000 in
theorem walk (w : World) (a0 : ByteArray) (w0 : a0.size ≤ maxLen) (a1 : Int) (w1 : (Lit.int .i32 a1).wf = true) :
    Calls Try.prog 5 #[.string a0, .int .i32 a1] w fun e w' => e = .returned (.bool true) ∧ Below w.heap.size w w' := by
  have x1 := rng_i32 w1
  clear w1
  obtain ⟨l, hl⟩ : ∃ l, a0 = txt l := ⟨_, (txt_of a0).symm⟩
  have hsz : a0.size = l.length := by rw [hl, txt_size]
  subst hl
  unfold maxLen at w0
  have hn := fun W => name_any l W (by omega)
  cases hnm : isName l with
  | false =>
    rw [hnm] at hn
    replace hn := Lib.hid hn
    replace hnm := Lib.hid hnm
    replace hsz := Lib.hid hsz
    go_enter Try.func5, Try.ntmps5
    go_wp2_with fail
    refine (hn.out _).mono ?_
    rintro e W1 ⟨rfl, g1⟩
    go_wp2_with fail
    refine (alive_any _).mono ?_
    rintro e W2 ⟨rfl, g2⟩
    go_wp2
    go_ret
    exact ⟨rfl, gr_below (gr_trans g1 g2)⟩
  | true =>
    rw [hnm] at hn
    have hgood := name_good hnm
    have hcl := chunks_le4 l
    have hnm2 := hnm
    unfold isName at hnm2
    simp only [Bool.and_eq_true, decide_eq_true_eq] at hnm2
    obtain ⟨hok, hm1, hm2⟩ := hnm2
    have hct : chunks (l ++ Lib.encodeRune a1) = chunks l ++ [((fixR a1).toNat, Lib.encodeRune a1)] := by
      have := chunks_enc a1 []
      rw [List.append_nil, chunks_nil] at this
      rw [chunks_append hgood, this]
    obtain ⟨E, hE⟩ : ∃ E, E = Lib.encodeRune a1 := ⟨_, rfl⟩
    have hel := enc_len a1
    rw [← hE] at hct hel
    have hcc := fun W => kind_any a1 W
    have hcnt := fun W => count_any l W (by omega)
    obtain ⟨M, hM⟩ : ∃ M, M = (chunks l).length := ⟨_, rfl⟩
    rw [← hM] at hm1 hm2 hcl hcnt
    replace hn := Lib.hid hn
    replace hsz := Lib.hid hsz
    replace hcc := Lib.hid hcc
    replace hcnt := Lib.hid hcnt
    replace hM := Lib.hid hM
    replace hE := Lib.hid hE
    replace hct := Lib.hid hct
    replace hok := Lib.hid hok
    replace hnm := Lib.hid hnm
    replace hgood := Lib.hid hgood
    generalize hK : kind a1 = K at *
    replace hK := Lib.hid hK
    go_enter Try.func5, Try.ntmps5
    go_wp2_with fail
    refine (hn.out _).mono ?_
    rintro e W1 ⟨rfl, g1⟩
    go_wp2_with fail
    refine (alive_any _).mono ?_
    rintro e W2 ⟨rfl, g2⟩
    have hcv := run_runes_string (P := Try.prog) (W := W2.alloc (.cells #[.int .i32 a1] 21)) Try.underlying29 Try.underlying21 Try.underlying9 (zs := [a1]) (row_new W2 #[.int .i32 a1] 21 1 rfl) 1
    rw [show encs [a1] = E by rw [hE.out]; simp [encs]] at hcv
    go_wp2_with fail
    refine (hcc.out _).mono ?_
    rintro e W3 ⟨rfl, rfl⟩
    have hTl : (l ++ E).length ≤ 10000000000000 := by rw [List.length_append]; omega
    have hlc : (chunks (l ++ E)).length = M + 1 := by rw [hct.out, List.length_append, hM.out]; rfl
    obtain ⟨W4, hW4⟩ : ∃ W4, W4 = rW (W2.alloc (.cells #[.int .i32 a1] 21)) (l ++ E) := ⟨_, rfl⟩
    obtain ⟨W5, hW5⟩ : ∃ W5, W5 = rW W4 (l ++ E) := ⟨_, rfl⟩
    have hr1 := run_string_runes (W2.alloc (.cells #[.int .i32 a1] 21)) (l ++ E) hTl
    have hr2 := run_string_runes W4 (l ++ E) hTl
    rw [hlc, ← hW4] at hr1
    rw [hlc, ← hW5] at hr2
    have e1 : (W2.alloc (.cells #[.int .i32 a1] 21)).heap.size = W2.heap.size + 1 := by simp
    rw [e1] at hr1
    have hcell : W5.cell? ⟨W2.heap.size + 1, M, none⟩ = some (.int .i32 (fixR a1)) := by
      have h1 : (chunks (l ++ E))[M]? = some ((fixR a1).toNat, E) := by rw [hct.out, hM.out]; simp
      have h2 := rW_cell (W2.alloc (.cells #[.int .i32 a1] 21)) (l ++ E) h1
      rw [e1, ← hW4] at h2
      have h3 := gr_cell (rW_gr W4 (l ++ E)) h2
      rw [← hW5] at h3
      rw [h3]
      unfold runeV
      have h4 := (fixR_ok a1).1
      rw [show (((fixR a1).toNat : Nat) : Int) = fixR a1 by omega]
    have g5 : Gr W2 W5 := by
      rw [hW5, hW4]
      exact gr_trans (gr_trans (gr_alloc W2 _ none) (rW_gr _ _)) (rW_gr _ _)
    have hW4s : W4.heap.size = W2.heap.size + 2 := by rw [hW4, rW_size, e1]
    have hg : Gr w W5 := gr_trans (gr_trans g1 g2) g5
    replace hg := Lib.hid hg
    clear g1 g2 g5 e1 hlc
    replace hW4 := Lib.hid hW4
    replace hW5 := Lib.hid hW5
    have hMi : (M : Int) + 1 - 1 = (M : Int) := by omega
    by_cases hro : RuneOk a1
    · rw [fixR_of hro] at hcell
      have hnt := fun W => name_any (l ++ E) W (by omega)
      have hct2 := fun W => count_any (l ++ E) W hTl
      rw [show (chunks (l ++ E)).length = M + 1 by rw [hct.out, List.length_append, hM.out]; rfl] at hct2
      have hsp := fun W => name_any ([32] ++ l) W (by simp; omega)
      have hon := fun W => name_any ([49] ++ l) W (by simp; omega)
      rw [show isName ([32] ++ l) = false from name_bad_head (r := 32) (by unfold RuneOk; omega) (by decide) l] at hsp
      rw [show isName ([49] ++ l) = false from name_bad_head (r := 49) (by unfold RuneOk; omega) (by decide) l] at hon
      have hne : chunks l ≠ [] := by intro h; rw [hM.out, h] at hm1; simp at hm1
      have hnv : isName (l ++ E) = (decide (K = 1 ∨ K = 2) && decide ((M : Int) < 30)) := by
        unfold isName
        rw [hct.out, okD_snoc, hok.out, Bool.true_and, okNext_ne hne, List.length_append, ← hM.out]
        have e2 : ((fixR a1).toNat : Int) = a1 := by rw [fixR_of hro]; have := hro.1; omega
        rw [e2, hK.out]
        congr 1
        rw [decide_eq_decide]
        simp
        omega
      rw [hnv] at hnt
      have hlE : l.length + E.length ≤ 9223372036854775807 := by rw [List.length_append] at hTl; omega
      clear hnv hne
      replace hsp := Lib.hid hsp
      replace hon := Lib.hid hon
      replace hct2 := Lib.hid hct2
      replace hro := Lib.hid hro
      by_cases k1 : K = 1
      · subst k1
        rw [show decide ((1 : Int) = 1 ∨ (1 : Int) = 2) = true by decide, Bool.true_and] at hnt
        replace hnt := Lib.hid hnt
        go_wp2_with fail
        refine (hcnt.out _).mono ?_
        rintro e W6 ⟨rfl, g6⟩
        by_cases hm : (M : Int) < 30
        all_goals
          go_wp2_with fail
          refine (hnt.out _).mono ?_
          rintro e W7 ⟨rfl, g7⟩
          go_wp2_with fail
          refine (hsp.out _).mono ?_
          rintro e W8 ⟨rfl, g8⟩
          go_wp2_with fail
          refine (hon.out _).mono ?_
          rintro e W9 ⟨rfl, g9⟩
          go_wp2_with fail
          refine (hct2.out _).mono ?_
          rintro e WA ⟨rfl, gA⟩
          go_wp2_with fail
          refine (hcnt.out _).mono ?_
          rintro e WB ⟨rfl, gB⟩
          go_wp2
          go_ret
          exact ⟨rfl, gr_below (gr_trans (gr_trans (gr_trans (gr_trans (gr_trans (gr_trans hg.out g6) g7) g8) g9) gA) gB)⟩
      · by_cases k2 : K = 2
        · subst k2
          rw [show decide ((2 : Int) = 1 ∨ (2 : Int) = 2) = true by decide, Bool.true_and] at hnt
          replace hnt := Lib.hid hnt
          clear k1
          go_wp2_with fail
          refine (hcnt.out _).mono ?_
          rintro e W6 ⟨rfl, g6⟩
          by_cases hm : (M : Int) < 30
          all_goals
            go_wp2_with fail
            refine (hnt.out _).mono ?_
            rintro e W7 ⟨rfl, g7⟩
            go_wp2_with fail
            refine (hsp.out _).mono ?_
            rintro e W8 ⟨rfl, g8⟩
            go_wp2_with fail
            refine (hon.out _).mono ?_
            rintro e W9 ⟨rfl, g9⟩
            go_wp2_with fail
            refine (hct2.out _).mono ?_
            rintro e WA ⟨rfl, gA⟩
            go_wp2_with fail
            refine (hcnt.out _).mono ?_
            rintro e WB ⟨rfl, gB⟩
            go_wp2
            go_ret
            exact ⟨rfl, gr_below (gr_trans (gr_trans (gr_trans (gr_trans (gr_trans (gr_trans hg.out g6) g7) g8) g9) gA) gB)⟩
        · rw [show decide (K = 1 ∨ K = 2) = false from decide_eq_false (by rintro (h | h); exact k1 h; exact k2 h), Bool.false_and] at hnt
          replace hnt := Lib.hid hnt
          have d1 : (K == 1) = false := eqF k1
          have d2 : (K == 2) = false := eqF k2
          clear k1 k2
          go_wp2_with fail
          refine (hnt.out _).mono ?_
          rintro e W7 ⟨rfl, g7⟩
          go_wp2_with fail
          refine (hsp.out _).mono ?_
          rintro e W8 ⟨rfl, g8⟩
          go_wp2_with fail
          refine (hon.out _).mono ?_
          rintro e W9 ⟨rfl, g9⟩
          go_wp2_with fail
          refine (hct2.out _).mono ?_
          rintro e WA ⟨rfl, gA⟩
          go_wp2_with fail
          refine (hcnt.out _).mono ?_
          rintro e WB ⟨rfl, gB⟩
          go_wp2
          go_ret
          exact ⟨rfl, gr_below (gr_trans (gr_trans (gr_trans (gr_trans (gr_trans hg.out g7) g8) g9) gA) gB)⟩
    · have hfx : fixR a1 = 65533 := if_neg hro
      rw [hfx] at hcell
      have d1 : ((65533 : Int) != a1) = true := by
        rw [bne_iff_ne]
        rintro h
        exact hro (by rw [← h]; unfold RuneOk; omega)
      clear hfx
      replace hro := Lib.hid hro
      go_wp2
      go_ret
      exact ⟨rfl, gr_below hg.out⟩


set_option maxRecDepth 100000 in
theorem lifted (os : Os) (started : os.Started) (H : Type) (enc : TypeId × Value → H) :
    ReturnsInHanded {} Try.checked os 5 .any (Rows.glyphNamesSpec.pre6 enc Try.prog Try.f5 Rows.glyphNamesRow.domain false) (Rows.glyphNamesSpec.post enc Try.prog Try.f5 false true false false) := by
  refine returnsInHanded_of_change (C := Try.checked) own started (by kernel_rfl) Try.func5
    (ChangeSpec.witness6 (enc := enc) (C := Try.checked) false ⟨#[], #[.string ByteArray.empty, .int .i32 0], []⟩ 8 (by kernel_rfl) (by kernel_rfl) (by kernel_rfl) (by kernel_rfl)) ?_
  intro W base args ds gs before hval0 hW hcnd _
  have hval : ∀ (j : Nat) t v, Try.f5.params[j]? = some t → args[j]? = some v → Value.okWide Try.prog W .any base t v := hval0
  have hW' := hW
  obtain ⟨p, q, hA0, hV, rfl, hfz, hnd⟩ := hW
  have hA : DataW.TrodAll enc Try.prog W 0 (fun _ => true) true Try.f5.params.toList args.toList ds p := hA0
  rw [Try.params5] at hA hval
  obtain ⟨v0, vs0, d0, ds0, p0, q0, hargs, rfl, rfl, h0, r0⟩ := trodAll_cons hA
  obtain ⟨v1, vs1, d1, ds1, p1, q1, rfl, rfl, rfl, h1, r1⟩ := trodAll_cons r0
  obtain ⟨rfl, rfl, rfl⟩ := trodAll_nil r1
  obtain rfl : args = #[v0, v1] := by cases args; simp_all
  obtain ⟨rfl, rfl⟩ := trodVars_none hV
  obtain ⟨a0, rfl, rfl, rfl, w0⟩ := open_string Try.underlying9 (hval 0 9 v0 rfl rfl) h0
  obtain ⟨a1, rfl, rfl, rfl, w1⟩ := open_int Try.underlying21 (hval 1 21 v1 rfl rfl) h1
  clear hA0 hval0
  refine (walk W a0 w0 a1 w1).mono fun e W' ⟨he, bel⟩ => ?_
  subst he
  exact ⟨_, rfl, _, _, _, [], _, [], hW', trodAll_mk1 (shut_bool Try.underlying4 _), (trodAll_cons_mk (shut_string Try.underlying9 w0) (trodAll_cons_mk (shut_int Try.underlying21 w1) trodAll_mk0)), rfl, bel.frame _, fun h => by cases h⟩

theorem over : Rows.glyphNamesRow.holds Try.pinned (OpenSpec.ofChange Rows.glyphNamesSpec) :=
  OpenClaim.holds_of_wide 5 Try.f5 rfl rfl rfl rfl rfl rfl rfl ⟨rfl, rfl, rfl, rfl, rfl⟩ rfl rfl rfl rfl rfl (by kernel_rfl) Try.func5 (by kernel_rfl)
    (of_decide_eq_true (by kernel_rfl)) (by unfold Func.isWrapper; first | (rw [if_pos (by decide +kernel)]; kernel_rfl) | (rw [if_neg (by decide +kernel)]; exact ⟨rfl, rfl⟩))
    (fun os started H enc _ => lifted os started H enc)

/-- THE STATEMENT -/
theorem proved : Rows.GlyphNamesSaid := over
#print axioms proved
end Go.Proofs.Ytfbjjjkmbpaejaa.glyphNames

