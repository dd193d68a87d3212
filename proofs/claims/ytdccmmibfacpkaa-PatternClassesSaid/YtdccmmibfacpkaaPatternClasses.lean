/-
  PatternClasses holds of the program: for every input the call returns true and leaves what came in as it was. No condition.
-/
import Derived.Test.YtdccmmibfacpkaaRows
import Derived.Test.YtdccmmibfacpkaaPatLaw
import Derived.WalkKit
import Derived.ProofKit
import Derived.OpenShut
import Derived.ShutString
import Derived.ChangeOld
import Derived.Below
namespace Go.Proofs.Ytdccmmibfacpkaa.patternClasses
open Go.ChangeShapes Go.WideShapes Go.ChangeAt Go.RowKit
open Go.ChangeMaps (open_string shut_string)
set_option linter.unusedVariables false

theorem own : ownKnob Try.prog.godebug = none := by kernel_rfl
theorem laidOut : laidOutB Try.prog = true := by kernel_rfl
theorem one_rune (W : World) (r : Int) (b : Nat) (hb : b = W.heap.size) : (convert 22 9 (.slice (some ⟨b, 0, none⟩) 1 1)).run Try.prog (W.alloc (.cells #[.int .i32 r] 21)) = .ok (.string (txt (encs [r]))) (W.alloc (.cells #[.int .i32 r] 21)) := by
  subst hb
  refine run_runes_string (P := Try.prog) (src := 22) (dst := 9) (e := 21) (zs := [r]) Try.underlying22 Try.underlying21 Try.underlying9 ⟨rfl, fun j u hj => ?_⟩ 1
  refine ⟨W.heap.size, 0, rfl, by simp, ?_⟩
  match j, hj with
  | 0, hj =>
    obtain rfl : Value.int .i32 r = u := by simpa using hj
    exact blk_cell (blk_new W (.cells #[.int .i32 r] 21)) rfl
  | j + 1, hj => simp at hj
theorem encs_one (r : Int) : runesOf (encs [r]) = [fixR r] ∧ runesOf (encs [r] ++ encs [r]) = [fixR r, fixR r] := by
  have h1 := chunks_encs [r] []
  have h2 := chunks_encs [r, r] []
  have e : encs [r] ++ encs [r] = encs [r, r] := by simp [encs]
  have hz : (((fixR r).toNat : Nat) : Int) = fixR r := by have := (fixR_ok r).1; omega
  rw [List.append_nil] at h1 h2
  constructor
  · unfold runesOf
    rw [h1]
    simp [chunks_nil, hz]
  · rw [e]
    unfold runesOf
    rw [h2]
    simp [chunks_nil, hz]
theorem begin_class (neg : Bool) (lo hi q : Int) : BegIn (.alt1 (.rowS .row0 (.one ⟨false, neg, [(lo, hi)]⟩))) [q, q] (if (decide (lo ≤ q ∧ q ≤ hi) != neg) = true then 1 else -1) := by
  have h0 : ¬ Lang (.alt1 (.rowS .row0 (.one ⟨false, neg, [(lo, hi)]⟩))) [] := fun h => by
    obtain ⟨r, e, _⟩ := (lang_class neg lo hi []).1 h
    cases e
  have h2 : ¬ Lang (.alt1 (.rowS .row0 (.one ⟨false, neg, [(lo, hi)]⟩))) [q, q] := fun h => by
    obtain ⟨r, e, _⟩ := (lang_class neg lo hi [q, q]).1 h
    simp at e
  split
  · rename_i h
    refine .inr ⟨1, rfl, by simp, (lang_class neg lo hi _).2 ⟨q, rfl, h⟩, fun j hj hj2 => ?_⟩
    have : j = 2 := by simp at hj2; omega
    subst this
    exact h2
  · rename_i h
    refine .inl ⟨rfl, fun j hj => ?_⟩
    simp at hj
    match j, hj with
    | 0, _ => exact h0
    | 1, _ =>
      intro h'
      obtain ⟨r, e, hr⟩ := (lang_class neg lo hi _).1 h'
      have : q = r := by simpa using e
      subst this
      exact h hr
    | 2, _ => exact h2
    | j + 3, hj => omega
set_option maxHeartbeats 80000000 in
set_option maxRecDepth 100000 in
theorem walk (w : World) (a0 : Int) (w0 : (Lit.int .i32 a0).wf = true) (a1 : Int) (w1 : (Lit.int .i32 a1).wf = true) (a2 : Int) (w2 : (Lit.int .i32 a2).wf = true) (a3 : Bool) :
    Calls Try.prog 6 #[.int .i32 a0, .int .i32 a1, .int .i32 a2, .bool a3] w fun e w' => e = .returned (.bool true) ∧ Below w.heap.size w w' := by
  clear w0 w1 w2
  by_cases b1 : a0 < 97
  · go_enter Try.func6, Try.ntmps6
    go_wp2_with fail
    refine (alive_any _).mono ?_
    rintro e W1 ⟨rfl, g1⟩
    go_wp2
    go_ret
    exact ⟨rfl, gr_below g1⟩
  have b1' : 97 ≤ a0 := by omega
  by_cases b2 : a1 < a0
  · go_enter Try.func6, Try.ntmps6
    go_wp2_with fail
    refine (alive_any _).mono ?_
    rintro e W1 ⟨rfl, g1⟩
    go_wp2
    go_ret
    exact ⟨rfl, gr_below g1⟩
  have b2' : a0 ≤ a1 := by omega
  by_cases b3 : 8192 < a1
  · go_enter Try.func6, Try.ntmps6
    go_wp2_with fail
    refine (alive_any _).mono ?_
    rintro e W1 ⟨rfl, g1⟩
    go_wp2
    go_ret
    exact ⟨rfl, gr_below g1⟩
  have b3' : a1 ≤ 8192 := by omega
  obtain ⟨H, hH⟩ := holds_ex
  have ok0 : RuneOk a0 := ⟨by omega, by omega⟩
  have ok1 : RuneOk a1 := ⟨by omega, by omega⟩
  have l0 := (encs_len [a0]).2
  have l1 := (encs_len [a1]).2
  have l2 := (encs_len [a2]).2
  simp only [List.length_cons, List.length_nil] at l0 l1 l2
  have z1 : (a0 == 93) = false := eqF (by omega)
  have z2 : (a1 == 93) = false := eqF (by omega)
  have z3 : (a0 == 92) = false := eqF (by omega)
  have z4 : (a1 == 92) = false := eqF (by omega)
  obtain ⟨r1, r2⟩ := encs_one a2
  have kv1 := fun W b hb => one_rune W a0 b hb
  have kv2 := fun W b hb => one_rune W a1 b hb
  have kv3 := fun W b hb => one_rune W a2 b hb
  have hrn : ∀ t : List UInt8, runesOf (encs [a0] ++ 45 :: (encs [a1] ++ [93])) = [a0, 45, a1, 93] := fun t => by
    rw [runes_encs [a0] (fun r hr => by have : r = a0 := by simpa using hr
                                        rw [this]; exact ok0), runes_cons 45 (by decide), runes_encs [a1] (fun r hr => by have : r = a1 := by simpa using hr
                                                                                                                          rw [this]; exact ok1), runes_cons 93 (by decide), runes_nil]
    rfl
  have hrn' := hrn []
  have kl := lang_class a3 a0 a1
  have kb := begin_class a3 a0 a1 (fixR a2)
  have kp := alt_class 195 a3 a0 a1 b1' b2'
  clear hrn ok0 ok1
  generalize encs [a0] = E1 at *
  generalize encs [a1] = E2 at *
  generalize encs [a2] = E3 at *
  generalize fixR a2 = q at *
  replace kv1 := Lib.hid kv1
  replace kv2 := Lib.hid kv2
  replace kv3 := Lib.hid kv3
  replace kl := Lib.hid kl
  replace hrn' := Lib.hid hrn'
  replace r1 := Lib.hid r1
  replace r2 := Lib.hid r2
  by_cases c1 : a0 ≤ q
  · by_cases c2 : q ≤ a1
    · have hin : decide (a0 ≤ q ∧ q ≤ a1) = true := decide_eq_true ⟨c1, c2⟩
      rw [hin] at kb
      have hlq : Lang (.alt1 (.rowS .row0 (.one ⟨false, a3, [(a0, a1)]⟩))) [q] ↔ a3 = false := (kl.out [q]).trans ⟨fun ⟨r, e, h⟩ => by
        have : q = r := by simpa using e
        subst this
        rw [hin] at h
        cases a3 <;> simp_all, fun h => ⟨q, rfl, by rw [hin, h]; rfl⟩⟩
      replace hin := Lib.hid hin
      have hn0 : ¬ Lang (.alt1 (.rowS .row0 (.one ⟨false, a3, [(a0, a1)]⟩))) [] := fun h => by
        obtain ⟨r, e, _⟩ := (kl.out []).1 h
        cases e
      have hn2 : ¬ Lang (.alt1 (.rowS .row0 (.one ⟨false, a3, [(a0, a1)]⟩))) [q, q] := fun h => by
        obtain ⟨r, e, _⟩ := (kl.out [q, q]).1 h
        simp at e
      have m0 : (⟨#[91]⟩ : ByteArray) ++ ⟨#[]⟩ = txt [91] := txt_append [91] []
      have m1 : (⟨#[91]⟩ : ByteArray) ++ ⟨#[94]⟩ = txt [91, 94] := txt_append [91] [94]
      have m4 : txt E3 ++ txt E3 = txt (E3 ++ E3) := txt_append E3 E3
      have s4 : (9223372036854775807 < E3.length + E3.length) = False := by simp; omega
      cases a3 with
      | false =>
        have hq : H (.alt1 (.rowS .row0 (.one ⟨false, false, [(a0, a1)]⟩))) [q] = true := holds_yes hH (hlq.2 rfl)
        have h0 : H (.alt1 (.rowS .row0 (.one ⟨false, false, [(a0, a1)]⟩))) [] = false := holds_no hH hn0
        have h2 : H (.alt1 (.rowS .row0 (.one ⟨false, false, [(a0, a1)]⟩))) [q, q] = false := holds_no hH hn2
        generalize hx : (T.alt1 (.rowS .row0 (.one ⟨false, false, [(a0, a1)]⟩))) = x at *
        have e1 : txt [91] ++ txt E1 = txt (91 :: E1) := txt_append [91] E1
        have e1' : (⟨#[91]⟩ : ByteArray) ++ txt E1 = txt (91 :: E1) := txt_append [91] E1
        have e2 : txt (91 :: E1) ++ (⟨#[45]⟩ : ByteArray) = txt (91 :: (E1 ++ [45])) := txt_append (91 :: E1) [45]
        have e3 : txt (91 :: (E1 ++ [45])) ++ txt E2 = txt (91 :: (E1 ++ 45 :: E2)) := by rw [txt_append]; simp
        have e4 : txt (91 :: (E1 ++ 45 :: E2)) ++ (⟨#[93]⟩ : ByteArray) = txt (91 :: (E1 ++ 45 :: (E2 ++ [93]))) := by
          have := txt_append (91 :: (E1 ++ 45 :: E2)) [93]
          rw [show (⟨#[93]⟩ : ByteArray) = txt [93] from rfl, this]
          simp
        have s0 : (9223372036854775807 < 1 + E1.length) = False := by simp; omega
        have s1 : (9223372036854775807 < E1.length + 1 + 1) = False := by simp; omega
        have s2 : (9223372036854775807 < E1.length + 1 + 1 + E2.length) = False := by simp; omega
        have hrt : runesOf (91 :: (E1 ++ 45 :: (E2 ++ [93]))) = 91 :: ((if false then [94] else []) ++ [a0, 45, a1, 93]) := by rw [runes_cons 91 (by decide), hrn'.out]; rfl
        have cC := fun w => compile_ok 200 (by omega) (91 :: (E1 ++ 45 :: (E2 ++ [93]))) x w (by rw [hrt]; exact kp) (by rw [hrt]; simp) (by simp; omega)
        have hd : txt [] = ⟨#[]⟩ := rfl
        have cS := fun w => refSpell_runes E3 w (by omega)
        rw [r1.out] at cS
        have d1 := fun p W hp => whole_any H hH p (91 :: (E1 ++ 45 :: (E2 ++ [93]))) x E3 W hp (by omega)
        have d2 := fun p W hp => whole_any H hH p (91 :: (E1 ++ 45 :: (E2 ++ [93]))) x [] W hp (by simp)
        have d3 := fun p W hp => whole_any H hH p (91 :: (E1 ++ 45 :: (E2 ++ [93]))) x (E3 ++ E3) W hp (by rw [List.length_append]; omega)
        have d4 := fun p W hp => begins_any p (91 :: (E1 ++ 45 :: (E2 ++ [93]))) x (E3 ++ E3) W hp (by rw [List.length_append]; omega)
        rw [r1.out, hq] at d1
        rw [runes_nil, hd, h0] at d2
        rw [r2.out, h2] at d3
        rw [r2.out] at d4
        replace cC := Lib.hid cC
        replace cS := Lib.hid cS
        replace d1 := Lib.hid d1
        replace d2 := Lib.hid d2
        replace d3 := Lib.hid d3
        replace d4 := Lib.hid d4
        replace kb := Lib.hid kb
        replace kp := Lib.hid kp
        replace hlq := Lib.hid hlq
        replace hx := Lib.hid hx
        replace hrt := Lib.hid hrt
        replace hq := Lib.hid hq
        replace h0 := Lib.hid h0
        replace h2 := Lib.hid h2
        replace hn0 := Lib.hid hn0
        replace hn2 := Lib.hid hn2
        clear hd
        go_enter Try.func6, Try.ntmps6
        go_wp2_with fail
        refine (alive_any _).mono ?_
        rintro e W1 ⟨rfl, g1⟩
        have u1 := kv1.out W1 W1.heap.size rfl
        have u2 := kv2.out (W1.alloc (.cells #[.int .i32 a0] 21)) (W1.heap.size + 1) (by simp)
        go_wp2_with fail
        refine (cC.out _).mono ?_
        rintro e W2 ⟨p, rfl, hp, g2⟩
        have G2 := gr_trans (gr_trans g1 (gr_trans (gr_alloc W1 (.cells #[.int .i32 a0] 21) none) (gr_alloc _ (.cells #[.int .i32 a1] 21) none))) g2
        have u3 := kv3.out W2 W2.heap.size rfl
        replace G2 := Lib.hid G2
        replace hp := Lib.hid hp
        clear u1 u2 g1 g2 e1 e1' e2 e3 e4 m0 m1
        go_wp2_with fail
        refine (cS.out _).mono ?_
        rintro e W3 ⟨A, c, rfl, hown, g3⟩
        have hrow := row_own hown
        obtain ⟨B, o, rfl, hB, kc⟩ := hrow.2 0 (.int .i32 q) rfl
        rw [Nat.add_zero] at kc
        have G3 := gr_trans G2.out (gr_trans (gr_alloc W2 (.cells #[.int .i32 a2] 21) none) g3)
        have hp3 := pat_gr hp.out (gr_trans (gr_alloc W2 (.cells #[.int .i32 a2] 21) none) g3)
        replace G3 := Lib.hid G3
        replace hp3 := Lib.hid hp3
        replace hown := Lib.hid hown
        replace hrow := Lib.hid hrow
        clear u3 g3
        go_wp2_with fail
        refine (d1.out _ _ hp3.out).mono ?_
        rintro e W4 ⟨rfl, g4⟩
        have hp4 := pat_gr hp3.out g4
        replace hp4 := Lib.hid hp4
        go_wp2_with fail
        refine (d2.out _ _ hp4.out).mono ?_
        rintro e W5 ⟨rfl, g5⟩
        have hp5 := pat_gr hp4.out g5
        replace hp5 := Lib.hid hp5
        go_wp2_with fail
        refine (d3.out _ _ hp5.out).mono ?_
        rintro e W6 ⟨rfl, g6⟩
        have hp6 := pat_gr hp5.out g6
        replace hp6 := Lib.hid hp6
        go_wp2_with fail
        refine (d4.out _ _ hp6.out).mono ?_
        rintro e W7 ⟨bm, rfl, hbm, g7⟩
        obtain rfl : bm = 1 := by
          have h1 := begin_fun hbm kb.out
          rw [h1]
          rfl
        replace hbm := Lib.hid hbm
        go_wp2
        go_ret
        exact ⟨rfl, gr_below (gr_trans (gr_trans (gr_trans (gr_trans G3.out g4) g5) g6) g7)⟩
      | true =>
        have hq : H (.alt1 (.rowS .row0 (.one ⟨false, true, [(a0, a1)]⟩))) [q] = false := holds_no hH (fun h => by have := hlq.1 h; cases this)
        have h0 : H (.alt1 (.rowS .row0 (.one ⟨false, true, [(a0, a1)]⟩))) [] = false := holds_no hH hn0
        have h2 : H (.alt1 (.rowS .row0 (.one ⟨false, true, [(a0, a1)]⟩))) [q, q] = false := holds_no hH hn2
        generalize hx : (T.alt1 (.rowS .row0 (.one ⟨false, true, [(a0, a1)]⟩))) = x at *
        have e1 : txt [91, 94] ++ txt E1 = txt (91 :: 94 :: E1) := txt_append [91, 94] E1
        have e1' : (⟨#[91, 94]⟩ : ByteArray) ++ txt E1 = txt (91 :: 94 :: E1) := txt_append [91, 94] E1
        have e2 : txt (91 :: 94 :: E1) ++ (⟨#[45]⟩ : ByteArray) = txt (91 :: 94 :: (E1 ++ [45])) := txt_append (91 :: 94 :: E1) [45]
        have e3 : txt (91 :: 94 :: (E1 ++ [45])) ++ txt E2 = txt (91 :: 94 :: (E1 ++ 45 :: E2)) := by rw [txt_append]; simp
        have e4 : txt (91 :: 94 :: (E1 ++ 45 :: E2)) ++ (⟨#[93]⟩ : ByteArray) = txt (91 :: 94 :: (E1 ++ 45 :: (E2 ++ [93]))) := by
          have := txt_append (91 :: 94 :: (E1 ++ 45 :: E2)) [93]
          rw [show (⟨#[93]⟩ : ByteArray) = txt [93] from rfl, this]
          simp
        have s0 : (9223372036854775807 < 2 + E1.length) = False := by simp; omega
        have s1 : (9223372036854775807 < E1.length + 1 + 1 + 1) = False := by simp; omega
        have s2 : (9223372036854775807 < E1.length + 1 + 1 + 1 + E2.length) = False := by simp; omega
        have hrt : runesOf (91 :: 94 :: (E1 ++ 45 :: (E2 ++ [93]))) = 91 :: ((if true then [94] else []) ++ [a0, 45, a1, 93]) := by rw [runes_cons 91 (by decide), runes_cons 94 (by decide), hrn'.out]; rfl
        have cC := fun w => compile_ok 200 (by omega) (91 :: 94 :: (E1 ++ 45 :: (E2 ++ [93]))) x w (by rw [hrt]; exact kp) (by rw [hrt]; simp) (by simp; omega)
        have hd : txt [] = ⟨#[]⟩ := rfl
        have cS := fun w => refSpell_runes E3 w (by omega)
        rw [r1.out] at cS
        have d1 := fun p W hp => whole_any H hH p (91 :: 94 :: (E1 ++ 45 :: (E2 ++ [93]))) x E3 W hp (by omega)
        have d2 := fun p W hp => whole_any H hH p (91 :: 94 :: (E1 ++ 45 :: (E2 ++ [93]))) x [] W hp (by simp)
        have d3 := fun p W hp => whole_any H hH p (91 :: 94 :: (E1 ++ 45 :: (E2 ++ [93]))) x (E3 ++ E3) W hp (by rw [List.length_append]; omega)
        have d4 := fun p W hp => begins_any p (91 :: 94 :: (E1 ++ 45 :: (E2 ++ [93]))) x (E3 ++ E3) W hp (by rw [List.length_append]; omega)
        rw [r1.out, hq] at d1
        rw [runes_nil, hd, h0] at d2
        rw [r2.out, h2] at d3
        rw [r2.out] at d4
        replace cC := Lib.hid cC
        replace cS := Lib.hid cS
        replace d1 := Lib.hid d1
        replace d2 := Lib.hid d2
        replace d3 := Lib.hid d3
        replace d4 := Lib.hid d4
        replace kb := Lib.hid kb
        replace kp := Lib.hid kp
        replace hlq := Lib.hid hlq
        replace hx := Lib.hid hx
        replace hrt := Lib.hid hrt
        replace hq := Lib.hid hq
        replace h0 := Lib.hid h0
        replace h2 := Lib.hid h2
        replace hn0 := Lib.hid hn0
        replace hn2 := Lib.hid hn2
        clear hd
        go_enter Try.func6, Try.ntmps6
        go_wp2_with fail
        refine (alive_any _).mono ?_
        rintro e W1 ⟨rfl, g1⟩
        have u1 := kv1.out W1 W1.heap.size rfl
        have u2 := kv2.out (W1.alloc (.cells #[.int .i32 a0] 21)) (W1.heap.size + 1) (by simp)
        go_wp2_with fail
        refine (cC.out _).mono ?_
        rintro e W2 ⟨p, rfl, hp, g2⟩
        have G2 := gr_trans (gr_trans g1 (gr_trans (gr_alloc W1 (.cells #[.int .i32 a0] 21) none) (gr_alloc _ (.cells #[.int .i32 a1] 21) none))) g2
        have u3 := kv3.out W2 W2.heap.size rfl
        replace G2 := Lib.hid G2
        replace hp := Lib.hid hp
        clear u1 u2 g1 g2 e1 e1' e2 e3 e4 m0 m1
        go_wp2_with fail
        refine (cS.out _).mono ?_
        rintro e W3 ⟨A, c, rfl, hown, g3⟩
        have hrow := row_own hown
        obtain ⟨B, o, rfl, hB, kc⟩ := hrow.2 0 (.int .i32 q) rfl
        rw [Nat.add_zero] at kc
        have G3 := gr_trans G2.out (gr_trans (gr_alloc W2 (.cells #[.int .i32 a2] 21) none) g3)
        have hp3 := pat_gr hp.out (gr_trans (gr_alloc W2 (.cells #[.int .i32 a2] 21) none) g3)
        replace G3 := Lib.hid G3
        replace hp3 := Lib.hid hp3
        replace hown := Lib.hid hown
        replace hrow := Lib.hid hrow
        clear u3 g3
        go_wp2_with fail
        refine (d1.out _ _ hp3.out).mono ?_
        rintro e W4 ⟨rfl, g4⟩
        have hp4 := pat_gr hp3.out g4
        replace hp4 := Lib.hid hp4
        go_wp2_with fail
        refine (d2.out _ _ hp4.out).mono ?_
        rintro e W5 ⟨rfl, g5⟩
        have hp5 := pat_gr hp4.out g5
        replace hp5 := Lib.hid hp5
        go_wp2_with fail
        refine (d3.out _ _ hp5.out).mono ?_
        rintro e W6 ⟨rfl, g6⟩
        have hp6 := pat_gr hp5.out g6
        replace hp6 := Lib.hid hp6
        go_wp2_with fail
        refine (d4.out _ _ hp6.out).mono ?_
        rintro e W7 ⟨bm, rfl, hbm, g7⟩
        obtain rfl : bm = -1 := by
          have h1 := begin_fun hbm kb.out
          rw [h1]
          rfl
        replace hbm := Lib.hid hbm
        go_wp2
        go_ret
        exact ⟨rfl, gr_below (gr_trans (gr_trans (gr_trans (gr_trans G3.out g4) g5) g6) g7)⟩
    · have c2F : (q ≤ a1) = False := eq_false c2
      have hin : decide (a0 ≤ q ∧ q ≤ a1) = false := decide_eq_false (fun h => c2 h.2)
      rw [hin] at kb
      have hlq : Lang (.alt1 (.rowS .row0 (.one ⟨false, a3, [(a0, a1)]⟩))) [q] ↔ a3 = true := (kl.out [q]).trans ⟨fun ⟨r, e, h⟩ => by
        have : q = r := by simpa using e
        subst this
        rw [hin] at h
        cases a3 <;> simp_all, fun h => ⟨q, rfl, by rw [hin, h]; rfl⟩⟩
      replace hin := Lib.hid hin
      have hn0 : ¬ Lang (.alt1 (.rowS .row0 (.one ⟨false, a3, [(a0, a1)]⟩))) [] := fun h => by
        obtain ⟨r, e, _⟩ := (kl.out []).1 h
        cases e
      have hn2 : ¬ Lang (.alt1 (.rowS .row0 (.one ⟨false, a3, [(a0, a1)]⟩))) [q, q] := fun h => by
        obtain ⟨r, e, _⟩ := (kl.out [q, q]).1 h
        simp at e
      have m0 : (⟨#[91]⟩ : ByteArray) ++ ⟨#[]⟩ = txt [91] := txt_append [91] []
      have m1 : (⟨#[91]⟩ : ByteArray) ++ ⟨#[94]⟩ = txt [91, 94] := txt_append [91] [94]
      have m4 : txt E3 ++ txt E3 = txt (E3 ++ E3) := txt_append E3 E3
      have s4 : (9223372036854775807 < E3.length + E3.length) = False := by simp; omega
      cases a3 with
      | false =>
        have hq : H (.alt1 (.rowS .row0 (.one ⟨false, false, [(a0, a1)]⟩))) [q] = false := holds_no hH (fun h => by have := hlq.1 h; cases this)
        have h0 : H (.alt1 (.rowS .row0 (.one ⟨false, false, [(a0, a1)]⟩))) [] = false := holds_no hH hn0
        have h2 : H (.alt1 (.rowS .row0 (.one ⟨false, false, [(a0, a1)]⟩))) [q, q] = false := holds_no hH hn2
        generalize hx : (T.alt1 (.rowS .row0 (.one ⟨false, false, [(a0, a1)]⟩))) = x at *
        have e1 : txt [91] ++ txt E1 = txt (91 :: E1) := txt_append [91] E1
        have e1' : (⟨#[91]⟩ : ByteArray) ++ txt E1 = txt (91 :: E1) := txt_append [91] E1
        have e2 : txt (91 :: E1) ++ (⟨#[45]⟩ : ByteArray) = txt (91 :: (E1 ++ [45])) := txt_append (91 :: E1) [45]
        have e3 : txt (91 :: (E1 ++ [45])) ++ txt E2 = txt (91 :: (E1 ++ 45 :: E2)) := by rw [txt_append]; simp
        have e4 : txt (91 :: (E1 ++ 45 :: E2)) ++ (⟨#[93]⟩ : ByteArray) = txt (91 :: (E1 ++ 45 :: (E2 ++ [93]))) := by
          have := txt_append (91 :: (E1 ++ 45 :: E2)) [93]
          rw [show (⟨#[93]⟩ : ByteArray) = txt [93] from rfl, this]
          simp
        have s0 : (9223372036854775807 < 1 + E1.length) = False := by simp; omega
        have s1 : (9223372036854775807 < E1.length + 1 + 1) = False := by simp; omega
        have s2 : (9223372036854775807 < E1.length + 1 + 1 + E2.length) = False := by simp; omega
        have hrt : runesOf (91 :: (E1 ++ 45 :: (E2 ++ [93]))) = 91 :: ((if false then [94] else []) ++ [a0, 45, a1, 93]) := by rw [runes_cons 91 (by decide), hrn'.out]; rfl
        have cC := fun w => compile_ok 200 (by omega) (91 :: (E1 ++ 45 :: (E2 ++ [93]))) x w (by rw [hrt]; exact kp) (by rw [hrt]; simp) (by simp; omega)
        have hd : txt [] = ⟨#[]⟩ := rfl
        have cS := fun w => refSpell_runes E3 w (by omega)
        rw [r1.out] at cS
        have d1 := fun p W hp => whole_any H hH p (91 :: (E1 ++ 45 :: (E2 ++ [93]))) x E3 W hp (by omega)
        have d2 := fun p W hp => whole_any H hH p (91 :: (E1 ++ 45 :: (E2 ++ [93]))) x [] W hp (by simp)
        have d3 := fun p W hp => whole_any H hH p (91 :: (E1 ++ 45 :: (E2 ++ [93]))) x (E3 ++ E3) W hp (by rw [List.length_append]; omega)
        have d4 := fun p W hp => begins_any p (91 :: (E1 ++ 45 :: (E2 ++ [93]))) x (E3 ++ E3) W hp (by rw [List.length_append]; omega)
        rw [r1.out, hq] at d1
        rw [runes_nil, hd, h0] at d2
        rw [r2.out, h2] at d3
        rw [r2.out] at d4
        replace cC := Lib.hid cC
        replace cS := Lib.hid cS
        replace d1 := Lib.hid d1
        replace d2 := Lib.hid d2
        replace d3 := Lib.hid d3
        replace d4 := Lib.hid d4
        replace kb := Lib.hid kb
        replace kp := Lib.hid kp
        replace hlq := Lib.hid hlq
        replace hx := Lib.hid hx
        replace hrt := Lib.hid hrt
        replace hq := Lib.hid hq
        replace h0 := Lib.hid h0
        replace h2 := Lib.hid h2
        replace hn0 := Lib.hid hn0
        replace hn2 := Lib.hid hn2
        clear hd
        go_enter Try.func6, Try.ntmps6
        go_wp2_with fail
        refine (alive_any _).mono ?_
        rintro e W1 ⟨rfl, g1⟩
        have u1 := kv1.out W1 W1.heap.size rfl
        have u2 := kv2.out (W1.alloc (.cells #[.int .i32 a0] 21)) (W1.heap.size + 1) (by simp)
        go_wp2_with fail
        refine (cC.out _).mono ?_
        rintro e W2 ⟨p, rfl, hp, g2⟩
        have G2 := gr_trans (gr_trans g1 (gr_trans (gr_alloc W1 (.cells #[.int .i32 a0] 21) none) (gr_alloc _ (.cells #[.int .i32 a1] 21) none))) g2
        have u3 := kv3.out W2 W2.heap.size rfl
        replace G2 := Lib.hid G2
        replace hp := Lib.hid hp
        clear u1 u2 g1 g2 e1 e1' e2 e3 e4 m0 m1
        go_wp2_with fail
        refine (cS.out _).mono ?_
        rintro e W3 ⟨A, c, rfl, hown, g3⟩
        have hrow := row_own hown
        obtain ⟨B, o, rfl, hB, kc⟩ := hrow.2 0 (.int .i32 q) rfl
        rw [Nat.add_zero] at kc
        have G3 := gr_trans G2.out (gr_trans (gr_alloc W2 (.cells #[.int .i32 a2] 21) none) g3)
        have hp3 := pat_gr hp.out (gr_trans (gr_alloc W2 (.cells #[.int .i32 a2] 21) none) g3)
        replace G3 := Lib.hid G3
        replace hp3 := Lib.hid hp3
        replace hown := Lib.hid hown
        replace hrow := Lib.hid hrow
        clear u3 g3
        go_wp2_with fail
        refine (d1.out _ _ hp3.out).mono ?_
        rintro e W4 ⟨rfl, g4⟩
        have hp4 := pat_gr hp3.out g4
        replace hp4 := Lib.hid hp4
        go_wp2_with fail
        refine (d2.out _ _ hp4.out).mono ?_
        rintro e W5 ⟨rfl, g5⟩
        have hp5 := pat_gr hp4.out g5
        replace hp5 := Lib.hid hp5
        go_wp2_with fail
        refine (d3.out _ _ hp5.out).mono ?_
        rintro e W6 ⟨rfl, g6⟩
        have hp6 := pat_gr hp5.out g6
        replace hp6 := Lib.hid hp6
        go_wp2_with fail
        refine (d4.out _ _ hp6.out).mono ?_
        rintro e W7 ⟨bm, rfl, hbm, g7⟩
        obtain rfl : bm = -1 := by
          have h1 := begin_fun hbm kb.out
          rw [h1]
          rfl
        replace hbm := Lib.hid hbm
        go_wp2
        go_ret
        exact ⟨rfl, gr_below (gr_trans (gr_trans (gr_trans (gr_trans G3.out g4) g5) g6) g7)⟩
      | true =>
        have hq : H (.alt1 (.rowS .row0 (.one ⟨false, true, [(a0, a1)]⟩))) [q] = true := holds_yes hH (hlq.2 rfl)
        have h0 : H (.alt1 (.rowS .row0 (.one ⟨false, true, [(a0, a1)]⟩))) [] = false := holds_no hH hn0
        have h2 : H (.alt1 (.rowS .row0 (.one ⟨false, true, [(a0, a1)]⟩))) [q, q] = false := holds_no hH hn2
        generalize hx : (T.alt1 (.rowS .row0 (.one ⟨false, true, [(a0, a1)]⟩))) = x at *
        have e1 : txt [91, 94] ++ txt E1 = txt (91 :: 94 :: E1) := txt_append [91, 94] E1
        have e1' : (⟨#[91, 94]⟩ : ByteArray) ++ txt E1 = txt (91 :: 94 :: E1) := txt_append [91, 94] E1
        have e2 : txt (91 :: 94 :: E1) ++ (⟨#[45]⟩ : ByteArray) = txt (91 :: 94 :: (E1 ++ [45])) := txt_append (91 :: 94 :: E1) [45]
        have e3 : txt (91 :: 94 :: (E1 ++ [45])) ++ txt E2 = txt (91 :: 94 :: (E1 ++ 45 :: E2)) := by rw [txt_append]; simp
        have e4 : txt (91 :: 94 :: (E1 ++ 45 :: E2)) ++ (⟨#[93]⟩ : ByteArray) = txt (91 :: 94 :: (E1 ++ 45 :: (E2 ++ [93]))) := by
          have := txt_append (91 :: 94 :: (E1 ++ 45 :: E2)) [93]
          rw [show (⟨#[93]⟩ : ByteArray) = txt [93] from rfl, this]
          simp
        have s0 : (9223372036854775807 < 2 + E1.length) = False := by simp; omega
        have s1 : (9223372036854775807 < E1.length + 1 + 1 + 1) = False := by simp; omega
        have s2 : (9223372036854775807 < E1.length + 1 + 1 + 1 + E2.length) = False := by simp; omega
        have hrt : runesOf (91 :: 94 :: (E1 ++ 45 :: (E2 ++ [93]))) = 91 :: ((if true then [94] else []) ++ [a0, 45, a1, 93]) := by rw [runes_cons 91 (by decide), runes_cons 94 (by decide), hrn'.out]; rfl
        have cC := fun w => compile_ok 200 (by omega) (91 :: 94 :: (E1 ++ 45 :: (E2 ++ [93]))) x w (by rw [hrt]; exact kp) (by rw [hrt]; simp) (by simp; omega)
        have hd : txt [] = ⟨#[]⟩ := rfl
        have cS := fun w => refSpell_runes E3 w (by omega)
        rw [r1.out] at cS
        have d1 := fun p W hp => whole_any H hH p (91 :: 94 :: (E1 ++ 45 :: (E2 ++ [93]))) x E3 W hp (by omega)
        have d2 := fun p W hp => whole_any H hH p (91 :: 94 :: (E1 ++ 45 :: (E2 ++ [93]))) x [] W hp (by simp)
        have d3 := fun p W hp => whole_any H hH p (91 :: 94 :: (E1 ++ 45 :: (E2 ++ [93]))) x (E3 ++ E3) W hp (by rw [List.length_append]; omega)
        have d4 := fun p W hp => begins_any p (91 :: 94 :: (E1 ++ 45 :: (E2 ++ [93]))) x (E3 ++ E3) W hp (by rw [List.length_append]; omega)
        rw [r1.out, hq] at d1
        rw [runes_nil, hd, h0] at d2
        rw [r2.out, h2] at d3
        rw [r2.out] at d4
        replace cC := Lib.hid cC
        replace cS := Lib.hid cS
        replace d1 := Lib.hid d1
        replace d2 := Lib.hid d2
        replace d3 := Lib.hid d3
        replace d4 := Lib.hid d4
        replace kb := Lib.hid kb
        replace kp := Lib.hid kp
        replace hlq := Lib.hid hlq
        replace hx := Lib.hid hx
        replace hrt := Lib.hid hrt
        replace hq := Lib.hid hq
        replace h0 := Lib.hid h0
        replace h2 := Lib.hid h2
        replace hn0 := Lib.hid hn0
        replace hn2 := Lib.hid hn2
        clear hd
        go_enter Try.func6, Try.ntmps6
        go_wp2_with fail
        refine (alive_any _).mono ?_
        rintro e W1 ⟨rfl, g1⟩
        have u1 := kv1.out W1 W1.heap.size rfl
        have u2 := kv2.out (W1.alloc (.cells #[.int .i32 a0] 21)) (W1.heap.size + 1) (by simp)
        go_wp2_with fail
        refine (cC.out _).mono ?_
        rintro e W2 ⟨p, rfl, hp, g2⟩
        have G2 := gr_trans (gr_trans g1 (gr_trans (gr_alloc W1 (.cells #[.int .i32 a0] 21) none) (gr_alloc _ (.cells #[.int .i32 a1] 21) none))) g2
        have u3 := kv3.out W2 W2.heap.size rfl
        replace G2 := Lib.hid G2
        replace hp := Lib.hid hp
        clear u1 u2 g1 g2 e1 e1' e2 e3 e4 m0 m1
        go_wp2_with fail
        refine (cS.out _).mono ?_
        rintro e W3 ⟨A, c, rfl, hown, g3⟩
        have hrow := row_own hown
        obtain ⟨B, o, rfl, hB, kc⟩ := hrow.2 0 (.int .i32 q) rfl
        rw [Nat.add_zero] at kc
        have G3 := gr_trans G2.out (gr_trans (gr_alloc W2 (.cells #[.int .i32 a2] 21) none) g3)
        have hp3 := pat_gr hp.out (gr_trans (gr_alloc W2 (.cells #[.int .i32 a2] 21) none) g3)
        replace G3 := Lib.hid G3
        replace hp3 := Lib.hid hp3
        replace hown := Lib.hid hown
        replace hrow := Lib.hid hrow
        clear u3 g3
        go_wp2_with fail
        refine (d1.out _ _ hp3.out).mono ?_
        rintro e W4 ⟨rfl, g4⟩
        have hp4 := pat_gr hp3.out g4
        replace hp4 := Lib.hid hp4
        go_wp2_with fail
        refine (d2.out _ _ hp4.out).mono ?_
        rintro e W5 ⟨rfl, g5⟩
        have hp5 := pat_gr hp4.out g5
        replace hp5 := Lib.hid hp5
        go_wp2_with fail
        refine (d3.out _ _ hp5.out).mono ?_
        rintro e W6 ⟨rfl, g6⟩
        have hp6 := pat_gr hp5.out g6
        replace hp6 := Lib.hid hp6
        go_wp2_with fail
        refine (d4.out _ _ hp6.out).mono ?_
        rintro e W7 ⟨bm, rfl, hbm, g7⟩
        obtain rfl : bm = 1 := by
          have h1 := begin_fun hbm kb.out
          rw [h1]
          rfl
        replace hbm := Lib.hid hbm
        go_wp2
        go_ret
        exact ⟨rfl, gr_below (gr_trans (gr_trans (gr_trans (gr_trans G3.out g4) g5) g6) g7)⟩
  · have c1F : (a0 ≤ q) = False := eq_false c1
    have hin : decide (a0 ≤ q ∧ q ≤ a1) = false := decide_eq_false (fun h => c1 h.1)
    rw [hin] at kb
    have hlq : Lang (.alt1 (.rowS .row0 (.one ⟨false, a3, [(a0, a1)]⟩))) [q] ↔ a3 = true := (kl.out [q]).trans ⟨fun ⟨r, e, h⟩ => by
      have : q = r := by simpa using e
      subst this
      rw [hin] at h
      cases a3 <;> simp_all, fun h => ⟨q, rfl, by rw [hin, h]; rfl⟩⟩
    replace hin := Lib.hid hin
    have hn0 : ¬ Lang (.alt1 (.rowS .row0 (.one ⟨false, a3, [(a0, a1)]⟩))) [] := fun h => by
      obtain ⟨r, e, _⟩ := (kl.out []).1 h
      cases e
    have hn2 : ¬ Lang (.alt1 (.rowS .row0 (.one ⟨false, a3, [(a0, a1)]⟩))) [q, q] := fun h => by
      obtain ⟨r, e, _⟩ := (kl.out [q, q]).1 h
      simp at e
    have m0 : (⟨#[91]⟩ : ByteArray) ++ ⟨#[]⟩ = txt [91] := txt_append [91] []
    have m1 : (⟨#[91]⟩ : ByteArray) ++ ⟨#[94]⟩ = txt [91, 94] := txt_append [91] [94]
    have m4 : txt E3 ++ txt E3 = txt (E3 ++ E3) := txt_append E3 E3
    have s4 : (9223372036854775807 < E3.length + E3.length) = False := by simp; omega
    cases a3 with
    | false =>
      have hq : H (.alt1 (.rowS .row0 (.one ⟨false, false, [(a0, a1)]⟩))) [q] = false := holds_no hH (fun h => by have := hlq.1 h; cases this)
      have h0 : H (.alt1 (.rowS .row0 (.one ⟨false, false, [(a0, a1)]⟩))) [] = false := holds_no hH hn0
      have h2 : H (.alt1 (.rowS .row0 (.one ⟨false, false, [(a0, a1)]⟩))) [q, q] = false := holds_no hH hn2
      generalize hx : (T.alt1 (.rowS .row0 (.one ⟨false, false, [(a0, a1)]⟩))) = x at *
      have e1 : txt [91] ++ txt E1 = txt (91 :: E1) := txt_append [91] E1
      have e1' : (⟨#[91]⟩ : ByteArray) ++ txt E1 = txt (91 :: E1) := txt_append [91] E1
      have e2 : txt (91 :: E1) ++ (⟨#[45]⟩ : ByteArray) = txt (91 :: (E1 ++ [45])) := txt_append (91 :: E1) [45]
      have e3 : txt (91 :: (E1 ++ [45])) ++ txt E2 = txt (91 :: (E1 ++ 45 :: E2)) := by rw [txt_append]; simp
      have e4 : txt (91 :: (E1 ++ 45 :: E2)) ++ (⟨#[93]⟩ : ByteArray) = txt (91 :: (E1 ++ 45 :: (E2 ++ [93]))) := by
        have := txt_append (91 :: (E1 ++ 45 :: E2)) [93]
        rw [show (⟨#[93]⟩ : ByteArray) = txt [93] from rfl, this]
        simp
      have s0 : (9223372036854775807 < 1 + E1.length) = False := by simp; omega
      have s1 : (9223372036854775807 < E1.length + 1 + 1) = False := by simp; omega
      have s2 : (9223372036854775807 < E1.length + 1 + 1 + E2.length) = False := by simp; omega
      have hrt : runesOf (91 :: (E1 ++ 45 :: (E2 ++ [93]))) = 91 :: ((if false then [94] else []) ++ [a0, 45, a1, 93]) := by rw [runes_cons 91 (by decide), hrn'.out]; rfl
      have cC := fun w => compile_ok 200 (by omega) (91 :: (E1 ++ 45 :: (E2 ++ [93]))) x w (by rw [hrt]; exact kp) (by rw [hrt]; simp) (by simp; omega)
      have hd : txt [] = ⟨#[]⟩ := rfl
      have cS := fun w => refSpell_runes E3 w (by omega)
      rw [r1.out] at cS
      have d1 := fun p W hp => whole_any H hH p (91 :: (E1 ++ 45 :: (E2 ++ [93]))) x E3 W hp (by omega)
      have d2 := fun p W hp => whole_any H hH p (91 :: (E1 ++ 45 :: (E2 ++ [93]))) x [] W hp (by simp)
      have d3 := fun p W hp => whole_any H hH p (91 :: (E1 ++ 45 :: (E2 ++ [93]))) x (E3 ++ E3) W hp (by rw [List.length_append]; omega)
      have d4 := fun p W hp => begins_any p (91 :: (E1 ++ 45 :: (E2 ++ [93]))) x (E3 ++ E3) W hp (by rw [List.length_append]; omega)
      rw [r1.out, hq] at d1
      rw [runes_nil, hd, h0] at d2
      rw [r2.out, h2] at d3
      rw [r2.out] at d4
      replace cC := Lib.hid cC
      replace cS := Lib.hid cS
      replace d1 := Lib.hid d1
      replace d2 := Lib.hid d2
      replace d3 := Lib.hid d3
      replace d4 := Lib.hid d4
      replace kb := Lib.hid kb
      replace kp := Lib.hid kp
      replace hlq := Lib.hid hlq
      replace hx := Lib.hid hx
      replace hrt := Lib.hid hrt
      replace hq := Lib.hid hq
      replace h0 := Lib.hid h0
      replace h2 := Lib.hid h2
      replace hn0 := Lib.hid hn0
      replace hn2 := Lib.hid hn2
      clear hd
      go_enter Try.func6, Try.ntmps6
      go_wp2_with fail
      refine (alive_any _).mono ?_
      rintro e W1 ⟨rfl, g1⟩
      have u1 := kv1.out W1 W1.heap.size rfl
      have u2 := kv2.out (W1.alloc (.cells #[.int .i32 a0] 21)) (W1.heap.size + 1) (by simp)
      go_wp2_with fail
      refine (cC.out _).mono ?_
      rintro e W2 ⟨p, rfl, hp, g2⟩
      have G2 := gr_trans (gr_trans g1 (gr_trans (gr_alloc W1 (.cells #[.int .i32 a0] 21) none) (gr_alloc _ (.cells #[.int .i32 a1] 21) none))) g2
      have u3 := kv3.out W2 W2.heap.size rfl
      replace G2 := Lib.hid G2
      replace hp := Lib.hid hp
      clear u1 u2 g1 g2 e1 e1' e2 e3 e4 m0 m1
      go_wp2_with fail
      refine (cS.out _).mono ?_
      rintro e W3 ⟨A, c, rfl, hown, g3⟩
      have hrow := row_own hown
      obtain ⟨B, o, rfl, hB, kc⟩ := hrow.2 0 (.int .i32 q) rfl
      rw [Nat.add_zero] at kc
      have G3 := gr_trans G2.out (gr_trans (gr_alloc W2 (.cells #[.int .i32 a2] 21) none) g3)
      have hp3 := pat_gr hp.out (gr_trans (gr_alloc W2 (.cells #[.int .i32 a2] 21) none) g3)
      replace G3 := Lib.hid G3
      replace hp3 := Lib.hid hp3
      replace hown := Lib.hid hown
      replace hrow := Lib.hid hrow
      clear u3 g3
      go_wp2_with fail
      refine (d1.out _ _ hp3.out).mono ?_
      rintro e W4 ⟨rfl, g4⟩
      have hp4 := pat_gr hp3.out g4
      replace hp4 := Lib.hid hp4
      go_wp2_with fail
      refine (d2.out _ _ hp4.out).mono ?_
      rintro e W5 ⟨rfl, g5⟩
      have hp5 := pat_gr hp4.out g5
      replace hp5 := Lib.hid hp5
      go_wp2_with fail
      refine (d3.out _ _ hp5.out).mono ?_
      rintro e W6 ⟨rfl, g6⟩
      have hp6 := pat_gr hp5.out g6
      replace hp6 := Lib.hid hp6
      go_wp2_with fail
      refine (d4.out _ _ hp6.out).mono ?_
      rintro e W7 ⟨bm, rfl, hbm, g7⟩
      obtain rfl : bm = -1 := by
        have h1 := begin_fun hbm kb.out
        rw [h1]
        rfl
      replace hbm := Lib.hid hbm
      go_wp2
      go_ret
      exact ⟨rfl, gr_below (gr_trans (gr_trans (gr_trans (gr_trans G3.out g4) g5) g6) g7)⟩
    | true =>
      have hq : H (.alt1 (.rowS .row0 (.one ⟨false, true, [(a0, a1)]⟩))) [q] = true := holds_yes hH (hlq.2 rfl)
      have h0 : H (.alt1 (.rowS .row0 (.one ⟨false, true, [(a0, a1)]⟩))) [] = false := holds_no hH hn0
      have h2 : H (.alt1 (.rowS .row0 (.one ⟨false, true, [(a0, a1)]⟩))) [q, q] = false := holds_no hH hn2
      generalize hx : (T.alt1 (.rowS .row0 (.one ⟨false, true, [(a0, a1)]⟩))) = x at *
      have e1 : txt [91, 94] ++ txt E1 = txt (91 :: 94 :: E1) := txt_append [91, 94] E1
      have e1' : (⟨#[91, 94]⟩ : ByteArray) ++ txt E1 = txt (91 :: 94 :: E1) := txt_append [91, 94] E1
      have e2 : txt (91 :: 94 :: E1) ++ (⟨#[45]⟩ : ByteArray) = txt (91 :: 94 :: (E1 ++ [45])) := txt_append (91 :: 94 :: E1) [45]
      have e3 : txt (91 :: 94 :: (E1 ++ [45])) ++ txt E2 = txt (91 :: 94 :: (E1 ++ 45 :: E2)) := by rw [txt_append]; simp
      have e4 : txt (91 :: 94 :: (E1 ++ 45 :: E2)) ++ (⟨#[93]⟩ : ByteArray) = txt (91 :: 94 :: (E1 ++ 45 :: (E2 ++ [93]))) := by
        have := txt_append (91 :: 94 :: (E1 ++ 45 :: E2)) [93]
        rw [show (⟨#[93]⟩ : ByteArray) = txt [93] from rfl, this]
        simp
      have s0 : (9223372036854775807 < 2 + E1.length) = False := by simp; omega
      have s1 : (9223372036854775807 < E1.length + 1 + 1 + 1) = False := by simp; omega
      have s2 : (9223372036854775807 < E1.length + 1 + 1 + 1 + E2.length) = False := by simp; omega
      have hrt : runesOf (91 :: 94 :: (E1 ++ 45 :: (E2 ++ [93]))) = 91 :: ((if true then [94] else []) ++ [a0, 45, a1, 93]) := by rw [runes_cons 91 (by decide), runes_cons 94 (by decide), hrn'.out]; rfl
      have cC := fun w => compile_ok 200 (by omega) (91 :: 94 :: (E1 ++ 45 :: (E2 ++ [93]))) x w (by rw [hrt]; exact kp) (by rw [hrt]; simp) (by simp; omega)
      have hd : txt [] = ⟨#[]⟩ := rfl
      have cS := fun w => refSpell_runes E3 w (by omega)
      rw [r1.out] at cS
      have d1 := fun p W hp => whole_any H hH p (91 :: 94 :: (E1 ++ 45 :: (E2 ++ [93]))) x E3 W hp (by omega)
      have d2 := fun p W hp => whole_any H hH p (91 :: 94 :: (E1 ++ 45 :: (E2 ++ [93]))) x [] W hp (by simp)
      have d3 := fun p W hp => whole_any H hH p (91 :: 94 :: (E1 ++ 45 :: (E2 ++ [93]))) x (E3 ++ E3) W hp (by rw [List.length_append]; omega)
      have d4 := fun p W hp => begins_any p (91 :: 94 :: (E1 ++ 45 :: (E2 ++ [93]))) x (E3 ++ E3) W hp (by rw [List.length_append]; omega)
      rw [r1.out, hq] at d1
      rw [runes_nil, hd, h0] at d2
      rw [r2.out, h2] at d3
      rw [r2.out] at d4
      replace cC := Lib.hid cC
      replace cS := Lib.hid cS
      replace d1 := Lib.hid d1
      replace d2 := Lib.hid d2
      replace d3 := Lib.hid d3
      replace d4 := Lib.hid d4
      replace kb := Lib.hid kb
      replace kp := Lib.hid kp
      replace hlq := Lib.hid hlq
      replace hx := Lib.hid hx
      replace hrt := Lib.hid hrt
      replace hq := Lib.hid hq
      replace h0 := Lib.hid h0
      replace h2 := Lib.hid h2
      replace hn0 := Lib.hid hn0
      replace hn2 := Lib.hid hn2
      clear hd
      go_enter Try.func6, Try.ntmps6
      go_wp2_with fail
      refine (alive_any _).mono ?_
      rintro e W1 ⟨rfl, g1⟩
      have u1 := kv1.out W1 W1.heap.size rfl
      have u2 := kv2.out (W1.alloc (.cells #[.int .i32 a0] 21)) (W1.heap.size + 1) (by simp)
      go_wp2_with fail
      refine (cC.out _).mono ?_
      rintro e W2 ⟨p, rfl, hp, g2⟩
      have G2 := gr_trans (gr_trans g1 (gr_trans (gr_alloc W1 (.cells #[.int .i32 a0] 21) none) (gr_alloc _ (.cells #[.int .i32 a1] 21) none))) g2
      have u3 := kv3.out W2 W2.heap.size rfl
      replace G2 := Lib.hid G2
      replace hp := Lib.hid hp
      clear u1 u2 g1 g2 e1 e1' e2 e3 e4 m0 m1
      go_wp2_with fail
      refine (cS.out _).mono ?_
      rintro e W3 ⟨A, c, rfl, hown, g3⟩
      have hrow := row_own hown
      obtain ⟨B, o, rfl, hB, kc⟩ := hrow.2 0 (.int .i32 q) rfl
      rw [Nat.add_zero] at kc
      have G3 := gr_trans G2.out (gr_trans (gr_alloc W2 (.cells #[.int .i32 a2] 21) none) g3)
      have hp3 := pat_gr hp.out (gr_trans (gr_alloc W2 (.cells #[.int .i32 a2] 21) none) g3)
      replace G3 := Lib.hid G3
      replace hp3 := Lib.hid hp3
      replace hown := Lib.hid hown
      replace hrow := Lib.hid hrow
      clear u3 g3
      go_wp2_with fail
      refine (d1.out _ _ hp3.out).mono ?_
      rintro e W4 ⟨rfl, g4⟩
      have hp4 := pat_gr hp3.out g4
      replace hp4 := Lib.hid hp4
      go_wp2_with fail
      refine (d2.out _ _ hp4.out).mono ?_
      rintro e W5 ⟨rfl, g5⟩
      have hp5 := pat_gr hp4.out g5
      replace hp5 := Lib.hid hp5
      go_wp2_with fail
      refine (d3.out _ _ hp5.out).mono ?_
      rintro e W6 ⟨rfl, g6⟩
      have hp6 := pat_gr hp5.out g6
      replace hp6 := Lib.hid hp6
      go_wp2_with fail
      refine (d4.out _ _ hp6.out).mono ?_
      rintro e W7 ⟨bm, rfl, hbm, g7⟩
      obtain rfl : bm = 1 := by
        have h1 := begin_fun hbm kb.out
        rw [h1]
        rfl
      replace hbm := Lib.hid hbm
      go_wp2
      go_ret
      exact ⟨rfl, gr_below (gr_trans (gr_trans (gr_trans (gr_trans G3.out g4) g5) g6) g7)⟩


set_option maxRecDepth 100000 in
theorem lifted (os : Os) (started : os.Started) (H : Type) (enc : TypeId × Value → H) :
    ReturnsInHanded {} Try.checked os 6 .any (Rows.patternClassesSpec.pre6 enc Try.prog Try.f6 Rows.patternClassesRow.domain false) (Rows.patternClassesSpec.post enc Try.prog Try.f6 false true false false) := by
  refine returnsInHanded_of_change (C := Try.checked) own started (by kernel_rfl) Try.func6
    (ChangeSpec.witness6 (enc := enc) (C := Try.checked) false ⟨#[], #[.int .i32 0, .int .i32 0, .int .i32 0, .bool false], []⟩ 8 (by kernel_rfl) (by kernel_rfl) (by kernel_rfl) (by kernel_rfl)) ?_
  intro W base args ds gs before hval0 hW hcnd _
  have hval : ∀ (j : Nat) t v, Try.f6.params[j]? = some t → args[j]? = some v → Value.okWide Try.prog W .any base t v := hval0
  have hW' := hW
  obtain ⟨p, q, hA0, hV, rfl, hfz, hnd⟩ := hW
  have hA : DataW.TrodAll enc Try.prog W 0 (fun _ => true) true Try.f6.params.toList args.toList ds p := hA0
  rw [Try.params6] at hA hval
  obtain ⟨v0, vs0, d0, ds0, p0, q0, hargs, rfl, rfl, h0, r0⟩ := trodAll_cons hA
  obtain ⟨v1, vs1, d1, ds1, p1, q1, rfl, rfl, rfl, h1, r1⟩ := trodAll_cons r0
  obtain ⟨v2, vs2, d2, ds2, p2, q2, rfl, rfl, rfl, h2, r2⟩ := trodAll_cons r1
  obtain ⟨v3, vs3, d3, ds3, p3, q3, rfl, rfl, rfl, h3, r3⟩ := trodAll_cons r2
  obtain ⟨rfl, rfl, rfl⟩ := trodAll_nil r3
  obtain rfl : args = #[v0, v1, v2, v3] := by cases args; simp_all
  obtain ⟨rfl, rfl⟩ := trodVars_none hV
  obtain ⟨a0, rfl, rfl, rfl, w0⟩ := open_int Try.underlying21 (hval 0 21 v0 rfl rfl) h0
  obtain ⟨a1, rfl, rfl, rfl, w1⟩ := open_int Try.underlying21 (hval 1 21 v1 rfl rfl) h1
  obtain ⟨a2, rfl, rfl, rfl, w2⟩ := open_int Try.underlying21 (hval 2 21 v2 rfl rfl) h2
  obtain ⟨a3, rfl, rfl, rfl⟩ := open_bool Try.underlying4 (hval 3 4 v3 rfl rfl) h3
  clear hA0 hval0
  refine (walk W a0 w0 a1 w1 a2 w2 a3).mono fun e W' ⟨he, bel⟩ => ?_
  subst he
  exact ⟨_, rfl, _, _, _, [], _, [], hW', trodAll_mk1 (shut_bool Try.underlying4 _), (trodAll_cons_mk (shut_int Try.underlying21 w0) (trodAll_cons_mk (shut_int Try.underlying21 w1) (trodAll_cons_mk (shut_int Try.underlying21 w2) (trodAll_cons_mk (shut_bool Try.underlying4 a3) trodAll_mk0)))), rfl, bel.frame _, fun h => by cases h⟩

theorem over : Rows.patternClassesRow.holds Try.pinned (OpenSpec.ofChange Rows.patternClassesSpec) :=
  OpenClaim.holds_of_wide 6 Try.f6 rfl rfl rfl rfl rfl rfl rfl ⟨rfl, rfl, rfl, rfl, rfl⟩ rfl rfl rfl rfl rfl (by kernel_rfl) Try.func6 (by kernel_rfl)
    (of_decide_eq_true (by kernel_rfl)) (by unfold Func.isWrapper; first | (rw [if_pos (by decide +kernel)]; kernel_rfl) | (rw [if_neg (by decide +kernel)]; exact ⟨rfl, rfl⟩))
    (fun os started H enc _ => lifted os started H enc)

/-- THE STATEMENT -/
theorem proved : Rows.PatternClassesSaid := over
#print axioms proved
end Go.Proofs.Ytdccmmibfacpkaa.patternClasses

