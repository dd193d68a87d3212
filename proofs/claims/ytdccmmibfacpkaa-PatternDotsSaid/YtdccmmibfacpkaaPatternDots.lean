/-
  PatternDots holds of the program: for every input the call returns true and leaves what came in as it was. No condition.
-/
import Derived.Test.YtdccmmibfacpkaaRows
import Derived.Test.YtdccmmibfacpkaaPatLaw
import Derived.WalkKit
import Derived.ProofKit
import Derived.OpenShut
import Derived.ShutString
import Derived.ChangeOld
import Derived.Below
namespace Go.Proofs.Ytdccmmibfacpkaa.patternDots
open Go.ChangeShapes Go.WideShapes Go.ChangeAt Go.RowKit
open Go.ChangeMaps (open_string shut_string)
set_option linter.unusedVariables false

theorem own : ownKnob Try.prog.godebug = none := by kernel_rfl
theorem laidOut : laidOutB Try.prog = true := by kernel_rfl
set_option maxHeartbeats 16000000 in
set_option maxRecDepth 100000 in
theorem walk (w : World) (a0 : Int) (w0 : (Lit.int .i64 a0).wf = true) (a1 : ByteArray) (w1 : a1.size ≤ maxLen) :
    Calls Try.prog 7 #[.int .i64 a0, .string a1] w fun e w' => e = .returned (.bool true) ∧ Below w.heap.size w w' := by
  clear w0
  obtain ⟨l, rfl⟩ : ∃ l, a1 = txt l := ⟨_, (txt_of a1).symm⟩
  rw [txt_size] at w1
  unfold maxLen at w1
  by_cases hbad : a0 < 0 ∨ 40 < a0 ∨ 200 < l.length
  · by_cases c1 : a0 < 0
    · clear hbad
      go_enter Try.func7, Try.ntmps7
      go_wp2_with fail
      refine (alive_any _).mono ?_
      rintro e W1 ⟨rfl, g1⟩
      go_wp2
      go_ret
      exact ⟨rfl, gr_below g1⟩
    · by_cases c2 : 40 < a0
      · clear hbad
        go_enter Try.func7, Try.ntmps7
        go_wp2_with fail
        refine (alive_any _).mono ?_
        rintro e W1 ⟨rfl, g1⟩
        go_wp2
        go_ret
        exact ⟨rfl, gr_below g1⟩
      · have c3 : (200 : Int) < (l.length : Int) := by omega
        clear hbad
        go_enter Try.func7, Try.ntmps7
        go_wp2_with fail
        refine (alive_any _).mono ?_
        rintro e W1 ⟨rfl, g1⟩
        go_wp2
        go_ret
        exact ⟨rfl, gr_below g1⟩
  obtain ⟨n, rfl⟩ : ∃ n : Nat, a0 = n := ⟨a0.toNat, by omega⟩
  have hn : n ≤ 40 := by omega
  have c1 : ((n : Int) < 0) = False := by simp
  have c2 : ((40 : Int) < (n : Int)) = False := by simp; omega
  have c3 : ((200 : Int) < (l.length : Int)) = False := by simp; omega
  have c3' : (l.length : Int) ≤ 200 := by omega
  obtain ⟨H, hH⟩ := holds_ex
  have cC := fun w => compile_ok 200 (by omega) (List.replicate n 46) _ w (by rw [runes_dots]; exact pAlt_more (alt_dots n) (by omega)) (by rw [runes_dots]; simpa using hn) (by simp; omega)
  have hbg := begin_dots n (runesOf l)
  have hlg := lang_dots n (runesOf l)
  generalize (T.alt1 ((List.replicate n (T.one dotS)).foldl T.rowS .row0)) = x at cC hbg hlg
  have cS := fun w => refSpell_runes l w (by omega)
  have cW := fun p w hp => whole_any H hH p (List.replicate n 46) x l w hp (by omega)
  have cB := fun p w hp => begins_any p (List.replicate n 46) x l w hp (by omega)
  have hHx : H x (runesOf l) = decide ((runesOf l).length = n) := by
    by_cases h : (runesOf l).length = n
    · rw [decide_eq_true h]; exact holds_yes hH (hlg.2 h)
    · rw [decide_eq_false h]; exact holds_no hH (fun k => h (hlg.1 k))
  rw [hHx] at cW
  have hrl := runes_le l
  obtain ⟨k, hk⟩ : ∃ k, k = (runesOf l).length := ⟨_, rfl⟩
  rw [← hk] at cS cW hrl hbg
  clear hbad hHx hlg
  replace cC := Lib.hid cC
  replace cS := Lib.hid cS
  replace hbg := Lib.hid hbg
  replace hk := Lib.hid hk
  go_enter Try.func7, Try.ntmps7
  go_wp2_with fail
  refine (alive_any _).mono ?_
  rintro e W1 ⟨rfl, g1⟩
  go_wp2
  go_loopw [5, 6] (fun pv iv wr => ∃ j : Nat, j ≤ n ∧ iv = .int .i64 j ∧ pv = .string (txt (List.replicate j 46)) ∧ wr = W1) (fun _ i _ => n - (intOf i).toNat)
  case atStart => exact ⟨0, Nat.zero_le _, rfl, rfl, rfl⟩
  case round =>
    obtain ⟨j, hj, rfl, rfl, rfl⟩ := hrel
    by_cases hlt : j < n
    · have hji : (j : Int) < (n : Int) := by omega
      have e1 : txt (List.replicate j 46) ++ (⟨#[46]⟩ : ByteArray) = txt (List.replicate j 46 ++ [46]) := txt_append (List.replicate j 46) [46]
      have e2 : List.replicate j (46 : UInt8) ++ [46] = List.replicate (j + 1) 46 := List.replicate_succ'.symm
      have hn1 : (9223372036854775807 < j + 1) = False := by simp; omega
      replace e2 := Lib.hid e2
      go_wp2
      go_roundw
      case rel => exact ⟨j + 1, by omega, by go_num, by rw [e2.out], trivial⟩
      case measure => simp [intOf]; omega
    · obtain rfl : j = n := by omega
      go_wp2_with fail
      refine (cC.out _).mono ?_
      rintro e W2 ⟨p, rfl, hp2, g2⟩
      go_wp2_with fail
      refine (cS.out _).mono ?_
      rintro e W3 ⟨A, c, rfl, _, g3⟩
      have hp3 := pat_gr hp2 g3
      have cW3 := cW p W3 hp3
      have cB3 := fun w g => cB p w (pat_gr hp3 g)
      replace cB3 := Lib.hid cB3
      replace hp2 := Lib.hid hp2
      replace hp3 := Lib.hid hp3
      clear cW cB
      rcases Nat.lt_trichotomy k j with hkn | hkn | hkn
      · have q1 : ((k : Int) == (j : Int)) = false := eqF (by omega)
        have q2 : ((j : Int) ≤ (k : Int)) = False := by simp; omega
        rw [decide_eq_false (by omega)] at cW3
        replace cW3 := Lib.hid cW3
        go_wp2_with fail
        refine cW3.out.mono ?_
        rintro e W4 ⟨rfl, g4⟩
        go_wp2_with fail
        refine (cB3.out _ g4).mono ?_
        rintro e W5 ⟨m, rfl, hm, g5⟩
        have hbg2 := hbg.out
        rw [if_neg (by omega)] at hbg2
        obtain rfl := begin_fun hm hbg2
        replace hm := Lib.hid hm
        replace hbg2 := Lib.hid hbg2
        go_wp2
        go_ret
        exact ⟨rfl, gr_below (gr_trans (gr_trans (gr_trans (gr_trans g1 g2) g3) g4) g5)⟩
      · subst hkn
        have q1 : ((k : Int) == (k : Int)) = true := by simp
        rw [decide_eq_true rfl] at cW3
        replace cW3 := Lib.hid cW3
        go_wp2_with fail
        refine cW3.out.mono ?_
        rintro e W4 ⟨rfl, g4⟩
        go_wp2_with fail
        refine (cB3.out _ g4).mono ?_
        rintro e W5 ⟨m, rfl, hm, g5⟩
        have hbg2 := hbg.out
        rw [if_pos (Nat.le_refl _)] at hbg2
        obtain rfl := begin_fun hm hbg2
        replace hm := Lib.hid hm
        replace hbg2 := Lib.hid hbg2
        go_wp2
        go_ret
        exact ⟨rfl, gr_below (gr_trans (gr_trans (gr_trans (gr_trans g1 g2) g3) g4) g5)⟩
      · have q1 : ((k : Int) == (j : Int)) = false := eqF (by omega)
        have q2 : (j : Int) ≤ (k : Int) := by omega
        have q3 : ((j : Int) == (j : Int)) = true := by simp
        rw [decide_eq_false (by omega)] at cW3
        replace cW3 := Lib.hid cW3
        go_wp2_with fail
        refine cW3.out.mono ?_
        rintro e W4 ⟨rfl, g4⟩
        go_wp2_with fail
        refine (cB3.out _ g4).mono ?_
        rintro e W5 ⟨m, rfl, hm, g5⟩
        have hbg2 := hbg.out
        rw [if_pos (by omega)] at hbg2
        obtain rfl := begin_fun hm hbg2
        replace hm := Lib.hid hm
        replace hbg2 := Lib.hid hbg2
        go_wp2
        go_ret
        exact ⟨rfl, gr_below (gr_trans (gr_trans (gr_trans (gr_trans g1 g2) g3) g4) g5)⟩


set_option maxRecDepth 100000 in
theorem lifted (os : Os) (started : os.Started) (H : Type) (enc : TypeId × Value → H) :
    ReturnsInHanded {} Try.checked os 7 .any (Rows.patternDotsSpec.pre6 enc Try.prog Try.f7 Rows.patternDotsRow.domain false) (Rows.patternDotsSpec.post enc Try.prog Try.f7 false true false false) := by
  refine returnsInHanded_of_change (C := Try.checked) own started (by kernel_rfl) Try.func7
    (ChangeSpec.witness6 (enc := enc) (C := Try.checked) false ⟨#[], #[.int .i64 0, .string ByteArray.empty], []⟩ 8 (by kernel_rfl) (by kernel_rfl) (by kernel_rfl) (by kernel_rfl)) ?_
  intro W base args ds gs before hval0 hW hcnd _
  have hval : ∀ (j : Nat) t v, Try.f7.params[j]? = some t → args[j]? = some v → Value.okWide Try.prog W .any base t v := hval0
  have hW' := hW
  obtain ⟨p, q, hA0, hV, rfl, hfz, hnd⟩ := hW
  have hA : DataW.TrodAll enc Try.prog W 0 (fun _ => true) true Try.f7.params.toList args.toList ds p := hA0
  rw [Try.params7] at hA hval
  obtain ⟨v0, vs0, d0, ds0, p0, q0, hargs, rfl, rfl, h0, r0⟩ := trodAll_cons hA
  obtain ⟨v1, vs1, d1, ds1, p1, q1, rfl, rfl, rfl, h1, r1⟩ := trodAll_cons r0
  obtain ⟨rfl, rfl, rfl⟩ := trodAll_nil r1
  obtain rfl : args = #[v0, v1] := by cases args; simp_all
  obtain ⟨rfl, rfl⟩ := trodVars_none hV
  obtain ⟨a0, rfl, rfl, rfl, w0⟩ := open_int Try.underlying3 (hval 0 3 v0 rfl rfl) h0
  obtain ⟨a1, rfl, rfl, rfl, w1⟩ := open_string Try.underlying9 (hval 1 9 v1 rfl rfl) h1
  clear hA0 hval0
  refine (walk W a0 w0 a1 w1).mono fun e W' ⟨he, bel⟩ => ?_
  subst he
  exact ⟨_, rfl, _, _, _, [], _, [], hW', trodAll_mk1 (shut_bool Try.underlying4 _), (trodAll_cons_mk (shut_int Try.underlying3 w0) (trodAll_cons_mk (shut_string Try.underlying9 w1) trodAll_mk0)), rfl, bel.frame _, fun h => by cases h⟩

theorem over : Rows.patternDotsRow.holds Try.pinned (OpenSpec.ofChange Rows.patternDotsSpec) :=
  OpenClaim.holds_of_wide 7 Try.f7 rfl rfl rfl rfl rfl rfl rfl ⟨rfl, rfl, rfl, rfl, rfl⟩ rfl rfl rfl rfl rfl (by kernel_rfl) Try.func7 (by kernel_rfl)
    (of_decide_eq_true (by kernel_rfl)) (by unfold Func.isWrapper; first | (rw [if_pos (by decide +kernel)]; kernel_rfl) | (rw [if_neg (by decide +kernel)]; exact ⟨rfl, rfl⟩))
    (fun os started H enc _ => lifted os started H enc)

/-- THE STATEMENT -/
theorem proved : Rows.PatternDotsSaid := over
#print axioms proved
end Go.Proofs.Ytdccmmibfacpkaa.patternDots

