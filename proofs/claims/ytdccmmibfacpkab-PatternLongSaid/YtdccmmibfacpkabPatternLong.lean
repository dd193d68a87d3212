/-
  PatternLong holds of the program: for every input the call returns true and leaves what came in as it was. No condition.
-/
import Derived.Test.YtdccmmibfacpkabRows
import Derived.Test.YtdccmmibfacpkabPatLaw
import Derived.WalkKit
import Derived.ProofKit
import Derived.OpenShut
import Derived.ShutString
import Derived.ChangeOld
import Derived.Below
namespace Go.Proofs.Ytdccmmibfacpkab.patternLong
open Go.ChangeShapes Go.WideShapes Go.ChangeAt Go.RowKit
open Go.ChangeMaps (open_string shut_string)
set_option linter.unusedVariables false

theorem own : ownKnob Try.prog.godebug = none := by kernel_rfl
theorem laidOut : laidOutB Try.prog = true := by kernel_rfl
set_option maxHeartbeats 40000000 in
set_option maxRecDepth 100000 in
theorem walk (w : World) (a0 : ByteArray) (w0 : a0.size ≤ maxLen) (a1 : Int) (w1 : (Lit.int .i64 a1).wf = true) :
    Calls Try.prog 3 #[.string a0, .int .i64 a1] w fun e w' => e = .returned (.bool true) ∧ Below w.heap.size w w' := by
  clear w1
  obtain ⟨l, rfl⟩ : ∃ l, a0 = txt l := ⟨_, (txt_of a0).symm⟩
  rw [txt_size] at w0
  unfold maxLen at w0
  by_cases b1 : l.length = 0
  · have b1' : ((l.length : Int) == 0) = true := eqT (by omega)
    obtain rfl : l = [] := List.eq_nil_of_length_eq_zero b1
    clear b1
    go_enter Try.func3, Try.ntmps3
    go_wp2_with fail
    refine (alive_any _).mono ?_
    rintro e W1 ⟨rfl, g1⟩
    go_wp2
    go_ret
    exact ⟨rfl, gr_below g1⟩
  have b1F : ((l.length : Int) == 0) = false := eqF (by omega)
  by_cases b2 : 20 < l.length
  · have b2' : (20 : Int) < (l.length : Int) := by omega
    go_enter Try.func3, Try.ntmps3
    go_wp2_with fail
    refine (alive_any _).mono ?_
    rintro e W1 ⟨rfl, g1⟩
    go_wp2
    go_ret
    exact ⟨rfl, gr_below g1⟩
  have b2' : (l.length : Int) ≤ 20 := by omega
  have b2F : ((20 : Int) < (l.length : Int)) = False := by simp; omega
  by_cases b3 : a1 < 1
  · go_enter Try.func3, Try.ntmps3
    go_wp2_with fail
    refine (alive_any _).mono ?_
    rintro e W1 ⟨rfl, g1⟩
    go_wp2
    go_ret
    exact ⟨rfl, gr_below g1⟩
  by_cases b4 : 60 < a1
  · go_enter Try.func3, Try.ntmps3
    go_wp2_with fail
    refine (alive_any _).mono ?_
    rintro e W1 ⟨rfl, g1⟩
    go_wp2
    go_ret
    exact ⟨rfl, gr_below g1⟩
  obtain ⟨n, rfl⟩ : ∃ n : Nat, a1 = n := ⟨a1.toNat, by omega⟩
  have hn : n ≤ 60 := by omega
  have b3F : ((n : Int) < 1) = False := by simp; omega
  have b4F : ((60 : Int) < (n : Int)) = False := by simp; omega
  clear b3 b4
  go_enter Try.func3, Try.ntmps3
  go_wp2_with fail
  refine (alive_any _).mono ?_
  rintro e W1 ⟨rfl, g1⟩
  go_wp2
  go_loopw [5, 6] (fun pv iv wr => ∃ (j : Nat) (S : List UInt8), j ≤ n ∧ iv = .int .i64 j ∧ pv = .string (txt S) ∧ S.length ≤ 20 * j ∧ wr = W1) (fun _ i _ => n - (intOf i).toNat)
  case atStart => exact ⟨0, [], Nat.zero_le _, rfl, rfl, by simp, rfl⟩
  case round =>
    obtain ⟨j, S, hj, rfl, rfl, hS, rfl⟩ := hrel
    by_cases hlt : j < n
    · have hji : (j : Int) < (n : Int) := by omega
      have e1 : txt S ++ txt l = txt (S ++ l) := txt_append S l
      have hn1 : (9223372036854775807 < S.length + l.length) = False := by simp; omega
      go_wp2
      go_roundw
      case rel => exact ⟨j + 1, S ++ l, by omega, by go_num, rfl, by rw [List.length_append]; omega, trivial⟩
      case measure => simp [intOf]; omega
    · obtain rfl : j = n := by omega
      have cC := fun w => compile_any 200 (by omega) S w (by omega)
      have cS := fun w => refSpell_runes S w (by omega)
      unfold CmpPost at cC
      obtain ⟨k, hk⟩ : ∃ k, k = (runesOf S).length := ⟨_, rfl⟩
      rw [← hk] at cC cS
      replace hk := Lib.hid hk
      replace cC := Lib.hid cC
      replace cS := Lib.hid cS
      go_wp2_with fail
      refine (cC.out _).mono ?_
      rintro e W2 ⟨g2, ⟨hbig, rfl⟩ | ⟨hle, hno, rfl⟩ | ⟨hle, p, x, hx, _, rfl, hp⟩⟩
      · have hbi : (40 : Int) < (k : Int) := by omega
        go_wp2_with fail
        refine (cS.out _).mono ?_
        rintro e W3 ⟨A, c, rfl, _, g3⟩
        go_wp2
        go_ret
        exact ⟨rfl, gr_below (gr_trans (gr_trans g1 g2) g3)⟩
      · have hbi : ((40 : Int) < (k : Int)) = False := by simp; omega
        replace hno := Lib.hid hno
        go_wp2_with fail
        refine (cS.out _).mono ?_
        rintro e W3 ⟨A, c, rfl, _, g3⟩
        go_wp2
        go_ret
        exact ⟨rfl, gr_below (gr_trans (gr_trans g1 g2) g3)⟩
      · have hbi : ((40 : Int) < (k : Int)) = False := by simp; omega
        replace hx := Lib.hid hx
        replace hp := Lib.hid hp
        go_wp2_with fail
        refine (cS.out _).mono ?_
        rintro e W3 ⟨A, c, rfl, _, g3⟩
        go_wp2
        go_ret
        exact ⟨rfl, gr_below (gr_trans (gr_trans g1 g2) g3)⟩


set_option maxRecDepth 100000 in
theorem lifted (os : Os) (started : os.Started) (H : Type) (enc : TypeId × Value → H) :
    ReturnsInHanded {} Try.checked os 3 .any (Rows.patternLongSpec.pre6 enc Try.prog Try.f3 Rows.patternLongRow.domain false) (Rows.patternLongSpec.post enc Try.prog Try.f3 false true false false) := by
  refine returnsInHanded_of_change (C := Try.checked) own started (by kernel_rfl) Try.func3
    (ChangeSpec.witness6 (enc := enc) (C := Try.checked) false ⟨#[], #[.string ByteArray.empty, .int .i64 0], []⟩ 8 (by kernel_rfl) (by kernel_rfl) (by kernel_rfl) (by kernel_rfl)) ?_
  intro W base args ds gs before hval0 hW hcnd _
  have hval : ∀ (j : Nat) t v, Try.f3.params[j]? = some t → args[j]? = some v → Value.okWide Try.prog W .any base t v := hval0
  have hW' := hW
  obtain ⟨p, q, hA0, hV, rfl, hfz, hnd⟩ := hW
  have hA : DataW.TrodAll enc Try.prog W 0 (fun _ => true) true Try.f3.params.toList args.toList ds p := hA0
  rw [Try.params3] at hA hval
  obtain ⟨v0, vs0, d0, ds0, p0, q0, hargs, rfl, rfl, h0, r0⟩ := trodAll_cons hA
  obtain ⟨v1, vs1, d1, ds1, p1, q1, rfl, rfl, rfl, h1, r1⟩ := trodAll_cons r0
  obtain ⟨rfl, rfl, rfl⟩ := trodAll_nil r1
  obtain rfl : args = #[v0, v1] := by cases args; simp_all
  obtain ⟨rfl, rfl⟩ := trodVars_none hV
  obtain ⟨a0, rfl, rfl, rfl, w0⟩ := open_string Try.underlying9 (hval 0 9 v0 rfl rfl) h0
  obtain ⟨a1, rfl, rfl, rfl, w1⟩ := open_int Try.underlying3 (hval 1 3 v1 rfl rfl) h1
  clear hA0 hval0
  refine (walk W a0 w0 a1 w1).mono fun e W' ⟨he, bel⟩ => ?_
  subst he
  exact ⟨_, rfl, _, _, _, [], _, [], hW', trodAll_mk1 (shut_bool Try.underlying4 _), (trodAll_cons_mk (shut_string Try.underlying9 w0) (trodAll_cons_mk (shut_int Try.underlying3 w1) trodAll_mk0)), rfl, bel.frame _, fun h => by cases h⟩

theorem over : Rows.patternLongRow.holds Try.pinned (OpenSpec.ofChange Rows.patternLongSpec) :=
  OpenClaim.holds_of_wide 3 Try.f3 rfl rfl rfl rfl rfl rfl rfl ⟨rfl, rfl, rfl, rfl, rfl⟩ rfl rfl rfl rfl rfl (by kernel_rfl) Try.func3 (by kernel_rfl)
    (of_decide_eq_true (by kernel_rfl)) (by unfold Func.isWrapper; first | (rw [if_pos (by decide +kernel)]; kernel_rfl) | (rw [if_neg (by decide +kernel)]; exact ⟨rfl, rfl⟩))
    (fun os started H enc _ => lifted os started H enc)

/-- THE STATEMENT -/
theorem proved : Rows.PatternLongSaid := over
#print axioms proved
end Go.Proofs.Ytdccmmibfacpkab.patternLong

