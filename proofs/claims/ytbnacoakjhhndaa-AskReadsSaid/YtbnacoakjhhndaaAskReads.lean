/-
  AskReads holds of the program: for every input the call returns true and leaves what came in as it was. No condition.
-/
import Derived.Test.YtbnacoakjhhndaaRows
import Derived.Test.YtbnacoakjhhndaaAskAlive
import Derived.Test.YtbnacoakjhhndaaAskLawRight
import Derived.Test.YtbnacoakjhhndaaAskSame
import Derived.WalkKit
import Derived.ProofKit
import Derived.OpenShut
import Derived.ShutString
import Derived.ChangeOld
import Derived.Below
namespace Go.Proofs.Ytbnacoakjhhndaa.askReads
open Go.ChangeShapes Go.WideShapes Go.ChangeAt Go.RowKit
open Go.ChangeMaps (open_string shut_string)
set_option linter.unusedVariables false

theorem own : ownKnob Try.prog.godebug = none := by kernel_rfl
theorem laidOut : laidOutB Try.prog = true := by kernel_rfl

set_option maxHeartbeats 16000000 in
set_option maxRecDepth 100000 in
theorem walk (w : World) (a0 : ByteArray) (w0 : a0.size ≤ maxLen) :
    Calls Try.prog 4 #[.string a0] w fun e w' => e = .returned (.bool true) ∧ Below w.heap.size w w' := by
  obtain ⟨b, rfl⟩ : ∃ b, a0 = txt b := ⟨_, (txt_of a0).symm⟩
  rw [txt_size] at w0
  unfold maxLen at w0
  by_cases hb : 2000 < b.length
  · have hbi : (2000 : Int) < (b.length : Int) := by omega
    go_enter Try.func4, Try.ntmps4
    go_wp2_with fail
    refine (alive_any _).mono ?_
    rintro e w9 ⟨rfl, g9⟩
    go_wp2
    go_ret
    exact ⟨rfl, gr_below g9⟩
  · have hbi : ((2000 : Int) < (b.length : Int)) = False := eq_false (by omega)
    have cR := fun W => readAsk_any b W (by omega)
    unfold ReadPost at cR
    obtain ⟨q, hq⟩ : ∃ q, q = (readA b).1 := ⟨_, rfl⟩
    have hisb : IsAskL b → okA q ∧ askL q = b := fun h => by rw [hq]; exact ⟨h.2.1, h.2.2⟩
    rw [← hq] at cR
    replace cR := Lib.hid cR
    replace hisb := Lib.hid hisb
    clear hq
    go_enter Try.func4, Try.ntmps4
    go_wp2_with fail
    refine (alive_any _).mono ?_
    rintro e w1 ⟨rfl, g1⟩
    replace g1 := Lib.hid g1
    go_wp2_with fail
    refine (cR.out _).mono ?_
    rintro e w2 ⟨⟨his, A, c, rfl, hown⟩ | ⟨hno, rfl⟩, g2⟩
    · obtain ⟨ho, hqb⟩ := hisb.out his
      obtain ⟨k, zs, t, a, y, d⟩ := q
      unfold aqV
      simp only at hown ⊢
      obtain ⟨n, hn⟩ : ∃ n, n = zs.length := ⟨_, rfl⟩
      rw [← hn] at hown ⊢
      obtain ⟨W3, hW3⟩ : ∃ W3, W3 = w2.alloc (.cells #[.int .i64 k, .slice A n c, .string (txt t), .int .i64 a, .int .i64 y, .int .i64 d] 24) := ⟨_, rfl⟩
      have g3 : Gr w2 W3 := by rw [hW3]; exact gr_alloc _ _ _
      have hx : AqB W3 w2.heap.size k A n c t a y d := by rw [hW3]; exact blk_new w2 _
      have G3 := gr_trans g1.out (gr_trans g2 g3)
      have hr := row_own (hown.kept g3 (Classical.em _))
      obtain ⟨k1, k2, k3, k4, k5, k6, k7⟩ := okA_num ho
      simp only at k1 k2 k3 k4 k5 k6 k7
      have hsml : SmallL zs ∧ ∀ x ∈ zs, x.n.length ≤ 1000000 ∧ x.v.length ≤ 1000000 := by
        by_cases hk : k = 1
        · have h1 := okLbs_small (k6 hk).1.1
          exact ⟨h1, fun x hx => by have := h1.2 x hx; omega⟩
        · rw [k7 hk]; exact ⟨⟨by simp, by simp⟩, by simp⟩
      have hyb : -9223372036854775808 ≤ y ∧ y ≤ 9223372036854775807 := by
        by_cases hk : k = 1
        · have h1 := (k6 hk).1.2; unfold okV at h1; simp only at h1; omega
        · have := k4 hk; omega
      have hn9 : n ≤ 1000000000 := by have := hsml.1.1; omega
      have hAq : AqOk W3 A n c ⟨k, zs, t, a, y, d⟩ := ⟨hn.symm, hn9, by simp only; omega, own_nilA (hown.kept g3 (Classical.em _)), hr, small_short hsml.1, hyb⟩
      have cA := ask_any A n c ⟨k, zs, t, a, y, d⟩ W3 hAq
      unfold AskPost at cA
      rw [if_pos ho, hqb] at cA
      have cL := fun W (g : Gr W3 W) => lawRight_any A n c ⟨k, zs, t, a, y, d⟩ W (aqOk_gr hAq g) hsml.2
      rw [decide_eq_true ho] at cL
      unfold aqV at cA cL
      simp only at cA cL
      have hbb : (b == b) = true := beq_self_eq_true b
      obtain ⟨q0, q1, q2, q3, q4, q5⟩ := aqb_cells hx
      replace cA := Lib.hid cA
      replace cL := Lib.hid cL
      replace hx := Lib.hid hx
      replace G3 := Lib.hid G3
      clear hown g2 g3 hr hAq hsml hyb k1 k2 k3 k4 k5 k6 k7 hn ho hqb his cR hisb
      go_upto_region 4 with fail
      rw [← hW3]
      clear hW3
      go_wp2_with fail
      refine cA.out.mono ?_
      rintro e w4 ⟨rfl, g4⟩
      have hx4 : AqB w4 w2.heap.size k A n c t a y d := gr_blk g4 hx.out (by simp)
      have cL4 := cL.out w4 g4
      clear q0 q1 q2 q3 q4 q5
      obtain ⟨q0, q1, q2, q3, q4, q5⟩ := aqb_cells hx4
      replace cL4 := Lib.hid cL4
      replace g4 := Lib.hid g4
      clear hx4 hx cA cL
      go_wp2_with fail
      refine cL4.out.mono ?_
      rintro e w5 ⟨rfl, g5⟩
      go_wp2
      go_ret
      exact ⟨rfl, gr_below (gr_trans G3.out (gr_trans g4.out g5))⟩
    · obtain ⟨W3, hW3⟩ : ∃ W3, W3 = w2.alloc (.cells #[.int .i64 0, .slice none 0 0, .string ⟨#[]⟩, .int .i64 0, .int .i64 0, .int .i64 0] 24) := ⟨_, rfl⟩
      have g3 : Gr w2 W3 := by rw [hW3]; exact gr_alloc _ _ _
      have hx : AqB W3 w2.heap.size 0 none 0 0 [] 0 0 0 := by rw [hW3]; exact blk_new w2 _
      have G3 := gr_trans g1.out (gr_trans g2 g3)
      have cS := sameAq_yes none none 0 0 0 ⟨0, [], [], 0, 0, 0⟩ W3 (by decide) (row_nil _ _ _) (row_nil _ _ _)
      unfold aqV at cS
      simp only at cS
      obtain ⟨q0, q1, q2, q3, q4, q5⟩ := aqb_cells hx
      replace cS := Lib.hid cS
      replace G3 := Lib.hid G3
      clear hx g2 g3 cR hisb
      go_upto_region 4 with fail
      rw [← hW3]
      clear hW3
      go_wp2_with fail
      refine cS.out.mono ?_
      rintro e w4 ⟨rfl, g4⟩
      go_wp2
      go_ret
      exact ⟨rfl, gr_below (gr_trans G3.out g4)⟩


set_option maxRecDepth 100000 in
theorem lifted (os : Os) (started : os.Started) (H : Type) (enc : TypeId × Value → H) :
    ReturnsInHanded {} Try.checked os 4 .any (Rows.askReadsSpec.pre6 enc Try.prog Try.f4 Rows.askReadsRow.domain false) (Rows.askReadsSpec.post enc Try.prog Try.f4 false true false false) := by
  refine returnsInHanded_of_change (C := Try.checked) own started (by kernel_rfl) Try.func4
    (ChangeSpec.witness6 (enc := enc) (C := Try.checked) false ⟨#[], #[.string ByteArray.empty], []⟩ 8 (by kernel_rfl) (by kernel_rfl) (by kernel_rfl) (by kernel_rfl)) ?_
  intro W base args ds gs before hval0 hW hcnd _
  have hval : ∀ (j : Nat) t v, Try.f4.params[j]? = some t → args[j]? = some v → Value.okWide Try.prog W .any base t v := hval0
  have hW' := hW
  obtain ⟨p, q, hA0, hV, rfl, hfz, hnd⟩ := hW
  have hA : DataW.TrodAll enc Try.prog W 0 (fun _ => true) true Try.f4.params.toList args.toList ds p := hA0
  rw [Try.params4] at hA hval
  obtain ⟨v0, vs0, d0, ds0, p0, q0, hargs, rfl, rfl, h0, r0⟩ := trodAll_cons hA
  obtain ⟨rfl, rfl, rfl⟩ := trodAll_nil r0
  obtain rfl : args = #[v0] := by cases args; simp_all
  obtain ⟨rfl, rfl⟩ := trodVars_none hV
  obtain ⟨a0, rfl, rfl, rfl, w0⟩ := open_string Try.underlying9 (hval 0 9 v0 rfl rfl) h0
  clear hA0 hval0
  refine (walk W a0 w0).mono fun e W' ⟨he, bel⟩ => ?_
  subst he
  exact ⟨_, rfl, _, _, _, [], _, [], hW', trodAll_mk1 (shut_bool Try.underlying4 _), (trodAll_cons_mk (shut_string Try.underlying9 w0) trodAll_mk0), rfl, bel.frame _, fun h => by cases h⟩

theorem over : Rows.askReadsRow.holds Try.pinned (OpenSpec.ofChange Rows.askReadsSpec) :=
  OpenClaim.holds_of_wide 4 Try.f4 rfl rfl rfl rfl rfl rfl rfl ⟨rfl, rfl, rfl, rfl, rfl⟩ rfl rfl rfl rfl rfl (by kernel_rfl) Try.func4 (by kernel_rfl)
    (of_decide_eq_true (by kernel_rfl)) (by unfold Func.isWrapper; first | (rw [if_pos (by decide +kernel)]; kernel_rfl) | (rw [if_neg (by decide +kernel)]; exact ⟨rfl, rfl⟩))
    (fun os started H enc _ => lifted os started H enc)

/-- THE STATEMENT -/
theorem proved : Rows.AskReadsSaid := over
#print axioms proved
end Go.Proofs.Ytbnacoakjhhndaa.askReads

