/-
  GlyphUnlike holds of the program: for every input the call returns true and leaves what came in as it was. No condition.
-/
import Derived.Test.YtfbjjjkmbpaejaaRows
import Derived.Test.YtfbjjjkmbpaejaaGlyphAlive
import Derived.WalkKit
import Derived.ProofKit
import Derived.OpenShut
import Derived.ShutString
import Derived.ChangeOld
import Derived.Below
namespace Go.Proofs.Ytfbjjjkmbpaejaa.glyphUnlike
open Go.ChangeShapes Go.WideShapes Go.ChangeAt Go.RowKit
open Go.ChangeMaps (open_string shut_string)
set_option linter.unusedVariables false

theorem own : ownKnob Try.prog.godebug = none := by kernel_rfl
theorem laidOut : laidOutB Try.prog = true := by kernel_rfl

set_option maxHeartbeats 4000000 in
set_option maxRecDepth 100000 in
theorem walk (w : World) (a0 : ByteArray) (w0 : a0.size ≤ maxLen) (a1 : ByteArray) (w1 : a1.size ≤ maxLen) :
    Calls Try.prog 4 #[.string a0, .string a1] w fun e w' => e = .returned (.bool true) ∧ Below w.heap.size w w' := by
  clear w0 w1
  obtain ⟨s, hs⟩ : ∃ s, a0 = txt s := ⟨_, (txt_of a0).symm⟩
  obtain ⟨t, ht⟩ : ∃ t, a1 = txt t := ⟨_, (txt_of a1).symm⟩
  have hsz : a0.size = s.length := by rw [hs, txt_size]
  have htz : a1.size = t.length := by rw [ht, txt_size]
  by_cases c : (a0.size : Int) ≤ 800
  · by_cases c2 : (a1.size : Int) ≤ 800
    · subst hs ht
      have hsl : s.length ≤ 800 := by omega
      have htl : t.length ≤ 800 := by omega
      replace hsz := Lib.hid hsz
      replace htz := Lib.hid htz
      have q1 := fun W => quote_any s W (by omega)
      have q2 := fun W => quote_any t W (by omega)
      have inj : quote s = quote t → s = t := quote_inj
      have pre : (quote s).length < (quote t).length → (quote t).take (quote s).length ≠ quote s := by
        intro h1 h2
        have h3 := List.take_append_drop (quote s).length (quote t)
        rw [h2] at h3
        have h4 := quote_pre h3.symm
        have h5 := congrArg List.length h4
        rw [List.length_drop] at h5
        simp at h5
        omega
      have hl1 : (quote s).length ≤ 100000 := by
        have h1 := qbody_len (l := s) (chunks s) (fun c hc => hc)
        rw [chunks_join] at h1
        unfold quote
        simp only [List.length_cons, List.length_append, List.length_nil]
        omega
      have hl2 : (quote t).length ≤ 100000 := by
        have h1 := qbody_len (l := t) (chunks t) (fun c hc => hc)
        rw [chunks_join] at h1
        unfold quote
        simp only [List.length_cons, List.length_append, List.length_nil]
        omega
      have hcong : s = t → quote s = quote t := congrArg quote
      generalize quote s = A at *
      generalize quote t = B at *
      replace q1 := Lib.hid q1
      replace q2 := Lib.hid q2
      have hx1 : (txt B).extract 0 A.length = txt (B.take A.length) := txt_first _ _
      by_cases hst : s = t
      · have hAB := hcong hst
        subst hAB
        subst hst
        clear inj pre hcong
        go_enter Try.func4, Try.ntmps4
        go_wp2_with fail
        refine (alive_any _).mono ?_
        rintro e W1 ⟨rfl, g1⟩
        go_wp2_with fail
        refine (q1.out _).mono ?_
        rintro e W2 ⟨rfl, g2⟩
        go_wp2_with fail
        refine (q2.out _).mono ?_
        rintro e W3 ⟨rfl, g3⟩
        go_wp2
        go_ret
        exact ⟨rfl, gr_below (gr_trans (gr_trans g1 g2) g3)⟩
      · have hAB : A ≠ B := fun h => hst (inj h)
        have d1 : (A == B) = false := by rw [beq_eq_false_iff_ne]; exact hAB
        have d2 : (s == t) = false := by rw [beq_eq_false_iff_ne]; exact hst
        clear inj hcong
        by_cases hlt : A.length < B.length
        · have d3 : (B.take A.length == A) = false := by rw [beq_eq_false_iff_ne]; exact pre hlt
          have hi : (A.length : Int) ≤ ((txt B).size : Int) := by rw [txt_size]; omega
          clear pre hst hAB
          go_enter Try.func4, Try.ntmps4
          go_wp2_with fail
          refine (alive_any _).mono ?_
          rintro e W1 ⟨rfl, g1⟩
          go_wp2_with fail
          refine (q1.out _).mono ?_
          rintro e W2 ⟨rfl, g2⟩
          go_wp2_with fail
          refine (q2.out _).mono ?_
          rintro e W3 ⟨rfl, g3⟩
          go_wp2
          go_ret
          exact ⟨rfl, gr_below (gr_trans (gr_trans g1 g2) g3)⟩
        · clear pre hst hAB
          go_enter Try.func4, Try.ntmps4
          go_wp2_with fail
          refine (alive_any _).mono ?_
          rintro e W1 ⟨rfl, g1⟩
          go_wp2_with fail
          refine (q1.out _).mono ?_
          rintro e W2 ⟨rfl, g2⟩
          go_wp2_with fail
          refine (q2.out _).mono ?_
          rintro e W3 ⟨rfl, g3⟩
          go_wp2
          go_ret
          exact ⟨rfl, gr_below (gr_trans (gr_trans g1 g2) g3)⟩
    · have c2' : 800 < (a1.size : Int) := by omega
      clear c2 hsz htz hs ht
      go_enter Try.func4, Try.ntmps4
      go_wp2_with (go_at_call 9; refine (alive_any _).mono ?_; rintro e w1 ⟨rfl, B⟩)
      go_ret
      exact ⟨rfl, gr_below B⟩
  · have c' : 800 < (a0.size : Int) := by omega
    clear c hsz htz hs ht
    go_enter Try.func4, Try.ntmps4
    go_wp2_with (go_at_call 9; refine (alive_any _).mono ?_; rintro e w1 ⟨rfl, B⟩)
    go_ret
    exact ⟨rfl, gr_below B⟩


set_option maxRecDepth 100000 in
theorem lifted (os : Os) (started : os.Started) (H : Type) (enc : TypeId × Value → H) :
    ReturnsInHanded {} Try.checked os 4 .any (Rows.glyphUnlikeSpec.pre6 enc Try.prog Try.f4 Rows.glyphUnlikeRow.domain false) (Rows.glyphUnlikeSpec.post enc Try.prog Try.f4 false true false false) := by
  refine returnsInHanded_of_change (C := Try.checked) own started (by kernel_rfl) Try.func4
    (ChangeSpec.witness6 (enc := enc) (C := Try.checked) false ⟨#[], #[.string ByteArray.empty, .string ByteArray.empty], []⟩ 8 (by kernel_rfl) (by kernel_rfl) (by kernel_rfl) (by kernel_rfl)) ?_
  intro W base args ds gs before hval0 hW hcnd _
  have hval : ∀ (j : Nat) t v, Try.f4.params[j]? = some t → args[j]? = some v → Value.okWide Try.prog W .any base t v := hval0
  have hW' := hW
  obtain ⟨p, q, hA0, hV, rfl, hfz, hnd⟩ := hW
  have hA : DataW.TrodAll enc Try.prog W 0 (fun _ => true) true Try.f4.params.toList args.toList ds p := hA0
  rw [Try.params4] at hA hval
  obtain ⟨v0, vs0, d0, ds0, p0, q0, hargs, rfl, rfl, h0, r0⟩ := trodAll_cons hA
  obtain ⟨v1, vs1, d1, ds1, p1, q1, rfl, rfl, rfl, h1, r1⟩ := trodAll_cons r0
  obtain ⟨rfl, rfl, rfl⟩ := trodAll_nil r1
  obtain rfl : args = #[v0, v1] := by cases args; simp_all
  obtain ⟨rfl, rfl⟩ := trodVars_none hV
  obtain ⟨a0, rfl, rfl, rfl, w0⟩ := open_string Try.underlying9 (hval 0 9 v0 rfl rfl) h0
  obtain ⟨a1, rfl, rfl, rfl, w1⟩ := open_string Try.underlying9 (hval 1 9 v1 rfl rfl) h1
  clear hA0 hval0
  refine (walk W a0 w0 a1 w1).mono fun e W' ⟨he, bel⟩ => ?_
  subst he
  exact ⟨_, rfl, _, _, _, [], _, [], hW', trodAll_mk1 (shut_bool Try.underlying4 _), (trodAll_cons_mk (shut_string Try.underlying9 w0) (trodAll_cons_mk (shut_string Try.underlying9 w1) trodAll_mk0)), rfl, bel.frame _, fun h => by cases h⟩

theorem over : Rows.glyphUnlikeRow.holds Try.pinned (OpenSpec.ofChange Rows.glyphUnlikeSpec) :=
  OpenClaim.holds_of_wide 4 Try.f4 rfl rfl rfl rfl rfl rfl rfl ⟨rfl, rfl, rfl, rfl, rfl⟩ rfl rfl rfl rfl rfl (by kernel_rfl) Try.func4 (by kernel_rfl)
    (of_decide_eq_true (by kernel_rfl)) (by unfold Func.isWrapper; first | (rw [if_pos (by decide +kernel)]; kernel_rfl) | (rw [if_neg (by decide +kernel)]; exact ⟨rfl, rfl⟩))
    (fun os started H enc _ => lifted os started H enc)

/-- THE STATEMENT -/
theorem proved : Rows.GlyphUnlikeSaid := over
#print axioms proved
end Go.Proofs.Ytfbjjjkmbpaejaa.glyphUnlike

