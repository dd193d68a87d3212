/-
  GlyphQuotes holds of the program: for every input the call returns true and leaves what came in as it was. No condition.
-/
import Derived.Test.YtfbjjjkmbpaejaaRows
import Derived.Test.YtfbjjjkmbpaejaaGlyphAlive
import Derived.Test.YtfbjjjkmbpaejaaGlyphRefUnq2
import Derived.WalkKit
import Derived.ProofKit
import Derived.OpenShut
import Derived.ShutString
import Derived.ChangeOld
import Derived.Below
namespace Go.Proofs.Ytfbjjjkmbpaejaa.glyphQuotes
open Go.ChangeShapes Go.WideShapes Go.ChangeAt Go.RowKit
open Go.ChangeMaps (open_string shut_string)
set_option linter.unusedVariables false

theorem own : ownKnob Try.prog.godebug = none := by kernel_rfl
theorem laidOut : laidOutB Try.prog = true := by kernel_rfl

theorem refUnq_any (l : List UInt8) (w : World) (hl : l.length ≤ 1000000) : Calls Try.prog 12 #[.string (txt l)] w (UnqPost l w) := by
  by_cases h2 : l.length < 2
  · exact (refUnq_out l w (by omega) (Or.inl h2)).mono fun _ _ k => unqPost_no (unq_short fun B e => by rw [e] at h2; simp at h2; omega) k
  · obtain ⟨a, t, rfl⟩ : ∃ a t, l = a :: t := by cases l with
      | nil => simp at h2
      | cons a t => exact ⟨a, t, rfl⟩
    simp only [List.length_cons] at h2 hl
    by_cases ha : a = 34
    · subst ha
      obtain ⟨z, hz⟩ : ∃ z, (34 :: t)[(34 :: t).length - 1]? = some z := ⟨_, List.getElem?_eq_getElem (by simp)⟩
      by_cases hzz : z = 34
      · subst hzz
        have hm := mid_of (l := 34 :: t) (by simp only [List.length_cons]; omega) rfl hz
        have hml : (middle (34 :: t)).length ≤ 10000000 := by
          unfold middle
          rw [List.length_take]
          simp only [List.length_cons]
          omega
        have := refUnq_in (middle (34 :: t)) w hml
        rw [← hm] at this
        exact this
      · refine (refUnq_out (34 :: t) w (by simp only [List.length_cons]; omega) (Or.inr ⟨34, t, rfl, by omega, Or.inr ⟨rfl, z, hz, hzz⟩⟩)).mono fun _ _ k => unqPost_no (unq_short fun B e => ?_) k
        rw [e] at hz
        apply hzz
        have h3 : (34 :: (B ++ [(34 : UInt8)]))[(34 :: (B ++ [(34 : UInt8)])).length - 1]? = some 34 := by simp
        rw [h3] at hz
        exact (Option.some.inj hz).symm
    · exact (refUnq_out (a :: t) w (by simp only [List.length_cons]; omega) (Or.inr ⟨a, t, rfl, by omega, Or.inl ha⟩)).mono fun _ _ k => unqPost_no (unq_short fun B e => ha (List.cons.inj e).1) k

set_option maxHeartbeats 4000000 in
set_option maxRecDepth 100000 in
theorem walk (w : World) (a0 : ByteArray) (w0 : a0.size ≤ maxLen) (a1 : ByteArray) (w1 : a1.size ≤ maxLen) :
    Calls Try.prog 3 #[.string a0, .string a1] w fun e w' => e = .returned (.bool true) ∧ Below w.heap.size w w' := by
  clear w0 w1
  obtain ⟨s, hs⟩ : ∃ s, a0 = txt s := ⟨_, (txt_of a0).symm⟩
  obtain ⟨q, hq⟩ : ∃ q, a1 = txt q := ⟨_, (txt_of a1).symm⟩
  have hsz : a0.size = s.length := by rw [hs, txt_size]
  have htz : a1.size = q.length := by rw [hq, txt_size]
  by_cases c : (a0.size : Int) ≤ 1500
  · by_cases c2 : (a1.size : Int) ≤ 1500
    · subst hs hq
      have hsl : s.length ≤ 1500 := by omega
      have htl : q.length ≤ 1500 := by omega
      replace hsz := Lib.hid hsz
      replace htz := Lib.hid htz
      have hl1 : (quote s).length ≤ 100000 := by
        have h1 := qbody_len (l := s) (chunks s) (fun c hc => hc)
        rw [chunks_join] at h1
        unfold quote
        simp only [List.length_cons, List.length_append, List.length_nil]
        omega
      have q1 := fun W => quote_any s W (by omega)
      have q2 := fun W => refQuote_any s W (by omega)
      have u1 := fun W => unq_any (quote s) W (by omega)
      have u2 := fun W => unq_any q W (by omega)
      have u3 := fun W => refUnq_any q W (by omega)
      have hq1 : unq (quote s) = some s := (unq_iff _ _).2 rfl
      unfold UnqPost at u1 u2 u3
      rw [hq1] at u1
      generalize quote s = Q at *
      generalize (unq q).getD [] = V at *
      generalize (unq q).isSome = I at *
      replace q1 := Lib.hid q1
      replace q2 := Lib.hid q2
      replace u1 := Lib.hid u1
      replace u2 := Lib.hid u2
      replace u3 := Lib.hid u3
      clear hq1
      go_enter Try.func3, Try.ntmps3
      go_wp2_with fail
      refine (alive_any _).mono ?_
      rintro e W1 ⟨rfl, g1⟩
      go_wp2_with fail
      refine (q1.out _).mono ?_
      rintro e W2 ⟨rfl, g2⟩
      go_wp2_with fail
      refine (u1.out _).mono ?_
      rintro e W3 ⟨rfl, g3⟩
      go_wp2_with fail
      refine (u2.out _).mono ?_
      rintro e W4 ⟨rfl, g4⟩
      go_wp2_with fail
      refine (u3.out _).mono ?_
      rintro e W5 ⟨rfl, g5⟩
      go_wp2_with fail
      refine (q2.out _).mono ?_
      rintro e W6 ⟨rfl, g6⟩
      go_wp2
      go_ret
      exact ⟨rfl, gr_below (gr_trans (gr_trans (gr_trans (gr_trans (gr_trans g1 g2) g3) g4) g5) g6)⟩
    · have c2' : 1500 < (a1.size : Int) := by omega
      clear c2 hsz htz hs hq
      go_enter Try.func3, Try.ntmps3
      go_wp2_with (go_at_call 9; refine (alive_any _).mono ?_; rintro e w1 ⟨rfl, B⟩)
      go_ret
      exact ⟨rfl, gr_below B⟩
  · have c' : 1500 < (a0.size : Int) := by omega
    clear c hsz htz hs hq
    go_enter Try.func3, Try.ntmps3
    go_wp2_with (go_at_call 9; refine (alive_any _).mono ?_; rintro e w1 ⟨rfl, B⟩)
    go_ret
    exact ⟨rfl, gr_below B⟩


set_option maxRecDepth 100000 in
theorem lifted (os : Os) (started : os.Started) (H : Type) (enc : TypeId × Value → H) :
    ReturnsInHanded {} Try.checked os 3 .any (Rows.glyphQuotesSpec.pre6 enc Try.prog Try.f3 Rows.glyphQuotesRow.domain false) (Rows.glyphQuotesSpec.post enc Try.prog Try.f3 false true false false) := by
  refine returnsInHanded_of_change (C := Try.checked) own started (by kernel_rfl) Try.func3
    (ChangeSpec.witness6 (enc := enc) (C := Try.checked) false ⟨#[], #[.string ByteArray.empty, .string ByteArray.empty], []⟩ 8 (by kernel_rfl) (by kernel_rfl) (by kernel_rfl) (by kernel_rfl)) ?_
  intro W base args ds gs before hval0 hW hcnd _
  have hval : ∀ (j : Nat) t v, Try.f3.params[j]? = some t → args[j]? = some v → Value.okWide Try.prog W .any base t v := hval0
  have hW' := hW
  obtain ⟨p, q, hA0, hV, rfl, hfz, hnd⟩ := hW
  have hA : DataW.TrodAll enc Try.prog W 0 (fun _ => true) true Try.f3.params.toList args.toList ds p := hA0
  rw [Try.params3] at hA hval
  obtain ⟨v0, vs0, d0, ds0, p0, q0, hargs, rfl, rfl, h0, r0⟩ := trodAll_cons hA
  obtain ⟨v1, vs1, d1, ds1, p1, q1, rfl, rfl, rfl, h1, r1⟩ := trodAll_cons r0
  obtain ⟨rfl, rfl, rfl⟩ := trodAll_nil r1
  obtain rfl : args = #[v0, v1] := by cases args; simp_all
  obtain ⟨rfl, rfl⟩ := trodVars_none hV
  obtain ⟨a0, rfl, rfl, rfl, w0⟩ := open_string Try.underlying9 (hval 0 9 v0 rfl rfl) h0
  obtain ⟨a1, rfl, rfl, rfl, w1⟩ := open_string Try.underlying9 (hval 1 9 v1 rfl rfl) h1
  clear hA0 hval0
  refine (walk W a0 w0 a1 w1).mono fun e W' ⟨he, bel⟩ => ?_
  subst he
  exact ⟨_, rfl, _, _, _, [], _, [], hW', trodAll_mk1 (shut_bool Try.underlying4 _), (trodAll_cons_mk (shut_string Try.underlying9 w0) (trodAll_cons_mk (shut_string Try.underlying9 w1) trodAll_mk0)), rfl, bel.frame _, fun h => by cases h⟩

theorem over : Rows.glyphQuotesRow.holds Try.pinned (OpenSpec.ofChange Rows.glyphQuotesSpec) :=
  OpenClaim.holds_of_wide 3 Try.f3 rfl rfl rfl rfl rfl rfl rfl ⟨rfl, rfl, rfl, rfl, rfl⟩ rfl rfl rfl rfl rfl (by kernel_rfl) Try.func3 (by kernel_rfl)
    (of_decide_eq_true (by kernel_rfl)) (by unfold Func.isWrapper; first | (rw [if_pos (by decide +kernel)]; kernel_rfl) | (rw [if_neg (by decide +kernel)]; exact ⟨rfl, rfl⟩))
    (fun os started H enc _ => lifted os started H enc)

/-- THE STATEMENT -/
theorem proved : Rows.GlyphQuotesSaid := over
#print axioms proved
end Go.Proofs.Ytfbjjjkmbpaejaa.glyphQuotes

