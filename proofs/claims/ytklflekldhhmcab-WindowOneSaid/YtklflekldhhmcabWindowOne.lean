/-
  WindowOne holds of the program: for every input the call returns true and leaves what came in as it was. No condition.
-/
import Derived.Test.YtklflekldhhmcabRows
import Derived.Test.YtklflekldhhmcabWinOne
import Derived.WalkKit
import Derived.ProofKit
import Derived.OpenShut
import Derived.ShutString
import Derived.ChangeOld
import Derived.Below
namespace Go.Proofs.Ytklflekldhhmcab.windowOne
open Go.ChangeShapes Go.WideShapes Go.ChangeAt Go.RowKit
open Go.ChangeMaps (open_string shut_string)
set_option linter.unusedVariables false

theorem own : ownKnob Try.prog.godebug = none := by kernel_rfl
theorem laidOut : laidOutB Try.prog = true := by kernel_rfl
/-- The walk behind a name that is one. -/
def LawPost (w : World) (e : Ending) (w' : World) : Prop := e = .returned (.bool true) ∧ Below w.heap.size w w'
set_option maxHeartbeats 4000000 in
set_option maxRecDepth 100000 in
theorem walk_name (w : World) (T V : Int) (s : List UInt8) (v : Int) (b : Bool) (hrb : rightB [(T, V)] = true)
    (hone : ∀ w0 A c, PtRow w0 A 1 [(T, V)] → OneOf s v b A c [(T, V)] w0)
    (ht : ((s == [105, 110, 99, 114, 101, 97, 115, 101]) = true ∨ (s == [105, 110, 99, 114, 101, 97, 115, 101]) = false ∧ (s == [114, 97, 116, 101]) = true) ∧ v = 0 ∧ b = false ∨
      ((s == [105, 110, 99, 114, 101, 97, 115, 101]) = false ∧ (s == [114, 97, 116, 101]) = false ∧ (s == [99, 111, 117, 110, 116, 95, 111, 118, 101, 114]) = true) ∧ v = 1 ∧ b = true ∨ ((s == [105, 110, 99, 114, 101, 97, 115, 101]) = false ∧ (s == [114, 97, 116, 101]) = false ∧ (s == [99, 111, 117, 110, 116, 95, 111, 118, 101, 114]) = false) ∧ v = V ∧ b = true) :
    Calls Try.prog 3 #[.agg #[.int .i64 T, .int .i64 V], .string (txt s)] w (LawPost w) := by
  have hrow : PtRow ((w.alloc (.cells #[.int .i64 T, .int .i64 V] 23)).alloc (.cells #[.int .i64 T, .int .i64 V] 23)) (some ⟨w.heap.size + 1, 0, none⟩) 1 [(T, V)] := by
    have h := row_new2 (w.alloc (.cells #[.int .i64 T, .int .i64 V] 23)) #[.int .i64 T, .int .i64 V] 23 1 2 rfl
    rwa [show (w.alloc (.cells #[.int .i64 T, .int .i64 V] 23)).heap.size = w.heap.size + 1 by simp] at h
  obtain ⟨hFn, hNil, hDo⟩ := hone _ _ 1 hrow
  obtain ⟨WW, hWW⟩ : ∃ WW, WW = (w.alloc (.cells #[.int .i64 T, .int .i64 V] 23)).alloc (.cells #[.int .i64 T, .int .i64 V] 23) := ⟨_, rfl⟩
  rw [← hWW] at hrow hDo
  have hcell : WW.cell? ⟨w.heap.size, 1, none⟩ = some (.int .i64 V) := by
    rw [hWW]
    exact gr_cell (gr_alloc _ _ _) (by rw [World.cell?_alloc_new]; rfl)
  have gW : Gr w WW := by rw [hWW]; exact gr_trans (gr_alloc _ _ none) (gr_alloc _ _ none)
  have cP := fun W (g : Gr WW W) => refPoints_any (some ⟨w.heap.size + 1, 0, none⟩) 1 1 [(T, V)] W (by omega) (pt_gr hrow g)
  rw [hrb] at cP
  have cN : ∀ W, Calls Try.prog 7 #[.string (txt s), .slice none 0 0] W fun x w' => x = .returned (.tuple #[.int .i64 0, .bool false, .int .i64 0]) ∧ Gr W w' := hNil
  have cD : ∀ W, Gr WW W → Calls Try.prog 7 #[.string (txt s), .slice (some ⟨w.heap.size + 1, 0, none⟩) 1 1] W fun x w' => x = .returned (.tuple #[.int .i64 v, .bool b, .int .i64 0]) ∧ Gr W w' := hDo
  clear hNil hDo hone hrow hrb
  replace cP := Lib.hid cP
  replace cN := Lib.hid cN
  replace cD := Lib.hid cD
  replace hFn := Lib.hid hFn
  replace hcell := Lib.hid hcell
  replace gW := Lib.hid gW
  rcases ht with ⟨ht1 | ⟨ht1, ht2⟩, rfl, rfl⟩ | ⟨⟨ht1, ht2, ht3⟩, rfl, rfl⟩ | ⟨⟨ht1, ht2, ht3⟩, rfl, rfl⟩
  all_goals
    go_enter Try.func3, Try.ntmps3
    go_wp2_with fail
    rw [← hWW]
    refine (cP.out _ (gr_refl _ _)).mono ?_
    rintro e W1 ⟨rfl, g1⟩
    have hg1 := Lib.hid g1
    clear g1
    go_wp2_with fail
    refine (hFn.out _).mono ?_
    rintro e W2 ⟨rfl, g2⟩
    have hg2 := Lib.hid (gr_trans hg1.out g2)
    clear g2
    go_wp2_with fail
    refine (alive_any _).mono ?_
    rintro e W3 ⟨rfl, g3⟩
    have hg3 := Lib.hid (gr_trans hg2.out g3)
    clear g3
    go_wp2_with fail
    refine (cD.out _ hg3.out).mono ?_
    rintro e W4 ⟨rfl, g4⟩
    have hg4 := Lib.hid (gr_trans hg3.out g4)
    have hc4 := gr_cell hg4.out hcell.out
    clear g4
    first
    | (go_wp2
       go_ret
       exact ⟨rfl, gr_below (gr_trans gW.out hg4.out)⟩)
    | (go_wp2_with fail
       refine (cN.out _).mono ?_
       rintro e W5 ⟨rfl, g5⟩
       have hg5 := Lib.hid (gr_trans hg4.out g5)
       clear g5
       go_wp2
       go_ret
       exact ⟨rfl, gr_below (gr_trans gW.out hg5.out)⟩)
set_option maxHeartbeats 4000000 in
set_option maxRecDepth 100000 in
theorem walk (w : World) (v0 : Value) (z0 : Int × Int) (w0 : v0 = .agg #[.int .i64 z0.1, .int .i64 z0.2] ∧ (-9223372036854775808 ≤ z0.1 ∧ z0.1 ≤ 9223372036854775807) ∧ (-9223372036854775808 ≤ z0.2 ∧ z0.2 ≤ 9223372036854775807)) (a1 : ByteArray) (w1 : a1.size ≤ maxLen) :
    Calls Try.prog 3 #[v0, .string a1] w fun e w' => e = .returned (.bool true) ∧ Below w.heap.size w w' := by
  obtain ⟨rfl, _, _⟩ := w0
  obtain ⟨s, rfl⟩ : ∃ s, a1 = txt s := ⟨_, (txt_of a1).symm⟩
  clear w1
  obtain ⟨T, V⟩ := z0
  simp only
  cases hrb : rightB [(T, V)] with
  | true =>
    by_cases h0 : s = sumL
    · subst h0
      exact walk_name w T V sumL V true hrb (fun w0 A c hr => one_sum hr hrb) (Or.inr (Or.inr ⟨⟨by decide, by decide, by decide⟩, rfl, rfl⟩))
    by_cases h1 : s = avgL
    · subst h1
      exact walk_name w T V avgL V true hrb (fun w0 A c hr => one_avg hr hrb) (Or.inr (Or.inr ⟨⟨by decide, by decide, by decide⟩, rfl, rfl⟩))
    by_cases h2 : s = minL
    · subst h2
      exact walk_name w T V minL V true hrb (fun w0 A c hr => one_min hr hrb) (Or.inr (Or.inr ⟨⟨by decide, by decide, by decide⟩, rfl, rfl⟩))
    by_cases h3 : s = maxL
    · subst h3
      exact walk_name w T V maxL V true hrb (fun w0 A c hr => one_max hr hrb) (Or.inr (Or.inr ⟨⟨by decide, by decide, by decide⟩, rfl, rfl⟩))
    by_cases h4 : s = countL
    · subst h4
      exact walk_name w T V countL 1 true hrb (fun w0 A c hr => one_count hr hrb) (Or.inr (Or.inl ⟨⟨by decide, by decide, by decide⟩, rfl, rfl⟩))
    by_cases h5 : s = lastL
    · subst h5
      exact walk_name w T V lastL V true hrb (fun w0 A c hr => one_last hr hrb) (Or.inr (Or.inr ⟨⟨by decide, by decide, by decide⟩, rfl, rfl⟩))
    by_cases h6 : s = incL
    · subst h6
      exact walk_name w T V incL 0 false hrb (fun w0 A c hr => one_inc hr hrb) (Or.inl ⟨Or.inl (by decide), rfl, rfl⟩)
    by_cases h7 : s = rateL
    · subst h7
      exact walk_name w T V rateL 0 false hrb (fun w0 A c hr => one_rate hr hrb) (Or.inl ⟨Or.inr ⟨by decide, by decide⟩, rfl, rfl⟩)
    have cF := fun W => winFn_no s h0 h1 h2 h3 h4 h5 h6 h7 W
    replace cF := Lib.hid cF
    clear h0 h1 h2 h3 h4 h5 h6 h7
    obtain ⟨WW, hWW⟩ : ∃ WW, WW = (w.alloc (.cells #[.int .i64 T, .int .i64 V] 23)).alloc (.cells #[.int .i64 T, .int .i64 V] 23) := ⟨_, rfl⟩
    have hrow : PtRow WW (some ⟨w.heap.size + 1, 0, none⟩) 1 [(T, V)] := by
      have h := row_new2 (w.alloc (.cells #[.int .i64 T, .int .i64 V] 23)) #[.int .i64 T, .int .i64 V] 23 1 2 rfl
      rw [hWW]
      rwa [show (w.alloc (.cells #[.int .i64 T, .int .i64 V] 23)).heap.size = w.heap.size + 1 by simp] at h
    have gW : Gr w WW := by rw [hWW]; exact gr_trans (gr_alloc _ _ none) (gr_alloc _ _ none)
    have cP := refPoints_any (some ⟨w.heap.size + 1, 0, none⟩) 1 1 [(T, V)] WW (by omega) hrow
    rw [hrb] at cP
    clear hrow hrb
    replace cP := Lib.hid cP
    replace gW := Lib.hid gW
    go_enter Try.func3, Try.ntmps3
    go_wp2_with fail
    rw [← hWW]
    refine cP.out.mono ?_
    rintro e W1 ⟨rfl, g1⟩
    have hg1 := Lib.hid g1
    clear g1
    go_wp2_with fail
    refine (cF.out _).mono ?_
    rintro e W2 ⟨rfl, g2⟩
    have hg2 := Lib.hid (gr_trans hg1.out g2)
    clear g2
    go_wp2_with fail
    refine (alive_any _).mono ?_
    rintro e W3 ⟨rfl, g3⟩
    go_wp2
    go_ret
    exact ⟨rfl, gr_below (gr_trans gW.out (gr_trans hg2.out g3))⟩
  | false =>
    obtain ⟨WW, hWW⟩ : ∃ WW, WW = (w.alloc (.cells #[.int .i64 T, .int .i64 V] 23)).alloc (.cells #[.int .i64 T, .int .i64 V] 23) := ⟨_, rfl⟩
    have hrow : PtRow WW (some ⟨w.heap.size + 1, 0, none⟩) 1 [(T, V)] := by
      have h := row_new2 (w.alloc (.cells #[.int .i64 T, .int .i64 V] 23)) #[.int .i64 T, .int .i64 V] 23 1 2 rfl
      rw [hWW]
      rwa [show (w.alloc (.cells #[.int .i64 T, .int .i64 V] 23)).heap.size = w.heap.size + 1 by simp] at h
    have gW : Gr w WW := by rw [hWW]; exact gr_trans (gr_alloc _ _ none) (gr_alloc _ _ none)
    have cP := refPoints_any (some ⟨w.heap.size + 1, 0, none⟩) 1 1 [(T, V)] WW (by omega) hrow
    rw [hrb] at cP
    clear hrow hrb
    replace cP := Lib.hid cP
    replace gW := Lib.hid gW
    go_enter Try.func3, Try.ntmps3
    go_wp2_with fail
    rw [← hWW]
    refine cP.out.mono ?_
    rintro e W1 ⟨rfl, g1⟩
    have hg1 := Lib.hid g1
    clear g1
    go_wp2_with fail
    refine (alive_any _).mono ?_
    rintro e W3 ⟨rfl, g3⟩
    go_wp2
    go_ret
    exact ⟨rfl, gr_below (gr_trans gW.out (gr_trans hg1.out g3))⟩


set_option maxRecDepth 100000 in
theorem lifted (os : Os) (started : os.Started) (H : Type) (enc : TypeId × Value → H) :
    ReturnsInHanded {} Try.checked os 3 .any (Rows.windowOneSpec.pre6 enc Try.prog Try.f3 Rows.windowOneRow.domain false) (Rows.windowOneSpec.post enc Try.prog Try.f3 false true false false) := by
  refine returnsInHanded_of_change (C := Try.checked) own started (by kernel_rfl) Try.func3
    (ChangeSpec.witness6 (enc := enc) (C := Try.checked) false ⟨#[], #[.agg (Array.replicate 2 (.int .i64 0)), .string ByteArray.empty], []⟩ 8 (by kernel_rfl) (by kernel_rfl) (by kernel_rfl) (by kernel_rfl)) ?_
  intro W base args ds gs before hval0 hW hcnd _
  have hval : ∀ (j : Nat) t v, Try.f3.params[j]? = some t → args[j]? = some v → Value.okWide Try.prog W .any base t v := hval0
  have hW' := hW
  obtain ⟨p, q, hA0, hV, rfl, hfz, hnd⟩ := hW
  have hA : DataW.TrodAll enc Try.prog W 0 (fun _ => true) true Try.f3.params.toList args.toList ds p := hA0
  rw [Try.params3] at hA hval
  obtain ⟨v0, vs0, d0, ds0, p0, q0, hargs, rfl, rfl, h0, r0⟩ := trodAll_cons hA
  obtain ⟨v1, vs1, d1, ds1, p1, q1, rfl, rfl, rfl, h1, r1⟩ := trodAll_cons r0
  obtain ⟨rfl, rfl, rfl⟩ := trodAll_nil r1
  obtain rfl : args = #[v0, v1] := by cases args; simp_all
  obtain ⟨rfl, rfl⟩ := trodVars_none hV
  have k0 := h0
  have lt0 : ∀ x ∈ p0, x.block < W.heap.size := by obtain ⟨m, hm⟩ := k0; exact DataW.trod_lt m _ _ _ hm
  obtain ⟨z0, w0⟩ := pt1_open (hval 0 23 v0 rfl rfl) h0
  obtain ⟨a1, rfl, rfl, rfl, w1⟩ := open_string Try.underlying9 (hval 1 9 v1 rfl rfl) h1
  clear hA0 hval0
  refine (walk W v0 z0 w0 a1 w1).mono fun e W' ⟨he, bel⟩ => ?_
  subst he
  exact ⟨_, rfl, _, _, _, [], _, [], hW', trodAll_mk1 (shut_bool Try.underlying4 _), (trodAll_cons_mk (Below.trod laidOut (by kernel_rfl) (of_decide_eq_true (by kernel_rfl)) k0 bel lt0) (trodAll_cons_mk (shut_string Try.underlying9 w1) trodAll_mk0)), rfl, bel.frame _, fun h => by cases h⟩

theorem over : Rows.windowOneRow.holds Try.pinned (OpenSpec.ofChange Rows.windowOneSpec) :=
  OpenClaim.holds_of_wide 3 Try.f3 rfl rfl rfl rfl rfl rfl rfl ⟨rfl, rfl, rfl, rfl, rfl⟩ rfl rfl rfl rfl rfl (by kernel_rfl) Try.func3 (by kernel_rfl)
    (of_decide_eq_true (by kernel_rfl)) (by unfold Func.isWrapper; first | (rw [if_pos (by decide +kernel)]; kernel_rfl) | (rw [if_neg (by decide +kernel)]; exact ⟨rfl, rfl⟩))
    (fun os started H enc _ => lifted os started H enc)

/-- THE STATEMENT -/
theorem proved : Rows.WindowOneSaid := over
#print axioms proved
end Go.Proofs.Ytklflekldhhmcab.windowOne

