/-
  GuardLong holds of the program: for every input the call returns true and leaves what came in as it was. No condition.
-/
import Derived.Test.YtncokhgkojhdfaaRows
import Derived.Test.YtncokhgkojhdfaaGuardFrame
import Derived.WalkKit
import Derived.ProofKit
import Derived.OpenShut
import Derived.ShutString
import Derived.ChangeOld
import Derived.Below
import Derived.Deep.OwnRows
namespace Go.Proofs.Ytncokhgkojhdfaa.guardLong
open Go.ChangeShapes Go.WideShapes Go.ChangeAt Go.RowKit
open Go.ChangeMaps (open_string shut_string)
set_option linter.unusedVariables false

theorem own : ownKnob Try.prog.godebug = none := by kernel_rfl
theorem laidOut : laidOutB Try.prog = true := by kernel_rfl

theorem zeros_string (W : World) (n : Nat) : (convert 27 9 (.slice (some ⟨W.heap.size, 0, none⟩) n n)).run Try.prog (W.alloc (.cells (madeCells #[.int .u8 0] n) 5)) = .ok (.string (txt (List.replicate n 0))) (W.alloc (.cells (madeCells #[.int .u8 0] n) 5)) := by
  have h := run_string_cells (P := Try.prog) (W.alloc (.cells (madeCells #[.int .u8 0] n) 5)) 27 9 5 Try.underlying27 Try.underlying5 Try.underlying9 ⟨W.heap.size, 0, none⟩ (List.replicate n 0) n (fun j b hb => by
    have hj : j < n := by have := (List.getElem?_eq_some_iff.1 hb).1; simpa using this
    have hb0 : b = 0 := by rw [List.getElem?_replicate, if_pos hj] at hb; exact (Option.some.inj hb).symm
    have e : (⟨W.heap.size, 0, none⟩ : Addr).add j = ⟨W.heap.size, j, none⟩ := by unfold Addr.add; by_cases h0 : j = 0 <;> simp [h0]
    rw [e, World.cell?_alloc_new, ← Array.getElem?_toList, toList_madeCells_one, List.getElem?_replicate, if_pos hj, hb0]
    rfl)
  rwa [List.length_replicate] at h



set_option maxHeartbeats 2000000 in
set_option maxRecDepth 100000 in
theorem walk (w : World) (a0 : Int) (w0 : (Lit.int .i64 a0).wf = true) :
    Calls Try.prog 5 #[.int .i64 a0] w fun e w' => e = .returned (.bool true) ∧ Below w.heap.size w w' := by
  have x0 := rng_i64 w0
  clear w0
  by_cases c : 0 ≤ a0 ∧ a0 ≤ 20000
  · obtain ⟨n, rfl⟩ : ∃ n : Nat, a0 = n := ⟨a0.toNat, by omega⟩
    obtain ⟨c0, c1⟩ := c
    go_enter Try.func5, Try.ntmps5
    go_wp2_with fail
    refine (alive_any _).mono ?_
    rintro e W1 ⟨rfl, B1⟩
    have hmk := run_make_row' (P := Try.prog) 27 5 (.int .u8 0) 1 Try.underlying27 infoByte rfl .i64 .i64 n (by omega) (by omega) W1
    have hcv := zeros_string W1 n
    have G2 := gr_trans B1 (gr_alloc W1 (.cells (madeCells #[.int .u8 0] n) 5) none)
    generalize W1.alloc (.cells (madeCells #[.int .u8 0] n) 5) = W2 at *
    have hz : (txt (List.replicate n 0)).size = n := by rw [txt_size, List.length_replicate]
    have hlr : (List.replicate n (0 : UInt8)).length = n := List.length_replicate
    generalize List.replicate n (0 : UInt8) = L at *
    subst hlr
    replace hz := Lib.hid hz
    by_cases hn : L.length ≤ 12000
    · have hni : (L.length : Int) ≤ 12000 := by omega
      go_wp2_with fail
      refine (frame_any _ _ (by rw [hz.out]; exact hn)).mono ?_
      rintro e W3 ⟨rfl, g3⟩
      clear hmk hcv
      have hm : (txt (Crc.frm L)).size ≤ maxLen := by rw [txt_size, Crc.frm_length]; unfold maxLen; omega
      have ht : Crc.take (txt (Crc.frm L)).data.toList = (L, [], 0) := by
        have := Crc.take_frm L [] hn
        rwa [List.append_nil] at this
      replace ht := Lib.hid ht
      go_wp2_with fail
      refine (take_eq _ _ hm _ _ _ ht.out).mono ?_
      rintro e W4 ⟨rfl, g4⟩
      go_wp2
      go_ret
      exact ⟨rfl, gr_below (gr_trans (gr_trans G2 g3) g4)⟩
    · have hni : (12000 : Int) < (L.length : Int) := by omega
      go_wp2_with fail
      refine (frame_long _ _ (by rw [hz.out]; omega) (by rw [hz.out]; unfold maxLen; omega)).mono ?_
      rintro e W3 ⟨rfl, g3⟩
      clear hmk hcv
      go_wp2
      go_ret
      exact ⟨rfl, gr_below (gr_trans G2 g3)⟩
  · have c' : a0 < 0 ∨ (0 ≤ a0 ∧ 20000 < a0) := by omega
    clear c
    rcases c' with c | ⟨c1, c⟩
    all_goals
      go_enter Try.func5, Try.ntmps5
      go_wp2_with (go_at_call 8; refine (alive_any _).mono ?_; rintro e w1 ⟨rfl, B⟩)
      go_ret
      exact ⟨rfl, gr_below B⟩

set_option maxRecDepth 100000 in
theorem lifted (os : Os) (started : os.Started) (H : Type) (enc : TypeId × Value → H) :
    ReturnsInHanded {} Try.checked os 5 .any (Rows.guardLongSpec.pre6 enc Try.prog Try.f5 Rows.guardLongRow.domain false) (Rows.guardLongSpec.post enc Try.prog Try.f5 false true false false) := by
  refine returnsInHanded_of_change (C := Try.checked) own started (by kernel_rfl) Try.func5
    (ChangeSpec.witness6 (enc := enc) (C := Try.checked) false ⟨#[], #[.int .i64 0], []⟩ 8 (by kernel_rfl) (by kernel_rfl) (by kernel_rfl) (by kernel_rfl)) ?_
  intro W base args ds gs before hval0 hW hcnd _
  have hval : ∀ (j : Nat) t v, Try.f5.params[j]? = some t → args[j]? = some v → Value.okWide Try.prog W .any base t v := hval0
  have hW' := hW
  obtain ⟨p, q, hA0, hV, rfl, hfz, hnd⟩ := hW
  have hA : DataW.TrodAll enc Try.prog W 0 (fun _ => true) true Try.f5.params.toList args.toList ds p := hA0
  rw [Try.params5] at hA hval
  obtain ⟨v0, vs0, d0, ds0, p0, q0, hargs, rfl, rfl, h0, r0⟩ := trodAll_cons hA
  obtain ⟨rfl, rfl, rfl⟩ := trodAll_nil r0
  obtain rfl : args = #[v0] := by cases args; simp_all
  obtain ⟨rfl, rfl⟩ := trodVars_none hV
  obtain ⟨a0, rfl, rfl, rfl, w0⟩ := open_int Try.underlying3 (hval 0 3 v0 rfl rfl) h0
  clear hA0 hval0
  refine (walk W a0 w0).mono fun e W' ⟨he, bel⟩ => ?_
  subst he
  exact ⟨_, rfl, _, _, _, [], _, [], hW', trodAll_mk1 (shut_bool Try.underlying4 _), (trodAll_cons_mk (shut_int Try.underlying3 w0) trodAll_mk0), rfl, bel.frame _, fun h => by cases h⟩

theorem over : Rows.guardLongRow.holds Try.pinned (OpenSpec.ofChange Rows.guardLongSpec) :=
  OpenClaim.holds_of_wide 5 Try.f5 rfl rfl rfl rfl rfl rfl rfl ⟨rfl, rfl, rfl, rfl, rfl⟩ rfl rfl rfl rfl rfl (by kernel_rfl) Try.func5 (by kernel_rfl)
    (of_decide_eq_true (by kernel_rfl)) (by unfold Func.isWrapper; first | (rw [if_pos (by decide +kernel)]; kernel_rfl) | (rw [if_neg (by decide +kernel)]; exact ⟨rfl, rfl⟩))
    (fun os started H enc _ => lifted os started H enc)

/-- THE STATEMENT -/
theorem proved : Rows.GuardLongSaid := over
#print axioms proved
end Go.Proofs.Ytncokhgkojhdfaa.guardLong

