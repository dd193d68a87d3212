/-
  GuardBits holds of the program: for every input the call returns true and leaves what came in as it was. No condition.
-/
import Derived.Test.YtncokhgkojhdfaaRows
import Derived.Test.YtncokhgkojhdfaaGuardFrame
import Derived.WalkKit
import Derived.ProofKit
import Derived.OpenShut
import Derived.ShutString
import Derived.ChangeOld
import Derived.Below
namespace Go.Proofs.Ytncokhgkojhdfaa.guardBits
open Go.ChangeShapes Go.WideShapes Go.ChangeAt Go.RowKit
open Go.ChangeMaps (open_string shut_string)
set_option linter.unusedVariables false

theorem own : ownKnob Try.prog.godebug = none := by kernel_rfl
theorem laidOut : laidOutB Try.prog = true := by kernel_rfl

set_option maxHeartbeats 2000000 in
set_option maxRecDepth 100000 in
theorem walk (w : World) (a0 : ByteArray) (w0 : a0.size ≤ maxLen) (a1 : Int) (w1 : (Lit.int .i64 a1).wf = true) :
    Calls Try.prog 4 #[.string a0, .int .i64 a1] w fun e w' => e = .returned (.bool true) ∧ Below w.heap.size w w' := by
  have x1 := rng_i64 w1
  clear w1
  by_cases c : (1 : Int) ≤ a0.size ∧ (a0.size : Int) ≤ 2000
  · obtain ⟨c1, c2⟩ := c
    have cz : ((a0.size : Int) == 0) = false := eqF (by omega)
    go_enter Try.func4, Try.ntmps4
    go_wp2_with fail
    refine (alive_any _).mono ?_
    rintro e W1 ⟨rfl, B1⟩
    go_upto_region 3 with fail
    go_cut [5] (fun s5 wx => ∃ K : Nat, s5 = .int .i64 K ∧ K < 8 * a0.size ∧ W1 = wx)
    case first =>
      go_wp2_with fail
      go_meet
      obtain ⟨K, hK, hl⟩ := cut_place a1 (8 * a0.size) (by omega) (by omega)
      refine ⟨K, ?_, hl, rfl⟩
      rw [← hK]
      simp
    case rest =>
      obtain ⟨K, rfl, hK, rfl⟩ := hcut
      have hcv := run_to_bytes (P := Try.prog) 9 27 5 a0 Try.underlying9 Try.underlying27 Try.underlying5 W1
      have hg2 := bW_gr 5 W1 a0
      have hbt := bW_bts 5 W1 a0
      have hlen : a0.data.toList.length = a0.size := by simp
      obtain ⟨l, hl⟩ : ∃ l, l = a0.data.toList := ⟨_, rfl⟩
      rw [← hl] at hbt hlen
      replace hl := Lib.hid hl
      replace hlen := Lib.hid hlen
      obtain ⟨b, hb⟩ : ∃ b, b = W1.heap.size := ⟨_, rfl⟩
      have hbs : w.heap.size ≤ b := by rw [hb]; exact B1.size
      rw [← hb] at hcv hbt
      clear hb
      generalize bW 5 W1 a0 = W2 at *
      generalize bC 5 W1 a0 = cc at *
      have G2 := gr_trans B1 hg2
      clear hg2 B1
      have hJ : K / 8 < a0.size := by omega
      obtain ⟨x, hx⟩ : ∃ x, l[K / 8]? = some x := ⟨_, List.getElem?_eq_getElem (by rw [hlen.out]; exact hJ)⟩
      have hc := bts_cell hbt hx
      have hf := bts_free hbt (j := K / 8) (by rw [hlen.out]; exact hJ)
      replace hx := Lib.hid hx
      replace hbt := Lib.hid hbt
      unfold byteV at hc
      have hv1 := Crc.flip_walk8 x (K % 8)
      have hbt1 : Bts 5 (W2.setCell ⟨b, K / 8, none⟩ (byteV (Crc.flipB x (K % 8)))).drew b (l.set (K / 8) (Crc.flipB x (K % 8))) := bts_keep (bts_set hbt.out _ _) (gr_drew _ none) (by simp)
      have hcv1 := run_of_bytes (P := Try.prog) 27 9 5 Try.underlying27 Try.underlying5 Try.underlying9 hbt1 cc a0.size (by rw [List.length_set]; exact hlen.out.symm)
      unfold byteV at hbt1 hcv1
      have G3 : Below w.heap.size w (W2.setCell ⟨b, K / 8, none⟩ (Value.int .u8 ((Crc.flipB x (K % 8)).toNat : Int))).drew := ((gr_below G2).setCell hbs _).drew
      replace G3 := Lib.hid G3
      replace hbt1 := Lib.hid hbt1
      go_wp2_with fail
      clear hcv
      go_region
      go_wp2_with fail
      have hm1 : (txt (l.set (K / 8) (Crc.flipB x (K % 8)))).size ≤ maxLen := by rw [txt_size, List.length_set, hlen.out]; exact w0
      refine (of_any _ _ hm1).mono ?_
      rintro e W4 ⟨rfl, rfl⟩
      generalize (W2.setCell ⟨b, K / 8, none⟩ (Value.int .u8 ((Crc.flipB x (K % 8)).toNat : Int))).drew = W3 at *
      clear hcv1 hc hf hv1
      have hx1 : (l.set (K / 8) (Crc.flipB x (K % 8)))[K / 8]? = some (Crc.flipB x (K % 8)) := by rw [List.getElem?_set, if_pos rfl, if_pos (by rw [hlen.out]; exact hJ)]
      have hc1 := bts_cell hbt1.out hx1
      have hf1 := bts_free hbt1.out (j := K / 8) (by rw [List.length_set, hlen.out]; exact hJ)
      unfold byteV at hc1
      have hv2 := Crc.flip_walk8 (Crc.flipB x (K % 8)) (K % 8)
      rw [Crc.flipB_flipB] at hv2
      have hll : (l.set (K / 8) (Crc.flipB x (K % 8))).set (K / 8) x = l := by
        rw [List.set_set]
        obtain ⟨h1, h2⟩ := List.getElem?_eq_some_iff.1 hx.out
        rw [← h2, List.set_getElem_self]
      have hbt2 : Bts 5 (W3.setCell ⟨b, K / 8, none⟩ (byteV x)).drew b l := by
        have := bts_keep (bts_set hbt1.out (K / 8) x) (gr_drew _ none) (by simp)
        rwa [hll] at this
      have hcv2 := run_of_bytes (P := Try.prog) 27 9 5 Try.underlying27 Try.underlying5 Try.underlying9 hbt2 cc a0.size hlen.out.symm
      have G4 : Below w.heap.size w (W3.setCell ⟨b, K / 8, none⟩ (byteV x)).drew := (G3.out.setCell hbs _).drew
      unfold byteV at hcv2 G4
      replace G4 := Lib.hid G4
      have hne := Crc.sum_flip l K x hx.out
      have hnf : (((Crc.sum (l.set (K / 8) (Crc.flipB x (K % 8))) : Nat) : Int) == ((Crc.sum l : Nat) : Int)) = false := eqF (by omega)
      have h0 : txt l = a0 := by rw [hl.out]; exact txt_of a0
      have hal : a0.data.toList = l := by rw [← h0]; rfl
      rw [h0] at hcv2
      replace hll := Lib.hid hll
      replace hx1 := Lib.hid hx1
      replace h0 := Lib.hid h0
      have hnt : (((Crc.sum (l.set (K / 8) (Crc.flipB x (K % 8))) : Nat) : Int) != ((Crc.sum l : Nat) : Int)) = true := by rw [bne, hnf]; rfl
      have hnn : (Crc.sum (l.set (K / 8) (Crc.flipB x (K % 8))) == Crc.sum l) = false := by rw [beq_eq_false_iff_ne]; exact hne
      clear hbt2
      go_wp2_with fail
      go_region
      go_wp2_with fail
      refine (of_any _ _ w0).mono ?_
      rintro e W5 ⟨rfl, rfl⟩
      go_wp2_with fail
      refine (of_any _ _ w0).mono ?_
      rintro e W5 ⟨rfl, rfl⟩
      go_wp2_with fail
      refine (of_any _ _ w0).mono ?_
      rintro e W5 ⟨rfl, rfl⟩
      go_wp2
      go_ret
      exact ⟨rfl, G4.out⟩
  · have c' : (a0.size : Int) = 0 ∨ (1 ≤ (a0.size : Int) ∧ 2000 < (a0.size : Int)) := by omega
    clear c
    rcases c' with c | ⟨c1, c⟩
    · have cz : ((a0.size : Int) == 0) = true := eqT (by omega)
      replace c := Lib.hid c
      go_enter Try.func4, Try.ntmps4
      go_wp2_with (go_at_call 8; refine (alive_any _).mono ?_; rintro e w1 ⟨rfl, B⟩)
      go_ret
      exact ⟨rfl, gr_below B⟩
    · have cz : ((a0.size : Int) == 0) = false := eqF (by omega)
      go_enter Try.func4, Try.ntmps4
      go_wp2_with (go_at_call 8; refine (alive_any _).mono ?_; rintro e w1 ⟨rfl, B⟩)
      go_ret
      exact ⟨rfl, gr_below B⟩

set_option maxRecDepth 100000 in
theorem lifted (os : Os) (started : os.Started) (H : Type) (enc : TypeId × Value → H) :
    ReturnsInHanded {} Try.checked os 4 .any (Rows.guardBitsSpec.pre6 enc Try.prog Try.f4 Rows.guardBitsRow.domain false) (Rows.guardBitsSpec.post enc Try.prog Try.f4 false true false false) := by
  refine returnsInHanded_of_change (C := Try.checked) own started (by kernel_rfl) Try.func4
    (ChangeSpec.witness6 (enc := enc) (C := Try.checked) false ⟨#[], #[.string ByteArray.empty, .int .i64 0], []⟩ 8 (by kernel_rfl) (by kernel_rfl) (by kernel_rfl) (by kernel_rfl)) ?_
  intro W base args ds gs before hval0 hW hcnd _
  have hval : ∀ (j : Nat) t v, Try.f4.params[j]? = some t → args[j]? = some v → Value.okWide Try.prog W .any base t v := hval0
  have hW' := hW
  obtain ⟨p, q, hA0, hV, rfl, hfz, hnd⟩ := hW
  have hA : DataW.TrodAll enc Try.prog W 0 (fun _ => true) true Try.f4.params.toList args.toList ds p := hA0
  rw [Try.params4] at hA hval
  obtain ⟨v0, vs0, d0, ds0, p0, q0, hargs, rfl, rfl, h0, r0⟩ := trodAll_cons hA
  obtain ⟨v1, vs1, d1, ds1, p1, q1, rfl, rfl, rfl, h1, r1⟩ := trodAll_cons r0
  obtain ⟨rfl, rfl, rfl⟩ := trodAll_nil r1
  obtain rfl : args = #[v0, v1] := by cases args; simp_all
  obtain ⟨rfl, rfl⟩ := trodVars_none hV
  obtain ⟨a0, rfl, rfl, rfl, w0⟩ := open_string Try.underlying9 (hval 0 9 v0 rfl rfl) h0
  obtain ⟨a1, rfl, rfl, rfl, w1⟩ := open_int Try.underlying3 (hval 1 3 v1 rfl rfl) h1
  clear hA0 hval0
  refine (walk W a0 w0 a1 w1).mono fun e W' ⟨he, bel⟩ => ?_
  subst he
  exact ⟨_, rfl, _, _, _, [], _, [], hW', trodAll_mk1 (shut_bool Try.underlying4 _), (trodAll_cons_mk (shut_string Try.underlying9 w0) (trodAll_cons_mk (shut_int Try.underlying3 w1) trodAll_mk0)), rfl, bel.frame _, fun h => by cases h⟩

theorem over : Rows.guardBitsRow.holds Try.pinned (OpenSpec.ofChange Rows.guardBitsSpec) :=
  OpenClaim.holds_of_wide 4 Try.f4 rfl rfl rfl rfl rfl rfl rfl ⟨rfl, rfl, rfl, rfl, rfl⟩ rfl rfl rfl rfl rfl (by kernel_rfl) Try.func4 (by kernel_rfl)
    (of_decide_eq_true (by kernel_rfl)) (by unfold Func.isWrapper; first | (rw [if_pos (by decide +kernel)]; kernel_rfl) | (rw [if_neg (by decide +kernel)]; exact ⟨rfl, rfl⟩))
    (fun os started H enc _ => lifted os started H enc)

/-- THE STATEMENT -/
theorem proved : Rows.GuardBitsSaid := over
#print axioms proved
end Go.Proofs.Ytncokhgkojhdfaa.guardBits

