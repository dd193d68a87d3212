/-
  GuardBursts holds of the program: for every input the call returns true and leaves what came in as it was. No condition.
-/
import Derived.Test.YtncokhgkojhdfaaRows
import Derived.Test.YtncokhgkojhdfaaGuardBurstMath
import Derived.WalkKit
import Derived.ProofKit
import Derived.OpenShut
import Derived.ShutString
import Derived.ChangeOld
import Derived.Below
namespace Go.Proofs.Ytncokhgkojhdfaa.guardBursts
open Go.ChangeShapes Go.WideShapes Go.ChangeAt Go.RowKit
open Go.ChangeMaps (open_string shut_string)
set_option linter.unusedVariables false

theorem own : ownKnob Try.prog.godebug = none := by kernel_rfl
theorem laidOut : laidOutB Try.prog = true := by kernel_rfl

/-- The loop's end: every bit that is asked for is turned. -/
def BurstRel (w : World) (b : Nat) (l : List UInt8) (K : Nat) (t i : Value) (wr : World) : Prop :=
  ∃ (j : Nat) (l' : List UInt8) (tb : Bool), j ≤ 32 ∧ i = .int .i64 j ∧ t = .bool tb ∧ Bts 5 wr b l' ∧ Crc.Turned l l' K j tb ∧ Below w.heap.size w wr

set_option maxHeartbeats 4000000 in
set_option maxRecDepth 100000 in
theorem walk (w : World) (a0 : ByteArray) (w0 : a0.size ≤ maxLen) (a1 : Int) (w1 : (Lit.int .i64 a1).wf = true) (a2 : Int) (w2 : (Lit.int .u32 a2).wf = true) (a3 : ByteArray) (w3 : a3.size ≤ maxLen) :
    Calls Try.prog 3 #[.string a0, .int .i64 a1, .int .u32 a2, .string a3] w fun e w' => e = .returned (.bool true) ∧ Below w.heap.size w w' := by
  have x1 := rng_i64 w1
  have x2 : 0 ≤ a2 ∧ a2 ≤ 4294967295 := by simpa [Lit.wf, IntKind.min, IntKind.max, IntKind.signed, IntKind.bits] using w2
  clear w1 w2
  by_cases c : (a0.size : Int) ≤ 2000 ∧ (a3.size : Int) ≤ 100 ∧ a2 ≠ 0
  · obtain ⟨c1, c2, c3⟩ := c
    have cz : (a2 == 0) = false := eqF c3
    replace c3 := Lib.hid c3
    obtain ⟨t, ht⟩ : ∃ t : Nat, a2 = t := ⟨a2.toNat, by omega⟩
    subst ht
    have htl : t < 4294967296 := by omega
    go_enter Try.func3, Try.ntmps3
    go_wp2_with fail
    refine (alive_any _).mono ?_
    rintro e W1 ⟨rfl, B1⟩
    go_wp2_with fail
    refine (frame_any _ _ (by omega)).mono ?_
    rintro e W2 ⟨rfl, B2⟩
    obtain ⟨S, hS⟩ : ∃ S, S = a0.data.toList := ⟨_, rfl⟩
    have hSl : S.length = a0.size := by rw [hS]; simp
    rw [← hS]
    replace hS := Lib.hid hS
    have hfs : (txt (Crc.frm S)).size = a0.size + 10 := by rw [txt_size, Crc.frm_length, hSl]
    have hfe : (((Crc.frm S).length : Nat) : Int) = (a0.size : Int) + 10 := by rw [Crc.frm_length, hSl]; rfl
    replace hSl := Lib.hid hSl
    have hcv := run_to_bytes (P := Try.prog) 9 27 5 (txt (Crc.frm S)) Try.underlying9 Try.underlying27 Try.underlying5 W2
    have hg2 := bW_gr 5 W2 (txt (Crc.frm S))
    have hbt := bW_bts 5 W2 (txt (Crc.frm S))
    obtain ⟨b, hb⟩ : ∃ b, b = W2.heap.size := ⟨_, rfl⟩
    have G2 := gr_trans B1 B2
    have hbs : w.heap.size ≤ b := by rw [hb]; exact G2.size
    rw [← hb, hfs] at hcv
    rw [← hb, txt_data] at hbt
    clear hb
    generalize bW 5 W2 (txt (Crc.frm S)) = W3 at *
    generalize bC 5 W2 (txt (Crc.frm S)) = cc at *
    have G3 := gr_trans G2 hg2
    clear hg2 G2 B2 B1
    go_upto_region 7 with fail
    clear hcv
    go_cut [12] (fun s12 wx => ∃ K : Nat, s12 = .int .i64 K ∧ K < 8 * (a0.size + 10) ∧ W3 = wx)
    case first =>
      go_wp2_with fail
      go_meet
      obtain ⟨K, hK, hl⟩ := cut_place a1 (8 * (a0.size + 10)) (by omega) (by omega)
      refine ⟨K, ?_, hl, rfl⟩
      rw [← hK]
      simp
    case rest =>
      obtain ⟨K, rfl, hK, rfl⟩ := hcut
      go_wp2_with fail
      go_loopw [13, 14] (BurstRel w b (Crc.frm S) K) (fun _ i _ => 32 - (intOf i).toNat)
      case atStart => exact ⟨0, _, false, by omega, rfl, rfl, hbt, Crc.turned_start _ _, gr_below G3⟩
      case round =>
        obtain ⟨j, l', tb, hj, rfl, rfl, hbt, htu, hbel⟩ := hrel
        have hll : l'.length = a0.size + 10 := by rw [htu.len, Crc.frm_length, hSl.out]
        by_cases hlt : j < 32 ∧ K + j < 8 * (a0.size + 10)
        · obtain ⟨hlt, hkj⟩ := hlt
          obtain ⟨x, hx⟩ : ∃ x, l'[(K + j) / 8]? = some x := ⟨_, List.getElem?_eq_getElem (by omega)⟩
          have hc := bts_cell hbt hx
          have hf := bts_free hbt (j := (K + j) / 8) (by omega)
          unfold byteV at hc
          replace hx := Lib.hid hx
          replace hbt := Lib.hid hbt
          replace htu := Lib.hid htu
          replace hbel := Lib.hid hbel
          replace hll := Lib.hid hll
          have hv1 := Crc.flip_walk8 x ((K + j) % 8)
          have hq1 : (((K : Int) + (j : Int)) / 8).toNat = (K + j) / 8 := by omega
          have hq2 : (((K : Int) + (j : Int)) % 8).toNat = (K + j) % 8 := by omega
          have hq0 : IntKind.i64.wrap ((K : Int) + (j : Int)) = (K : Int) + (j : Int) := IntWalk.i64_in _ (by omega)
          go_wp2_with fail
          · go_region
            go_wp2_with fail
            go_roundw
            case rel => exact ⟨j + 1, _, true, by omega, by go_num, rfl, bts_keep (bts_set hbt.out _ _) (gr_drew _ none) (by simp), Crc.turned_flip htu.out hx.out, (hbel.out.setCell (p := ⟨b, (K + j) / 8, none⟩) hbs _).drew⟩
            case measure => simp [intOf]; omega
          · go_roundw
            case rel => exact ⟨j + 1, l', tb, by omega, by go_num, rfl, hbt.out, Crc.turned_skip htu.out, hbel.out⟩
            case measure => simp [intOf]; omega
        · have hcv := run_of_bytes (P := Try.prog) 27 9 5 Try.underlying27 Try.underlying5 Try.underlying9 hbt cc (a0.size + 10) hll.symm
          have hsame : ∀ p, p < K ∨ K + 32 ≤ p → (Crc.bitsL l')[p]? = (Crc.bitsL (Crc.frm S))[p]? := by
            intro p hp
            by_cases hpl : p < 8 * (a0.size + 10)
            · exact htu.same p (by omega)
            · rw [List.getElem?_eq_none (by rw [Crc.bitsL_length]; omega), List.getElem?_eq_none (by rw [Crc.bitsL_length, Crc.frm_length, hSl.out]; omega)]
          replace hbt := Lib.hid hbt
          replace hbel := Lib.hid hbel
          have hlz : (txt l').size = a0.size + 10 := by rw [txt_size, hll]
          have hsz : (txt l' ++ a3).size ≤ maxLen := by rw [ByteArray.size_append, hlz]; unfold maxLen; omega
          have hdat : (txt l' ++ a3).data.toList = l' ++ a3.data.toList := by simp [ByteArray.data_append, txt]
          replace hdat := Lib.hid hdat
          replace hlz := Lib.hid hlz
          replace hll := Lib.hid hll
          have hllb : l'.length ≤ 3000 := by have := hll.out; omega
          replace hsame := Lib.hid hsame
          have hend : 32 ≤ j ∨ (j < 32 ∧ 8 * (a0.size + 10) ≤ K + j) := by omega
          have hq0 : IntKind.i64.wrap ((K : Int) + (j : Int)) = (K : Int) + (j : Int) := IntWalk.i64_in _ (by omega)
          clear hlt
          cases tb with
          | false =>
            replace htu := Lib.hid htu
            rcases hend with hend | ⟨hend1, hend⟩
            all_goals
              go_wp2
              go_ret
              exact ⟨rfl, hbel.out⟩
          | true =>
            have htk := Crc.burst_take S a3.data.toList (by rw [hSl.out]; omega) l' K htu.len hsame.out (Crc.turned_ne htu)
            replace htu := Lib.hid htu
            rw [← hdat.out] at htk
            replace htk := Lib.hid htk
            rcases hend with hend | ⟨hend1, hend⟩
            all_goals
              go_wp2_with fail
              refine (take_eq _ _ hsz _ _ _ htk.out).mono ?_
              rintro e W5 ⟨rfl, g5⟩
              go_wp2
              go_ret
              exact ⟨rfl, below_gr hbel.out g5 hbel.out.size (by simp)⟩
  · have c' : (2000 : Int) < a0.size ∨ ((a0.size : Int) ≤ 2000 ∧ (100 : Int) < a3.size) ∨ ((a0.size : Int) ≤ 2000 ∧ (a3.size : Int) ≤ 100 ∧ a2 = 0) := by omega
    clear c
    rcases c' with c | ⟨c1, c⟩ | ⟨c1, c2, rfl⟩
    all_goals
      go_enter Try.func3, Try.ntmps3
      go_wp2_with (go_at_call 8; refine (alive_any _).mono ?_; rintro e w1 ⟨rfl, B⟩)
      go_ret
      exact ⟨rfl, gr_below B⟩

set_option maxRecDepth 100000 in
theorem lifted (os : Os) (started : os.Started) (H : Type) (enc : TypeId × Value → H) :
    ReturnsInHanded {} Try.checked os 3 .any (Rows.guardBurstsSpec.pre6 enc Try.prog Try.f3 Rows.guardBurstsRow.domain false) (Rows.guardBurstsSpec.post enc Try.prog Try.f3 false true false false) := by
  refine returnsInHanded_of_change (C := Try.checked) own started (by kernel_rfl) Try.func3
    (ChangeSpec.witness6 (enc := enc) (C := Try.checked) false ⟨#[], #[.string ByteArray.empty, .int .i64 0, .int .u32 0, .string ByteArray.empty], []⟩ 8 (by kernel_rfl) (by kernel_rfl) (by kernel_rfl) (by kernel_rfl)) ?_
  intro W base args ds gs before hval0 hW hcnd _
  have hval : ∀ (j : Nat) t v, Try.f3.params[j]? = some t → args[j]? = some v → Value.okWide Try.prog W .any base t v := hval0
  have hW' := hW
  obtain ⟨p, q, hA0, hV, rfl, hfz, hnd⟩ := hW
  have hA : DataW.TrodAll enc Try.prog W 0 (fun _ => true) true Try.f3.params.toList args.toList ds p := hA0
  rw [Try.params3] at hA hval
  obtain ⟨v0, vs0, d0, ds0, p0, q0, hargs, rfl, rfl, h0, r0⟩ := trodAll_cons hA
  obtain ⟨v1, vs1, d1, ds1, p1, q1, rfl, rfl, rfl, h1, r1⟩ := trodAll_cons r0
  obtain ⟨v2, vs2, d2, ds2, p2, q2, rfl, rfl, rfl, h2, r2⟩ := trodAll_cons r1
  obtain ⟨v3, vs3, d3, ds3, p3, q3, rfl, rfl, rfl, h3, r3⟩ := trodAll_cons r2
  obtain ⟨rfl, rfl, rfl⟩ := trodAll_nil r3
  obtain rfl : args = #[v0, v1, v2, v3] := by cases args; simp_all
  obtain ⟨rfl, rfl⟩ := trodVars_none hV
  obtain ⟨a0, rfl, rfl, rfl, w0⟩ := open_string Try.underlying9 (hval 0 9 v0 rfl rfl) h0
  obtain ⟨a1, rfl, rfl, rfl, w1⟩ := open_int Try.underlying3 (hval 1 3 v1 rfl rfl) h1
  obtain ⟨a2, rfl, rfl, rfl, w2⟩ := open_int Try.underlying22 (hval 2 22 v2 rfl rfl) h2
  obtain ⟨a3, rfl, rfl, rfl, w3⟩ := open_string Try.underlying9 (hval 3 9 v3 rfl rfl) h3
  clear hA0 hval0
  refine (walk W a0 w0 a1 w1 a2 w2 a3 w3).mono fun e W' ⟨he, bel⟩ => ?_
  subst he
  exact ⟨_, rfl, _, _, _, [], _, [], hW', trodAll_mk1 (shut_bool Try.underlying4 _), (trodAll_cons_mk (shut_string Try.underlying9 w0) (trodAll_cons_mk (shut_int Try.underlying3 w1) (trodAll_cons_mk (shut_int Try.underlying22 w2) (trodAll_cons_mk (shut_string Try.underlying9 w3) trodAll_mk0)))), rfl, bel.frame _, fun h => by cases h⟩

theorem over : Rows.guardBurstsRow.holds Try.pinned (OpenSpec.ofChange Rows.guardBurstsSpec) :=
  OpenClaim.holds_of_wide 3 Try.f3 rfl rfl rfl rfl rfl rfl rfl ⟨rfl, rfl, rfl, rfl, rfl⟩ rfl rfl rfl rfl rfl (by kernel_rfl) Try.func3 (by kernel_rfl)
    (of_decide_eq_true (by kernel_rfl)) (by unfold Func.isWrapper; first | (rw [if_pos (by decide +kernel)]; kernel_rfl) | (rw [if_neg (by decide +kernel)]; exact ⟨rfl, rfl⟩))
    (fun os started H enc _ => lifted os started H enc)

/-- THE STATEMENT -/
theorem proved : Rows.GuardBurstsSaid := over
#print axioms proved
end Go.Proofs.Ytncokhgkojhdfaa.guardBursts

