/-
  ChestTurns holds of the program: for every input the call returns true and leaves what came in as it was. No condition.
-/
import Derived.Test.YtbkhopfoabdeiaaRows
import Derived.Test.YtbkhopfoabdeiaaChestR
import Derived.WalkKit
import Derived.ProofKit
import Derived.OpenShut
import Derived.ShutString
import Derived.ChangeOld
import Derived.Below
namespace Go.Proofs.Ytbkhopfoabdeiaa.chestTurns
open Go.ChangeShapes Go.WideShapes Go.ChangeAt Go.RowKit
open Go.ChangeMaps (open_string shut_string)
set_option linter.unusedVariables false

theorem own : ownKnob Try.prog.godebug = none := by kernel_rfl
theorem laidOut : laidOutB Try.prog = true := by kernel_rfl
theorem xor_bit (x y m : Nat) : (x ^^^ y) / 2 ^ m % 2 = (x / 2 ^ m % 2 + y / 2 ^ m % 2) % 2 := by
  have h : (x ^^^ y) / 2 ^ m = (x / 2 ^ m) ^^^ (y / 2 ^ m) := by
    rw [← Nat.shiftRight_eq_div_pow, ← Nat.shiftRight_eq_div_pow, ← Nat.shiftRight_eq_div_pow, Nat.shiftRight_xor_distrib]
  rw [h]
  have h2 : (x / 2 ^ m ^^^ y / 2 ^ m) % 2 = (x / 2 ^ m % 2) ^^^ (y / 2 ^ m % 2) := by
    have := Nat.xor_mod_two_pow (a := x / 2 ^ m) (b := y / 2 ^ m) (n := 1)
    simpa using this
  rw [h2]
  have ha : x / 2 ^ m % 2 = 0 ∨ x / 2 ^ m % 2 = 1 := by omega
  have hb : y / 2 ^ m % 2 = 0 ∨ y / 2 ^ m % 2 = 1 := by omega
  rcases ha with ha | ha <;> rcases hb with hb | hb <;> rw [ha, hb] <;> rfl
theorem and_bit (x y : UInt8) (m : Nat) : bits .and .u8 (bits .xor .u8 (y.toNat : Int) (x.toNat : Int) / 2 ^ m) 1 = (((y.toNat / 2 ^ m % 2 + x.toNat / 2 ^ m % 2) % 2 : Nat) : Int) := by
  rw [u8_xor_nat _ _ (UInt8.toNat_lt y) (UInt8.toNat_lt x)]
  have h1 : y.toNat ^^^ x.toNat < 256 := Nat.xor_lt_two_pow (n := 8) (UInt8.toNat_lt y) (UInt8.toNat_lt x)
  have h2 : (y.toNat ^^^ x.toNat) / 2 ^ m < 256 := Nat.lt_of_le_of_lt (Nat.div_le_self _ _) h1
  have h3 := u8_and_nat ((y.toNat ^^^ x.toNat) / 2 ^ m) 1 h2 (by omega)
  rw [nat_mask1, xor_bit] at h3
  rw [← h3]
  congr 1
set_option maxHeartbeats 16000000 in
set_option maxRecDepth 100000 in
theorem walk (w : World) (a0 : ByteArray) (w0 : a0.size ≤ maxLen) (a1 : Int) (w1 : (Lit.int .i64 a1).wf = true) (a2 : Int) (w2 : (Lit.int .u32 a2).wf = true) :
    Calls Try.prog 6 #[.string a0, .int .i64 a1, .int .u32 a2] w fun e w' => e = .returned (.bool true) ∧ Below w.heap.size w w' := by
  obtain ⟨b, rfl⟩ : ∃ s, a0 = txt s := ⟨_, (txt_of a0).symm⟩
  rw [txt_size] at w0
  unfold maxLen at w0
  have ht2 : 0 ≤ a2 ∧ a2 < 4294967296 := by
    have e1 : IntKind.u32.min = 0 := rfl
    have e2 : IntKind.u32.max = 4294967295 := rfl
    simp [Lit.wf] at w2
    omega
  obtain ⟨t, rfl⟩ : ∃ n : Nat, a2 = n := ⟨a2.toNat, by omega⟩
  have ht : t < 4294967296 := by omega
  have x1 := rng_i64 w1
  clear w1 w2 ht2
  by_cases c : 1 ≤ b.length ∧ b.length ≤ 500
  · obtain ⟨c1, c2⟩ := c
    have i1 : ¬ (b.length : Int) = 0 := by omega
    have i1b : ((b.length : Int) == 0) = false := eqF (by omega)
    have i2 : ¬ (500 : Int) < (b.length : Int) := by omega
    have hm8 : IntKind.i64.wrap (8 * (b.length : Int)) = 8 * (b.length : Int) := IntWalk.i64_in _ (by omega)
    obtain ⟨K, hK, hKl⟩ := cut_place a1 (8 * b.length) (by omega) (by omega)
    have hK2 : (wrap64 (a1.tmod (8 * (b.length : Int)) + 8 * (b.length : Int))).tmod (8 * (b.length : Int)) = (K : Int) := by
      rw [← hK]
      push_cast
      rfl
    obtain ⟨N, hN⟩ : ∃ N, N = min 32 (8 * b.length - K) := ⟨_, rfl⟩
    clear hK
    go_enter Try.func6, Try.ntmps6
    go_wp2_with fail
    refine (alive_any _).mono ?_
    rintro e W1 ⟨rfl, g1⟩
    go_wp2_with fail
    refine (cnew_any w W1 g1 1000 (by omega)).mono ?_
    rintro e W2 ⟨C, M, rfl, h2, _⟩
    have cC := create_one h2 (by omega) [102] rfl
    rw [show txt [102] = ⟨#[102]⟩ from rfl] at cC
    replace cC := Lib.hid cC
    clear g1 h2
    go_wp2_with fail
    refine cC.out.mono ?_
    rintro e W3 ⟨rfl, h3, _⟩
    have cA := append_one h3 (by omega) (by omega) b rfl (by simp only [List.length_nil]; omega)
    rw [show txt [102] = ⟨#[102]⟩ from rfl, List.nil_append] at cA
    replace cA := Lib.hid cA
    clear h3 cC
    go_wp2_with fail
    refine cA.out.mono ?_
    rintro e W4 ⟨rfl, h4, _⟩
    have cX := fix_one h4 (by omega) rfl (by omega)
    rw [show txt [102] = ⟨#[102]⟩ from rfl] at cX
    replace cX := Lib.hid cX
    clear h4 cA
    go_wp2_with fail
    refine cX.out.mono ?_
    rintro e W5 ⟨rfl, h5, _⟩
    have cR := rot_any h5 (by decide) (by omega) K t hKl ht
    rw [show txt [102] = ⟨#[102]⟩ from rfl, ← hN] at cR
    replace cR := Lib.hid cR
    clear h5 cX
    go_wp2_with fail
    refine cR.out.mono ?_
    rintro e W6 ⟨rfl, ⟨s, hs, h6⟩, _⟩
    have hsl := hs.len
    have cG := get_has h6 (by decide)
    rw [show txt [102] = ⟨#[102]⟩ from rfl] at cG
    replace cG := Lib.hid cG
    replace h6 := Lib.hid h6
    replace hs := Lib.hid hs
    clear cR
    go_wp2_with fail
    refine cG.out.mono ?_
    rintro e W7 ⟨rfl, g7⟩
    have h7 := ch_gr h6.out g7
    have hsI : (s.length : Int) = (b.length : Int) := by omega
    replace h7 := Lib.hid h7
    replace hN := Lib.hid hN
    clear h6 cG g7
    go_wp2_with fail
    go_loopw [11] (fun iv wr => ∃ i : Nat, i ≤ 8 * b.length ∧ iv = .int .i64 i ∧ Hid (Gr W7 wr)) (fun iv _ => 8 * b.length - (intOf iv).toNat)
    case atStart => exact ⟨0, Nat.zero_le _, rfl, Lib.hid (gr_refl _ _)⟩
    case round =>
      obtain ⟨i, hi, rfl, hg⟩ := hrel
      by_cases hlt : i < 8 * b.length
      · obtain ⟨x, hx⟩ : ∃ x, b[i / 8]? = some x := ⟨_, List.getElem?_eq_getElem (by omega)⟩
        obtain ⟨y, hy⟩ : ∃ y, s[i / 8]? = some y := ⟨_, List.getElem?_eq_getElem (by omega)⟩
        have hdf := trn_diff hs.out hx hy
        have hii : (i : Int) < 8 * (b.length : Int) := by omega
        have hi0 : (0 : Int) ≤ (i : Int) := by omega
        have hgy : (txt s)[i / 8]'(by rw [txt_size]; omega) = y := by
          obtain ⟨h1, h2⟩ := List.getElem?_eq_some_iff.1 hy
          rw [← h2]
          show s.toArray[i / 8] = s[i / 8]
          simp
        have hgx : (txt b)[i / 8]'(by rw [txt_size]; omega) = x := by
          obtain ⟨h1, h2⟩ := List.getElem?_eq_some_iff.1 hx
          rw [← h2]
          show b.toArray[i / 8] = b[i / 8]
          simp
        have hq1 : ((i : Int) / 8).toNat = i / 8 := by omega
        have hq2 : ((i : Int) % 8).toNat = i % 8 := by omega
        have hab := and_bit x y (7 - i % 8)
        rw [hdf] at hab
        have hk32 : IntKind.i64.wrap ((K : Int) + 32) = (K : Int) + 32 := IntWalk.i64_in _ (by omega)
        have hb8 : (i : Int) / 8 < (b.length : Int) := by omega
        have hs8 : (i : Int) / 8 < (s.length : Int) := by omega
        have hi8 : (0 : Int) ≤ (i : Int) / 8 := by omega
        replace hx := Lib.hid hx
        replace hy := Lib.hid hy
        clear hdf
        by_cases hA : K ≤ i
        · have hAi : (K : Int) ≤ (i : Int) := by omega
          by_cases hB : i < K + 32
          · have hBi : (i : Int) < (K : Int) + 32 := by omega
            have hd1 : IntKind.i64.wrap ((i : Int) - (K : Int)) = ((i - K : Nat) : Int) := by rw [IntWalk.i64_in _ (by omega)]; omega
            have hd2 : IntKind.i64.wrap (31 - ((i - K : Nat) : Int)) = ((31 - (i - K) : Nat) : Int) := by rw [IntWalk.i64_in _ (by omega)]; omega
            have hand := and_tb t (i - K) ht
            have htb : tb t (i - K) = 0 ∨ tb t (i - K) = 1 := by unfold tb; omega
            rcases htb with htb | htb
            · rw [htb] at hand
              rw [if_neg (fun h => by omega)] at hab
              replace htb := Lib.hid htb
              go_wp2_with fail
              go_quiet (fail)
              rename_i nq
              go_wp2_with fail
              go_roundw
              case rel => exact ⟨i + 1, by omega, by go_num, gr_trans hg.out (gr_drewN _ _ _)⟩
              case measure => simp [intOf]; omega
            · rw [htb] at hand
              rw [if_pos ⟨hA, by have := hN.out; omega, htb⟩] at hab
              replace htb := Lib.hid htb
              go_wp2_with fail
              go_quiet (fail)
              rename_i nq
              go_wp2_with fail
              go_roundw
              case rel => exact ⟨i + 1, by omega, by go_num, gr_trans hg.out (gr_drewN _ _ _)⟩
              case measure => simp [intOf]; omega
          · have hBi : ¬ (i : Int) < (K : Int) + 32 := by omega
            rw [if_neg (fun h => by have := hN.out; omega)] at hab
            go_wp2_with fail
            go_quiet (fail)
            rename_i nq
            go_wp2_with fail
            go_roundw
            case rel => exact ⟨i + 1, by omega, by go_num, gr_trans hg.out (gr_drewN _ _ _)⟩
            case measure => simp [intOf]; omega
        · have hAi : ¬ (K : Int) ≤ (i : Int) := by omega
          rw [if_neg (fun h => by omega)] at hab
          go_wp2_with fail
          go_quiet (fail)
          rename_i nq
          go_wp2_with fail
          go_roundw
          case rel => exact ⟨i + 1, by omega, by go_num, gr_trans hg.out (gr_drewN _ _ _)⟩
          case measure => simp [intOf]; omega
      · obtain rfl : i = 8 * b.length := by omega
        have h8 := ch_gr h7.out hg.out
        have cR := rot_any h8 (by decide) (by omega) K t (by omega) ht
        rw [show txt [102] = ⟨#[102]⟩ from rfl, hsl, ← hN.out] at cR
        replace cR := Lib.hid cR
        clear h8 h7 hg
        go_wp2_with fail
        refine cR.out.mono ?_
        rintro e W9 ⟨rfl, ⟨s2, hs2, h9⟩, _⟩
        obtain rfl : s2 = b := trn_twice hs.out hs2
        have cG := fun W (g : Gr W9 W) => get_has (ch_gr h9 g) (show ([102] : List UInt8).length ≤ 1000000 by decide)
        have cN := fun W (g : Gr W9 W) => rot_none (ch_gr h9 g) [103] (by decide) rfl 0 1
        have cO := fun W (g : Gr W9 W) => rot_out (ch_gr h9 g) (show ([102] : List UInt8).length ≤ 1000000 by decide) (by omega) 1
        rw [show txt [102] = ⟨#[102]⟩ from rfl] at cG cO
        rw [show txt [103] = ⟨#[103]⟩ from rfl] at cN
        have hend := h9.gr
        replace cG := Lib.hid cG
        replace cN := Lib.hid cN
        replace cO := Lib.hid cO
        replace hend := Lib.hid hend
        clear h9 hs2 cR hs
        go_wp2_with fail
        refine (cG.out _ (gr_refl _ _)).mono ?_
        rintro e W10 ⟨rfl, g10⟩
        go_wp2_with fail
        refine (cN.out _ g10).mono ?_
        rintro e W11 ⟨rfl, g11⟩
        have g12 := gr_trans g10 g11
        go_wp2_with fail
        refine (cO.out _ g12).mono ?_
        rintro e W13 ⟨rfl, g13⟩
        go_wp2
        go_ret
        exact ⟨rfl, gr_below (gr_trans hend.out (gr_trans g12 g13))⟩
  · by_cases d0 : b.length = 0
    · have hb : b = [] := List.eq_nil_of_length_eq_zero d0
      subst hb
      clear c
      have j0 : txt [] = ⟨#[]⟩ := rfl
      rw [j0]
      go_enter Try.func6, Try.ntmps6
      go_wp2_with fail
      refine (alive_any _).mono ?_
      rintro e W1 ⟨rfl, g1⟩
      go_wp2
      go_ret
      exact ⟨rfl, gr_below g1⟩
    · have d1 : (500 : Int) < (b.length : Int) := by omega
      have d2 : ¬ (b.length : Int) = 0 := by omega
      have d3 : ((b.length : Int) == 0) = false := eqF (by omega)
      clear c
      go_enter Try.func6, Try.ntmps6
      go_wp2_with fail
      refine (alive_any _).mono ?_
      rintro e W1 ⟨rfl, g1⟩
      go_wp2
      go_ret
      exact ⟨rfl, gr_below g1⟩



set_option maxRecDepth 100000 in
theorem lifted (os : Os) (started : os.Started) (H : Type) (enc : TypeId × Value → H) :
    ReturnsInHanded {} Try.checked os 6 .any (Rows.chestTurnsSpec.pre6 enc Try.prog Try.f6 Rows.chestTurnsRow.domain false) (Rows.chestTurnsSpec.post enc Try.prog Try.f6 false true false false) := by
  refine returnsInHanded_of_change (C := Try.checked) own started (by kernel_rfl) Try.func6
    (ChangeSpec.witness6 (enc := enc) (C := Try.checked) false ⟨#[], #[.string ByteArray.empty, .int .i64 0, .int .u32 0], []⟩ 8 (by kernel_rfl) (by kernel_rfl) (by kernel_rfl) (by kernel_rfl)) ?_
  intro W base args ds gs before hval0 hW hcnd _
  have hval : ∀ (j : Nat) t v, Try.f6.params[j]? = some t → args[j]? = some v → Value.okWide Try.prog W .any base t v := hval0
  have hW' := hW
  obtain ⟨p, q, hA0, hV, rfl, hfz, hnd⟩ := hW
  have hA : DataW.TrodAll enc Try.prog W 0 (fun _ => true) true Try.f6.params.toList args.toList ds p := hA0
  rw [Try.params6] at hA hval
  obtain ⟨v0, vs0, d0, ds0, p0, q0, hargs, rfl, rfl, h0, r0⟩ := trodAll_cons hA
  obtain ⟨v1, vs1, d1, ds1, p1, q1, rfl, rfl, rfl, h1, r1⟩ := trodAll_cons r0
  obtain ⟨v2, vs2, d2, ds2, p2, q2, rfl, rfl, rfl, h2, r2⟩ := trodAll_cons r1
  obtain ⟨rfl, rfl, rfl⟩ := trodAll_nil r2
  obtain rfl : args = #[v0, v1, v2] := by cases args; simp_all
  obtain ⟨rfl, rfl⟩ := trodVars_none hV
  obtain ⟨a0, rfl, rfl, rfl, w0⟩ := open_string Try.underlying9 (hval 0 9 v0 rfl rfl) h0
  obtain ⟨a1, rfl, rfl, rfl, w1⟩ := open_int Try.underlying3 (hval 1 3 v1 rfl rfl) h1
  obtain ⟨a2, rfl, rfl, rfl, w2⟩ := open_int Try.underlying39 (hval 2 39 v2 rfl rfl) h2
  clear hA0 hval0
  refine (walk W a0 w0 a1 w1 a2 w2).mono fun e W' ⟨he, bel⟩ => ?_
  subst he
  exact ⟨_, rfl, _, _, _, [], _, [], hW', trodAll_mk1 (shut_bool Try.underlying4 _), (trodAll_cons_mk (shut_string Try.underlying9 w0) (trodAll_cons_mk (shut_int Try.underlying3 w1) (trodAll_cons_mk (shut_int Try.underlying39 w2) trodAll_mk0))), rfl, bel.frame _, fun h => by cases h⟩

theorem over : Rows.chestTurnsRow.holds Try.pinned (OpenSpec.ofChange Rows.chestTurnsSpec) :=
  OpenClaim.holds_of_wide 6 Try.f6 rfl rfl rfl rfl rfl rfl rfl ⟨rfl, rfl, rfl, rfl, rfl⟩ rfl rfl rfl rfl rfl (by kernel_rfl) Try.func6 (by kernel_rfl)
    (of_decide_eq_true (by kernel_rfl)) (by unfold Func.isWrapper; first | (rw [if_pos (by decide +kernel)]; kernel_rfl) | (rw [if_neg (by decide +kernel)]; exact ⟨rfl, rfl⟩))
    (fun os started H enc _ => lifted os started H enc)

/-- THE STATEMENT -/
theorem proved : Rows.ChestTurnsSaid := over
#print axioms proved
end Go.Proofs.Ytbkhopfoabdeiaa.chestTurns

