/-
  GlyphSpells holds of the program: for every input the call returns true and leaves what came in as it was. No condition.
-/
import Derived.Test.YtfbjjjkmbpaejaaRows
import Derived.Test.YtfbjjjkmbpaejaaGlyphAlive
import Derived.Test.YtfbjjjkmbpaejaaRunesConv
import Derived.WalkKit
import Derived.ProofKit
import Derived.OpenShut
import Derived.ShutString
import Derived.ChangeOld
import Derived.Below
namespace Go.Proofs.Ytfbjjjkmbpaejaa.glyphSpells
open Go.ChangeShapes Go.WideShapes Go.ChangeAt Go.RowKit
open Go.ChangeMaps (open_string shut_string)
set_option linter.unusedVariables false

theorem own : ownKnob Try.prog.godebug = none := by kernel_rfl
theorem laidOut : laidOutB Try.prog = true := by kernel_rfl

theorem chunks_len_encs (X : List Int) : (chunks (encs X)).length = X.length := by
  have h := chunks_encs X []
  rw [List.append_nil, chunks_nil, List.append_nil] at h
  rw [h, List.length_map]
theorem runeV_encs (X : List Int) (t : List UInt8) : (chunks (encs X ++ t)).map runeV = (X.map fixR).map (.int .i32) ++ (chunks t).map runeV := by
  rw [chunks_encs, List.map_append, List.map_map, List.map_map]
  congr 1
  apply List.map_congr_left
  intro r _
  show Value.int .i32 (((fixR r).toNat : Nat) : Int) = Value.int .i32 (fixR r)
  have := (fixR_ok r).1
  rw [show (((fixR r).toNat : Nat) : Int) = fixR r by omega]
theorem runeV_encs1 (X : List Int) : (chunks (encs X)).map runeV = (X.map fixR).map (.int .i32) := by
  have := runeV_encs X []
  rwa [List.append_nil, chunks_nil, List.map_nil, List.append_nil] at this
theorem encs_append (X Y : List Int) : encs X ++ encs Y = encs (X ++ Y) := by simp [encs]
theorem get_x (X : List Int) (k : Nat) (h : k < X.length) : ((X.map fixR).map (Value.int .i32))[k]? = some (.int .i32 (fixR X[k])) := by simp [h]
theorem get_xl (X Y : List Int) (k : Nat) (h : k < X.length) : (((X ++ Y).map fixR).map (Value.int .i32))[k]? = some (.int .i32 (fixR X[k])) := by
  rw [List.map_append, List.map_append, List.getElem?_append_left (by simpa using h)]
  exact get_x X k h
theorem get_xr (X Y : List Int) (j : Nat) (h : j < Y.length) : (((X ++ Y).map fixR).map (Value.int .i32))[X.length + j]? = some (.int .i32 (fixR Y[j])) := by
  rw [List.map_append, List.map_append, List.getElem?_append_right (by simp)]
  simp only [List.length_map]
  rw [Nat.add_sub_cancel_left]
  exact get_x Y j h

set_option maxHeartbeats 4000000 in
set_option maxRecDepth 100000 in
theorem walk (w : World) (a0 : Option Addr) (len0 cap0 : Nat) (z0 : List Int) (w0 : IsRow .i32 w a0 len0 cap0 z0) (a1 : Option Addr) (len1 cap1 : Nat) (z1 : List Int) (w1 : IsRow .i32 w a1 len1 cap1 z1) :
    Calls Try.prog 6 #[.slice a0 len0 cap0, .slice a1 len1 cap1] w fun e w' => e = .returned (.bool true) ∧ Below w.heap.size w w' := by
  have hr0 := row_isRow w0
  have hr1 := row_isRow w1
  clear w0 w1
  generalize z0.take len0 = X at hr0
  generalize z1.take len1 = Y at hr1
  have hX : X.length = len0 := by simpa using hr0.1
  have hY : Y.length = len1 := by simpa using hr1.1
  by_cases c : (len0 : Int) ≤ 300
  · by_cases c2 : (len1 : Int) ≤ 300
    · subst hX hY
      replace hr0 := Lib.hid hr0
      replace hr1 := Lib.hid hr1
      go_enter Try.func6, Try.ntmps6
      go_wp2_with fail
      refine (alive_any _).mono ?_
      rintro e W1 ⟨rfl, g1⟩
      have hc0 := fun n => run_runes_string (P := Try.prog) Try.underlying29 Try.underlying21 Try.underlying9 (row_gr hr0.out (gr_trans g1 (gr_drewN W1 n none))) cap0
      have hc1 := fun n => run_runes_string (P := Try.prog) Try.underlying29 Try.underlying21 Try.underlying9 (row_gr hr1.out (gr_trans g1 (gr_drewN W1 n none))) cap1
      have hs := encs_len X
      have ht := encs_len Y
      have hsx := chunks_len_encs X
      have hsy := chunks_len_encs Y
      have hst : (chunks (encs X ++ encs Y)).length = X.length + Y.length := by rw [encs_append, chunks_len_encs, List.length_append]
      have hvx := runeV_encs1 X
      have hvy := runeV_encs1 Y
      have hvz : (chunks (encs X ++ encs Y)).map runeV = ((X ++ Y).map fixR).map (.int .i32) := by rw [encs_append, runeV_encs1]
      have hback : encs ((X ++ Y).map fixR) = encs X ++ encs Y := by rw [encs_fix, encs_append]
      have sx := fun W => spell_any (encs X) W (by omega)
      have sy := fun W => spell_any (encs Y) W (by omega)
      have sz := fun W => spell_any (encs X ++ encs Y) W (by rw [List.length_append]; omega)
      have sc := fun W => count_any (encs X ++ encs Y) W (by rw [List.length_append]; omega)
      unfold SpellPost at sx sy sz
      rw [hsx, hvx] at sx
      rw [hsy, hvy] at sy
      rw [hst, hvz] at sz
      rw [hst] at sc
      have hsl : (encs X).length + (encs Y).length ≤ 9223372036854775807 := by omega
      clear hsx hsy hst hvx hvy hvz
      generalize encs X = S at *
      generalize encs Y = T at *
      replace sx := Lib.hid sx
      replace sy := Lib.hid sy
      replace sz := Lib.hid sz
      replace sc := Lib.hid sc
      replace hback := Lib.hid hback
      go_wp2_with fail
      go_quiet (fail)
      go_wp2_with fail
      refine (sx.out _).mono ?_
      rintro e W2 ⟨vx, rfl, ox, g2⟩
      obtain ⟨Ax, cx, rfl, hlx, hcx⟩ := own_open ox
      clear hlx ox
      replace hcx := Lib.hid hcx
      go_wp2_with fail
      refine (sy.out _).mono ?_
      rintro e W3 ⟨vy, rfl, oy, g3⟩
      obtain ⟨Ay, cy, rfl, hly, hcy⟩ := own_open oy
      clear hly oy
      replace hcy := Lib.hid hcy
      go_wp2_with fail
      refine (sz.out _).mono ?_
      rintro e W4 ⟨vz, rfl, oz, g4⟩
      obtain ⟨Az, cz, rfl, hlz, hcz⟩ := own_open oz
      have hrz := row_own oz
      clear hlz oz
      replace hcz := Lib.hid hcz
      replace hrz := Lib.hid hrz
      go_wp2_with fail
      refine (sc.out _).mono ?_
      rintro e W5 ⟨rfl, g5⟩
      have hg5 : Gr w W5 := gr_trans (gr_trans (gr_trans (gr_trans (gr_trans g1 (gr_drewN _ _ _)) g2) g3) g4) g5
      replace hg5 := Lib.hid hg5
      have g35 : Gr W3 W5 := gr_trans g4 g5
      have g25 : Gr W2 W5 := gr_trans g3 g35
      clear g1 g2 g3 g4
      replace g35 := Lib.hid g35
      replace g25 := Lib.hid g25
      replace g5 := Lib.hid g5
      go_wp2_with fail
      go_loopw [10] (fun i wr => ∃ k : Nat, k ≤ X.length + Y.length ∧ i = .int .i64 k ∧ Hid (Gr W5 wr)) (fun i _ => X.length + Y.length - (intOf i).toNat)
      case atStart => exact ⟨0, Nat.zero_le _, rfl, gr_refl _ _⟩
      case round =>
        obtain ⟨k, hk, rfl, hg⟩ := hrel
        by_cases hlt : k < X.length + Y.length
        · have hki : (k : Int) < (X.length : Int) + (Y.length : Int) := by omega
          have hk0 : (0 : Int) ≤ (k : Int) := by omega
          by_cases hkx : k < X.length
          · have hkxi : decide ((k : Int) < (X.length : Int)) = true := decide_eq_true (by omega)
            have hkxn : decide (k < X.length) = true := decide_eq_true hkx
            obtain ⟨gx, rfl, hx1, hx2, hx3⟩ := hcx.out k (.int .i32 (fixR X[k])) (get_x X k hkx)
            obtain ⟨gz, rfl, hz1, hz2, hz3⟩ := hcz.out k (.int .i32 (fixR X[k])) (get_xl X Y k hkx)
            have hx4 := gr_cell (gr_trans g25.out hg.out) hx3
            have hz4 := gr_cell (gr_trans g5.out hg.out) hz3
            generalize fixR X[k] = v at *
            clear hx3 hz3
            have hge : decide ((X.length : Int) ≤ (k : Int)) = false := decide_eq_false (by omega)
            have hge2 : decide (X.length ≤ k) = false := decide_eq_false (by omega)
            go_wp2_with fail
            go_quiet (fail)
            go_wp2
            go_roundw
            case rel => exact ⟨k + 1, by omega, by go_num, gr_trans hg.out (gr_drewN _ _ _)⟩
            case measure => simp [intOf]; omega
          · obtain ⟨j, hjk⟩ : ∃ j, k = X.length + j := ⟨k - X.length, by omega⟩
            have hj : j < Y.length := by omega
            obtain ⟨gy, rfl, hy1, hy2, hy3⟩ := hcy.out j (.int .i32 (fixR Y[j])) (get_x Y j hj)
            obtain ⟨gz, rfl, hz1, hz2, hz3⟩ := hcz.out (X.length + j) (.int .i32 (fixR Y[j])) (get_xr X Y j hj)
            have hy4 := gr_cell (gr_trans g35.out hg.out) hy3
            have hz4 := gr_cell (gr_trans g5.out hg.out) hz3
            generalize fixR Y[j] = v at *
            rw [← hjk] at hz4
            rw [show j = k - X.length by omega] at hy4
            clear hy3 hz3 hjk hj
            have hkxi : decide ((k : Int) < (X.length : Int)) = false := decide_eq_false (by omega)
            have hkxn : decide (k < X.length) = false := decide_eq_false hkx
            have hge : decide ((X.length : Int) ≤ (k : Int)) = true := decide_eq_true (by omega)
            have hge2 : decide (X.length ≤ k) = true := decide_eq_true (by omega)
            have hs0 : (0 : Int) ≤ (k : Int) - (X.length : Int) := by omega
            have hs1 : (k : Int) - (X.length : Int) < (Y.length : Int) := by omega
            have hs2 : ((k : Int) - (X.length : Int)).toNat = k - X.length := by omega
            go_wp2_with fail
            go_quiet (fail)
            go_wp2
            go_roundw
            case rel => exact ⟨k + 1, by omega, by go_num, gr_trans hg.out (gr_drewN _ _ _)⟩
            case measure => simp [intOf]; omega
        · obtain rfl : k = X.length + Y.length := by omega
          have hcf := run_runes_string (P := Try.prog) Try.underlying29 Try.underlying21 Try.underlying9 (row_gr hrz.out (gr_trans g5.out hg.out)) cz
          rw [hback.out] at hcf
          go_wp2
          go_ret
          exact ⟨rfl, gr_below (gr_trans hg5.out hg.out)⟩
    · have c2' : 300 < (len1 : Int) := by omega
      clear c2 hX hY
      go_enter Try.func6, Try.ntmps6
      go_wp2_with (go_at_call 9; refine (alive_any _).mono ?_; rintro e w1 ⟨rfl, B⟩)
      go_ret
      exact ⟨rfl, gr_below B⟩
  · have c' : 300 < (len0 : Int) := by omega
    clear c hX hY
    go_enter Try.func6, Try.ntmps6
    go_wp2_with (go_at_call 9; refine (alive_any _).mono ?_; rintro e w1 ⟨rfl, B⟩)
    go_ret
    exact ⟨rfl, gr_below B⟩


set_option maxRecDepth 100000 in
theorem lifted (os : Os) (started : os.Started) (H : Type) (enc : TypeId × Value → H) :
    ReturnsInHanded {} Try.checked os 6 .any (Rows.glyphSpellsSpec.pre6 enc Try.prog Try.f6 Rows.glyphSpellsRow.domain false) (Rows.glyphSpellsSpec.post enc Try.prog Try.f6 false true false false) := by
  refine returnsInHanded_of_change (C := Try.checked) own started (by kernel_rfl) Try.func6
    (ChangeSpec.witness6 (enc := enc) (C := Try.checked) false ⟨#[], #[.slice none 0 0, .slice none 0 0], []⟩ 8 (by kernel_rfl) (by kernel_rfl) (by kernel_rfl) (by kernel_rfl)) ?_
  intro W base args ds gs before hval0 hW hcnd _
  have hval : ∀ (j : Nat) t v, Try.f6.params[j]? = some t → args[j]? = some v → Value.okWide Try.prog W .any base t v := hval0
  have hW' := hW
  obtain ⟨p, q, hA0, hV, rfl, hfz, hnd⟩ := hW
  have hA : DataW.TrodAll enc Try.prog W 0 (fun _ => true) true Try.f6.params.toList args.toList ds p := hA0
  rw [Try.params6] at hA hval
  obtain ⟨v0, vs0, d0, ds0, p0, q0, hargs, rfl, rfl, h0, r0⟩ := trodAll_cons hA
  obtain ⟨v1, vs1, d1, ds1, p1, q1, rfl, rfl, rfl, h1, r1⟩ := trodAll_cons r0
  obtain ⟨rfl, rfl, rfl⟩ := trodAll_nil r1
  obtain rfl : args = #[v0, v1] := by cases args; simp_all
  obtain ⟨rfl, rfl⟩ := trodVars_none hV
  obtain ⟨a0, len0, cap0, rfl⟩ := okWide_slice Try.underlying29 (hval 0 29 v0 rfl rfl)
  have k0 := h0
  have lt0 : ∀ x ∈ p0, x.block < W.heap.size := by obtain ⟨m, hm⟩ := k0; exact DataW.trod_lt m _ _ _ hm
  obtain ⟨z0, w0⟩ := isRow_open Try.underlying29 Try.underlying21 (by kernel_rfl) h0 rfl
  obtain ⟨a1, len1, cap1, rfl⟩ := okWide_slice Try.underlying29 (hval 1 29 v1 rfl rfl)
  have k1 := h1
  have lt1 : ∀ x ∈ p1, x.block < W.heap.size := by obtain ⟨m, hm⟩ := k1; exact DataW.trod_lt m _ _ _ hm
  obtain ⟨z1, w1⟩ := isRow_open Try.underlying29 Try.underlying21 (by kernel_rfl) h1 rfl
  clear hA0 hval0
  refine (walk W a0 len0 cap0 z0 w0 a1 len1 cap1 z1 w1).mono fun e W' ⟨he, bel⟩ => ?_
  subst he
  exact ⟨_, rfl, _, _, _, [], _, [], hW', trodAll_mk1 (shut_bool Try.underlying4 _), (trodAll_cons_mk (Below.trod laidOut (by kernel_rfl) (of_decide_eq_true (by kernel_rfl)) k0 bel lt0) (trodAll_cons_mk (Below.trod laidOut (by kernel_rfl) (of_decide_eq_true (by kernel_rfl)) k1 bel lt1) trodAll_mk0)), rfl, bel.frame _, fun h => by cases h⟩

theorem over : Rows.glyphSpellsRow.holds Try.pinned (OpenSpec.ofChange Rows.glyphSpellsSpec) :=
  OpenClaim.holds_of_wide 6 Try.f6 rfl rfl rfl rfl rfl rfl rfl ⟨rfl, rfl, rfl, rfl, rfl⟩ rfl rfl rfl rfl rfl (by kernel_rfl) Try.func6 (by kernel_rfl)
    (of_decide_eq_true (by kernel_rfl)) (by unfold Func.isWrapper; first | (rw [if_pos (by decide +kernel)]; kernel_rfl) | (rw [if_neg (by decide +kernel)]; exact ⟨rfl, rfl⟩))
    (fun os started H enc _ => lifted os started H enc)

/-- THE STATEMENT -/
theorem proved : Rows.GlyphSpellsSaid := over
#print axioms proved
end Go.Proofs.Ytfbjjjkmbpaejaa.glyphSpells

