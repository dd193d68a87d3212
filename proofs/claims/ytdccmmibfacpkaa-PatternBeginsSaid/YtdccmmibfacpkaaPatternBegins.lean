/-
  PatternBegins holds of the program: for every input the call returns true and leaves what came in as it was. No condition.
-/
import Derived.Test.YtdccmmibfacpkaaRows
import Derived.Test.YtdccmmibfacpkaaPatLaw
import Derived.WalkKit
import Derived.ProofKit
import Derived.OpenShut
import Derived.ShutString
import Derived.ChangeOld
import Derived.Below
namespace Go.Proofs.Ytdccmmibfacpkaa.patternBegins
open Go.ChangeShapes Go.WideShapes Go.ChangeAt Go.RowKit
open Go.ChangeMaps (open_string shut_string)
set_option linter.unusedVariables false

theorem own : ownKnob Try.prog.godebug = none := by kernel_rfl
theorem laidOut : laidOutB Try.prog = true := by kernel_rfl
theorem row_take {w : World} {A : Option Addr} {n : Nat} {xs : List Value} (h : Row w A n 1 xs) {k : Nat} (hk : k ≤ n) : Row w A k 1 (xs.take k) := by
  have hl : xs.length = n := by simpa using h.1
  refine ⟨by rw [List.length_take]; omega, fun j u hj => ?_⟩
  rw [List.getElem?_take] at hj
  split at hj
  · exact h.2 j u hj
  · cases hj
set_option maxHeartbeats 40000000 in
set_option maxRecDepth 100000 in
theorem walk (w : World) (a0 : ByteArray) (w0 : a0.size ≤ maxLen) (a1 : ByteArray) (w1 : a1.size ≤ maxLen) :
    Calls Try.prog 8 #[.string a0, .string a1] w fun e w' => e = .returned (.bool true) ∧ Below w.heap.size w w' := by
  obtain ⟨l, rfl⟩ : ∃ l, a0 = txt l := ⟨_, (txt_of a0).symm⟩
  obtain ⟨m, rfl⟩ : ∃ m, a1 = txt m := ⟨_, (txt_of a1).symm⟩
  rw [txt_size] at w0 w1
  unfold maxLen at w0 w1
  by_cases b1 : 60 < l.length
  · have b1' : (60 : Int) < (l.length : Int) := by omega
    go_enter Try.func8, Try.ntmps8
    go_wp2_with fail
    refine (alive_any _).mono ?_
    rintro e W1 ⟨rfl, g1⟩
    go_wp2
    go_ret
    exact ⟨rfl, gr_below g1⟩
  have b1F : ((60 : Int) < (l.length : Int)) = False := by simp; omega
  have b1' : (l.length : Int) ≤ 60 := by omega
  by_cases b2 : 40 < m.length
  · have b2' : (40 : Int) < (m.length : Int) := by omega
    go_enter Try.func8, Try.ntmps8
    go_wp2_with fail
    refine (alive_any _).mono ?_
    rintro e W1 ⟨rfl, g1⟩
    go_wp2
    go_ret
    exact ⟨rfl, gr_below g1⟩
  have b2F : ((40 : Int) < (m.length : Int)) = False := by simp; omega
  have b2' : (m.length : Int) ≤ 40 := by omega
  obtain ⟨H, hH⟩ := holds_ex
  have cC := fun w => compile_any 200 (by omega) l w (by omega)
  have cS := fun w => refSpell_runes m w (by omega)
  have hok : ∀ r ∈ runesOf m, RuneOk r := fun r hr => runes_ok hr
  have hrl := runes_le m
  obtain ⟨rs, hrs⟩ : ∃ rs, rs = runesOf m := ⟨_, rfl⟩
  rw [← hrs] at cS hok hrl
  obtain ⟨N, hN⟩ : ∃ N, N = rs.length := ⟨_, rfl⟩
  rw [← hN] at cS hrl
  replace cC := Lib.hid cC
  replace cS := Lib.hid cS
  replace hok := Lib.hid hok
  replace hrs := Lib.hid hrs
  replace hN := Lib.hid hN
  go_enter Try.func8, Try.ntmps8
  go_wp2_with fail
  refine (alive_any _).mono ?_
  rintro e W1 ⟨rfl, g1⟩
  go_wp2_with fail
  refine (cC.out _).mono ?_
  rintro e W2 ⟨g2, ⟨hbig, rfl⟩ | ⟨hle, hno, rfl⟩ | ⟨hle, p, x, hx, _, rfl, hp⟩⟩
  · go_wp2
    go_ret
    exact ⟨rfl, gr_below (gr_trans g1 g2)⟩
  · replace hno := Lib.hid hno
    go_wp2
    go_ret
    exact ⟨rfl, gr_below (gr_trans g1 g2)⟩
  replace hx := Lib.hid hx
  replace hp := Lib.hid hp
  replace hle := Lib.hid hle
  go_wp2_with fail
  refine (cS.out _).mono ?_
  rintro e W3 ⟨A, c, rfl, hown, g3⟩
  have hp3 := pat_gr hp.out g3
  have cB := begins_any p l x m W3 hp3 (by omega)
  rw [← hrs.out] at cB
  have hrow := row_own hown
  have hcap : N ≤ c := by
    rcases hown.2 with ⟨hv, hz⟩ | ⟨g, cap, cur, hv, _, _, hz, _⟩
    · injection hv with _ h2 h3; omega
    · injection hv with _ h2 h3; omega
  have hci : (N : Int) ≤ (c : Int) := by omega
  replace cB := Lib.hid cB
  replace hown := Lib.hid hown
  replace hp3 := Lib.hid hp3
  replace hrow := Lib.hid hrow
  go_wp2_with fail
  refine cB.out.mono ?_
  rintro e W4 ⟨b, rfl, hb, g4⟩
  have hbr : -1 ≤ b ∧ b ≤ (N : Int) := by
    rcases hb with ⟨rfl, _⟩ | ⟨q, rfl, h1, _⟩
    · omega
    · have := hN.out; omega
  obtain ⟨hb1, hb2⟩ := hbr
  have hp4 := pat_gr hp3.out g4
  have hrow4 := row_gr hrow.out g4
  have G4 := gr_trans (gr_trans (gr_trans g1 g2) g3) g4
  replace hb := Lib.hid hb
  replace hp4 := Lib.hid hp4
  replace hrow4 := Lib.hid hrow4
  replace G4 := Lib.hid G4
  clear g1 g2 g3 g4
  go_wp2
  go_loopw [9] (fun kv wr => ∃ k : Nat, k ≤ N + 1 ∧ kv = .int .i64 k ∧ Hid (Gr W4 wr)) (fun k _ => N + 1 - (intOf k).toNat)
  case atStart => exact ⟨0, Nat.zero_le _, rfl, Lib.hid (gr_refl _ _)⟩
  case round =>
    obtain ⟨k, hk, rfl, hg⟩ := hrel
    by_cases hlt : k ≤ N
    · have hki : (k : Int) ≤ (N : Int) := by omega
      have hk0 : (0 : Int) ≤ (k : Int) := by omega
      have hkc : (k : Int) ≤ (c : Int) := by omega
      have hrk := row_take (row_gr hrow4.out hg.out) hlt
      rw [← List.map_take] at hrk
      have hcv := run_runes_string (P := Try.prog) (src := 22) (dst := 9) (e := 21) Try.underlying22 Try.underlying21 Try.underlying9 hrk c
      have hrt : runesOf (encs (rs.take k)) = rs.take k := runes_encs0 _ (fun r hr => hok.out r (List.mem_of_mem_take hr))
      have hel : (encs (rs.take k)).length ≤ 1000000 := by
        have := (encs_len (rs.take k)).2
        rw [List.length_take] at this
        have := hN.out
        omega
      have cW := whole_any H hH p l x (encs (rs.take k)) wr (pat_gr hp4.out hg.out) hel
      rw [hrt] at cW
      have hle2 : rs.length = N := hN.out.symm
      replace hrk := Lib.hid hrk
      replace hrt := Lib.hid hrt
      replace cW := Lib.hid cW
      replace hel := Lib.hid hel
      rcases Int.lt_trichotomy (k : Int) b with hkb | hkb | hkb
      · have q1 : ((k : Int) == b) = false := eqF (by omega)
        have q2 : (b < (k : Int)) = False := by simp; omega
        replace hle2 := Lib.hid hle2
        go_wp2_with fail
        refine cW.out.mono ?_
        rintro e W5 ⟨rfl, g5⟩
        go_wp2
        go_roundw
        case rel => exact ⟨k + 1, by omega, by go_num, Lib.hid (gr_trans hg.out g5)⟩
        case measure => simp [intOf]; omega
      · have hyes : H x (rs.take k) = true := by
          rcases hb.out with ⟨rfl, _⟩ | ⟨q, rfl, h1, h2, _⟩
          · omega
          · have : k = q := by omega
            subst this
            exact holds_yes hH h2
        have q1 : ((k : Int) == b) = true := eqT hkb
        have q2 : (b < (k : Int)) = False := by simp; omega
        have cW2 := cW.out
        rw [hyes] at cW2
        replace cW2 := Lib.hid cW2
        replace hle2 := Lib.hid hle2
        replace hyes := Lib.hid hyes
        replace hkb := Lib.hid hkb
        go_wp2_with fail
        refine cW2.out.mono ?_
        rintro e W5 ⟨rfl, g5⟩
        go_wp2
        go_roundw
        case rel => exact ⟨k + 1, by omega, by go_num, Lib.hid (gr_trans hg.out g5)⟩
        case measure => simp [intOf]; omega
      · have hno : H x (rs.take k) = false := by
          refine holds_no hH (fun hh => ?_)
          rcases hb.out with ⟨rfl, h⟩ | ⟨q, rfl, h1, h2, h3⟩
          · exact h k (by omega) hh
          · exact h3 k (by omega) (by omega) hh
        have q1 : ((k : Int) == b) = false := eqF (by omega)
        have cW2 := cW.out
        rw [hno] at cW2
        replace cW2 := Lib.hid cW2
        replace hle2 := Lib.hid hle2
        replace hno := Lib.hid hno
        go_wp2_with fail
        refine cW2.out.mono ?_
        rintro e W5 ⟨rfl, g5⟩
        go_wp2
        go_roundw
        case rel => exact ⟨k + 1, by omega, by go_num, Lib.hid (gr_trans hg.out g5)⟩
        case measure => simp [intOf]; omega
    · have hki : ((k : Int) ≤ (N : Int)) = False := by simp; omega
      go_wp2
      go_ret
      exact ⟨rfl, gr_below (gr_trans G4.out hg.out)⟩


set_option maxRecDepth 100000 in
theorem lifted (os : Os) (started : os.Started) (H : Type) (enc : TypeId × Value → H) :
    ReturnsInHanded {} Try.checked os 8 .any (Rows.patternBeginsSpec.pre6 enc Try.prog Try.f8 Rows.patternBeginsRow.domain false) (Rows.patternBeginsSpec.post enc Try.prog Try.f8 false true false false) := by
  refine returnsInHanded_of_change (C := Try.checked) own started (by kernel_rfl) Try.func8
    (ChangeSpec.witness6 (enc := enc) (C := Try.checked) false ⟨#[], #[.string ByteArray.empty, .string ByteArray.empty], []⟩ 8 (by kernel_rfl) (by kernel_rfl) (by kernel_rfl) (by kernel_rfl)) ?_
  intro W base args ds gs before hval0 hW hcnd _
  have hval : ∀ (j : Nat) t v, Try.f8.params[j]? = some t → args[j]? = some v → Value.okWide Try.prog W .any base t v := hval0
  have hW' := hW
  obtain ⟨p, q, hA0, hV, rfl, hfz, hnd⟩ := hW
  have hA : DataW.TrodAll enc Try.prog W 0 (fun _ => true) true Try.f8.params.toList args.toList ds p := hA0
  rw [Try.params8] at hA hval
  obtain ⟨v0, vs0, d0, ds0, p0, q0, hargs, rfl, rfl, h0, r0⟩ := trodAll_cons hA
  obtain ⟨v1, vs1, d1, ds1, p1, q1, rfl, rfl, rfl, h1, r1⟩ := trodAll_cons r0
  obtain ⟨rfl, rfl, rfl⟩ := trodAll_nil r1
  obtain rfl : args = #[v0, v1] := by cases args; simp_all
  obtain ⟨rfl, rfl⟩ := trodVars_none hV
  obtain ⟨a0, rfl, rfl, rfl, w0⟩ := open_string Try.underlying9 (hval 0 9 v0 rfl rfl) h0
  obtain ⟨a1, rfl, rfl, rfl, w1⟩ := open_string Try.underlying9 (hval 1 9 v1 rfl rfl) h1
  clear hA0 hval0
  refine (walk W a0 w0 a1 w1).mono fun e W' ⟨he, bel⟩ => ?_
  subst he
  exact ⟨_, rfl, _, _, _, [], _, [], hW', trodAll_mk1 (shut_bool Try.underlying4 _), (trodAll_cons_mk (shut_string Try.underlying9 w0) (trodAll_cons_mk (shut_string Try.underlying9 w1) trodAll_mk0)), rfl, bel.frame _, fun h => by cases h⟩

theorem over : Rows.patternBeginsRow.holds Try.pinned (OpenSpec.ofChange Rows.patternBeginsSpec) :=
  OpenClaim.holds_of_wide 8 Try.f8 rfl rfl rfl rfl rfl rfl rfl ⟨rfl, rfl, rfl, rfl, rfl⟩ rfl rfl rfl rfl rfl (by kernel_rfl) Try.func8 (by kernel_rfl)
    (of_decide_eq_true (by kernel_rfl)) (by unfold Func.isWrapper; first | (rw [if_pos (by decide +kernel)]; kernel_rfl) | (rw [if_neg (by decide +kernel)]; exact ⟨rfl, rfl⟩))
    (fun os started H enc _ => lifted os started H enc)

/-- THE STATEMENT -/
theorem proved : Rows.PatternBeginsSaid := over
#print axioms proved
end Go.Proofs.Ytdccmmibfacpkaa.patternBegins

