/-
  PatternParts holds of the program: for every input the call returns true and leaves what came in as it was. No condition.
-/
import Derived.Test.YtdccmmibfacpkaaRows
import Derived.Test.YtdccmmibfacpkaaPatLaw
import Derived.Test.YtdccmmibfacpkaaPatStar
import Derived.WalkKit
import Derived.ProofKit
import Derived.OpenShut
import Derived.ShutString
import Derived.ChangeOld
import Derived.Below
namespace Go.Proofs.Ytdccmmibfacpkaa.patternParts
open Go.ChangeShapes Go.WideShapes Go.ChangeAt Go.RowKit
open Go.ChangeMaps (open_string shut_string)
set_option linter.unusedVariables false

theorem own : ownKnob Try.prog.godebug = none := by kernel_rfl
theorem laidOut : laidOutB Try.prog = true := by kernel_rfl
set_option maxHeartbeats 40000000 in
set_option maxRecDepth 100000 in
theorem walk (w : World) (a0 : ByteArray) (w0 : a0.size ≤ maxLen) (a1 : ByteArray) (w1 : a1.size ≤ maxLen) (a2 : ByteArray) (w2 : a2.size ≤ maxLen) :
    Calls Try.prog 4 #[.string a0, .string a1, .string a2] w fun e w' => e = .returned (.bool true) ∧ Below w.heap.size w w' := by
  obtain ⟨l1, rfl⟩ : ∃ l, a0 = txt l := ⟨_, (txt_of a0).symm⟩
  obtain ⟨l2, rfl⟩ : ∃ l, a1 = txt l := ⟨_, (txt_of a1).symm⟩
  obtain ⟨l, rfl⟩ : ∃ l, a2 = txt l := ⟨_, (txt_of a2).symm⟩
  rw [txt_size] at w0 w1 w2
  unfold maxLen at w0 w1 w2
  by_cases b1 : 17 < l1.length
  · have b1' : (17 : Int) < (l1.length : Int) := by omega
    go_enter Try.func4, Try.ntmps4
    go_wp2_with fail
    refine (alive_any _).mono ?_
    rintro e W1 ⟨rfl, g1⟩
    go_wp2
    go_ret
    exact ⟨rfl, gr_below g1⟩
  have b1F : ((17 : Int) < (l1.length : Int)) = False := by simp; omega
  by_cases b2 : 17 < l2.length
  · have b2' : (17 : Int) < (l2.length : Int) := by omega
    go_enter Try.func4, Try.ntmps4
    go_wp2_with fail
    refine (alive_any _).mono ?_
    rintro e W1 ⟨rfl, g1⟩
    go_wp2
    go_ret
    exact ⟨rfl, gr_below g1⟩
  have b2F : ((17 : Int) < (l2.length : Int)) = False := by simp; omega
  by_cases b3 : 30 < l.length
  · have b3' : (30 : Int) < (l.length : Int) := by omega
    go_enter Try.func4, Try.ntmps4
    go_wp2_with fail
    refine (alive_any _).mono ?_
    rintro e W1 ⟨rfl, g1⟩
    go_wp2
    go_ret
    exact ⟨rfl, gr_below g1⟩
  have b3F : ((30 : Int) < (l.length : Int)) = False := by simp; omega
  have cP := fun w => compile_any 200 (by omega) l1 w (by omega)
  have cQ := fun w => compile_any 200 (by omega) l2 w (by omega)
  have hr1 := runes_le l1
  have hr2 := runes_le l2
  unfold CmpPost at cP cQ
  replace cP := Lib.hid cP
  replace cQ := Lib.hid cQ
  replace hr1 := Lib.hid hr1
  replace hr2 := Lib.hid hr2
  go_enter Try.func4, Try.ntmps4
  go_wp2_with fail
  refine (alive_any _).mono ?_
  rintro e W1 ⟨rfl, g1⟩
  go_wp2_with fail
  refine (cP.out _).mono ?_
  rintro e W2 ⟨g2, ⟨hbig, rfl⟩ | ⟨hle, hno, rfl⟩ | ⟨hle, p1, x, hx, _, rfl, hp⟩⟩
  · have := hr1.out; omega
  · replace hno := Lib.hid hno
    go_wp2_with fail
    refine (cQ.out _).mono ?_
    rintro e W3 ⟨g3, ⟨hbig2, rfl⟩ | ⟨hle2, hno2, rfl⟩ | ⟨hle2, p2, y, hy, _, rfl, hq⟩⟩
    · have := hr2.out; omega
    · replace hno2 := Lib.hid hno2
      go_wp2
      go_ret
      exact ⟨by first | rfl | simp, gr_below (gr_trans (gr_trans g1 g2) g3)⟩
    · replace hq := Lib.hid hq
      replace hy := Lib.hid hy
      go_wp2
      go_ret
      exact ⟨by first | rfl | simp, gr_below (gr_trans (gr_trans g1 g2) g3)⟩
  · replace hp := Lib.hid hp
    replace hx := Lib.hid hx
    go_wp2_with fail
    refine (cQ.out _).mono ?_
    rintro e W3 ⟨g3, ⟨hbig2, rfl⟩ | ⟨hle2, hno2, rfl⟩ | ⟨hle2, p2, y, hy, _, rfl, hq⟩⟩
    · have := hr2.out; omega
    · replace hno2 := Lib.hid hno2
      go_wp2
      go_ret
      exact ⟨by first | rfl | simp, gr_below (gr_trans (gr_trans g1 g2) g3)⟩
    · have hp3 := pat_gr hp.out g3
      have G3 := gr_trans (gr_trans g1 g2) g3
      have kb := parses_both hx.out hy
      have ke := parses_either hx.out hy
      have kt := parses_times hx.out 42 (.inl rfl)
      rw [← runes_both] at kb
      rw [← runes_either] at ke
      rw [← runes_times] at kt
      have cB := fun w => compile_ok 205 (by omega) (40 :: (l1 ++ 41 :: 40 :: (l2 ++ [41]))) _ w kb (by rw [runes_both]; have := hr1.out; have := hr2.out; simp; omega) (by simp; omega)
      have cE := fun w => compile_ok 205 (by omega) (40 :: (l1 ++ 41 :: 124 :: 40 :: (l2 ++ [41]))) _ w ke (by rw [runes_either]; have := hr1.out; have := hr2.out; simp; omega) (by simp; omega)
      have cA := fun w => compile_ok 204 (by omega) (40 :: (l1 ++ [41, 42])) _ w kt (by rw [runes_times]; have := hr1.out; simp; omega) (by simp; omega)
      have lB := lang_both x y
      have lE := lang_either x y
      have lA : ∀ u, Lang (.alt1 (.rowS .row0 (.rep x true true))) u ↔ Star (Lang x) u := fun u => lang_in _ u
      have cS := fun w => refSpell_runes l w (by omega)
      obtain ⟨R, hR⟩ : ∃ R, R = runesOf l := ⟨_, rfl⟩
      have hRl := runes_le l
      rw [← hR] at cS hRl
      have eb1 : (⟨#[40]⟩ : ByteArray) ++ txt l1 = txt (40 :: l1) := txt_append [40] l1
      have eb2 : txt (40 :: l1) ++ (⟨#[41, 40]⟩ : ByteArray) = txt (40 :: (l1 ++ [41, 40])) := txt_append (40 :: l1) [41, 40]
      have eb3 : txt (40 :: (l1 ++ [41, 40])) ++ txt l2 = txt (40 :: (l1 ++ 41 :: 40 :: l2)) := by rw [txt_append]; simp
      have eb4 : txt (40 :: (l1 ++ 41 :: 40 :: l2)) ++ (⟨#[41]⟩ : ByteArray) = txt (40 :: (l1 ++ 41 :: 40 :: (l2 ++ [41]))) := by rw [show (⟨#[41]⟩ : ByteArray) = txt [41] from rfl, txt_append]; simp
      have ee2 : txt (40 :: l1) ++ (⟨#[41, 124, 40]⟩ : ByteArray) = txt (40 :: (l1 ++ [41, 124, 40])) := txt_append (40 :: l1) [41, 124, 40]
      have ee3 : txt (40 :: (l1 ++ [41, 124, 40])) ++ txt l2 = txt (40 :: (l1 ++ 41 :: 124 :: 40 :: l2)) := by rw [txt_append]; simp
      have ee4 : txt (40 :: (l1 ++ 41 :: 124 :: 40 :: l2)) ++ (⟨#[41]⟩ : ByteArray) = txt (40 :: (l1 ++ 41 :: 124 :: 40 :: (l2 ++ [41]))) := by rw [show (⟨#[41]⟩ : ByteArray) = txt [41] from rfl, txt_append]; simp
      have ea2 : txt (40 :: l1) ++ (⟨#[41, 42]⟩ : ByteArray) = txt (40 :: (l1 ++ [41, 42])) := txt_append (40 :: l1) [41, 42]
      have n1 : (9223372036854775807 < 1 + l1.length) = False := by simp; omega
      have n2 : (9223372036854775807 < l1.length + 1 + 2) = False := by simp; omega
      have n3 : (9223372036854775807 < l1.length + 1 + 3) = False := by simp; omega
      have n4 : (9223372036854775807 < l1.length + 2 + 1 + l2.length) = False := by simp; omega
      have n5 : (9223372036854775807 < l1.length + 3 + 1 + l2.length) = False := by simp; omega
      have n6 : (9223372036854775807 < l1.length + (l2.length + 1 + 1) + 1 + 1) = False := by simp; omega
      have n7 : (9223372036854775807 < l1.length + (l2.length + 1 + 1 + 1) + 1 + 1) = False := by simp; omega
      generalize (T.alt1 (.rowS (.rowS .row0 x) y)) = xB at cB lB
      generalize (T.altS (.alt1 (.rowS .row0 x)) (.rowS .row0 y)) = xE at cE lE
      have cA' : ∀ w, Calls Try.prog 11 #[.string (txt (40 :: (l1 ++ [41, 42])))] w fun e w' => ∃ p, e = .returned (.tuple #[.pointer (some ⟨p, 0, none⟩), .int .i64 0]) ∧ PatAt w' p (40 :: (l1 ++ [41, 42])) (.alt1 (.rowS .row0 (.rep x true true))) ∧ Gr w w' := cA
      generalize (T.alt1 (.rowS .row0 (.rep x true true))) = xA at cA' lA
      clear kb ke kt cA hp
      obtain ⟨H, hH⟩ := holds_ex
      replace cB := Lib.hid cB
      replace cE := Lib.hid cE
      replace cA' := Lib.hid cA'
      replace lB := Lib.hid lB
      replace lE := Lib.hid lE
      replace lA := Lib.hid lA
      replace cS := Lib.hid cS
      replace hR := Lib.hid hR
      replace hp3 := Lib.hid hp3
      replace hq := Lib.hid hq
      replace hy := Lib.hid hy
      replace G3 := Lib.hid G3
      clear g1 g2 g3
      go_wp2_with fail
      refine (cB.out _).mono ?_
      rintro e W4 ⟨pB, rfl, hB, g4⟩
      replace hB := Lib.hid hB
      go_wp2_with fail
      refine (cE.out _).mono ?_
      rintro e W5 ⟨pE, rfl, hE, g5⟩
      replace hE := Lib.hid hE
      go_wp2_with fail
      refine (cA'.out _).mono ?_
      rintro e W6 ⟨pA, rfl, hA, g6⟩
      have G6 := gr_trans (gr_trans (gr_trans G3.out g4) g5) g6
      have qx := pat_gr (pat_gr (pat_gr hp3.out g4) g5) g6
      have qy := pat_gr (pat_gr (pat_gr hq.out g4) g5) g6
      have qB := pat_gr (pat_gr hB.out g5) g6
      have qE := pat_gr hE.out g6
      replace G6 := Lib.hid G6
      replace qx := Lib.hid qx
      replace qy := Lib.hid qy
      replace qB := Lib.hid qB
      replace qE := Lib.hid qE
      replace hA := Lib.hid hA
      clear g4 g5 g6 eb1 eb2 eb3 eb4 ee2 ee3 ee4 ea2 n1 n2 n3 n4 n5 n6 n7 hB hE hp3 hq
      go_wp2_with fail
      refine (cS.out _).mono ?_
      rintro e W7 ⟨A, c, rfl, hown, g7⟩
      have hA7 : (A = none ∧ c = 0 ∧ R = []) ∨ ∃ g, A = some ⟨g, 0, none⟩ ∧ R.length ≤ c := by
        rcases hown.2 with ⟨hv, hn⟩ | ⟨g, cap, cur, hv, _, _, hc, _⟩
        · have hA : A = none := by injection hv
          have hc : c = 0 := by injection hv
          exact .inl ⟨hA, hc, List.eq_nil_of_length_eq_zero hn⟩
        · have hA : A = some ⟨g, 0, none⟩ := by injection hv
          have hcc : c = cap := by injection hv
          exact .inr ⟨g, hA, by omega⟩
      have hrow := row_own hown
      have cv := run_runes_string (P := Try.prog) (src := 22) (dst := 9) (e := 21) Try.underlying22 Try.underlying21 Try.underlying9 hrow c
      obtain ⟨U, hU⟩ : ∃ U, U = encs R := ⟨_, rfl⟩
      rw [← hU] at cv
      replace g7 := Lib.hid g7
      rcases hA7 with ⟨rfl, rfl, hRn⟩ | ⟨g, rfl, hRc⟩
      · subst hRn
        have cv0 : (convert 22 9 (.slice none 0 0)).run Try.prog W7 = .ok (.string (txt U)) W7 := cv
        replace hU := Lib.hid hU
        replace hown := Lib.hid hown
        clear hrow cv
        obtain ⟨ii, hi, hz0, hz1, hz2⟩ := info_parts infoBool
        go_wp2_with (at_make; refine wpList_make_full _ rfl _ _ 31 rfl W7.heap.size 4 ii (.bool false) 1 Try.underlying31 hi hz0 hz1 .i64 .i64 1 1 1 rfl rfl rfl rfl ?b2 ?b3 (Nat.le_refl _) ?_; rotate_right; intro W8 hown8 hg8; have hb8 := made_bools (Nat.succ_pos _) hown8; have f8 := blk_free hb8 0; have k8 : W8.cell? ⟨W7.heap.size, 0, none⟩ = some (.bool false) := bool_cell hb8 (by simp); replace hown8 := Lib.hid hown8; replace hb8 := Lib.hid hb8; replace hg8 := Lib.hid hg8)
        case b2 => first | omega | (rw [hz2]; omega)
        case b3 => unfold maxLen; omega
        go_loopw [19, 22] (fun iv kv wr => ∃ (k : Nat) (v : Bool) (bs : List Bool), k ≤ 1 ∧ kv = .int .i64 k ∧ iv = .bool v ∧ Hid (v = true ↔ ∃ i, i < k ∧ Lang x (([] : List Int).take i) ∧ Lang y (([] : List Int).drop i)) ∧ Hid (OutIs x [] k bs) ∧ Hid (BoolAt wr W7.heap.size bs) ∧ Hid (Gr W7 wr)) (fun _ kv _ => 1 - (intOf kv).toNat)
        case atStart => exact ⟨0, false, _, by omega, rfl, rfl, Lib.hid ⟨fun h => (by cases h), fun h => (by obtain ⟨i, hi, _⟩ := h; omega)⟩, out_start x [], bool_set hb8.out 0 true, gr_out hg8.out (gr_set W8 ⟨W7.heap.size, 0, none⟩ (.bool true)) (Nat.le_refl _)⟩
        case round =>
          obtain ⟨k, v, bs, hk, rfl, rfl, hv, ho, hb, hg⟩ := hrel
          have G7 := gr_trans g7.out hg.out
          by_cases hlt : k = 0
          · subst hlt
            obtain rfl : v = false := by
              cases v with
              | false => rfl
              | true => exact absurd (hv.out.1 rfl) (by rintro ⟨i, hi, _⟩; omega)
            have rx := pat_gr qx.out G7
            have ry := pat_gr qy.out G7
            replace G7 := Lib.hid G7
            replace rx := Lib.hid rx
            replace ry := Lib.hid ry
            obtain ⟨S1, hS1⟩ : ∃ S, S = encs [] := ⟨_, rfl⟩
            have z1 : runesOf S1 = [] := by rw [hS1]; rfl
            have y1 : S1.length = 0 := by rw [hS1]; rfl
            have u1 : ∀ m, (convert 22 9 (.slice none 0 0)).run Try.prog (wr.drewN m) = .ok (.string (txt S1)) (wr.drewN m) := fun m => by
              rw [hS1]
              exact run_runes_string (P := Try.prog) (src := 22) (dst := 9) (e := 21) Try.underlying22 Try.underlying21 Try.underlying9 ⟨rfl, fun j u h => by simp at h⟩ 0
            have dx := fun W hp => whole_any H hH p1 l1 x S1 W hp (by omega)
            have dy := fun W hp => whole_any H hH p2 l2 y S1 W hp (by omega)
            rw [z1] at dx dy
            have hH1 := hH x []
            have hH2 := hH y []
            generalize H x [] = f1 at dx hH1
            generalize H y [] = f2 at dy hH2
            clear z1 y1 hS1 hv
            replace dx := Lib.hid dx
            replace dy := Lib.hid dy
            replace hH1 := Lib.hid hH1
            replace hH2 := Lib.hid hH2
            go_wp2_with fail
            go_quiet (fail)
            go_wp2_with fail
            refine (dx.out _ (pat_gr rx.out (gr_drewN wr nq none))).mono ?_
            rintro e Wa ⟨rfl, ga⟩
            cases f1 with
            | false =>
              have GY := gr_trans (gr_drewN wr nq none) ga
              replace GY := Lib.hid GY
              go_wp2
              go_loopw [25] (fun jv wr => ∃ (bs : List Bool), jv = .int .i64 0 ∧ Hid (InIs x [] 0 0 bs) ∧ Hid (BoolAt wr W7.heap.size bs) ∧ Hid (Gr W7 wr)) (fun _ _ => 0)
              case atStart => exact ⟨bs, rfl, out_in ho.out, gr_blk GY.out hb.out (by simp), gr_trans hg.out GY.out⟩
              case round =>
                obtain ⟨bs2, rfl, hI, hb2, hg2⟩ := hrel
                go_wp2
                go_roundw
                case rel => exact ⟨1, _, bs2, by omega, by go_num, rfl, Lib.hid (both_next (k := 0) (A := fun i => Lang x (([] : List Int).take i)) (B := fun i => Lang y (([] : List Int).drop i)) (v := false) (f1 := false) (f2 := f2) (new := false) (by simp) (by simpa using hH1.out) (by simpa using hH2.out) (by simp)), in_out hI.out, hb2.out, hg2.out⟩
                case measure => simp [intOf]
            | true =>
              go_wp2_with fail
              refine (dy.out _ (pat_gr ry.out (gr_trans (gr_drewN wr nq none) ga))).mono ?_
              rintro e Wb ⟨rfl, gb⟩
              have GY := gr_trans (gr_trans (gr_drewN wr nq none) ga) gb
              replace GY := Lib.hid GY
              go_wp2
              go_loopw [25] (fun jv wr => ∃ (bs : List Bool), jv = .int .i64 0 ∧ Hid (InIs x [] 0 0 bs) ∧ Hid (BoolAt wr W7.heap.size bs) ∧ Hid (Gr W7 wr)) (fun _ _ => 0)
              case atStart => exact ⟨bs, rfl, out_in ho.out, gr_blk GY.out hb.out (by simp), gr_trans hg.out GY.out⟩
              case round =>
                obtain ⟨bs2, rfl, hI, hb2, hg2⟩ := hrel
                go_wp2
                go_roundw
                case rel => exact ⟨1, _, bs2, by omega, by go_num, rfl, Lib.hid (both_next (k := 0) (A := fun i => Lang x (([] : List Int).take i)) (B := fun i => Lang y (([] : List Int).drop i)) (v := false) (f1 := true) (f2 := f2) (new := f2) (by simp) (by simpa using hH1.out) (by simpa using hH2.out) (by simp)), in_out hI.out, hb2.out, hg2.out⟩
                case measure => simp [intOf]
          · obtain rfl : k = 1 := by omega
            obtain ⟨tb, htb, hts⟩ := out_end (R := []) ho.out
            have kt : wr.cell? ⟨W7.heap.size, 0, none⟩ = some (.bool tb) := bool_cell hb.out htb
            have zR : runesOf U = [] := by rw [hU.out]; rfl
            have yR : U.length = 0 := by rw [hU.out]; rfl
            have eB : H xB [] = v := by
              rw [Bool.eq_iff_iff, hH xB [], lB.out [], both_take, hv.out]
              exact ⟨fun ⟨i, h, k⟩ => ⟨i, by simp at h; omega, k⟩, fun ⟨i, h, k⟩ => ⟨i, by simp; omega, k⟩⟩
            have eE : H xE [] = (H x [] || H y []) := by
              rw [Bool.eq_iff_iff, hH xE [], lE.out [], Bool.or_eq_true, hH x [], hH y []]
            obtain rfl : tb = true := hts.2 .nil
            have eA : H xA [] = true := (hH xA []).2 ((lA.out []).2 .nil)
            have dB := fun W (G : Gr wr W) => whole_any H hH pB _ xB U W (pat_gr qB.out (gr_trans G7 G)) (by omega)
            have dE := fun W (G : Gr wr W) => whole_any H hH pE _ xE U W (pat_gr qE.out (gr_trans G7 G)) (by omega)
            have dA := fun W (G : Gr wr W) => whole_any H hH pA _ xA U W (pat_gr hA.out (gr_trans G7 G)) (by omega)
            have dX := fun W (G : Gr wr W) => whole_any H hH p1 _ x U W (pat_gr qx.out (gr_trans G7 G)) (by omega)
            have dY := fun W (G : Gr wr W) => whole_any H hH p2 _ y U W (pat_gr qy.out (gr_trans G7 G)) (by omega)
            rw [zR, eB] at dB
            rw [zR, eE] at dE
            rw [zR, eA] at dA
            rw [zR] at dX dY
            clear eB eE eA zR yR hv ho hts htb
            generalize H x [] = f1 at dX dE
            generalize H y [] = f2 at dY dE
            replace dB := Lib.hid dB
            replace dE := Lib.hid dE
            replace dA := Lib.hid dA
            replace dX := Lib.hid dX
            replace dY := Lib.hid dY
            replace G7 := Lib.hid G7
            go_wp2_with fail
            refine (dB.out _ (gr_refl _ _)).mono ?_
            rintro e V1 ⟨rfl, v1⟩
            go_wp2_with fail
            refine (dE.out _ v1).mono ?_
            rintro e V2 ⟨rfl, v2⟩
            go_wp2_with fail
            refine (dX.out _ (gr_trans v1 v2)).mono ?_
            rintro e V3 ⟨rfl, v3⟩
            cases f1 with
            | true =>
              go_wp2_with fail
              refine (dA.out _ (gr_trans (gr_trans v1 v2) v3)).mono ?_
              rintro e V4 ⟨rfl, v4⟩
              go_wp2
              go_ret
              exact ⟨by simp, gr_below (gr_trans (gr_trans (gr_trans (gr_trans (gr_trans G6.out G7.out) v1) v2) v3) v4)⟩
            | false =>
              go_wp2_with fail
              refine (dY.out _ (gr_trans (gr_trans v1 v2) v3)).mono ?_
              rintro e V4 ⟨rfl, v4⟩
              go_wp2_with fail
              refine (dA.out _ (gr_trans (gr_trans (gr_trans v1 v2) v3) v4)).mono ?_
              rintro e V5 ⟨rfl, v5⟩
              go_wp2
              go_ret
              exact ⟨by simp, gr_below (gr_trans (gr_trans (gr_trans (gr_trans (gr_trans (gr_trans G6.out G7.out) v1) v2) v3) v4) v5)⟩
      replace hU := Lib.hid hU
      replace hown := Lib.hid hown
      replace hrow := Lib.hid hrow
      obtain ⟨ii, hi, hz0, hz1, hz2⟩ := info_parts infoBool
      go_wp2_with (at_make; refine wpList_make_full _ rfl _ _ 31 rfl W7.heap.size 4 ii (.bool false) 1 Try.underlying31 hi hz0 hz1 .i64 .i64 (R.length + 1) (R.length + 1) (R.length + 1) rfl rfl rfl rfl ?b2 ?b3 (Nat.le_refl _) ?_; rotate_right; intro W8 hown8 hg8; have hb8 := made_bools (Nat.succ_pos _) hown8; have f8 := blk_free hb8 0; have k8 : W8.cell? ⟨W7.heap.size, 0, none⟩ = some (.bool false) := bool_cell hb8 (by simp); replace hown8 := Lib.hid hown8; replace hb8 := Lib.hid hb8; replace hg8 := Lib.hid hg8)
      case b2 => first | omega | (rw [hz2]; omega)
      case b3 => unfold maxLen; omega
      go_loopw [19, 22] (fun iv kv wr => ∃ (k : Nat) (v : Bool) (bs : List Bool), k ≤ R.length + 1 ∧ kv = .int .i64 k ∧ iv = .bool v ∧ Hid (v = true ↔ ∃ i, i < k ∧ Lang x (R.take i) ∧ Lang y (R.drop i)) ∧ Hid (OutIs x R k bs) ∧ Hid (BoolAt wr W7.heap.size bs) ∧ Hid (Gr W7 wr)) (fun _ kv _ => R.length + 1 - (intOf kv).toNat)
      case atStart => exact ⟨0, false, _, by omega, rfl, rfl, Lib.hid ⟨fun h => (by cases h), fun h => (by obtain ⟨i, hi, _⟩ := h; omega)⟩, out_start x R, bool_set hb8.out 0 true, gr_out hg8.out (gr_set W8 ⟨W7.heap.size, 0, none⟩ (.bool true)) (Nat.le_refl _)⟩
      case round =>
        obtain ⟨k, v, bs, hk, rfl, rfl, hv, ho, hb, hg⟩ := hrel
        by_cases hlt : k ≤ R.length
        · have hki : (k : Int) ≤ (R.length : Int) := by omega
          have G7 := gr_trans g7.out hg.out
          have rx := pat_gr qx.out G7
          have ry := pat_gr qy.out G7
          replace G7 := Lib.hid G7
          replace rx := Lib.hid rx
          replace ry := Lib.hid ry
          have hkc : (k : Int) ≤ (c : Int) := by omega
          have hdt : (R.drop k).take (R.length - k) = R.drop k := List.take_of_length_le (by simp)
          have u1 : ∀ m, (convert 22 9 (.slice (some ⟨g, 0, none⟩) k c)).run Try.prog (wr.drewN m) = .ok (.string (txt (encs (R.take k)))) (wr.drewN m) := fun m => by
            have := row_part (row_gr hrow.out (gr_trans hg.out (gr_drewN wr m none))) 0 k (by omega)
            rw [List.drop_zero] at this
            exact run_runes_string (P := Try.prog) (src := 22) (dst := 9) (e := 21) Try.underlying22 Try.underlying21 Try.underlying9 this c
          have u2 : ∀ m, (convert 22 9 (.slice (if c = k then some ⟨g, 0, none⟩ else some ⟨g, k, none⟩) (R.length - k) (c - k))).run Try.prog (wr.drewN m) = .ok (.string (txt (encs (R.drop k)))) (wr.drewN m) := fun m => by
            have h0 := row_part (row_gr hrow.out (gr_trans hg.out (gr_drewN wr m none))) k (R.length - k) (by omega)
            rw [hdt] at h0
            split
            · have e : R.length - k = 0 := by omega
              have e2 : R.drop k = [] := List.drop_of_length_le (by omega)
              rw [e, e2]
              exact run_runes_string (P := Try.prog) (src := 22) (dst := 9) (e := 21) Try.underlying22 Try.underlying21 Try.underlying9 ⟨rfl, fun j u h => by simp at h⟩ (c - k)
            · exact run_runes_string (P := Try.prog) (src := 22) (dst := 9) (e := 21) Try.underlying22 Try.underlying21 Try.underlying9 h0 (c - k)
          obtain ⟨AA, hAA⟩ : ∃ AA, (if c = k then some (⟨g, 0, none⟩ : Addr) else some ⟨g, k, none⟩) = AA := ⟨_, rfl⟩
          rw [hAA] at u2
          have okR : ∀ r ∈ R, RuneOk r := fun r h => runes_ok (by rw [← hR.out]; exact h)
          have z1 := runes_encs0 (R.take k) (fun r h => okR r (List.mem_of_mem_take h))
          have z2 := runes_encs0 (R.drop k) (fun r h => okR r (List.mem_of_mem_drop h))
          have y1 := (encs_len (R.take k)).2
          have y2 := (encs_len (R.drop k)).2
          rw [List.length_take] at y1
          rw [List.length_drop] at y2
          obtain ⟨S1, hS1⟩ : ∃ S, S = encs (R.take k) := ⟨_, rfl⟩
          obtain ⟨S2, hS2⟩ : ∃ S, S = encs (R.drop k) := ⟨_, rfl⟩
          rw [← hS1] at u1 z1 y1
          rw [← hS2] at u2 z2 y2
          have dx := fun W hp => whole_any H hH p1 l1 x S1 W hp (by omega)
          have dy := fun W hp => whole_any H hH p2 l2 y S2 W hp (by omega)
          rw [z1] at dx
          rw [z2] at dy
          have hH1 := hH x (R.take k)
          have hH2 := hH y (R.drop k)
          generalize H x (R.take k) = f1 at dx hH1
          generalize H y (R.drop k) = f2 at dy hH2
          clear z1 z2 y1 y2 hS1 hS2 okR hdt
          replace dx := Lib.hid dx
          replace dy := Lib.hid dy
          replace hH1 := Lib.hid hH1
          replace hH2 := Lib.hid hH2
          go_wp2_with fail
          go_quiet (fail)
          cases v with
          | true =>
            have GY := gr_drewN wr nq none
            replace GY := Lib.hid GY
            go_wp2
            go_loopw [25] (fun jv w2 => ∃ (j : Nat) (bs : List Bool), j ≤ k ∧ jv = .int .i64 j ∧ Hid (InIs x R k j bs) ∧ Hid (BoolAt w2 W7.heap.size bs) ∧ Hid (Gr W7 w2)) (fun jv _ => k - (intOf jv).toNat)
            case atStart => exact ⟨0, bs, Nat.zero_le _, rfl, out_in ho.out, gr_blk GY.out hb.out (by simp), gr_trans hg.out GY.out⟩
            case round =>
              obtain ⟨j, bs2, hj, rfl, hI, hb2, hg2⟩ := hrel
              by_cases hlt2 : j < k
              · have hji : (j : Int) < (k : Int) := by omega
                obtain ⟨cb, hcb⟩ := in_get hI.out hlt
                obtain ⟨db, hdb⟩ := in_get hI.out (show j ≤ R.length by omega)
                have kc := bool_cell hb2.out hcb
                have kd := bool_cell hb2.out hdb
                have fk : wr.frozen? ⟨W7.heap.size, k, none⟩ = false := blk_free hb2.out k
                have i1 : (k : Int) < (R.length : Int) + 1 := by omega
                have i2 : (j : Int) < (R.length : Int) + 1 := by omega
                replace hcb := Lib.hid hcb
                replace hdb := Lib.hid hdb
                cases cb with
                | true =>
                  go_wp2
                  go_roundw
                  case rel => exact ⟨j + 1, _, by omega, by go_num, in_step hI.out hlt hlt2 hcb.out hdb.out (v := true) (by simp), bool_set hb2.out k true, gr_out hg2.out (gr_set _ ⟨W7.heap.size, k, none⟩ (.bool true)) (Nat.le_refl _)⟩
                  case measure => simp [intOf]; omega
                | false =>
                  cases db with
                  | false =>
                    go_wp2
                    go_roundw
                    case rel => exact ⟨j + 1, _, by omega, by go_num, in_step hI.out hlt hlt2 hcb.out hdb.out (v := false) (by simp), bool_set hb2.out k false, gr_out hg2.out (gr_set _ ⟨W7.heap.size, k, none⟩ (.bool false)) (Nat.le_refl _)⟩
                    case measure => simp [intOf]; omega
                  | true =>
                    have u3 := run_runes_string (P := Try.prog) (src := 22) (dst := 9) (e := 21) Try.underlying22 Try.underlying21 Try.underlying9 (row_part (row_gr hrow.out hg2.out) j (k - j) (by omega)) (c - j)
                    have cj : (c = j) = False := by simp; omega
                    have hjk : (j : Int) ≤ (k : Int) := by omega
                    have z3 := runes_encs0 ((R.drop j).take (k - j)) (fun r h => runes_ok (by rw [← hR.out]; exact List.mem_of_mem_drop (List.mem_of_mem_take h)))
                    have y3 := (encs_len ((R.drop j).take (k - j))).2
                    rw [List.length_take, List.length_drop] at y3
                    obtain ⟨S3, hS3⟩ : ∃ S, S = encs ((R.drop j).take (k - j)) := ⟨_, rfl⟩
                    rw [← hS3] at u3 z3 y3
                    have d3 := whole_any H hH p1 l1 x S3 wr (pat_gr qx.out (gr_trans g7.out hg2.out)) (by omega)
                    rw [z3] at d3
                    have hH3 := hH x ((R.drop j).take (k - j))
                    generalize H x ((R.drop j).take (k - j)) = f3 at d3 hH3
                    clear z3 y3 hS3
                    replace d3 := Lib.hid d3
                    replace hH3 := Lib.hid hH3
                    go_wp2_with fail
                    refine d3.out.mono ?_
                    rintro e W9 ⟨rfl, g9⟩
                    have hb9 := gr_blk g9 hb2.out (by simp)
                    have f9 : W9.frozen? ⟨W7.heap.size, k, none⟩ = false := blk_free hb9 k
                    have k9 : W9.cell? ⟨W7.heap.size, k, none⟩ = some (.bool false) := bool_cell hb9 hcb.out
                    replace hb9 := Lib.hid hb9
                    replace g9 := Lib.hid g9
                    go_wp2
                    go_roundw
                    case rel => exact ⟨j + 1, _, by omega, by go_num, in_step hI.out hlt hlt2 hcb.out hdb.out (v := f3) (by have := hH3.out; simp [this]), bool_set hb9.out k f3, gr_out (gr_trans hg2.out g9.out) (gr_set _ ⟨W7.heap.size, k, none⟩ (.bool f3)) (Nat.le_refl _)⟩
                    case measure => simp [intOf]; omega
              · obtain rfl : j = k := by omega
                go_wp2
                go_roundw
                case rel => exact ⟨j + 1, _, bs2, by omega, by go_num, rfl, Lib.hid (both_next (A := fun i => Lang x (R.take i)) (B := fun i => Lang y (R.drop i)) (v := true) (f1 := f1) (f2 := f2) (new := true) (by simpa using hv.out) (by simpa using hH1.out) (by simpa using hH2.out) (by simp)), in_out hI.out, hb2.out, hg2.out⟩
                case measure => simp [intOf]; omega
          | false =>
            go_wp2_with fail
            refine (dx.out _ (pat_gr rx.out (gr_drewN wr nq none))).mono ?_
            rintro e Wa ⟨rfl, ga⟩
            cases f1 with
            | false =>
              have GY := gr_trans (gr_drewN wr nq none) ga
              replace GY := Lib.hid GY
              go_wp2
              go_loopw [25] (fun jv w2 => ∃ (j : Nat) (bs : List Bool), j ≤ k ∧ jv = .int .i64 j ∧ Hid (InIs x R k j bs) ∧ Hid (BoolAt w2 W7.heap.size bs) ∧ Hid (Gr W7 w2)) (fun jv _ => k - (intOf jv).toNat)
              case atStart => exact ⟨0, bs, Nat.zero_le _, rfl, out_in ho.out, gr_blk GY.out hb.out (by simp), gr_trans hg.out GY.out⟩
              case round =>
                obtain ⟨j, bs2, hj, rfl, hI, hb2, hg2⟩ := hrel
                by_cases hlt2 : j < k
                · have hji : (j : Int) < (k : Int) := by omega
                  obtain ⟨cb, hcb⟩ := in_get hI.out hlt
                  obtain ⟨db, hdb⟩ := in_get hI.out (show j ≤ R.length by omega)
                  have kc := bool_cell hb2.out hcb
                  have kd := bool_cell hb2.out hdb
                  have fk : wr.frozen? ⟨W7.heap.size, k, none⟩ = false := blk_free hb2.out k
                  have i1 : (k : Int) < (R.length : Int) + 1 := by omega
                  have i2 : (j : Int) < (R.length : Int) + 1 := by omega
                  replace hcb := Lib.hid hcb
                  replace hdb := Lib.hid hdb
                  cases cb with
                  | true =>
                    go_wp2
                    go_roundw
                    case rel => exact ⟨j + 1, _, by omega, by go_num, in_step hI.out hlt hlt2 hcb.out hdb.out (v := true) (by simp), bool_set hb2.out k true, gr_out hg2.out (gr_set _ ⟨W7.heap.size, k, none⟩ (.bool true)) (Nat.le_refl _)⟩
                    case measure => simp [intOf]; omega
                  | false =>
                    cases db with
                    | false =>
                      go_wp2
                      go_roundw
                      case rel => exact ⟨j + 1, _, by omega, by go_num, in_step hI.out hlt hlt2 hcb.out hdb.out (v := false) (by simp), bool_set hb2.out k false, gr_out hg2.out (gr_set _ ⟨W7.heap.size, k, none⟩ (.bool false)) (Nat.le_refl _)⟩
                      case measure => simp [intOf]; omega
                    | true =>
                      have u3 := run_runes_string (P := Try.prog) (src := 22) (dst := 9) (e := 21) Try.underlying22 Try.underlying21 Try.underlying9 (row_part (row_gr hrow.out hg2.out) j (k - j) (by omega)) (c - j)
                      have cj : (c = j) = False := by simp; omega
                      have hjk : (j : Int) ≤ (k : Int) := by omega
                      have z3 := runes_encs0 ((R.drop j).take (k - j)) (fun r h => runes_ok (by rw [← hR.out]; exact List.mem_of_mem_drop (List.mem_of_mem_take h)))
                      have y3 := (encs_len ((R.drop j).take (k - j))).2
                      rw [List.length_take, List.length_drop] at y3
                      obtain ⟨S3, hS3⟩ : ∃ S, S = encs ((R.drop j).take (k - j)) := ⟨_, rfl⟩
                      rw [← hS3] at u3 z3 y3
                      have d3 := whole_any H hH p1 l1 x S3 wr (pat_gr qx.out (gr_trans g7.out hg2.out)) (by omega)
                      rw [z3] at d3
                      have hH3 := hH x ((R.drop j).take (k - j))
                      generalize H x ((R.drop j).take (k - j)) = f3 at d3 hH3
                      clear z3 y3 hS3
                      replace d3 := Lib.hid d3
                      replace hH3 := Lib.hid hH3
                      go_wp2_with fail
                      refine d3.out.mono ?_
                      rintro e W9 ⟨rfl, g9⟩
                      have hb9 := gr_blk g9 hb2.out (by simp)
                      have f9 : W9.frozen? ⟨W7.heap.size, k, none⟩ = false := blk_free hb9 k
                      have k9 : W9.cell? ⟨W7.heap.size, k, none⟩ = some (.bool false) := bool_cell hb9 hcb.out
                      replace hb9 := Lib.hid hb9
                      replace g9 := Lib.hid g9
                      go_wp2
                      go_roundw
                      case rel => exact ⟨j + 1, _, by omega, by go_num, in_step hI.out hlt hlt2 hcb.out hdb.out (v := f3) (by have := hH3.out; simp [this]), bool_set hb9.out k f3, gr_out (gr_trans hg2.out g9.out) (gr_set _ ⟨W7.heap.size, k, none⟩ (.bool f3)) (Nat.le_refl _)⟩
                      case measure => simp [intOf]; omega
                · obtain rfl : j = k := by omega
                  go_wp2
                  go_roundw
                  case rel => exact ⟨j + 1, _, bs2, by omega, by go_num, rfl, Lib.hid (both_next (A := fun i => Lang x (R.take i)) (B := fun i => Lang y (R.drop i)) (v := false) (f1 := false) (f2 := f2) (new := false) (by simpa using hv.out) (by simpa using hH1.out) (by simpa using hH2.out) (by simp)), in_out hI.out, hb2.out, hg2.out⟩
                  case measure => simp [intOf]; omega
            | true =>
              go_wp2_with fail
              refine (dy.out _ (pat_gr ry.out (gr_trans (gr_drewN wr nq none) ga))).mono ?_
              rintro e Wb ⟨rfl, gb⟩
              have GY := gr_trans (gr_trans (gr_drewN wr nq none) ga) gb
              replace GY := Lib.hid GY
              go_wp2
              go_loopw [25] (fun jv w2 => ∃ (j : Nat) (bs : List Bool), j ≤ k ∧ jv = .int .i64 j ∧ Hid (InIs x R k j bs) ∧ Hid (BoolAt w2 W7.heap.size bs) ∧ Hid (Gr W7 w2)) (fun jv _ => k - (intOf jv).toNat)
              case atStart => exact ⟨0, bs, Nat.zero_le _, rfl, out_in ho.out, gr_blk GY.out hb.out (by simp), gr_trans hg.out GY.out⟩
              case round =>
                obtain ⟨j, bs2, hj, rfl, hI, hb2, hg2⟩ := hrel
                by_cases hlt2 : j < k
                · have hji : (j : Int) < (k : Int) := by omega
                  obtain ⟨cb, hcb⟩ := in_get hI.out hlt
                  obtain ⟨db, hdb⟩ := in_get hI.out (show j ≤ R.length by omega)
                  have kc := bool_cell hb2.out hcb
                  have kd := bool_cell hb2.out hdb
                  have fk : wr.frozen? ⟨W7.heap.size, k, none⟩ = false := blk_free hb2.out k
                  have i1 : (k : Int) < (R.length : Int) + 1 := by omega
                  have i2 : (j : Int) < (R.length : Int) + 1 := by omega
                  replace hcb := Lib.hid hcb
                  replace hdb := Lib.hid hdb
                  cases cb with
                  | true =>
                    go_wp2
                    go_roundw
                    case rel => exact ⟨j + 1, _, by omega, by go_num, in_step hI.out hlt hlt2 hcb.out hdb.out (v := true) (by simp), bool_set hb2.out k true, gr_out hg2.out (gr_set _ ⟨W7.heap.size, k, none⟩ (.bool true)) (Nat.le_refl _)⟩
                    case measure => simp [intOf]; omega
                  | false =>
                    cases db with
                    | false =>
                      go_wp2
                      go_roundw
                      case rel => exact ⟨j + 1, _, by omega, by go_num, in_step hI.out hlt hlt2 hcb.out hdb.out (v := false) (by simp), bool_set hb2.out k false, gr_out hg2.out (gr_set _ ⟨W7.heap.size, k, none⟩ (.bool false)) (Nat.le_refl _)⟩
                      case measure => simp [intOf]; omega
                    | true =>
                      have u3 := run_runes_string (P := Try.prog) (src := 22) (dst := 9) (e := 21) Try.underlying22 Try.underlying21 Try.underlying9 (row_part (row_gr hrow.out hg2.out) j (k - j) (by omega)) (c - j)
                      have cj : (c = j) = False := by simp; omega
                      have hjk : (j : Int) ≤ (k : Int) := by omega
                      have z3 := runes_encs0 ((R.drop j).take (k - j)) (fun r h => runes_ok (by rw [← hR.out]; exact List.mem_of_mem_drop (List.mem_of_mem_take h)))
                      have y3 := (encs_len ((R.drop j).take (k - j))).2
                      rw [List.length_take, List.length_drop] at y3
                      obtain ⟨S3, hS3⟩ : ∃ S, S = encs ((R.drop j).take (k - j)) := ⟨_, rfl⟩
                      rw [← hS3] at u3 z3 y3
                      have d3 := whole_any H hH p1 l1 x S3 wr (pat_gr qx.out (gr_trans g7.out hg2.out)) (by omega)
                      rw [z3] at d3
                      have hH3 := hH x ((R.drop j).take (k - j))
                      generalize H x ((R.drop j).take (k - j)) = f3 at d3 hH3
                      clear z3 y3 hS3
                      replace d3 := Lib.hid d3
                      replace hH3 := Lib.hid hH3
                      go_wp2_with fail
                      refine d3.out.mono ?_
                      rintro e W9 ⟨rfl, g9⟩
                      have hb9 := gr_blk g9 hb2.out (by simp)
                      have f9 : W9.frozen? ⟨W7.heap.size, k, none⟩ = false := blk_free hb9 k
                      have k9 : W9.cell? ⟨W7.heap.size, k, none⟩ = some (.bool false) := bool_cell hb9 hcb.out
                      replace hb9 := Lib.hid hb9
                      replace g9 := Lib.hid g9
                      go_wp2
                      go_roundw
                      case rel => exact ⟨j + 1, _, by omega, by go_num, in_step hI.out hlt hlt2 hcb.out hdb.out (v := f3) (by have := hH3.out; simp [this]), bool_set hb9.out k f3, gr_out (gr_trans hg2.out g9.out) (gr_set _ ⟨W7.heap.size, k, none⟩ (.bool f3)) (Nat.le_refl _)⟩
                      case measure => simp [intOf]; omega
                · obtain rfl : j = k := by omega
                  go_wp2
                  go_roundw
                  case rel => exact ⟨j + 1, _, bs2, by omega, by go_num, rfl, Lib.hid (both_next (A := fun i => Lang x (R.take i)) (B := fun i => Lang y (R.drop i)) (v := false) (f1 := true) (f2 := f2) (new := f2) (by simpa using hv.out) (by simpa using hH1.out) (by simpa using hH2.out) (by simp)), in_out hI.out, hb2.out, hg2.out⟩
                  case measure => simp [intOf]; omega
        · obtain rfl : k = R.length + 1 := by omega
          obtain ⟨tb, htb, hts⟩ := out_end ho.out
          have kt := bool_cell hb.out htb
          have G7 := gr_trans g7.out hg.out
          have okR : ∀ r ∈ R, RuneOk r := fun r h => runes_ok (by rw [← hR.out]; exact h)
          have zR := runes_encs0 R okR
          have yR := (encs_len R).2
          rw [← hU.out] at zR yR
          have eB : H xB R = v := by
            rw [Bool.eq_iff_iff, hH xB R, lB.out R, both_take, hv.out]
            exact ⟨fun ⟨i, h, k⟩ => ⟨i, by omega, k⟩, fun ⟨i, h, k⟩ => ⟨i, by omega, k⟩⟩
          have eE : H xE R = (H x R || H y R) := by
            rw [Bool.eq_iff_iff, hH xE R, lE.out R, Bool.or_eq_true, hH x R, hH y R]
          have eA : H xA R = tb := by
            rw [Bool.eq_iff_iff, hH xA R, lA.out R, hts]
          have dB := fun W (G : Gr wr W) => whole_any H hH pB _ xB U W (pat_gr qB.out (gr_trans G7 G)) (by omega)
          have dE := fun W (G : Gr wr W) => whole_any H hH pE _ xE U W (pat_gr qE.out (gr_trans G7 G)) (by omega)
          have dA := fun W (G : Gr wr W) => whole_any H hH pA _ xA U W (pat_gr hA.out (gr_trans G7 G)) (by omega)
          have dX := fun W (G : Gr wr W) => whole_any H hH p1 _ x U W (pat_gr qx.out (gr_trans G7 G)) (by omega)
          have dY := fun W (G : Gr wr W) => whole_any H hH p2 _ y U W (pat_gr qy.out (gr_trans G7 G)) (by omega)
          rw [zR, eB] at dB
          rw [zR, eE] at dE
          rw [zR, eA] at dA
          rw [zR] at dX dY
          clear eB eE eA zR yR okR hv ho
          generalize H x R = f1 at dX dE
          generalize H y R = f2 at dY dE
          replace dB := Lib.hid dB
          replace dE := Lib.hid dE
          replace dA := Lib.hid dA
          replace dX := Lib.hid dX
          replace dY := Lib.hid dY
          replace G7 := Lib.hid G7
          have i0 : (R.length : Int) < (R.length : Int) + 1 := by omega
          by_cases hn0 : R.length = 0
          · have e0 : ((R.length : Int) == 0) = true := eqT (by omega)
            obtain rfl : tb = true := hts.2 (by rw [List.eq_nil_of_length_eq_zero hn0]; exact .nil)
            clear hts htb
            go_wp2_with fail
            refine (dB.out _ (gr_refl _ _)).mono ?_
            rintro e V1 ⟨rfl, v1⟩
            go_wp2_with fail
            refine (dE.out _ v1).mono ?_
            rintro e V2 ⟨rfl, v2⟩
            go_wp2_with fail
            refine (dX.out _ (gr_trans v1 v2)).mono ?_
            rintro e V3 ⟨rfl, v3⟩
            cases f1 with
            | true =>
              go_wp2_with fail
              refine (dA.out _ (gr_trans (gr_trans v1 v2) v3)).mono ?_
              rintro e V4 ⟨rfl, v4⟩
              go_wp2
              go_ret
              exact ⟨by simp, gr_below (gr_trans (gr_trans (gr_trans (gr_trans (gr_trans G6.out G7.out) v1) v2) v3) v4)⟩
            | false =>
              go_wp2_with fail
              refine (dY.out _ (gr_trans (gr_trans v1 v2) v3)).mono ?_
              rintro e V4 ⟨rfl, v4⟩
              go_wp2_with fail
              refine (dA.out _ (gr_trans (gr_trans (gr_trans v1 v2) v3) v4)).mono ?_
              rintro e V5 ⟨rfl, v5⟩
              go_wp2
              go_ret
              exact ⟨by simp, gr_below (gr_trans (gr_trans (gr_trans (gr_trans (gr_trans (gr_trans G6.out G7.out) v1) v2) v3) v4) v5)⟩
          · have e0 : ((R.length : Int) == 0) = false := eqF (by omega)
            clear hts htb
            go_wp2_with fail
            refine (dB.out _ (gr_refl _ _)).mono ?_
            rintro e V1 ⟨rfl, v1⟩
            go_wp2_with fail
            refine (dE.out _ v1).mono ?_
            rintro e V2 ⟨rfl, v2⟩
            go_wp2_with fail
            refine (dX.out _ (gr_trans v1 v2)).mono ?_
            rintro e V3 ⟨rfl, v3⟩
            cases f1 with
            | true =>
              go_wp2_with fail
              refine (dA.out _ (gr_trans (gr_trans v1 v2) v3)).mono ?_
              rintro e V4 ⟨rfl, v4⟩
              go_wp2
              go_ret
              exact ⟨by simp, gr_below (gr_trans (gr_trans (gr_trans (gr_trans (gr_trans G6.out G7.out) v1) v2) v3) v4)⟩
            | false =>
              go_wp2_with fail
              refine (dY.out _ (gr_trans (gr_trans v1 v2) v3)).mono ?_
              rintro e V4 ⟨rfl, v4⟩
              go_wp2_with fail
              refine (dA.out _ (gr_trans (gr_trans (gr_trans v1 v2) v3) v4)).mono ?_
              rintro e V5 ⟨rfl, v5⟩
              go_wp2
              go_ret
              exact ⟨by simp, gr_below (gr_trans (gr_trans (gr_trans (gr_trans (gr_trans (gr_trans G6.out G7.out) v1) v2) v3) v4) v5)⟩


set_option maxRecDepth 100000 in
theorem lifted (os : Os) (started : os.Started) (H : Type) (enc : TypeId × Value → H) :
    ReturnsInHanded {} Try.checked os 4 .any (Rows.patternPartsSpec.pre6 enc Try.prog Try.f4 Rows.patternPartsRow.domain false) (Rows.patternPartsSpec.post enc Try.prog Try.f4 false true false false) := by
  refine returnsInHanded_of_change (C := Try.checked) own started (by kernel_rfl) Try.func4
    (ChangeSpec.witness6 (enc := enc) (C := Try.checked) false ⟨#[], #[.string ByteArray.empty, .string ByteArray.empty, .string ByteArray.empty], []⟩ 8 (by kernel_rfl) (by kernel_rfl) (by kernel_rfl) (by kernel_rfl)) ?_
  intro W base args ds gs before hval0 hW hcnd _
  have hval : ∀ (j : Nat) t v, Try.f4.params[j]? = some t → args[j]? = some v → Value.okWide Try.prog W .any base t v := hval0
  have hW' := hW
  obtain ⟨p, q, hA0, hV, rfl, hfz, hnd⟩ := hW
  have hA : DataW.TrodAll enc Try.prog W 0 (fun _ => true) true Try.f4.params.toList args.toList ds p := hA0
  rw [Try.params4] at hA hval
  obtain ⟨v0, vs0, d0, ds0, p0, q0, hargs, rfl, rfl, h0, r0⟩ := trodAll_cons hA
  obtain ⟨v1, vs1, d1, ds1, p1, q1, rfl, rfl, rfl, h1, r1⟩ := trodAll_cons r0
  obtain ⟨v2, vs2, d2, ds2, p2, q2, rfl, rfl, rfl, h2, r2⟩ := trodAll_cons r1
  obtain ⟨rfl, rfl, rfl⟩ := trodAll_nil r2
  obtain rfl : args = #[v0, v1, v2] := by cases args; simp_all
  obtain ⟨rfl, rfl⟩ := trodVars_none hV
  obtain ⟨a0, rfl, rfl, rfl, w0⟩ := open_string Try.underlying9 (hval 0 9 v0 rfl rfl) h0
  obtain ⟨a1, rfl, rfl, rfl, w1⟩ := open_string Try.underlying9 (hval 1 9 v1 rfl rfl) h1
  obtain ⟨a2, rfl, rfl, rfl, w2⟩ := open_string Try.underlying9 (hval 2 9 v2 rfl rfl) h2
  clear hA0 hval0
  refine (walk W a0 w0 a1 w1 a2 w2).mono fun e W' ⟨he, bel⟩ => ?_
  subst he
  exact ⟨_, rfl, _, _, _, [], _, [], hW', trodAll_mk1 (shut_bool Try.underlying4 _), (trodAll_cons_mk (shut_string Try.underlying9 w0) (trodAll_cons_mk (shut_string Try.underlying9 w1) (trodAll_cons_mk (shut_string Try.underlying9 w2) trodAll_mk0))), rfl, bel.frame _, fun h => by cases h⟩

theorem over : Rows.patternPartsRow.holds Try.pinned (OpenSpec.ofChange Rows.patternPartsSpec) :=
  OpenClaim.holds_of_wide 4 Try.f4 rfl rfl rfl rfl rfl rfl rfl ⟨rfl, rfl, rfl, rfl, rfl⟩ rfl rfl rfl rfl rfl (by kernel_rfl) Try.func4 (by kernel_rfl)
    (of_decide_eq_true (by kernel_rfl)) (by unfold Func.isWrapper; first | (rw [if_pos (by decide +kernel)]; kernel_rfl) | (rw [if_neg (by decide +kernel)]; exact ⟨rfl, rfl⟩))
    (fun os started H enc _ => lifted os started H enc)

/-- THE STATEMENT -/
theorem proved : Rows.PatternPartsSaid := over
#print axioms proved
end Go.Proofs.Ytdccmmibfacpkaa.patternParts

