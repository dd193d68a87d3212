/-
  PatternAgain holds of the program: for every input the call returns true and leaves what came in as it was. No condition.
-/
import Derived.Test.YtdccmmibfacpkaaRows
import Derived.Test.YtdccmmibfacpkaaPatLaw
import Derived.WalkKit
import Derived.ProofKit
import Derived.OpenShut
import Derived.ShutString
import Derived.ChangeOld
import Derived.Below
namespace Go.Proofs.Ytdccmmibfacpkaa.patternAgain
open Go.ChangeShapes Go.WideShapes Go.ChangeAt Go.RowKit
open Go.ChangeMaps (open_string shut_string)
set_option linter.unusedVariables false

theorem own : ownKnob Try.prog.godebug = none := by kernel_rfl
theorem laidOut : laidOutB Try.prog = true := by kernel_rfl
theorem runes_wrap (l : List UInt8) (c : UInt8) (hc : c.toNat < 128) : runesOf (40 :: (l ++ [41, c])) = 40 :: (runesOf l ++ [41, (c.toNat : Int)]) := by
  rw [runes_cons 40 (by decide), runes_tail l 41 (by decide), runes_cons 41 (by decide), runes_cons c hc, runes_nil]
  rfl
set_option maxHeartbeats 80000000 in
set_option maxRecDepth 100000 in
theorem walk (w : World) (a0 : ByteArray) (w0 : a0.size ≤ maxLen) (a1 : ByteArray) (w1 : a1.size ≤ maxLen) :
    Calls Try.prog 5 #[.string a0, .string a1] w fun e w' => e = .returned (.bool true) ∧ Below w.heap.size w w' := by
  obtain ⟨l, rfl⟩ : ∃ l, a0 = txt l := ⟨_, (txt_of a0).symm⟩
  obtain ⟨m, rfl⟩ : ∃ m, a1 = txt m := ⟨_, (txt_of a1).symm⟩
  rw [txt_size] at w0 w1
  unfold maxLen at w0 w1
  by_cases b1 : 20 < l.length
  · have b1' : (20 : Int) < (l.length : Int) := by omega
    go_enter Try.func5, Try.ntmps5
    go_wp2_with fail
    refine (alive_any _).mono ?_
    rintro e W1 ⟨rfl, g1⟩
    go_wp2
    go_ret
    exact ⟨rfl, gr_below g1⟩
  have b1F : ((20 : Int) < (l.length : Int)) = False := by simp; omega
  have b1' : (l.length : Int) ≤ 20 := by omega
  by_cases b2 : 30 < m.length
  · have b2' : (30 : Int) < (m.length : Int) := by omega
    go_enter Try.func5, Try.ntmps5
    go_wp2_with fail
    refine (alive_any _).mono ?_
    rintro e W1 ⟨rfl, g1⟩
    go_wp2
    go_ret
    exact ⟨rfl, gr_below g1⟩
  have b2F : ((30 : Int) < (m.length : Int)) = False := by simp; omega
  have b2' : (m.length : Int) ≤ 30 := by omega
  obtain ⟨H, hH⟩ := holds_ex
  have cC := fun w => compile_any 200 (by omega) l w (by omega)
  have cS := fun w => refSpell_runes m w (by omega)
  have hrl := runes_le m
  have hll := runes_le l
  replace cC := Lib.hid cC
  replace cS := Lib.hid cS
  go_enter Try.func5, Try.ntmps5
  go_wp2_with fail
  refine (alive_any _).mono ?_
  rintro e W1 ⟨rfl, g1⟩
  go_wp2_with fail
  refine (cC.out _).mono ?_
  rintro e W2 ⟨g2, ⟨hbig, rfl⟩ | ⟨hle, hno, rfl⟩ | ⟨hle, p, x, hx, _, rfl, hp⟩⟩
  · replace hbig := Lib.hid hbig
    go_wp2
    go_ret
    exact ⟨rfl, gr_below (gr_trans g1 g2)⟩
  · replace hno := Lib.hid hno
    replace hle := Lib.hid hle
    go_wp2
    go_ret
    exact ⟨rfl, gr_below (gr_trans g1 g2)⟩
  have pSt := parses_times hx 42 (.inl rfl)
  have pPl := parses_times hx 43 (.inr (.inl rfl))
  have pOn := parses_times hx 63 (.inr (.inr rfl))
  have lSt : ∀ u, Lang (.alt1 (.rowS .row0 (.rep x ((42 : Int) ≠ 43) ((42 : Int) ≠ 63)))) u ↔ Star (Lang x) u := fun u => (lang_in _ u).trans Iff.rfl
  have lPl : ∀ u, Lang (.alt1 (.rowS .row0 (.rep x ((43 : Int) ≠ 43) ((43 : Int) ≠ 63)))) u ↔ ∃ a b, u = a ++ b ∧ Lang x a ∧ Star (Lang x) b := fun u => (lang_in _ u).trans Iff.rfl
  have lOn : ∀ u, Lang (.alt1 (.rowS .row0 (.rep x ((63 : Int) ≠ 43) ((63 : Int) ≠ 63)))) u ↔ u = [] ∨ Lang x u := fun u => (lang_in _ u).trans Iff.rfl
  generalize (T.alt1 (.rowS .row0 (.rep x ((42 : Int) ≠ 43) ((42 : Int) ≠ 63)))) = tSt at pSt lSt
  generalize (T.alt1 (.rowS .row0 (.rep x ((43 : Int) ≠ 43) ((43 : Int) ≠ 63)))) = tPl at pPl lPl
  generalize (T.alt1 (.rowS .row0 (.rep x ((63 : Int) ≠ 43) ((63 : Int) ≠ 63)))) = tOn at pOn lOn
  have cSt := fun w => compile_ok 204 (by omega) (40 :: (l ++ [41, 42])) tSt w (by rw [runes_wrap l 42 (by decide)]; exact pSt) (by rw [runes_wrap l 42 (by decide)]; simp; omega) (by simp; omega)
  have cPl := fun w => compile_ok 204 (by omega) (40 :: (l ++ [41, 43])) tPl w (by rw [runes_wrap l 43 (by decide)]; exact pPl) (by rw [runes_wrap l 43 (by decide)]; simp; omega) (by simp; omega)
  have cOn := fun w => compile_ok 204 (by omega) (40 :: (l ++ [41, 63])) tOn w (by rw [runes_wrap l 63 (by decide)]; exact pOn) (by rw [runes_wrap l 63 (by decide)]; simp; omega) (by simp; omega)
  have e0 : (⟨#[40]⟩ : ByteArray) ++ txt l = txt (40 :: l) := txt_append [40] l
  have e1 : txt (40 :: l) ++ (⟨#[41, 42]⟩ : ByteArray) = txt (40 :: (l ++ [41, 42])) := txt_append (40 :: l) [41, 42]
  have e2 : txt (40 :: l) ++ (⟨#[41, 43]⟩ : ByteArray) = txt (40 :: (l ++ [41, 43])) := txt_append (40 :: l) [41, 43]
  have e3 : txt (40 :: l) ++ (⟨#[41, 63]⟩ : ByteArray) = txt (40 :: (l ++ [41, 63])) := txt_append (40 :: l) [41, 63]
  have n0 : (9223372036854775807 < 1 + l.length) = False := by simp; omega
  have n1 : (9223372036854775807 < l.length + 1 + 2) = False := by simp; omega
  obtain ⟨S, hS⟩ : ∃ S, S = runesOf m := ⟨_, rfl⟩
  have hokS : ∀ r ∈ S, RuneOk r := fun r hr => runes_ok (by rw [← hS]; exact hr)
  have hSl : S.length ≤ 30 := by rw [hS]; omega
  have rU : runesOf (encs S ++ encs S) = S ++ S := by rw [runes_encs S hokS, runes_encs0 S hokS]
  have hUl := (encs_len S).2
  replace cSt := Lib.hid cSt
  replace cPl := Lib.hid cPl
  replace cOn := Lib.hid cOn
  replace hx := Lib.hid hx
  replace pSt := Lib.hid pSt
  replace pPl := Lib.hid pPl
  replace pOn := Lib.hid pOn
  replace lSt := Lib.hid lSt
  replace lPl := Lib.hid lPl
  replace lOn := Lib.hid lOn
  replace hS := Lib.hid hS
  replace hokS := Lib.hid hokS
  replace rU := Lib.hid rU
  replace hp := Lib.hid hp
  replace hle := Lib.hid hle
  go_wp2_with fail
  refine (cS.out _).mono ?_
  rintro e W3 ⟨A, c, rfl, hown, g3⟩
  rw [← hS.out] at hown ⊢
  have hcv := run_runes_string (P := Try.prog) (src := 22) (dst := 9) (e := 21) Try.underlying22 Try.underlying21 Try.underlying9 (row_own hown) c
  replace hown := Lib.hid hown
  obtain ⟨U, hU⟩ : ∃ U, U = encs S := ⟨_, rfl⟩
  rw [← hU] at hcv hUl
  replace hU := Lib.hid hU
  have eU : txt U ++ txt U = txt (U ++ U) := txt_append U U
  have nU : (9223372036854775807 < U.length + U.length) = False := by simp; omega
  go_wp2_with fail
  refine (cSt.out _).mono ?_
  rintro e W4 ⟨pst, rfl, hpst, g4⟩
  go_wp2_with fail
  refine (cPl.out _).mono ?_
  rintro e W5 ⟨ppl, rfl, hppl, g5⟩
  go_wp2_with fail
  refine (cOn.out _).mono ?_
  rintro e W6 ⟨pon, rfl, hpon, g6⟩
  have qx := pat_gr (pat_gr (pat_gr (pat_gr hp.out g3) g4) g5) g6
  have qst := pat_gr (pat_gr hpst g5) g6
  have qpl := pat_gr hppl g6
  have G6 := gr_trans (gr_trans (gr_trans (gr_trans (gr_trans g1 g2) g3) g4) g5) g6
  have hd : txt [] = ⟨#[]⟩ := rfl
  have d1 := fun W (G : Gr W6 W) => whole_any H hH pst _ tSt [] W (pat_gr qst G) (by simp)
  have d2 := fun W (G : Gr W6 W) => whole_any H hH pon _ tOn [] W (pat_gr hpon G) (by simp)
  have d3 := fun W (G : Gr W6 W) => whole_any H hH ppl _ tPl [] W (pat_gr qpl G) (by simp)
  have d4 := fun W (G : Gr W6 W) => whole_any H hH p _ x [] W (pat_gr qx G) (by simp)
  have d5 := fun W (G : Gr W6 W) => whole_any H hH pon _ tOn m W (pat_gr hpon G) (by omega)
  have d6 := fun W (G : Gr W6 W) => whole_any H hH p _ x m W (pat_gr qx G) (by omega)
  have d7 := fun W (G : Gr W6 W) => whole_any H hH ppl _ tPl m W (pat_gr qpl G) (by omega)
  have d8 := fun W (G : Gr W6 W) => whole_any H hH pst _ tSt m W (pat_gr qst G) (by omega)
  have d9 := fun W (G : Gr W6 W) => whole_any H hH ppl _ tPl (U ++ U) W (pat_gr qpl G) (by rw [List.length_append]; omega)
  rw [runes_nil, hd] at d1 d2 d3 d4
  rw [← hS.out] at d5 d6 d7 d8
  rw [hU.out, rU.out, ← hU.out] at d9
  have v1 : H tSt [] = true := holds_yes hH ((lSt.out []).2 .nil)
  have v2 : H tOn [] = true := holds_yes hH ((lOn.out []).2 (.inl rfl))
  have v3 : H tPl [] = H x [] := holds_eq hH ⟨fun h => by
    obtain ⟨a, b, e, ha, _⟩ := (lPl.out []).1 h
    have : a = [] := (List.append_eq_nil_iff.1 e.symm).1
    rw [this] at ha
    exact ha, fun h => (lPl.out []).2 ⟨[], [], rfl, h, .nil⟩⟩
  have v5 : S ≠ [] → H tOn S = H x S := fun hne => holds_eq hH ⟨fun h => ((lOn.out S).1 h).resolve_left hne, fun h => (lOn.out S).2 (.inr h)⟩
  have v5' : S = [] → H tOn S = true := fun h => holds_yes hH ((lOn.out S).2 (.inl h))
  have v7 : H x S = true → H tPl S = true := fun h => holds_yes hH ((lPl.out S).2 ⟨S, [], by simp, (hH x S).1 h, .nil⟩)
  have v8 : H tPl S = true → H tSt S = true := fun h => holds_yes hH ((lSt.out S).2 (by
    obtain ⟨a, b, e, ha, hb⟩ := (lPl.out S).1 ((hH tPl S).1 h)
    rw [e]
    exact .cons ha hb))
  have v9 : H x S = true → H tPl (S ++ S) = true := fun h => holds_yes hH ((lPl.out (S ++ S)).2 ⟨S, S, rfl, (hH x S).1 h, star_one ((hH x S).1 h)⟩)
  have v0 : S = [] → m = [] := fun h => runes_empty (by rw [← hS.out]; exact h)
  have v0' : m = [] → S = [] := fun h => by rw [hS.out, h]; rfl
  rw [v1] at d1
  rw [v2] at d2
  rw [v3] at d3
  have G : Gr W6 W6 := gr_refl _ _
  replace G := Lib.hid G
  replace qx := Lib.hid qx
  replace qst := Lib.hid qst
  replace qpl := Lib.hid qpl
  replace hpst := Lib.hid hpst
  replace hppl := Lib.hid hppl
  replace hpon := Lib.hid hpon
  replace G6 := Lib.hid G6
  clear v1 v2 v3 g1 g2 g3 g4 g5 g6 hd hcv e0 e1 e2 e3
  by_cases hm : m = []
  · have hS0 := v0' hm
    have q5 := v5' hS0
    subst hm
    rw [q5] at d5
    rw [hS0] at d6 d7 d8 v7 v8 v9
    have v99 : H x [] = true → H tPl (S ++ S) = true := fun h => by rw [hS0]; exact v9 h
    cases h0 : H x [] with
    | true =>
      rw [h0] at d3 d4 d6
      rw [v7 h0] at d7
      rw [v8 (v7 h0)] at d8
      rw [v99 h0] at d9
      replace hS0 := Lib.hid hS0
      replace q5 := Lib.hid q5
      replace h0 := Lib.hid h0
      clear v0 v0' v5 v5' v7 v8 v9 v99
      replace d1 := Lib.hid d1
      replace d2 := Lib.hid d2
      replace d3 := Lib.hid d3
      replace d4 := Lib.hid d4
      replace d5 := Lib.hid d5
      replace d6 := Lib.hid d6
      replace d7 := Lib.hid d7
      replace d8 := Lib.hid d8
      replace d9 := Lib.hid d9
      go_wp2_with fail
      refine (d1.out _ G.out).mono ?_
      rintro e Wn ⟨rfl, gn⟩
      have G2 := Lib.hid (gr_trans G.out gn)
      clear gn G
      have G := G2
      clear G2
      go_wp2_with fail
      refine (d2.out _ G.out).mono ?_
      rintro e Wn ⟨rfl, gn⟩
      have G2 := Lib.hid (gr_trans G.out gn)
      clear gn G
      have G := G2
      clear G2
      go_wp2_with fail
      refine (d3.out _ G.out).mono ?_
      rintro e Wn ⟨rfl, gn⟩
      have G2 := Lib.hid (gr_trans G.out gn)
      clear gn G
      have G := G2
      clear G2
      go_wp2_with fail
      refine (d4.out _ G.out).mono ?_
      rintro e Wn ⟨rfl, gn⟩
      have G2 := Lib.hid (gr_trans G.out gn)
      clear gn G
      have G := G2
      clear G2
      go_wp2_with fail
      refine (d5.out _ G.out).mono ?_
      rintro e Wn ⟨rfl, gn⟩
      have G2 := Lib.hid (gr_trans G.out gn)
      clear gn G
      have G := G2
      clear G2
      go_wp2_with fail
      refine (d6.out _ G.out).mono ?_
      rintro e Wn ⟨rfl, gn⟩
      have G2 := Lib.hid (gr_trans G.out gn)
      clear gn G
      have G := G2
      clear G2
      go_wp2_with fail
      refine (d7.out _ G.out).mono ?_
      rintro e Wn ⟨rfl, gn⟩
      have G2 := Lib.hid (gr_trans G.out gn)
      clear gn G
      have G := G2
      clear G2
      go_wp2_with fail
      refine (d7.out _ G.out).mono ?_
      rintro e Wn ⟨rfl, gn⟩
      have G2 := Lib.hid (gr_trans G.out gn)
      clear gn G
      have G := G2
      clear G2
      go_wp2_with fail
      refine (d8.out _ G.out).mono ?_
      rintro e Wn ⟨rfl, gn⟩
      have G2 := Lib.hid (gr_trans G.out gn)
      clear gn G
      have G := G2
      clear G2
      go_wp2_with fail
      refine (d6.out _ G.out).mono ?_
      rintro e Wn ⟨rfl, gn⟩
      have G2 := Lib.hid (gr_trans G.out gn)
      clear gn G
      have G := G2
      clear G2
      go_wp2_with fail
      refine (d9.out _ G.out).mono ?_
      rintro e Wn ⟨rfl, gn⟩
      have G2 := Lib.hid (gr_trans G.out gn)
      clear gn G
      have G := G2
      clear G2
      go_wp2
      go_ret
      exact ⟨rfl, gr_below (gr_trans G6.out G.out)⟩
    | false =>
      have h7 : H tPl [] = false := by
        refine holds_no hH (fun h => ?_)
        obtain ⟨a, b, e, ha, _⟩ := (lPl.out []).1 h
        have : a = [] := (List.append_eq_nil_iff.1 e.symm).1
        rw [this] at ha
        rw [holds_yes hH ha] at h0
        cases h0
      rw [h0] at d3 d4 d6
      rw [h7] at d7
      replace hS0 := Lib.hid hS0
      replace q5 := Lib.hid q5
      replace h0 := Lib.hid h0
      replace h7 := Lib.hid h7
      clear v0 v0' v5 v5' v7 v8 v9 v99
      replace d1 := Lib.hid d1
      replace d2 := Lib.hid d2
      replace d3 := Lib.hid d3
      replace d4 := Lib.hid d4
      replace d5 := Lib.hid d5
      replace d6 := Lib.hid d6
      replace d7 := Lib.hid d7
      replace d8 := Lib.hid d8
      replace d9 := Lib.hid d9
      go_wp2_with fail
      refine (d1.out _ G.out).mono ?_
      rintro e Wn ⟨rfl, gn⟩
      have G2 := Lib.hid (gr_trans G.out gn)
      clear gn G
      have G := G2
      clear G2
      go_wp2_with fail
      refine (d2.out _ G.out).mono ?_
      rintro e Wn ⟨rfl, gn⟩
      have G2 := Lib.hid (gr_trans G.out gn)
      clear gn G
      have G := G2
      clear G2
      go_wp2_with fail
      refine (d3.out _ G.out).mono ?_
      rintro e Wn ⟨rfl, gn⟩
      have G2 := Lib.hid (gr_trans G.out gn)
      clear gn G
      have G := G2
      clear G2
      go_wp2_with fail
      refine (d4.out _ G.out).mono ?_
      rintro e Wn ⟨rfl, gn⟩
      have G2 := Lib.hid (gr_trans G.out gn)
      clear gn G
      have G := G2
      clear G2
      go_wp2_with fail
      refine (d5.out _ G.out).mono ?_
      rintro e Wn ⟨rfl, gn⟩
      have G2 := Lib.hid (gr_trans G.out gn)
      clear gn G
      have G := G2
      clear G2
      go_wp2_with fail
      refine (d6.out _ G.out).mono ?_
      rintro e Wn ⟨rfl, gn⟩
      have G2 := Lib.hid (gr_trans G.out gn)
      clear gn G
      have G := G2
      clear G2
      go_wp2_with fail
      refine (d7.out _ G.out).mono ?_
      rintro e Wn ⟨rfl, gn⟩
      have G2 := Lib.hid (gr_trans G.out gn)
      clear gn G
      have G := G2
      clear G2
      go_wp2_with fail
      refine (d6.out _ G.out).mono ?_
      rintro e Wn ⟨rfl, gn⟩
      have G2 := Lib.hid (gr_trans G.out gn)
      clear gn G
      have G := G2
      clear G2
      go_wp2
      go_ret
      exact ⟨rfl, gr_below (gr_trans G6.out G.out)⟩
  · have hSne : S ≠ [] := fun h => hm (v0 h)
    have hmF : (m == []) = false := by rw [beq_eq_false_iff_ne]; exact hm
    rw [v5 hSne] at d5
    clear v0 v0' v5 v5'
    replace hm := Lib.hid hm
    replace hSne := Lib.hid hSne
    generalize hb0 : H x [] = b0 at d3 d4
    replace hb0 := Lib.hid hb0
    have hbb : (b0 == b0) = true := by simp
    cases h1 : H x S with
    | true =>
      rw [h1] at d5 d6
      rw [v7 h1] at d7
      rw [v8 (v7 h1)] at d8
      rw [v9 h1] at d9
      replace h1 := Lib.hid h1
      clear v7 v8 v9
      replace d1 := Lib.hid d1
      replace d2 := Lib.hid d2
      replace d3 := Lib.hid d3
      replace d4 := Lib.hid d4
      replace d5 := Lib.hid d5
      replace d6 := Lib.hid d6
      replace d7 := Lib.hid d7
      replace d8 := Lib.hid d8
      replace d9 := Lib.hid d9
      go_wp2_with fail
      refine (d1.out _ G.out).mono ?_
      rintro e Wn ⟨rfl, gn⟩
      have G2 := Lib.hid (gr_trans G.out gn)
      clear gn G
      have G := G2
      clear G2
      go_wp2_with fail
      refine (d2.out _ G.out).mono ?_
      rintro e Wn ⟨rfl, gn⟩
      have G2 := Lib.hid (gr_trans G.out gn)
      clear gn G
      have G := G2
      clear G2
      go_wp2_with fail
      refine (d3.out _ G.out).mono ?_
      rintro e Wn ⟨rfl, gn⟩
      have G2 := Lib.hid (gr_trans G.out gn)
      clear gn G
      have G := G2
      clear G2
      go_wp2_with fail
      refine (d4.out _ G.out).mono ?_
      rintro e Wn ⟨rfl, gn⟩
      have G2 := Lib.hid (gr_trans G.out gn)
      clear gn G
      have G := G2
      clear G2
      go_wp2_with fail
      refine (d5.out _ G.out).mono ?_
      rintro e Wn ⟨rfl, gn⟩
      have G2 := Lib.hid (gr_trans G.out gn)
      clear gn G
      have G := G2
      clear G2
      go_wp2_with fail
      refine (d6.out _ G.out).mono ?_
      rintro e Wn ⟨rfl, gn⟩
      have G2 := Lib.hid (gr_trans G.out gn)
      clear gn G
      have G := G2
      clear G2
      go_wp2_with fail
      refine (d6.out _ G.out).mono ?_
      rintro e Wn ⟨rfl, gn⟩
      have G2 := Lib.hid (gr_trans G.out gn)
      clear gn G
      have G := G2
      clear G2
      go_wp2_with fail
      refine (d7.out _ G.out).mono ?_
      rintro e Wn ⟨rfl, gn⟩
      have G2 := Lib.hid (gr_trans G.out gn)
      clear gn G
      have G := G2
      clear G2
      go_wp2_with fail
      refine (d7.out _ G.out).mono ?_
      rintro e Wn ⟨rfl, gn⟩
      have G2 := Lib.hid (gr_trans G.out gn)
      clear gn G
      have G := G2
      clear G2
      go_wp2_with fail
      refine (d8.out _ G.out).mono ?_
      rintro e Wn ⟨rfl, gn⟩
      have G2 := Lib.hid (gr_trans G.out gn)
      clear gn G
      have G := G2
      clear G2
      go_wp2_with fail
      refine (d6.out _ G.out).mono ?_
      rintro e Wn ⟨rfl, gn⟩
      have G2 := Lib.hid (gr_trans G.out gn)
      clear gn G
      have G := G2
      clear G2
      go_wp2_with fail
      refine (d9.out _ G.out).mono ?_
      rintro e Wn ⟨rfl, gn⟩
      have G2 := Lib.hid (gr_trans G.out gn)
      clear gn G
      have G := G2
      clear G2
      go_wp2
      go_ret
      exact ⟨rfl, gr_below (gr_trans G6.out G.out)⟩
    | false =>
      rw [h1] at d5 d6
      cases h2 : H tPl S with
      | true =>
        rw [h2] at d7
        rw [v8 h2] at d8
        replace h1 := Lib.hid h1
        replace h2 := Lib.hid h2
        clear v7 v8 v9
        replace d1 := Lib.hid d1
        replace d2 := Lib.hid d2
        replace d3 := Lib.hid d3
        replace d4 := Lib.hid d4
        replace d5 := Lib.hid d5
        replace d6 := Lib.hid d6
        replace d7 := Lib.hid d7
        replace d8 := Lib.hid d8
        replace d9 := Lib.hid d9
        go_wp2_with fail
        refine (d1.out _ G.out).mono ?_
        rintro e Wn ⟨rfl, gn⟩
        have G2 := Lib.hid (gr_trans G.out gn)
        clear gn G
        have G := G2
        clear G2
        go_wp2_with fail
        refine (d2.out _ G.out).mono ?_
        rintro e Wn ⟨rfl, gn⟩
        have G2 := Lib.hid (gr_trans G.out gn)
        clear gn G
        have G := G2
        clear G2
        go_wp2_with fail
        refine (d3.out _ G.out).mono ?_
        rintro e Wn ⟨rfl, gn⟩
        have G2 := Lib.hid (gr_trans G.out gn)
        clear gn G
        have G := G2
        clear G2
        go_wp2_with fail
        refine (d4.out _ G.out).mono ?_
        rintro e Wn ⟨rfl, gn⟩
        have G2 := Lib.hid (gr_trans G.out gn)
        clear gn G
        have G := G2
        clear G2
        go_wp2_with fail
        refine (d5.out _ G.out).mono ?_
        rintro e Wn ⟨rfl, gn⟩
        have G2 := Lib.hid (gr_trans G.out gn)
        clear gn G
        have G := G2
        clear G2
        go_wp2_with fail
        refine (d6.out _ G.out).mono ?_
        rintro e Wn ⟨rfl, gn⟩
        have G2 := Lib.hid (gr_trans G.out gn)
        clear gn G
        have G := G2
        clear G2
        go_wp2_with fail
        refine (d6.out _ G.out).mono ?_
        rintro e Wn ⟨rfl, gn⟩
        have G2 := Lib.hid (gr_trans G.out gn)
        clear gn G
        have G := G2
        clear G2
        go_wp2_with fail
        refine (d7.out _ G.out).mono ?_
        rintro e Wn ⟨rfl, gn⟩
        have G2 := Lib.hid (gr_trans G.out gn)
        clear gn G
        have G := G2
        clear G2
        go_wp2_with fail
        refine (d8.out _ G.out).mono ?_
        rintro e Wn ⟨rfl, gn⟩
        have G2 := Lib.hid (gr_trans G.out gn)
        clear gn G
        have G := G2
        clear G2
        go_wp2_with fail
        refine (d6.out _ G.out).mono ?_
        rintro e Wn ⟨rfl, gn⟩
        have G2 := Lib.hid (gr_trans G.out gn)
        clear gn G
        have G := G2
        clear G2
        go_wp2
        go_ret
        exact ⟨rfl, gr_below (gr_trans G6.out G.out)⟩
      | false =>
        rw [h2] at d7
        replace h1 := Lib.hid h1
        replace h2 := Lib.hid h2
        clear v7 v8 v9
        replace d1 := Lib.hid d1
        replace d2 := Lib.hid d2
        replace d3 := Lib.hid d3
        replace d4 := Lib.hid d4
        replace d5 := Lib.hid d5
        replace d6 := Lib.hid d6
        replace d7 := Lib.hid d7
        replace d8 := Lib.hid d8
        replace d9 := Lib.hid d9
        go_wp2_with fail
        refine (d1.out _ G.out).mono ?_
        rintro e Wn ⟨rfl, gn⟩
        have G2 := Lib.hid (gr_trans G.out gn)
        clear gn G
        have G := G2
        clear G2
        go_wp2_with fail
        refine (d2.out _ G.out).mono ?_
        rintro e Wn ⟨rfl, gn⟩
        have G2 := Lib.hid (gr_trans G.out gn)
        clear gn G
        have G := G2
        clear G2
        go_wp2_with fail
        refine (d3.out _ G.out).mono ?_
        rintro e Wn ⟨rfl, gn⟩
        have G2 := Lib.hid (gr_trans G.out gn)
        clear gn G
        have G := G2
        clear G2
        go_wp2_with fail
        refine (d4.out _ G.out).mono ?_
        rintro e Wn ⟨rfl, gn⟩
        have G2 := Lib.hid (gr_trans G.out gn)
        clear gn G
        have G := G2
        clear G2
        go_wp2_with fail
        refine (d5.out _ G.out).mono ?_
        rintro e Wn ⟨rfl, gn⟩
        have G2 := Lib.hid (gr_trans G.out gn)
        clear gn G
        have G := G2
        clear G2
        go_wp2_with fail
        refine (d6.out _ G.out).mono ?_
        rintro e Wn ⟨rfl, gn⟩
        have G2 := Lib.hid (gr_trans G.out gn)
        clear gn G
        have G := G2
        clear G2
        go_wp2_with fail
        refine (d6.out _ G.out).mono ?_
        rintro e Wn ⟨rfl, gn⟩
        have G2 := Lib.hid (gr_trans G.out gn)
        clear gn G
        have G := G2
        clear G2
        go_wp2_with fail
        refine (d7.out _ G.out).mono ?_
        rintro e Wn ⟨rfl, gn⟩
        have G2 := Lib.hid (gr_trans G.out gn)
        clear gn G
        have G := G2
        clear G2
        go_wp2_with fail
        refine (d6.out _ G.out).mono ?_
        rintro e Wn ⟨rfl, gn⟩
        have G2 := Lib.hid (gr_trans G.out gn)
        clear gn G
        have G := G2
        clear G2
        go_wp2
        go_ret
        exact ⟨rfl, gr_below (gr_trans G6.out G.out)⟩


set_option maxRecDepth 100000 in
theorem lifted (os : Os) (started : os.Started) (H : Type) (enc : TypeId × Value → H) :
    ReturnsInHanded {} Try.checked os 5 .any (Rows.patternAgainSpec.pre6 enc Try.prog Try.f5 Rows.patternAgainRow.domain false) (Rows.patternAgainSpec.post enc Try.prog Try.f5 false true false false) := by
  refine returnsInHanded_of_change (C := Try.checked) own started (by kernel_rfl) Try.func5
    (ChangeSpec.witness6 (enc := enc) (C := Try.checked) false ⟨#[], #[.string ByteArray.empty, .string ByteArray.empty], []⟩ 8 (by kernel_rfl) (by kernel_rfl) (by kernel_rfl) (by kernel_rfl)) ?_
  intro W base args ds gs before hval0 hW hcnd _
  have hval : ∀ (j : Nat) t v, Try.f5.params[j]? = some t → args[j]? = some v → Value.okWide Try.prog W .any base t v := hval0
  have hW' := hW
  obtain ⟨p, q, hA0, hV, rfl, hfz, hnd⟩ := hW
  have hA : DataW.TrodAll enc Try.prog W 0 (fun _ => true) true Try.f5.params.toList args.toList ds p := hA0
  rw [Try.params5] at hA hval
  obtain ⟨v0, vs0, d0, ds0, p0, q0, hargs, rfl, rfl, h0, r0⟩ := trodAll_cons hA
  obtain ⟨v1, vs1, d1, ds1, p1, q1, rfl, rfl, rfl, h1, r1⟩ := trodAll_cons r0
  obtain ⟨rfl, rfl, rfl⟩ := trodAll_nil r1
  obtain rfl : args = #[v0, v1] := by cases args; simp_all
  obtain ⟨rfl, rfl⟩ := trodVars_none hV
  obtain ⟨a0, rfl, rfl, rfl, w0⟩ := open_string Try.underlying9 (hval 0 9 v0 rfl rfl) h0
  obtain ⟨a1, rfl, rfl, rfl, w1⟩ := open_string Try.underlying9 (hval 1 9 v1 rfl rfl) h1
  clear hA0 hval0
  refine (walk W a0 w0 a1 w1).mono fun e W' ⟨he, bel⟩ => ?_
  subst he
  exact ⟨_, rfl, _, _, _, [], _, [], hW', trodAll_mk1 (shut_bool Try.underlying4 _), (trodAll_cons_mk (shut_string Try.underlying9 w0) (trodAll_cons_mk (shut_string Try.underlying9 w1) trodAll_mk0)), rfl, bel.frame _, fun h => by cases h⟩

theorem over : Rows.patternAgainRow.holds Try.pinned (OpenSpec.ofChange Rows.patternAgainSpec) :=
  OpenClaim.holds_of_wide 5 Try.f5 rfl rfl rfl rfl rfl rfl rfl ⟨rfl, rfl, rfl, rfl, rfl⟩ rfl rfl rfl rfl rfl (by kernel_rfl) Try.func5 (by kernel_rfl)
    (of_decide_eq_true (by kernel_rfl)) (by unfold Func.isWrapper; first | (rw [if_pos (by decide +kernel)]; kernel_rfl) | (rw [if_neg (by decide +kernel)]; exact ⟨rfl, rfl⟩))
    (fun os started H enc _ => lifted os started H enc)

/-- THE STATEMENT -/
theorem proved : Rows.PatternAgainSaid := over
#print axioms proved
end Go.Proofs.Ytdccmmibfacpkaa.patternAgain

