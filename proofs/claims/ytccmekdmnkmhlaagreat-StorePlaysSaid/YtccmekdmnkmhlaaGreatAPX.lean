/-
  Several facts, one behind the other; no condition but bounds: The document's pattern: an atom, and how often. No condition but bounds. The document's pattern: how often an atom is. No condition but bounds. The document's pattern: parts one behind the other, one or the other. No condition but bounds. The document's pattern: one or the other; Compile. No condition but bounds.
-/
import Derived.Test.YtccmekdmnkmhlaaGreatSqRefPatE
import Derived.Test.YtccmekdmnkmhlaaGreatAIX
namespace Go.Proofs.YtccmekdmnkmhlaaGreat
open Go.RowKit

def EitherC (n : Nat) : Prop := ∀ (X : Nat) (pA : Option Addr) (pc : Nat) (L : Rs) (ps : List Prt) (v : Value) (i : Nat) (w : World), 3 * (L.length - i) + 3 ≤ n → L.length ≤ 1000 → ps.length ≤ 3 * i → i ≤ L.length → PtAt X pA pc L w ps v i false →
  Calls Tryz.prog 123 #[.pointer (some ⟨X, 0, none⟩)] w (PtPost X pA pc L ps v i 0 (pAlt n (L.drop i)) w)
def BehindC (n : Nat) : Prop := ∀ (X : Nat) (pA : Option Addr) (pc : Nat) (L : Rs) (ps : List Prt) (v : Value) (i : Nat) (w : World), 3 * (L.length - i) + 2 ≤ n → L.length ≤ 1000 → ps.length ≤ 3 * i → i ≤ L.length → PtAt X pA pc L w ps v i false →
  Calls Tryz.prog 137 #[.pointer (some ⟨X, 0, none⟩)] w (PtPost X pA pc L ps v i 0 (pRow n .row0 (L.drop i)) w)
def RAtomC (n : Nat) : Prop := ∀ (X : Nat) (pA : Option Addr) (pc : Nat) (L : Rs) (ps : List Prt) (v : Value) (i : Nat) (c : Int) (t : Rs) (w : World), L.drop i = c :: t → c ≠ 124 → c ≠ 41 → 3 * (t.length + 1) + 1 ≤ n → L.length ≤ 1000 → ps.length ≤ 3 * i + 1 → PtAt X pA pc L w ps v i false →
  Calls Tryz.prog 164 #[.pointer (some ⟨X, 0, none⟩)] w (PtPost X pA pc L ps v i 3 (pAtom n (c :: t)) w)
/-- One part that was added, and it is what was read. -/
theorem post_one {X : Nat} {pA : Option Addr} {pc : Nat} {L : Rs} {ps : List Prt} {v v' : Value} {i j K : Nat} {bad : Bool} {o : Option (T × Rs)} {w W w' : World} {z : Prt} (hp : PtAt X pA pc L w' (ps ++ [z]) v' j bad) (g : GrB X w W) (a : Adv X v v' W w') (hj : i < j) (hj2 : i + j ≤ 2 * L.length + 2) (hK : K ≤ 3)
    (h : (bad = false ∧ j ≤ L.length ∧ ∃ x, o = some (x, L.drop j) ∧ Node w' (ps ++ [z]) ps.length x) ∨ (bad = true ∧ o = none)) : PtPost X pA pc L ps v i K o w (.returned (.int .i64 ps.length)) w' :=
  ⟨ps.length, [z], v', j, bad, rfl, hp, adv_trans (adv_x v g) a, Nat.le_of_lt hj, hj2, by simp only [List.length_cons, List.length_nil]; omega, by simp only [List.length_cons, List.length_nil]; omega, h⟩
set_option maxHeartbeats 8000000 in
set_option maxRecDepth 100000 in
theorem ratom_any (n : Nat) (ih : EitherC n) : RAtomC (n + 1) := by
  intro X pA pc L ps v i c t w hd h124 h41 hn hL hps h
  obtain ⟨hi, hd1, hlen, -⟩ := drop_cons hd
  have hc0 := rp_c h hd
  have cN := rnext_any X pA pc L ps v i false w h (by omega)
  rw [hd] at cN
  have hp := pAtom_eq n (c :: t)
  simp only at hp
  obtain ⟨o, ho⟩ : ∃ o, o = pAtom (n + 1) (c :: t) := ⟨_, rfl⟩
  rw [← ho] at hp ⊢
  have hwr : IntKind.i64.wrap ((i : Int) + 1) = (i : Int) + 1 := IntWalk.i64_in _ (by omega)
  replace ho := Lib.hid ho
  replace h := Lib.hid h
  replace cN := Lib.hid cN
  replace hd := Lib.hid hd
  replace hp := Lib.hid hp
  go_enter Tryz.func164, Tryz.ntmps164
  go_wp2_with fail
  refine cN.out.mono ?_
  rintro e w0 ⟨rfl, g0⟩
  simp only [nxR]
  obtain ⟨-, -, k3, -, -, f3, -⟩ := rp_cells (rp_gr h.out g0)
  obtain ⟨W1, hW1⟩ : ∃ W1, W1 = w0.setCell ⟨X, 3, none⟩ (.int .i64 ((i : Int) + 1)) := ⟨_, rfl⟩
  obtain ⟨h1, g1⟩ := rp_step h.out g0 (i + 1) _ (by omega) W1 hW1
  go_upto_region 3 with fail
  rw [← hW1]
  clear k3 f3 hW1 g0 cN
  by_cases c1 : c = 40
  · subst c1
    have hp1 := hp.out
    simp only [if_true] at hp1
    have cE := ih X pA pc L ps v (i + 1) W1 (by omega) hL (by omega) (by omega) h1
    rw [hd1] at cE
    replace cE := Lib.hid cE
    replace h1 := Lib.hid h1
    replace g1 := Lib.hid g1
    replace ih := Lib.hid ih
    replace hp1 := Lib.hid hp1
    have e40 : ((40 : Int) == 40) = true := rfl
    go_wp2_with fail
    refine cE.out.mono ?_
    rintro e w2 ⟨n1, more, v1, j1, bad1, rfl, h2, a2, hij, hjL, hmo, hnl, hor⟩
    obtain ⟨-, -, k3, k4, -, f3, f4⟩ := rp_cells h2
    have hwr2 : IntKind.i64.wrap ((j1 : Int) + 1) = (j1 : Int) + 1 := IntWalk.i64_in _ (by omega)
    clear cE
    cases bad1 with
    | true =>
      have hno : o = none := by
        rcases hor with ⟨e, _⟩ | ⟨_, e⟩
        · cases e
        · rw [hp1.out, e]
      obtain ⟨W3, hW3⟩ : ∃ W3, W3 = w2.setCell ⟨X, 4, none⟩ (.bool true) := ⟨_, rfl⟩
      obtain ⟨h3, g3⟩ := rp_badW h2 true W3 hW3
      obtain ⟨-, -, q3, -, -, qf3, -⟩ := rp_cells h3
      obtain ⟨W4, hW4⟩ : ∃ W4, W4 = W3.setCell ⟨X, 3, none⟩ (.int .i64 ((j1 : Int) + 1)) := ⟨_, rfl⟩
      obtain ⟨h4, g4⟩ := rp_step h3 (gr_refl _ _) (j1 + 1) _ (by omega) W4 hW4
      replace h2 := Lib.hid h2
      replace h3 := Lib.hid h3
      replace hno := Lib.hid hno
      clear hor
      go_upto_region 7 with fail
      rw [← hW3]
      clear k3 k4 f3 f4 hW3
      go_wp2
      rw [← hW4]
      go_ret
      exact ⟨n1, more, v1, j1 + 1, true, rfl, h4, adv_trans (adv_x v g1.out) (adv_trans a2 (adv_x v1 (gr_trans g3 g4))), by omega, by omega, by omega, hnl, .inr ⟨rfl, hno.out⟩⟩
    | false =>
      obtain ⟨hj1L, x, hox, hnd⟩ : j1 ≤ L.length ∧ ∃ x, pAlt n t = some (x, L.drop j1) ∧ Node w2 (ps ++ more) n1 x := by
        rcases hor with ⟨_, e1, x, e2, e3⟩ | ⟨e, _⟩
        · exact ⟨e1, x, e2, e3⟩
        · cases e
      have hp2 := hp1.out
      rw [hox] at hp2
      simp only at hp2
      have cN2 := rnext_any X pA pc L _ v1 j1 false w2 h2 (by omega)
      clear hor
      by_cases hcl : ∃ l2, L.drop j1 = 41 :: l2
      · obtain ⟨l2, hl2⟩ := hcl
        obtain ⟨hjlt, hjd, -, -⟩ := drop_cons hl2
        rw [hl2] at hp2 cN2
        simp only [if_true] at hp2
        replace cN2 := Lib.hid cN2
        replace h2 := Lib.hid h2
        replace hp2 := Lib.hid hp2
        replace hnd := Lib.hid hnd
        replace hox := Lib.hid hox
        have e41 : ((41 : Int) != 41) = false := rfl
        clear hl2
        go_wp2_with fail
        refine cN2.out.mono ?_
        rintro e w3 ⟨rfl, g3⟩
        simp only [nxR]
        have h3 := rp_gr h2.out g3
        clear k3 k4 f3 f4 cN2
        obtain ⟨-, -, -, k4, -, -, f4⟩ := rp_cells h3
        obtain ⟨W5, hW5⟩ : ∃ W5, W5 = w3.setCell ⟨X, 4, none⟩ (.bool false) := ⟨_, rfl⟩
        obtain ⟨h5, g5⟩ := rp_badW h3 false W5 hW5
        obtain ⟨-, -, q3, -, -, qf3, -⟩ := rp_cells h5
        obtain ⟨W4, hW4⟩ : ∃ W4, W4 = W5.setCell ⟨X, 3, none⟩ (.int .i64 ((j1 : Int) + 1)) := ⟨_, rfl⟩
        obtain ⟨h4, g4⟩ := rp_step h5 (gr_refl _ _) (j1 + 1) _ (by omega) W4 hW4
        replace h3 := Lib.hid h3
        replace h5 := Lib.hid h5
        go_upto_region 7 with fail
        rw [← hW5]
        clear k4 f4 hW5
        go_wp2
        rw [← hW4]
        go_ret
        have aa := adv_x v1 (gr_trans (gr_more _ g3) (gr_trans g5 g4))
        exact ⟨n1, more, v1, j1 + 1, false, rfl, h4, adv_trans (adv_x v g1.out) (adv_trans a2 aa), by omega, by omega, by omega, hnl, .inl ⟨rfl, by omega, x, by rw [hjd]; exact hp2.out, node_adv h2.out aa hnd.out⟩⟩
      · have hno : o = none := by
          rw [hp2]
          cases hq : L.drop j1 with
          | nil => rfl
          | cons d l2 =>
            simp only
            rw [if_neg (fun e => hcl ⟨l2, by rw [hq, e]⟩)]
        have hnx : (nxR (L.drop j1) != 41) = true := by
          have : nxR (L.drop j1) ≠ 41 := fun e => by
            cases hq : L.drop j1 with
            | nil => rw [hq] at e; simp [nxR] at e
            | cons d l2 => rw [hq] at e; exact hcl ⟨l2, by rw [hq, show d = 41 from e]⟩
          simp [this]
        clear hcl
        generalize nxR (L.drop j1) = xv at cN2 hnx
        replace cN2 := Lib.hid cN2
        replace h2 := Lib.hid h2
        replace hno := Lib.hid hno
        clear hp2 hnd hox
        go_wp2_with fail
        refine cN2.out.mono ?_
        rintro e w3 ⟨rfl, g3⟩
        have h3 := rp_gr h2.out g3
        clear k3 k4 f3 f4 cN2
        obtain ⟨-, -, -, k4, -, -, f4⟩ := rp_cells h3
        obtain ⟨W5, hW5⟩ : ∃ W5, W5 = w3.setCell ⟨X, 4, none⟩ (.bool true) := ⟨_, rfl⟩
        obtain ⟨h5, g5⟩ := rp_badW h3 true W5 hW5
        obtain ⟨-, -, q3, -, -, qf3, -⟩ := rp_cells h5
        obtain ⟨W4, hW4⟩ : ∃ W4, W4 = W5.setCell ⟨X, 3, none⟩ (.int .i64 ((j1 : Int) + 1)) := ⟨_, rfl⟩
        obtain ⟨h4, g4⟩ := rp_step h5 (gr_refl _ _) (j1 + 1) _ (by omega) W4 hW4
        replace h3 := Lib.hid h3
        replace h5 := Lib.hid h5
        go_upto_region 7 with fail
        rw [← hW5]
        clear k4 f4 hW5
        go_wp2
        rw [← hW4]
        go_ret
        exact ⟨n1, more, v1, j1 + 1, true, rfl, h4, adv_trans (adv_x v g1.out) (adv_trans a2 (adv_x v1 (gr_trans (gr_more _ g3) (gr_trans g5 g4)))), by omega, by omega, by omega, hnl, .inr ⟨rfl, hno.out⟩⟩
  have hp1 := hp.out
  rw [if_neg c1] at hp1
  have c1F : (c == 40) = false := eqF c1
  by_cases c2 : c = 91
  · subst c2
    simp only [if_true] at hp1
    have cE := rclass_any n X pA pc L ps v (i + 1) W1 h1 (by omega) (by omega) (by omega) (by omega)
    rw [hd1] at cE
    replace cE := Lib.hid cE
    replace h1 := Lib.hid h1
    replace g1 := Lib.hid g1
    replace ih := Lib.hid ih
    replace hp1 := Lib.hid hp1
    have e91 : ((91 : Int) == 91) = true := rfl
    go_wp2_with fail
    refine cE.out.mono ?_
    rintro e w2 ⟨n1, more, v1, j1, bad1, rfl, h2, a2, hij, hjL, hmo, hnl, hor⟩
    go_wp2
    go_ret
    have he : o = clsO n t := by rw [hp1.out]; rfl
    exact ⟨n1, more, v1, j1, bad1, rfl, h2, adv_trans (adv_x v g1.out) a2, by omega, by omega, by omega, hnl, by rw [he]; exact hor⟩
  rw [if_neg c2] at hp1
  have c2F : (c == 91) = false := eqF c2
  by_cases c3 : c = 46
  · subst c3
    simp only [if_true] at hp1
    have cA := radd_any X pA pc L ps v (i + 1) false ⟨2, 0, none, 0, 0, none, 0, 0, false, 0, 0, 0, false⟩ W1 (by omega) h1
    unfold prtV at cA
    simp only at cA
    replace cA := Lib.hid cA
    replace h1 := Lib.hid h1
    replace g1 := Lib.hid g1
    replace ih := Lib.hid ih
    replace hp1 := Lib.hid hp1
    have e46 : ((46 : Int) == 46) = true := rfl
    go_wp2_with fail
    refine cA.out.mono ?_
    rintro e w2 ⟨rfl, v2, h2, a2⟩
    go_wp2
    go_ret
    exact post_one h2 g1.out a2 (by omega) (by omega) (by omega) (.inl ⟨rfl, by omega, _, by rw [hd1]; exact hp1.out, .dot (new_at ps _) rfl⟩)
  rw [if_neg c3] at hp1
  have c3F : (c == 46) = false := eqF c3
  by_cases c4 : c = 92
  · subst c4
    simp only [if_true] at hp1
    have cN2 := rnext_any X pA pc L ps v (i + 1) false W1 h1 (by omega)
    rw [hd1] at cN2
    have hwr2 : IntKind.i64.wrap ((i : Int) + 1 + 1) = (i : Int) + 1 + 1 := IntWalk.i64_in _ (by omega)
    replace cN2 := Lib.hid cN2
    replace h1 := Lib.hid h1
    replace g1 := Lib.hid g1
    replace ih := Lib.hid ih
    replace hp1 := Lib.hid hp1
    have e92 : ((92 : Int) == 92) = true := rfl
    go_wp2_with fail
    refine cN2.out.mono ?_
    rintro e w2 ⟨rfl, g2⟩
    have h2 := rp_gr h1.out g2
    have gd : GrB X w w2 := gr_trans g1.out (gr_more _ g2)
    clear cN2
    obtain ⟨-, k2, k3', k4, -, -, f4⟩ := rp_cells h2
    have k3 : w2.cell? ⟨X, 3, none⟩ = some (.int .i64 ((i : Int) + 1)) := by rw [k3']; simp
    clear k3'
    obtain ⟨nL, hnL⟩ : ∃ nL, nL = L.length := ⟨_, rfl⟩
    rw [← hnL] at k2
    cases t with
    | nil =>
      simp only [nxR]
      simp only [List.length_nil] at hlen
      have hge : ((i : Int) + 1 < (nL : Int)) = False := eq_false (by omega)
      have hge2 : (nL : Int) ≤ (i : Int) + 1 := by omega
      obtain ⟨W3, hW3⟩ : ∃ W3, W3 = (w2.setCell ⟨X, 4, none⟩ (.bool true)).drew := ⟨_, rfl⟩
      obtain ⟨h3, g3⟩ : PtAt X pA pc L W3 ps v (i + 1) true ∧ GrB X w2 W3 := by
        rw [hW3]
        exact ⟨rp_gr (rp_bad h2 true).1 (gr_drew _ _), gr_trans (rp_bad h2 true).2 (gr_drew _ _)⟩
      obtain ⟨-, -, q3', -, -, qf3, -⟩ := rp_cells h3
      have q3 : W3.cell? ⟨X, 3, none⟩ = some (.int .i64 ((i : Int) + 1)) := by rw [q3']; simp
      clear q3'
      obtain ⟨W4, hW4⟩ : ∃ W4, W4 = W3.setCell ⟨X, 3, none⟩ (.int .i64 ((i : Int) + 1 + 1)) := ⟨_, rfl⟩
      obtain ⟨h4, g4⟩ := rp_step h3 (gr_refl _ _) (i + 2) _ (by omega) W4 hW4
      have cA := radd_any X pA pc L ps v (i + 2) true ⟨1, -1, none, 0, 0, none, 0, 0, false, 0, 0, 0, false⟩ W4 (by omega) h4
      unfold prtV at cA
      simp only at cA
      replace cA := Lib.hid cA
      replace h2 := Lib.hid h2
      replace h3 := Lib.hid h3
      replace h4 := Lib.hid h4
      replace hnL := Lib.hid hnL
      have gf : GrB X w W4 := gr_trans gd (gr_trans g3 g4)
      replace gf := Lib.hid gf
      clear gd g3 g4 g2
      go_upto_region 15 with fail
      go_region
      rw [← hW3]
      clear hW3 k2 k3 k4 f4
      go_upto_region 17 with fail
      rw [← hW4]
      clear hW4 q3 qf3
      go_wp2_with fail
      refine cA.out.mono ?_
      rintro e w5 ⟨rfl, v2, h5, a5⟩
      go_wp2
      go_ret
      exact post_one h5 gf.out a5 (by omega) (by omega) (by omega) (.inr ⟨rfl, hp1.out⟩)
    | cons d t2 =>
      simp only [nxR]
      obtain ⟨hi2, hd2, hlen2, -⟩ := drop_cons hd1
      have hge : ((nL : Int) ≤ (i : Int) + 1) = False := eq_false (by omega)
      obtain ⟨W3, hW3⟩ : ∃ W3, W3 = (w2.setCell ⟨X, 4, none⟩ (.bool false)).drew := ⟨_, rfl⟩
      obtain ⟨h3, g3⟩ : PtAt X pA pc L W3 ps v (i + 1) false ∧ GrB X w2 W3 := by
        rw [hW3]
        exact ⟨rp_gr (rp_bad h2 false).1 (gr_drew _ _), gr_trans (rp_bad h2 false).2 (gr_drew _ _)⟩
      obtain ⟨-, -, q3', -, -, qf3, -⟩ := rp_cells h3
      have q3 : W3.cell? ⟨X, 3, none⟩ = some (.int .i64 ((i : Int) + 1)) := by rw [q3']; simp
      clear q3'
      obtain ⟨W4, hW4⟩ : ∃ W4, W4 = W3.setCell ⟨X, 3, none⟩ (.int .i64 ((i : Int) + 1 + 1)) := ⟨_, rfl⟩
      obtain ⟨h4, g4⟩ := rp_step h3 (gr_refl _ _) (i + 2) _ (by omega) W4 hW4
      have cA := radd_any X pA pc L ps v (i + 2) false ⟨1, d, none, 0, 0, none, 0, 0, false, 0, 0, 0, false⟩ W4 (by omega) h4
      unfold prtV at cA
      simp only at cA
      replace cA := Lib.hid cA
      replace h2 := Lib.hid h2
      replace h3 := Lib.hid h3
      replace h4 := Lib.hid h4
      replace hnL := Lib.hid hnL
      have gf : GrB X w W4 := gr_trans gd (gr_trans g3 g4)
      replace gf := Lib.hid gf
      clear gd g3 g4 g2
      go_upto_region 15 with fail
      go_region
      rw [← hW3]
      clear hW3 k2 k3 k4 f4
      go_upto_region 17 with fail
      rw [← hW4]
      clear hW4 q3 qf3
      go_wp2_with fail
      refine cA.out.mono ?_
      rintro e w5 ⟨rfl, v2, h5, a5⟩
      go_wp2
      go_ret
      exact post_one h5 gf.out a5 (by omega) (by omega) (by omega) (.inl ⟨rfl, by omega, _, by rw [hd2]; exact hp1.out, .rune (new_at ps _) rfl rfl⟩)
  rw [if_neg c4] at hp1
  have c4F : (c == 92) = false := eqF c4
  by_cases c5 : c = 42 ∨ c = 43 ∨ c = 63 ∨ c = 93
  · have hb : barred c = true := by unfold barred; rw [decide_eq_true_iff]; omega
    rw [if_pos hb] at hp1
    obtain ⟨-, -, -, k4, -, -, f4⟩ := rp_cells h1
    obtain ⟨W3, hW3⟩ : ∃ W3, W3 = W1.setCell ⟨X, 4, none⟩ (.bool true) := ⟨_, rfl⟩
    obtain ⟨h3, g3⟩ := rp_badW h1 true W3 hW3
    have cA := radd_any X pA pc L ps v (i + 1) true ⟨1, c, none, 0, 0, none, 0, 0, false, 0, 0, 0, false⟩ W3 (by omega) h3
    unfold prtV at cA
    simp only at cA
    replace cA := Lib.hid cA
    replace h1 := Lib.hid h1
    replace h3 := Lib.hid h3
    replace ih := Lib.hid ih
    replace hp1 := Lib.hid hp1
    have gf : GrB X w W3 := gr_trans g1 g3
    replace gf := Lib.hid gf
    clear g1 g3 hb
    have tail : ∀ e w5, (e = .returned (.int .i64 (ps.length : Nat)) ∧ ∃ v', PtAt X pA pc L w5 (ps ++ [⟨1, c, none, 0, 0, none, 0, 0, false, 0, 0, 0, false⟩]) v' (i + 1) true ∧ Adv X v v' W3 w5) → PtPost X pA pc L ps v i 3 o w e w5 := fun e w5 ⟨he, v2, h5, a5⟩ => by
      subst he
      exact post_one h5 gf.out a5 (by omega) (by omega) (by omega) (.inr ⟨rfl, hp1.out⟩)
    replace tail := Lib.hid tail
    rcases c5 with rfl | rfl | rfl | rfl
    all_goals
      go_upto_region 23 with fail
      rw [← hW3]
      clear hW3 k4 f4
      go_wp2_with fail
      refine cA.out.mono ?_
      rintro e w5 ⟨rfl, h5⟩
      go_wp2
      go_ret
      exact tail.out _ _ ⟨rfl, h5⟩
  · have hb : barred c = false := by unfold barred; rw [decide_eq_false_iff_not]; omega
    rw [if_neg (by rw [hb]; decide)] at hp1
    have e1 : (c == 42) = false := eqF (by omega)
    have e2 : (c == 43) = false := eqF (by omega)
    have e3 : (c == 63) = false := eqF (by omega)
    have e4 : (c == 93) = false := eqF (by omega)
    have cA := radd_any X pA pc L ps v (i + 1) false ⟨1, c, none, 0, 0, none, 0, 0, false, 0, 0, 0, false⟩ W1 (by omega) h1
    unfold prtV at cA
    simp only at cA
    replace cA := Lib.hid cA
    replace h1 := Lib.hid h1
    replace g1 := Lib.hid g1
    replace ih := Lib.hid ih
    replace hp1 := Lib.hid hp1
    clear hb c5
    go_wp2_with fail
    refine cA.out.mono ?_
    rintro e w2 ⟨rfl, v2, h2, a2⟩
    go_wp2
    go_ret
    exact post_one h2 g1.out a2 (by omega) (by omega) (by omega) (.inl ⟨rfl, by omega, _, by rw [hd1]; exact hp1.out, .rune (new_at ps _) rfl rfl⟩)
end Go.Proofs.YtccmekdmnkmhlaaGreat
namespace Go.Proofs.YtccmekdmnkmhlaaGreat
open Go.RowKit

def agO (n : Nat) (l : Rs) : Option (T × Rs) := match pAtom n l with
  | none => none
  | some (y, l1) => some (pTimes y l1)
theorem pRow_ag {n : Nat} {x : T} {c : Int} {t : Rs} (h1 : c ≠ 124) (h2 : c ≠ 41) : pRow (n + 1) x (c :: t) = match agO n (c :: t) with
    | none => none
    | some (y, l1) => pRow n (.rowS x y) l1 := by
  rw [pRow_eq]
  simp only
  rw [if_neg (by omega)]
  unfold agO
  cases pAtom n (c :: t) with
  | none => rfl
  | some q => rfl
def RAgainC (n : Nat) : Prop := ∀ (X : Nat) (pA : Option Addr) (pc : Nat) (L : Rs) (ps : List Prt) (v : Value) (i : Nat) (c : Int) (t : Rs) (w : World), L.drop i = c :: t → c ≠ 124 → c ≠ 41 → 3 * (t.length + 1) + 1 ≤ n → L.length ≤ 1000 → ps.length ≤ 3 * i + 1 → PtAt X pA pc L w ps v i false →
  Calls Tryz.prog 149 #[.pointer (some ⟨X, 0, none⟩)] w (PtPost X pA pc L ps v i 2 (agO n (c :: t)) w)
set_option maxHeartbeats 8000000 in
set_option maxRecDepth 100000 in
theorem ragain_any (n : Nat) (ih : RAtomC n) : RAgainC n := by
  intro X pA pc L ps v i c t w hd h124 h41 hn hL hps h
  obtain ⟨hi, hd1, hlen, -⟩ := drop_cons hd
  have cE := ih X pA pc L ps v i c t w hd h124 h41 hn hL hps h
  have hp : agO n (c :: t) = match pAtom n (c :: t) with
    | none => none
    | some (y, l1) => some (pTimes y l1) := rfl
  obtain ⟨o, ho⟩ : ∃ o, o = agO n (c :: t) := ⟨_, rfl⟩
  rw [← ho] at hp ⊢
  replace ho := Lib.hid ho
  replace h := Lib.hid h
  replace cE := Lib.hid cE
  replace hd := Lib.hid hd
  replace hp := Lib.hid hp
  replace ih := Lib.hid ih
  go_enter Tryz.func149, Tryz.ntmps149
  go_wp2_with fail
  refine cE.out.mono ?_
  rintro e w2 ⟨n1, more, v1, j1, bad1, rfl, h2, a2, hij, hjL, hmo, hnl, hor⟩
  clear cE
  have hgood : bad1 = false → ∃ y, pAtom n (c :: t) = some (y, L.drop j1) ∧ o = some (pTimes y (L.drop j1)) ∧ Node w2 (ps ++ more) n1 y ∧ j1 ≤ L.length := fun hb => by
    rcases hor with ⟨_, e1, x, e2, e3⟩ | ⟨e, _⟩
    · exact ⟨x, e2, by rw [hp.out, e2], e3, e1⟩
    · rw [e] at hb; cases hb
  have hbad : bad1 = true → o = none := fun hb => by
    rcases hor with ⟨e, _⟩ | ⟨_, e⟩
    · rw [e] at hb; cases hb
    · rw [hp.out, e]
  have cN := rnext_any X pA pc L _ v1 j1 bad1 w2 h2 (by omega)
  have hwr : IntKind.i64.wrap ((j1 : Int) + 1) = (j1 : Int) + 1 := IntWalk.i64_in _ (by omega)
  have hlen2 : (ps ++ more).length = ps.length + more.length := List.length_append
  replace hgood := Lib.hid hgood
  replace hbad := Lib.hid hbad
  replace hlen2 := Lib.hid hlen2
  clear hor
  -- a sign
  have sign : ∀ (s : Int) (z : Prt) (f : T → T) (W3 w4 w5 : World) (s2 : Rs), L.drop j1 = s :: s2 → Gr w2 W3 → (∀ (x : T) (l : Rs), pTimes x (s :: l) = (f x, l)) → (∀ (W : World) (y : T) (qs : List Prt), qs[(ps ++ more).length]? = some z → n1 < (ps ++ more).length → Node W qs n1 y → Node W qs (ps ++ more).length (f y)) →
      (∃ v', PtAt X pA pc L w4 ((ps ++ more) ++ [z]) v' j1 bad1 ∧ Adv X v1 v' W3 w4) → w5 = w4.setCell ⟨X, 3, none⟩ (.int .i64 ((j1 : Int) + 1)) → PtPost X pA pc L ps v i 2 o w (.returned (.int .i64 ((ps.length : Int) + (more.length : Int)))) w5 := fun s z f W3 w4 w5 s2 hs g3 hf hnode ⟨v', h4, a4⟩ e5 => by
    obtain ⟨hjlt, hjd, _, _⟩ := drop_cons hs
    obtain ⟨h5, g5⟩ := rp_step h4 (gr_refl _ _) (j1 + 1) _ (by omega) w5 e5
    have a23 : Adv X v1 v' w2 w5 := adv_trans (adv_gr X v1 g3) (adv_trans a4 (adv_x v' g5))
    rw [List.append_assoc] at h5
    have hl2 := hlen2.out
    refine ⟨(ps ++ more).length, more ++ [z], v', j1 + 1, bad1, by rw [hl2]; simp, h5, adv_trans a2 a23, by omega, by omega, by rw [List.length_append]; simp only [List.length_cons, List.length_nil]; omega, by rw [List.length_append]; simp only [List.length_append, List.length_cons, List.length_nil]; omega, ?_⟩
    cases hb : bad1 with
    | true => exact .inr ⟨rfl, hbad.out hb⟩
    | false =>
      obtain ⟨y, _, hy, hnd, _⟩ := hgood.out hb
      refine .inl ⟨rfl, by omega, f y, by rw [hy, hs, hf, hjd], ?_⟩
      rw [← List.append_assoc]
      exact hnode _ _ _ (new_at _ z) (by omega) (node_more [z] (node_adv h2 a23 hnd))
  replace sign := Lib.hid sign
  have hcases : (∃ s2, L.drop j1 = 42 :: s2) ∨ (∃ s2, L.drop j1 = 43 :: s2) ∨ (∃ s2, L.drop j1 = 63 :: s2) ∨ ((nxR (L.drop j1) == 42) = false ∧ (nxR (L.drop j1) == 43) = false ∧ (nxR (L.drop j1) == 63) = false ∧ ∀ x, pTimes x (L.drop j1) = (x, L.drop j1)) := by
    cases hq : L.drop j1 with
    | nil => exact .inr (.inr (.inr ⟨rfl, rfl, rfl, fun x => rfl⟩))
    | cons d s2 =>
      by_cases e1 : d = 42
      · exact .inl ⟨s2, by rw [e1]⟩
      · by_cases e2 : d = 43
        · exact .inr (.inl ⟨s2, by rw [e2]⟩)
        · by_cases e3 : d = 63
          · exact .inr (.inr (.inl ⟨s2, by rw [e3]⟩))
          · exact .inr (.inr (.inr ⟨eqF e1, eqF e2, eqF e3, fun x => by simp [pTimes, e1, e2, e3]⟩))
  rcases hcases with ⟨s2, hs⟩ | ⟨s2, hs⟩ | ⟨s2, hs⟩ | ⟨x1, x2, x3, hpt⟩
  · rw [hs] at cN
    have cA := fun W (g : Gr w2 W) => radd_any X pA pc L (ps ++ more) v1 j1 bad1 ⟨6, 0, none, 0, 0, none, 0, 0, false, (n1 : Int), 0, 0, false⟩ W (by rw [hlen2.out]; omega) (rp_gr h2 g)
    unfold prtV at cA
    simp only at cA
    replace cA := Lib.hid cA
    replace cN := Lib.hid cN
    replace hs := Lib.hid hs
    replace h2 := Lib.hid h2
    have y1 : ((42 : Int) == 42) = true := rfl
    go_wp2_with fail
    refine cN.out.mono ?_
    rintro e w3 ⟨rfl, g3⟩
    simp only [nxR]
    go_wp2_with fail
    refine (cA.out _ g3).mono ?_
    rintro e w4 ⟨rfl, v', h4, a4⟩
    obtain ⟨-, -, q3, -, -, qf3, -⟩ := rp_cells h4
    obtain ⟨W5, hW5⟩ : ∃ W5, W5 = w4.setCell ⟨X, 3, none⟩ (.int .i64 ((j1 : Int) + 1)) := ⟨_, rfl⟩
    have fin := sign.out 42 _ (fun y => .rep y true true) _ _ W5 s2 hs.out g3 (fun x l => by simp [pTimes]) (fun W y qs hz hlt hnd => .rep hz rfl rfl hlt hnd (by simp) rfl (by simp)) ⟨v', h4, a4⟩ hW5
    replace fin := Lib.hid fin
    replace h4 := Lib.hid h4
    go_wp2
    rw [← hW5]
    go_ret
    exact fin.out
  · rw [hs] at cN
    have cA := fun W (g : Gr w2 W) => radd_any X pA pc L (ps ++ more) v1 j1 bad1 ⟨6, 0, none, 0, 0, none, 0, 0, false, (n1 : Int), 0, 1, false⟩ W (by rw [hlen2.out]; omega) (rp_gr h2 g)
    unfold prtV at cA
    simp only at cA
    replace cA := Lib.hid cA
    replace cN := Lib.hid cN
    replace hs := Lib.hid hs
    replace h2 := Lib.hid h2
    have y1 : ((43 : Int) == 42) = false := rfl
    have y2 : ((43 : Int) == 43) = true := rfl
    go_wp2_with fail
    refine cN.out.mono ?_
    rintro e w3 ⟨rfl, g3⟩
    simp only [nxR]
    go_wp2_with fail
    refine (cA.out _ g3).mono ?_
    rintro e w4 ⟨rfl, v', h4, a4⟩
    obtain ⟨-, -, q3, -, -, qf3, -⟩ := rp_cells h4
    obtain ⟨W5, hW5⟩ : ∃ W5, W5 = w4.setCell ⟨X, 3, none⟩ (.int .i64 ((j1 : Int) + 1)) := ⟨_, rfl⟩
    have fin := sign.out 43 _ (fun y => .rep y false true) _ _ W5 s2 hs.out g3 (fun x l => by simp [pTimes]) (fun W y qs hz hlt hnd => .rep hz rfl rfl hlt hnd (by simp) rfl (by simp)) ⟨v', h4, a4⟩ hW5
    replace fin := Lib.hid fin
    replace h4 := Lib.hid h4
    go_wp2
    rw [← hW5]
    go_ret
    exact fin.out
  · rw [hs] at cN
    have cA := fun W (g : Gr w2 W) => radd_any X pA pc L (ps ++ more) v1 j1 bad1 ⟨6, 0, none, 0, 0, none, 0, 0, false, (n1 : Int), 0, 0, true⟩ W (by rw [hlen2.out]; omega) (rp_gr h2 g)
    unfold prtV at cA
    simp only at cA
    replace cA := Lib.hid cA
    replace cN := Lib.hid cN
    replace hs := Lib.hid hs
    replace h2 := Lib.hid h2
    have y1 : ((63 : Int) == 42) = false := rfl
    have y2 : ((63 : Int) == 43) = false := rfl
    have y3 : ((63 : Int) == 63) = true := rfl
    go_wp2_with fail
    refine cN.out.mono ?_
    rintro e w3 ⟨rfl, g3⟩
    simp only [nxR]
    go_wp2_with fail
    refine (cA.out _ g3).mono ?_
    rintro e w4 ⟨rfl, v', h4, a4⟩
    obtain ⟨-, -, q3, -, -, qf3, -⟩ := rp_cells h4
    obtain ⟨W5, hW5⟩ : ∃ W5, W5 = w4.setCell ⟨X, 3, none⟩ (.int .i64 ((j1 : Int) + 1)) := ⟨_, rfl⟩
    have fin := sign.out 63 _ (fun y => .rep y true false) _ _ W5 s2 hs.out g3 (fun x l => by simp [pTimes]) (fun W y qs hz hlt hnd => .rep hz rfl rfl hlt hnd (by simp) rfl (by simp)) ⟨v', h4, a4⟩ hW5
    replace fin := Lib.hid fin
    replace h4 := Lib.hid h4
    go_wp2
    rw [← hW5]
    go_ret
    exact fin.out
  · generalize hxv : nxR (L.drop j1) = xv at cN x1 x2 x3
    replace hxv := Lib.hid hxv
    replace cN := Lib.hid cN
    replace h2 := Lib.hid h2
    replace hpt := Lib.hid hpt
    clear sign
    go_wp2_with fail
    refine cN.out.mono ?_
    rintro e w3 ⟨rfl, g3⟩
    have h3 := rp_gr h2.out g3
    replace h3 := Lib.hid h3
    go_wp2
    go_ret
    refine ⟨n1, more, v1, j1, bad1, rfl, h3.out, adv_trans a2 (adv_gr X v1 g3), hij, hjL, by omega, hnl, ?_⟩
    cases hb : bad1 with
    | true => exact .inr ⟨rfl, hbad.out hb⟩
    | false =>
      obtain ⟨y, _, hy, hnd, hle⟩ := hgood.out hb
      exact .inl ⟨rfl, hle, y, by rw [hy, hpt.out], node_adv h2.out (adv_gr X v1 g3) hnd⟩
end Go.Proofs.YtccmekdmnkmhlaaGreat
namespace Go.Proofs.YtccmekdmnkmhlaaGreat
open Go.RowKit

/-- The state at a loop's head: what was read so far. -/
structure LpI (X : Nat) (pA : Option Addr) (pc : Nat) (L : Rs) (ps : List Prt) (v : Value) (i : Nat) (w : World) (j nn : Nat) (more : List Prt) (v1 : Value) (bad : Bool) (wr : World) : Prop where
  pt : PtAt X pA pc L wr (ps ++ more) v1 j bad
  adv : Adv X v v1 w wr
  ij : i ≤ j
  jL : i + j ≤ 2 * L.length + 2
  mo : more.length + 3 * i ≤ 3 * j + 1
  nl : nn < ps.length + more.length
theorem lp_post {X : Nat} {pA : Option Addr} {pc : Nat} {L : Rs} {ps : List Prt} {v : Value} {i : Nat} {w : World} {j nn : Nat} {more : List Prt} {v1 : Value} {bad : Bool} {wr W : World} {o : Option (T × Rs)} (h : LpI X pA pc L ps v i w j nn more v1 bad wr) (g : Gr wr W)
    (hor : (bad = false ∧ j ≤ L.length ∧ ∃ x, o = some (x, L.drop j) ∧ Node wr (ps ++ more) nn x) ∨ (bad = true ∧ o = none)) : PtPost X pA pc L ps v i 0 o w (.returned (.int .i64 nn)) W :=
  ⟨nn, more, v1, j, bad, rfl, rp_gr h.pt g, adv_trans h.adv (adv_gr X v1 g), h.ij, h.jL, by have := h.mo; omega, h.nl, hor.imp (fun ⟨a, b, x, c, d⟩ => ⟨a, b, x, c, node_adv h.pt (adv_gr X v1 g) d⟩) id⟩
set_option maxHeartbeats 8000000 in
set_option maxRecDepth 100000 in
theorem rbehind_any (n : Nat) (ih : ∀ m, m < n → RAgainC m) : BehindC n := by
  intro X pA pc L ps v i w hn hL hps hi h
  have cA := radd_any X pA pc L ps v i false ⟨0, 0, none, 0, 0, none, 0, 0, false, 0, 0, 0, false⟩ w (by omega) h
  unfold prtV at cA
  simp only at cA
  replace cA := Lib.hid cA
  replace h := Lib.hid h
  replace ih := Lib.hid ih
  obtain ⟨o, ho⟩ : ∃ o, o = pRow n .row0 (L.drop i) := ⟨_, rfl⟩
  rw [← ho]
  replace ho := Lib.hid ho
  go_enter Tryz.func137, Tryz.ntmps137
  go_wp2_with fail
  refine cA.out.mono ?_
  rintro e w1 ⟨rfl, v1, h1, a1⟩
  have h0 : LpI X pA pc L ps v i w i ps.length [⟨0, 0, none, 0, 0, none, 0, 0, false, 0, 0, 0, false⟩] v1 false w1 := ⟨h1, a1, Nat.le_refl _, by omega, by simp only [List.length_cons, List.length_nil]; omega, by simp only [List.length_cons, List.length_nil]; omega⟩
  have hnd0 : Node w1 (ps ++ [⟨0, 0, none, 0, 0, none, 0, 0, false, 0, 0, 0, false⟩]) ps.length .row0 := .zero (new_at ps _) rfl
  replace h0 := Lib.hid h0
  replace hnd0 := Lib.hid hnd0
  clear cA h1 a1
  go_wp2_with fail
  go_loopw [3] (fun nv wr => ∃ (m j nn : Nat) (more : List Prt) (v1 : Value) (bad : Bool), nv = .int .i64 nn ∧ Hid (LpI X pA pc L ps v i w j nn more v1 bad wr) ∧ Hid ((bad = false ∧ j ≤ L.length ∧ 3 * (L.length - j) + 2 ≤ m ∧ m ≤ n ∧ ∃ x, o = pRow m x (L.drop j) ∧ Node wr (ps ++ more) nn x) ∨ (bad = true ∧ o = none))) (fun _ wr => 2 * L.length + 3 - rpMeas X wr)
  case atStart => exact ⟨n, i, ps.length, _, v1, false, rfl, h0, Lib.hid (.inl ⟨rfl, hi, hn, Nat.le_refl _, .row0, ho.out, hnd0.out⟩)⟩
  case round =>
    obtain ⟨m, j, nn, more, v1, bad, rfl, hI, hor⟩ := hrel
    obtain ⟨hp, hadv, hij, hjL, hmo, hnl⟩ := hI.out
    have hj2 : j ≤ 2 * L.length + 2 := by omega
    have q4 := cell_to (rp_cells hp).2.2.2.1
    have q3 := cell_to (rp_cells hp).2.2.1
    have q2 := cell_to (rp_cells hp).2.1
    have hmeas := rp_meas hp
    obtain ⟨nL, hnL⟩ : ∃ nL, nL = L.length := ⟨_, rfl⟩
    rw [← hnL] at q2
    replace hmeas := Lib.hid hmeas
    rcases hor.out with ⟨rfl, hjl, hm, hmn, x, hox, hnd⟩ | ⟨rfl, hno⟩
    rotate_left
    · have fin := fun W (g : Gr wr W) => lp_post (o := o) hI.out g (.inr ⟨rfl, hno⟩)
      replace fin := Lib.hid fin
      replace hnL := Lib.hid hnL
      replace hp := Lib.hid hp
      replace hadv := Lib.hid hadv
      replace hno := Lib.hid hno
      clear hI hor
      go_wp2_with fail
      refine wp_region_quiet_gr (by kernel_rfl) (by kernel_rfl) ?_
      repeat (go_big_quiet_step (fail))
      refine wpQuiet_nil ?_
      intro wP hw2
      have gP : Gr wr wP := by
        obtain ⟨p, hp⟩ := hw2
        rw [hp]
        exact p.gr
      clear hw2
      have fin2 := fin.out _ gP
      replace fin2 := Lib.hid fin2
      go_wp2
      go_ret
      exact fin2.out
    · have cN := fun (p : Grown wr) => rnext_any X pA pc L _ v1 j false p.wd (rp_gr hp p.gr) (by omega)
      obtain ⟨m', rfl⟩ : ∃ m', m = m' + 1 := ⟨m - 1, by omega⟩
      by_cases hgo : ∃ c t, L.drop j = c :: t ∧ c ≠ 124 ∧ c ≠ 41
      · obtain ⟨c, t, hdj, h124, h41⟩ := hgo
        obtain ⟨hjlt, hd1, hlen, -⟩ := drop_cons hdj
        rw [hdj] at cN hox
        simp only [nxR] at cN
        rw [pRow_ag h124 h41] at hox
        have hlt : (j : Int) < (nL : Int) := by omega
        have hb1 : (c != 124) = true := by simp [h124]
        have hb2 : (c != 41) = true := by simp [h41]
        have cG := fun W (g : Gr wr W) => ih.out m' (by omega) X pA pc L (ps ++ more) v1 j c t W hdj h124 h41 (by omega) hL (by rw [List.length_append]; omega) (rp_gr hp g)
        replace cG := Lib.hid cG
        replace cN := Lib.hid cN
        replace hnL := Lib.hid hnL
        replace hp := Lib.hid hp
        replace hadv := Lib.hid hadv
        replace hox := Lib.hid hox
        replace hnd := Lib.hid hnd
        replace hdj := Lib.hid hdj
        clear hor
        go_wp2_with fail
        refine wp_region_quiet_gr (by kernel_rfl) (by kernel_rfl) ?_
        repeat (go_big_quiet_step ((go_at_call 138; exact calls_gr (cN.out _))))
        refine wpQuiet_nil ?_
        intro wP hw2
        have gP : Gr wr wP := by
          obtain ⟨p, hp⟩ := hw2
          rw [hp]
          exact p.gr
        clear hw2 q2 q3 q4 cN
        go_wp2_with fail
        refine (cG.out _ gP).mono ?_
        rintro e w5 ⟨n2, more2, v2, j2, bad2, rfl, h5, a5, hj25, hjL5, hmo5, hnl5, hor5⟩
        have hn5 : ((ps ++ more) ++ more2).length ≤ 100000000 := by rw [List.length_append, List.length_append]; omega
        have cB := radd_any X pA pc L _ v2 j2 bad2 ⟨4, 0, none, 0, 0, none, 0, 0, false, (nn : Int), (n2 : Int), 0, false⟩ w5 hn5 h5
        unfold prtV at cB
        simp only at cB
        replace cB := Lib.hid cB
        replace h5 := Lib.hid h5
        clear cG hn5
        go_wp2_with fail
        refine cB.out.mono ?_
        rintro e w6 ⟨rfl, v3, h6, a6⟩
        have hl3 : ((ps ++ more) ++ more2).length = ps.length + more.length + more2.length := by rw [List.length_append, List.length_append]
        have a56 := adv_trans (adv_gr X v1 gP) (adv_trans a5 a6)
        have hI2 : LpI X pA pc L ps v i w j2 (ps.length + more.length + more2.length) (more ++ more2 ++ [⟨4, 0, none, 0, 0, none, 0, 0, false, (nn : Int), (n2 : Int), 0, false⟩]) v3 bad2 w6 := by
          refine ⟨by rw [← List.append_assoc, ← List.append_assoc]; exact h6, adv_trans hadv.out a56, by omega, by omega, ?_, ?_⟩
          · simp only [List.length_append, List.length_cons, List.length_nil]; omega
          · simp only [List.length_append, List.length_cons, List.length_nil]; omega
        have hor2 : (bad2 = false ∧ j2 ≤ L.length ∧ 3 * (L.length - j2) + 2 ≤ m' ∧ m' ≤ n ∧ ∃ x, o = pRow m' x (L.drop j2) ∧ Node w6 (ps ++ (more ++ more2 ++ [⟨4, 0, none, 0, 0, none, 0, 0, false, (nn : Int), (n2 : Int), 0, false⟩])) (ps.length + more.length + more2.length) x) ∨ (bad2 = true ∧ o = none) := by
          rw [List.length_append] at hnl5
          rcases hor5 with ⟨e1, e2, y, e3, e4⟩ | ⟨e1, e3⟩
          · have hoy := hox.out
            rw [e3] at hoy
            refine .inl ⟨e1, e2, by omega, by omega, .rowS x y, hoy, ?_⟩
            rw [← List.append_assoc, ← List.append_assoc]
            have hw := new_at ((ps ++ more) ++ more2) ⟨4, 0, none, 0, 0, none, 0, 0, false, (nn : Int), (n2 : Int), 0, false⟩
            rw [hl3] at hw
            exact .row hw rfl rfl rfl (by omega) (by omega) (node_more _ (node_more _ (node_adv hp.out a56 hnd.out))) (node_more _ (node_adv h5.out a6 e4))
          · have hoy := hox.out
            rw [e3] at hoy
            exact .inr ⟨e1, hoy⟩
        have hmeas2 := rp_meas h6
        have hj2b : j < j2 := by omega
        rw [hl3]
        replace hI2 := Lib.hid hI2
        replace hor2 := Lib.hid hor2
        replace hor5 := Lib.hid hor5
        replace hmeas2 := Lib.hid hmeas2
        replace hl3 := Lib.hid hl3
        replace h6 := Lib.hid h6
        replace a6 := Lib.hid a6
        replace a5 := Lib.hid a5
        replace a56 := Lib.hid a56
        clear hI cB
        go_wp2
        go_roundw
        case rel => exact ⟨m', j2, ps.length + more.length + more2.length, _, v3, bad2, by go_num, hI2, hor2⟩
        case measure => rw [hmeas2.out, hmeas.out]; omega
      · have hend : pRow (m' + 1) x (L.drop j) = some (x, L.drop j) := by
          rw [pRow_eq]
          cases hd : L.drop j with
          | nil => rfl
          | cons c t =>
            simp only
            rw [if_pos]
            by_cases e1 : c = 124
            · exact .inl e1
            · by_cases e2 : c = 41
              · exact .inr e2
              · exact absurd ⟨c, t, hd, e1, e2⟩ hgo
        rw [hend] at hox
        have fin := fun W (g : Gr wr W) => lp_post (o := o) hI.out g (.inl ⟨rfl, hjl, x, hox, hnd⟩)
        have hcase : ((j : Int) < (nL : Int)) = False ∨ ((j : Int) < (nL : Int) ∧ nxR (L.drop j) = 124) ∨ ((j : Int) < (nL : Int) ∧ nxR (L.drop j) = 41) := by
          cases hd : L.drop j with
          | nil => have := drop_nilL hd; exact .inl (eq_false (by omega))
          | cons c t =>
            obtain ⟨hjlt, -, -, -⟩ := drop_cons hd
            by_cases e1 : c = 124
            · exact .inr (.inl ⟨by omega, e1⟩)
            · by_cases e2 : c = 41
              · exact .inr (.inr ⟨by omega, e2⟩)
              · exact absurd ⟨c, t, hd, e1, e2⟩ hgo
        replace fin := Lib.hid fin
        replace hnL := Lib.hid hnL
        replace hp := Lib.hid hp
        replace hadv := Lib.hid hadv
        replace hox := Lib.hid hox
        replace hnd := Lib.hid hnd
        clear hI hor hgo hend
        rcases hcase with hlt | ⟨hlt, hx⟩ | ⟨hlt, hx⟩
        all_goals
          try rw [hx] at cN
          try clear hx
          replace cN := Lib.hid cN
          go_wp2_with fail
          refine wp_region_quiet_gr (by kernel_rfl) (by kernel_rfl) ?_
          repeat (go_big_quiet_step ((go_at_call 138; exact calls_gr (cN.out _))))
          refine wpQuiet_nil ?_
          intro wP hw2
          have gP : Gr wr wP := by
            obtain ⟨p, hp⟩ := hw2
            rw [hp]
            exact p.gr
          clear hw2
          have fin2 := fin.out _ gP
          replace fin2 := Lib.hid fin2
          go_wp2
          go_ret
          exact fin2.out
end Go.Proofs.YtccmekdmnkmhlaaGreat
namespace Go.Proofs.YtccmekdmnkmhlaaGreat
open Go.RowKit

set_option maxHeartbeats 8000000 in
set_option maxRecDepth 100000 in
theorem reither_any (n : Nat) (ih : ∀ m, m ≤ n → BehindC m) : EitherC (n + 1) := by
  intro X pA pc L ps v i w hn hL hps hi h
  have cB := ih n (Nat.le_refl _) X pA pc L ps v i w (by omega) hL hps hi h
  have hp : pAlt (n + 1) (L.drop i) = match pRow n .row0 (L.drop i) with | none => none | some (x, l1) => pAlts n (.alt1 x) l1 := by rw [pAlt]; rfl
  replace h := Lib.hid h
  replace ih := Lib.hid ih
  replace cB := Lib.hid cB
  obtain ⟨o, ho⟩ : ∃ o, o = pAlt (n + 1) (L.drop i) := ⟨_, rfl⟩
  rw [← ho] at hp ⊢
  replace ho := Lib.hid ho
  replace hp := Lib.hid hp
  go_enter Tryz.func123, Tryz.ntmps123
  go_wp2_with fail
  refine cB.out.mono ?_
  rintro e w1 ⟨n1, more, v1, j1, bad1, rfl, h1, a1, hij1, hjL1, hmo1, hnl1, hor1⟩
  have h0 : LpI X pA pc L ps v i w j1 n1 more v1 bad1 w1 := ⟨h1, a1, hij1, hjL1, by omega, hnl1⟩
  have hor0 : (bad1 = false ∧ j1 ≤ L.length ∧ 3 * (L.length - j1) + 2 ≤ n ∧ n ≤ n ∧ ∃ x, o = pAlts n x (L.drop j1) ∧ Node w1 (ps ++ more) n1 x) ∨ (bad1 = true ∧ o = none) := by
    rcases hor1 with ⟨e1, e2, x, e3, e4⟩ | ⟨e1, e3⟩
    · exact .inl ⟨e1, e2, by omega, Nat.le_refl _, .alt1 x, by rw [hp.out, e3], .alt1 e4⟩
    · exact .inr ⟨e1, by rw [hp.out, e3]⟩
  replace h0 := Lib.hid h0
  replace hor0 := Lib.hid hor0
  clear cB h1 a1 hor1 hij1 hjL1 hmo1 hnl1
  go_wp2_with fail
  go_loopw [3] (fun nv wr => ∃ (m j nn : Nat) (more : List Prt) (v1 : Value) (bad : Bool), nv = .int .i64 nn ∧ Hid (LpI X pA pc L ps v i w j nn more v1 bad wr) ∧ Hid ((bad = false ∧ j ≤ L.length ∧ 3 * (L.length - j) + 2 ≤ m ∧ m ≤ n ∧ ∃ x, o = pAlts m x (L.drop j) ∧ Node wr (ps ++ more) nn x) ∨ (bad = true ∧ o = none))) (fun _ wr => 2 * L.length + 3 - rpMeas X wr)
  case atStart => exact ⟨n, j1, n1, more, v1, bad1, rfl, h0, hor0⟩
  case round =>
    obtain ⟨m, j, nn, more, v1, bad, rfl, hI, hor⟩ := hrel
    obtain ⟨hp, hadv, hij, hjL, hmo, hnl⟩ := hI.out
    have hj2 : j ≤ 2 * L.length + 2 := by omega
    have hmeas := rp_meas hp
    have cN := rnext_any X pA pc L _ v1 j bad wr hp (by omega)
    replace hmeas := Lib.hid hmeas
    -- the end
    by_cases hgo : bad = false ∧ ∃ t, L.drop j = 124 :: t
    · obtain ⟨rfl, t, hdj⟩ := hgo
      obtain ⟨hjl, hm, hmn, x, hox, hnd⟩ : j ≤ L.length ∧ 3 * (L.length - j) + 2 ≤ m ∧ m ≤ n ∧ ∃ x, o = pAlts m x (L.drop j) ∧ Node wr (ps ++ more) nn x := by
        rcases hor.out with ⟨_, e⟩ | ⟨e, _⟩
        · exact e
        · cases e
      obtain ⟨m', rfl⟩ : ∃ m', m = m' + 1 := ⟨m - 1, by omega⟩
      obtain ⟨hjlt, hd1, hlen, -⟩ := drop_cons hdj
      rw [hdj] at cN hox
      rw [pAlts_eq] at hox
      simp only [if_true] at hox
      have hwr : IntKind.i64.wrap ((j : Int) + 1) = (j : Int) + 1 := IntWalk.i64_in _ (by omega)
      replace cN := Lib.hid cN
      replace hp := Lib.hid hp
      replace hadv := Lib.hid hadv
      replace hox := Lib.hid hox
      replace hnd := Lib.hid hnd
      have e124 : ((124 : Int) == 124) = true := rfl
      have q4 := fun W (g : Gr wr W) => (rp_cells (rp_gr hp.out g)).2.2.2.1
      clear hor hI hdj
      go_wp2_with fail
      refine cN.out.mono ?_
      rintro e w3 ⟨rfl, g3⟩
      simp only [nxR]
      have h3 := rp_gr hp.out g3
      obtain ⟨-, -, k3, k4, -, f3, -⟩ := rp_cells h3
      obtain ⟨W4, hW4⟩ : ∃ W4, W4 = w3.setCell ⟨X, 3, none⟩ (.int .i64 ((j : Int) + 1)) := ⟨_, rfl⟩
      obtain ⟨h4, g4⟩ := rp_step h3 (gr_refl _ _) (j + 1) _ (by omega) W4 hW4
      have cG := ih.out m' (by omega) X pA pc L (ps ++ more) v1 (j + 1) W4 (by omega) hL (by rw [List.length_append]; omega) (by omega) h4
      rw [hd1] at cG
      replace cG := Lib.hid cG
      replace h3 := Lib.hid h3
      replace h4 := Lib.hid h4
      clear cN q4
      go_upto_region 4 with fail
      rw [← hW4]
      clear hW4 k3 k4 f3
      go_wp2_with fail
      refine cG.out.mono ?_
      rintro e w5 ⟨n2, more2, v2, j2, bad2, rfl, h5, a5, hj25, hjL5, hmo5, hnl5, hor5⟩
      have hn5 : ((ps ++ more) ++ more2).length ≤ 100000000 := by rw [List.length_append, List.length_append]; omega
      have cB := radd_any X pA pc L _ v2 j2 bad2 ⟨5, 0, none, 0, 0, none, 0, 0, false, (nn : Int), (n2 : Int), 0, false⟩ w5 hn5 h5
      unfold prtV at cB
      simp only at cB
      replace cB := Lib.hid cB
      replace h5 := Lib.hid h5
      clear cG hn5
      go_wp2_with fail
      refine cB.out.mono ?_
      rintro e w6 ⟨rfl, v3, h6, a6⟩
      have hl3 : ((ps ++ more) ++ more2).length = ps.length + more.length + more2.length := by rw [List.length_append, List.length_append]
      have a56 := adv_trans (adv_x v1 (gr_trans (gr_more (some X) g3) g4)) (adv_trans a5 a6)
      have hI2 : LpI X pA pc L ps v i w j2 (ps.length + more.length + more2.length) (more ++ more2 ++ [⟨5, 0, none, 0, 0, none, 0, 0, false, (nn : Int), (n2 : Int), 0, false⟩]) v3 bad2 w6 := by
        refine ⟨by rw [← List.append_assoc, ← List.append_assoc]; exact h6, adv_trans hadv.out a56, by omega, by omega, ?_, ?_⟩
        · simp only [List.length_append, List.length_cons, List.length_nil]; omega
        · simp only [List.length_append, List.length_cons, List.length_nil]; omega
      have hor2 : (bad2 = false ∧ j2 ≤ L.length ∧ 3 * (L.length - j2) + 2 ≤ m' ∧ m' ≤ n ∧ ∃ x, o = pAlts m' x (L.drop j2) ∧ Node w6 (ps ++ (more ++ more2 ++ [⟨5, 0, none, 0, 0, none, 0, 0, false, (nn : Int), (n2 : Int), 0, false⟩])) (ps.length + more.length + more2.length) x) ∨ (bad2 = true ∧ o = none) := by
        rw [List.length_append] at hnl5
        rcases hor5 with ⟨e1, e2, y, e3, e4⟩ | ⟨e1, e3⟩
        · have hoy := hox.out
          rw [e3] at hoy
          refine .inl ⟨e1, e2, by omega, by omega, .altS x y, hoy, ?_⟩
          rw [← List.append_assoc, ← List.append_assoc]
          have hw := new_at ((ps ++ more) ++ more2) ⟨5, 0, none, 0, 0, none, 0, 0, false, (nn : Int), (n2 : Int), 0, false⟩
          rw [hl3] at hw
          exact .alt hw rfl rfl rfl (by omega) (by omega) (node_more _ (node_more _ (node_adv hp.out a56 hnd.out))) (node_more _ (node_adv h5.out a6 e4))
        · have hoy := hox.out
          rw [e3] at hoy
          exact .inr ⟨e1, hoy⟩
      have hmeas2 := rp_meas h6
      have hj2b : j < j2 := by omega
      rw [hl3]
      replace hI2 := Lib.hid hI2
      replace hor2 := Lib.hid hor2
      replace hor5 := Lib.hid hor5
      replace hmeas2 := Lib.hid hmeas2
      replace hl3 := Lib.hid hl3
      replace h6 := Lib.hid h6
      replace a6 := Lib.hid a6
      replace a5 := Lib.hid a5
      replace a56 := Lib.hid a56
      clear cB
      go_wp2
      go_roundw
      case rel => exact ⟨m', j2, ps.length + more.length + more2.length, _, v3, bad2, by go_num, hI2, hor2⟩
      case measure => rw [hmeas2.out, hmeas.out]; omega
    · have fin : ∀ W, Gr wr W → PtPost X pA pc L ps v i 0 o w (.returned (.int .i64 nn)) W := fun W g => by
        refine lp_post (o := o) hI.out g ?_
        rcases hor.out with ⟨hb, hjl, hm, hmn, x, hox, hnd⟩ | ⟨hb, hno⟩
        · refine .inl ⟨hb, hjl, x, ?_, hnd⟩
          obtain ⟨m', rfl⟩ : ∃ m', m = m' + 1 := ⟨m - 1, by omega⟩
          rw [hox, pAlts_eq]
          cases hd : L.drop j with
          | nil => rfl
          | cons c t =>
            simp only
            rw [if_neg (fun e => hgo ⟨hb, t, by rw [hd, e]⟩)]
        · exact .inr ⟨hb, hno⟩
      have hcase : (nxR (L.drop j) == 124) = false ∨ (nxR (L.drop j) = 124 ∧ bad = true) := by
        cases hd : L.drop j with
        | nil => exact .inl rfl
        | cons c t =>
          by_cases e1 : c = 124
          · cases hb : bad with
            | true => exact .inr ⟨e1, rfl⟩
            | false => exact absurd ⟨hb, t, by rw [hd, e1]⟩ hgo
          · exact .inl (eqF e1)
      have q4 := fun W (g : Gr wr W) => (rp_cells (rp_gr hp g)).2.2.2.1
      replace fin := Lib.hid fin
      replace hp := Lib.hid hp
      replace hadv := Lib.hid hadv
      clear hI hor hgo
      rcases hcase with hx | ⟨hx, rfl⟩
      · generalize nxR (L.drop j) = xv at cN hx
        replace cN := Lib.hid cN
        go_wp2_with fail
        refine cN.out.mono ?_
        rintro e w3 ⟨rfl, g3⟩
        have k4 := q4 _ g3
        have fin2 := fin.out _ g3
        replace fin2 := Lib.hid fin2
        clear fin q4
        go_wp2
        go_ret
        exact fin2.out
      · rw [hx] at cN
        replace cN := Lib.hid cN
        have e124 : ((124 : Int) == 124) = true := rfl
        go_wp2_with fail
        refine cN.out.mono ?_
        rintro e w3 ⟨rfl, g3⟩
        have k4 := q4 _ g3
        have fin2 := fin.out _ g3
        replace fin2 := Lib.hid fin2
        clear fin q4
        go_wp2
        go_ret
        exact fin2.out
theorem all_R : ∀ n, EitherC n ∧ BehindC n ∧ RAtomC n ∧ RAgainC n := by
  intro n
  induction n using Nat.strongRecOn with
  | ind n ih =>
    have hA : RAtomC n := by
      cases n with
      | zero => intro X pA pc L ps v i c t w _ _ _ hn; omega
      | succ n => exact ratom_any n (ih n (by omega)).1
    refine ⟨?_, rbehind_any n (fun m hm => (ih m hm).2.2.2), hA, ragain_any n hA⟩
    cases n with
    | zero => intro X pA pc L ps v i w hn; omega
    | succ n => exact reither_any n (fun m hm => (ih m (by omega)).2.1)
theorem node_gr {w w' : World} (g : Gr w w') {qs : List Prt} {n : Nat} {x : T} (hn : Node w qs n x) : Node w' qs n x := by
  induction hn with
  | zero h hk => exact .zero h hk
  | alt1 _ ih => exact .alt1 ih
  | row h hk ha hb han hbn _ _ ih1 ih2 => exact .row h hk ha hb han hbn ih1 ih2
  | alt h hk ha hb han hbn _ _ ih1 ih2 => exact .alt h hk ha hb han hbn ih1 ih2
  | rep h hk ha han _ hl ho hna ih => exact .rep h hk ha han ih hl ho hna
  | rune h hk hr => exact .rune h hk hr
  | dot h hk => exact .dot h hk
  | cls hh hk hno hln hhn hlo hhi => exact .cls hh hk hno hln hhn (hlo.kept g (Classical.em _)) (hhi.kept g (Classical.em _))
/-- A whole pattern of the document's in memory. -/
def RPat (w : World) (b : Nat) (root : Nat) (ps : List Prt) (x : T) : Prop :=
  ∃ (v : Value) (pA : Option Addr) (pc n j : Nat), w.heap[b]? = some (.cells #[v, .int .i64 root, .slice pA n pc, .int .i64 j, .bool false] 170 (0, 0)) ∧ w.ownsRow (b + 1) 194 9 v ps.length (sR prtC ps) ∧ Node w ps root x
def RCPost (L : Rs) (w : World) (e : Ending) (w' : World) : Prop := Gr w w' ∧
    ((∃ x b root ps, pAlt 200 L = some (x, []) ∧ e = .returned (.pointer (some ⟨b, 0, none⟩)) ∧ w.heap.size ≤ b ∧ RPat w' b root ps x) ∨ ((∀ x, pAlt 200 L ≠ some (x, [])) ∧ e = .returned (.pointer none)))
set_option maxHeartbeats 8000000 in
set_option maxRecDepth 100000 in
theorem rcompile_any (vt : List UInt8) (w : World) (hl : vt.length ≤ 1000000) (h40 : (runesOf vt).length ≤ 40) : Calls Tryz.prog 94 #[.string (txt vt)] w (RCPost (runesOf vt) w) := by
  have cS := refSpell_runes vt w hl
  have hok : ∀ r ∈ runesOf vt, RuneOk r := fun r hr => runes_ok hr
  obtain ⟨L, hLe⟩ : ∃ L, L = runesOf vt := ⟨_, rfl⟩
  rw [← hLe] at cS h40 hok ⊢
  replace cS := Lib.hid cS
  replace hok := Lib.hid hok
  replace hLe := Lib.hid hLe
  go_enter Tryz.func94, Tryz.ntmps94
  go_wp2_with fail
  refine cS.out.mono ?_
  rintro e w1 ⟨A, c, rfl, ho, g1⟩
  obtain ⟨W2, hW2⟩ : ∃ W2, W2 = w1.alloc (.cells #[.slice none 0 0, .int .i64 0, .slice A L.length c, .int .i64 0, .bool false] 170) := ⟨_, rfl⟩
  have gA : Gr w1 W2 := by rw [hW2]; exact gr_alloc _ _ _
  have hb2 : W2.heap[w1.heap.size]? = some (.cells #[.slice none 0 0, .int .i64 0, .slice A L.length c, .int .i64 (0 : Nat), .bool false] 170 (0, 0)) := by rw [hW2]; exact blk_new _ _
  have hlow : ∀ a, A = some a → a.block < w1.heap.size := fun a ha => (ho.lt a.block (by rw [ha]; rfl)).2
  have hP2 : PtAt w1.heap.size A c L W2 [] (.slice none 0 0) 0 false := ⟨hb2, row_gr (row_own ho) gA, hlow, World.ownsRow_nil _ _ _ _, hok.out⟩
  have cE := (all_R 200).1 w1.heap.size A c L [] (.slice none 0 0) 0 W2 (by omega) (by omega) (by simp) (by omega) hP2
  rw [List.drop_zero] at cE
  replace cE := Lib.hid cE
  replace hP2 := Lib.hid hP2
  replace ho := Lib.hid ho
  replace hb2 := Lib.hid hb2
  clear cS
  go_wp2_with fail
  rw [← hW2]
  replace hW2 := Lib.hid hW2
  refine cE.out.mono ?_
  rintro e w3 ⟨root, ps, v, j, bad, rfl, h3, a3, -, hjL, hmo, hnl, hor⟩
  rw [List.nil_append] at h3 hor
  have fb1 := blk_free h3.blk 1
  have kb1 : w3.cell? ⟨w1.heap.size, 1, none⟩ = some (.int .i64 0) := blk_cell h3.blk rfl
  obtain ⟨W4, hW4⟩ : ∃ W4, W4 = w3.setCell ⟨w1.heap.size, 1, none⟩ (.int .i64 root) := ⟨_, rfl⟩
  have g4 : GrB w1.heap.size w3 W4 := by rw [hW4]; exact gr_set w3 ⟨w1.heap.size, 1, none⟩ _
  have hb4 : W4.heap[w1.heap.size]? = some (.cells #[v, .int .i64 root, .slice A L.length c, .int .i64 j, .bool bad] 170 (0, 0)) := by rw [hW4]; exact blk_set h3.blk 1 _
  have ho4 := h3.own.kept g4 (.inr (fun e => rp_vX h3 e))
  have hgW : Gr w W4 := by
    have hs1 := g1.size
    have hs2 := gA.size
    refine ⟨g4.os.trans (a3.gr.os.trans (gA.os.trans g1.os)), g4.tape.trans (a3.gr.tape.trans (gA.tape.trans g1.tape)), g4.output.trans (a3.gr.output.trans (gA.output.trans g1.output)), Nat.le_trans (Nat.le_trans g1.size gA.size) (Nat.le_trans a3.gr.size g4.size), fun k hk _ => ?_⟩
    refine (g4.block k (by have := a3.gr.size; omega) (fun e => by have := Option.some.inj e; omega)).trans ((a3.gr.block k (by omega) (fun e => ?_)).trans ((gA.block k (by omega) (by simp)).trans (g1.block k hk (by simp))))
    rcases e with e | e
    · omega
    · cases e
  have q4 := cell_to (show W4.cell? ⟨w1.heap.size, 4, none⟩ = some (.bool bad) from blk_cell hb4 rfl)
  have q3 := cell_to (show W4.cell? ⟨w1.heap.size, 3, none⟩ = some (.int .i64 j) from blk_cell hb4 rfl)
  have q2 := cell_to (show W4.cell? ⟨w1.heap.size, 2, none⟩ = some (.slice A L.length c) from blk_cell hb4 rfl)
  obtain ⟨nL, hnL⟩ : ∃ nL, nL = L.length := ⟨_, rfl⟩
  rw [← hnL] at q2
  have hnode : ∀ x, Node w3 ps root x → Node W4 ps root x := fun x hx => node_adv h3 (adv_x v g4) hx
  replace h3 := Lib.hid h3
  replace a3 := Lib.hid a3
  replace hb4 := Lib.hid hb4
  replace hgW := Lib.hid hgW
  replace hnode := Lib.hid hnode
  have hsz := g1.size
  clear cE gA g1 g4 hlow
  go_upto_region 3 with fail
  rw [← hW4]
  replace hW4 := Lib.hid hW4
  clear kb1 fb1
  have yes : ∀ x, pAlt 200 L = some (x, []) → Node w3 ps root x → bad = false → ∀ W, Gr W4 W → RCPost L w (.returned (.pointer (some ⟨w1.heap.size, 0, none⟩))) W := fun x hx hnd hb W g => by
    have hb4' := hb4.out
    rw [hb] at hb4'
    exact ⟨gr_trans hgW.out g, .inl ⟨x, w1.heap.size, root, ps, hx, rfl, hsz, v, A, c, L.length, j, gr_blk g hb4' (by simp), ho4.kept g (Classical.em _), node_gr g (hnode.out _ hnd)⟩⟩
  have no : (∀ x, pAlt 200 L ≠ some (x, [])) → ∀ W, Gr W4 W → RCPost L w (.returned (.pointer none)) W := fun hno W g => ⟨gr_trans hgW.out g, .inr ⟨hno, rfl⟩⟩
  replace ho4 := Lib.hid ho4
  rcases hor with ⟨rfl, hle, x, hox, hnd⟩ | ⟨rfl, hno⟩
  · by_cases hj : j < L.length
    · have hlt : (j : Int) < (nL : Int) := by omega
      have no2 := no (fun y hy => by
        rw [hox] at hy
        have h1 := (Prod.mk.inj (Option.some.inj hy)).2
        have := drop_nilL h1
        omega)
      replace no2 := Lib.hid no2
      replace hnL := Lib.hid hnL
      clear yes no hox hnd
      refine wp_region_quiet_gr (by kernel_rfl) (by kernel_rfl) ?_
      repeat (go_big_quiet_step (fail))
      refine wpQuiet_nil ?_
      intro wP hw2
      have gP : Gr W4 wP := by
        obtain ⟨p, hp⟩ := hw2
        rw [hp]
        exact p.gr
      clear hw2
      have fin := no2.out _ gP
      replace fin := Lib.hid fin
      go_wp2
      go_ret
      exact fin.out
    · have hlt : ((j : Int) < (nL : Int)) = False := eq_false (by omega)
      have hd : L.drop j = [] := List.drop_eq_nil_of_le (by omega)
      rw [hd] at hox
      have yes2 := yes x hox hnd rfl
      replace yes2 := Lib.hid yes2
      replace hnL := Lib.hid hnL
      clear yes no hox hnd hd
      refine wp_region_quiet_gr (by kernel_rfl) (by kernel_rfl) ?_
      repeat (go_big_quiet_step (fail))
      refine wpQuiet_nil ?_
      intro wP hw2
      have gP : Gr W4 wP := by
        obtain ⟨p, hp⟩ := hw2
        rw [hp]
        exact p.gr
      clear hw2
      have fin := yes2.out _ gP
      replace fin := Lib.hid fin
      go_wp2
      go_ret
      exact fin.out
  · have no2 := no (fun y hy => by rw [hno] at hy; cases hy)
    replace no2 := Lib.hid no2
    replace hnL := Lib.hid hnL
    clear yes no hno
    refine wp_region_quiet_gr (by kernel_rfl) (by kernel_rfl) ?_
    repeat (go_big_quiet_step (fail))
    refine wpQuiet_nil ?_
    intro wP hw2
    have gP : Gr W4 wP := by
      obtain ⟨p, hp⟩ := hw2
      rw [hp]
      exact p.gr
    clear hw2
    have fin := no2.out _ gP
    replace fin := Lib.hid fin
    go_wp2
    go_ret
    exact fin.out
end Go.Proofs.YtccmekdmnkmhlaaGreat
