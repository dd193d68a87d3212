/-
  The document's pattern: a rune of a class. No condition but bounds.
-/
import Derived.Test.YtccmekdmnkmhlaaGreatSqRefPatB
namespace Go.Proofs.YtccmekdmnkmhlaaGreat
open Go.RowKit

theorem drop_cons {L : Rs} {i : Nat} {c : Int} {t : Rs} (h : L.drop i = c :: t) : i < L.length ∧ L.drop (i + 1) = t ∧ i + 1 + t.length = L.length ∧ L[i]? = some c := by
  have hi : i < L.length := by
    rcases Nat.lt_or_ge i L.length with q | q
    · exact q
    · rw [List.drop_eq_nil_of_le q] at h; cases h
  have h1 := List.drop_eq_getElem_cons hi
  rw [h] at h1
  injection h1 with h2 h3
  refine ⟨hi, h3.symm, ?_, by rw [List.getElem?_eq_getElem hi, h2]⟩
  have := congrArg List.length h
  rw [List.length_drop, List.length_cons] at this
  omega
theorem drop_nilL {L : Rs} {i : Nat} (h : L.drop i = []) : L.length ≤ i := by
  have := congrArg List.length h
  rw [List.length_drop] at this
  simp at this
  omega
theorem rp_c {X : Nat} {pA : Option Addr} {pc : Nat} {L : Rs} {w : World} {ps : List Prt} {v : Value} {i : Nat} {bad : Bool} (h : PtAt X pA pc L w ps v i bad) {k : Nat} {c : Int} {t : Rs} (hd : L.drop k = c :: t) : 0 ≤ c := (h.ok c (List.mem_of_getElem? (drop_cons hd).2.2.2)).1
def ItemPost (X : Nat) (pA : Option Addr) (pc : Nat) (L : Rs) (ps : List Prt) (v : Value) (i : Nat) (l : Rs) (w : World) (e : Ending) (w' : World) : Prop :=
  ∃ (a : Int) (j : Nat) (bad : Bool), e = .returned (.int .i32 a) ∧ PtAt X pA pc L w' ps v j bad ∧ GrB X w w' ∧ i < j ∧ j ≤ i + 2 ∧ ((bad = false ∧ j ≤ L.length ∧ pMember l = some (a, L.drop j)) ∨ (bad = true ∧ L.length < j ∧ pMember l = none))
/-- Whatever came by next, then the place one further. -/
theorem rp_step {X : Nat} {pA : Option Addr} {pc : Nat} {L : Rs} {w w1 : World} {ps : List Prt} {v : Value} {i : Nat} {bad : Bool} (h : PtAt X pA pc L w ps v i bad) (g : Gr w w1) (j : Nat) (z : Int) (hz : z = (j : Int)) (W : World) (hW : W = w1.setCell ⟨X, 3, none⟩ (.int .i64 z)) : PtAt X pA pc L W ps v j bad ∧ GrB X w W := by
  subst hW
  have h1 := rp_iz (rp_gr h g) j z hz
  exact ⟨h1.1, gr_trans (gr_more _ g) h1.2⟩
theorem rp_badW {X : Nat} {pA : Option Addr} {pc : Nat} {L : Rs} {w : World} {ps : List Prt} {v : Value} {i : Nat} {bad : Bool} (h : PtAt X pA pc L w ps v i bad) (b : Bool) (W : World) (hW : W = w.setCell ⟨X, 4, none⟩ (.bool b)) : PtAt X pA pc L W ps v i b ∧ GrB X w W := by
  subst hW
  exact rp_bad h b
set_option maxHeartbeats 4000000 in
set_option maxRecDepth 100000 in
theorem ritem_any (X : Nat) (pA : Option Addr) (pc : Nat) (L : Rs) (ps : List Prt) (v : Value) (i : Nat) (c : Int) (t : Rs) (w : World) (h : PtAt X pA pc L w ps v i false) (hL : L.length ≤ 100000000) (hd : L.drop i = c :: t) :
    Calls Tryz.prog 177 #[.pointer (some ⟨X, 0, none⟩)] w (ItemPost X pA pc L ps v i (c :: t) w) := by
  obtain ⟨hi, hd1, hlen, _⟩ := drop_cons hd
  have hc0 := rp_c h hd
  have cN := rnext_any X pA pc L ps v i false w h hL
  rw [hd] at cN
  have hwr : IntKind.i64.wrap ((i : Int) + 1) = (i : Int) + 1 := IntWalk.i64_in _ (by omega)
  have hwr2 : IntKind.i64.wrap ((i : Int) + 1 + 1) = (i : Int) + 1 + 1 := IntWalk.i64_in _ (by omega)
  have hcF : (c < 0) = False := eq_false (by omega)
  unfold ItemPost
  replace h := Lib.hid h
  replace cN := Lib.hid cN
  replace hd := Lib.hid hd
  go_enter Tryz.func177, Tryz.ntmps177
  go_wp2_with fail
  refine cN.out.mono ?_
  rintro e w0 ⟨rfl, g0⟩
  simp only [nxR]
  obtain ⟨_, _, k3, _, _, f3, _⟩ := rp_cells (rp_gr h.out g0)
  obtain ⟨W1, hW1⟩ : ∃ W1, W1 = w0.setCell ⟨X, 3, none⟩ (.int .i64 ((i : Int) + 1)) := ⟨_, rfl⟩
  obtain ⟨h1, g1⟩ := rp_step h.out g0 (i + 1) _ (by omega) W1 hW1
  go_upto_region 3 with fail
  rw [← hW1]
  clear k3 f3 hW1 g0
  have hs1 : PtAt X pA pc L W1 ps v (i + 1) false := h1
  obtain ⟨_, _, k3, k4, _, f3, f4⟩ := rp_cells h1
  by_cases hc : c = 92
  · subst hc
    have cN2 := rnext_any X pA pc L ps v (i + 1) false W1 h1 hL
    rw [hd1] at cN2
    replace h1 := Lib.hid h1
    replace hs1 := Lib.hid hs1
    replace cN2 := Lib.hid cN2
    replace g1 := Lib.hid g1
    have e92 : ((92 : Int) == 92) = true := rfl
    go_wp2_with fail
    refine cN2.out.mono ?_
    rintro e w2 ⟨rfl, g2⟩
    have h2 := rp_gr h1.out g2
    clear k3 k4 f3 f4
    have k3 : w2.cell? ⟨X, 3, none⟩ = some (.int .i64 ((i : Int) + 1)) := by rw [(rp_cells h2).2.2.1]; simp
    have f3 : w2.frozen? ⟨X, 3, none⟩ = false := (rp_cells h2).2.2.2.2.2.1
    obtain ⟨W3, hW3⟩ : ∃ W3, W3 = w2.setCell ⟨X, 3, none⟩ (.int .i64 ((i : Int) + 1 + 1)) := ⟨_, rfl⟩
    obtain ⟨h3, g3⟩ := rp_step h1.out g2 (i + 2) _ (by omega) W3 hW3
    cases t with
    | nil =>
      simp only [nxR]
      replace h2 := Lib.hid h2
      go_upto_region 6 with fail
      rw [← hW3]
      clear k3 f3 hW3 g2
      obtain ⟨_, _, _, k4, _, _, f4⟩ := rp_cells h3
      obtain ⟨W4, hW4⟩ : ∃ W4, W4 = W3.setCell ⟨X, 4, none⟩ (.bool true) := ⟨_, rfl⟩
      obtain ⟨h4, g4⟩ := rp_badW h3 true W4 hW4
      replace h3 := Lib.hid h3
      replace g3 := Lib.hid g3
      have em : ((-1 : Int) < 0) = True := by decide
      go_wp2
      rw [← hW4]
      go_ret
      simp only [List.length_nil] at hlen
      exact ⟨_, i + 2, true, rfl, h4, gr_trans g1.out (gr_trans g3.out g4), by omega, by omega, .inr ⟨rfl, by omega, rfl⟩⟩
    | cons d t2 =>
      simp only [nxR]
      have hd0 := rp_c h2 hd1
      obtain ⟨hi2, hd2, _, _⟩ := drop_cons hd1
      have hdF : (d < 0) = False := eq_false (by omega)
      replace h2 := Lib.hid h2
      go_upto_region 6 with fail
      rw [← hW3]
      clear k3 f3 hW3 g2
      obtain ⟨_, _, _, k4, _, _, f4⟩ := rp_cells h3
      obtain ⟨W4, hW4⟩ : ∃ W4, W4 = W3.setCell ⟨X, 4, none⟩ (.bool false) := ⟨_, rfl⟩
      obtain ⟨h4, g4⟩ := rp_badW h3 false W4 hW4
      replace h3 := Lib.hid h3
      replace g3 := Lib.hid g3
      go_wp2
      rw [← hW4]
      go_ret
      exact ⟨_, i + 2, false, rfl, h4, gr_trans g1.out (gr_trans g3.out g4), by omega, by omega, .inl ⟨rfl, by omega, by rw [← hd2]; rfl⟩⟩
  · have hcb : (c == 92) = false := eqF hc
    obtain ⟨W4, hW4⟩ : ∃ W4, W4 = W1.setCell ⟨X, 4, none⟩ (.bool false) := ⟨_, rfl⟩
    obtain ⟨h4, g4⟩ := rp_badW h1 false W4 hW4
    replace h1 := Lib.hid h1
    replace hs1 := Lib.hid hs1
    replace g1 := Lib.hid g1
    go_wp2
    rw [← hW4]
    go_ret
    exact ⟨_, i + 1, false, rfl, h4, gr_trans g1.out g4, by omega, by omega, .inl ⟨rfl, by omega, by simp only [pMember]; rw [if_neg hc, hd1]⟩⟩
end Go.Proofs.YtccmekdmnkmhlaaGreat
