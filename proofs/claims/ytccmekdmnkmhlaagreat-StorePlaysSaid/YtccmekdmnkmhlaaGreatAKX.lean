/-
  Several facts, one behind the other; no condition but bounds: How the document compares texts and lists of labels. No condition but bounds on the lengths. The document's store: the place of a series (At). No condition but bounds. One label put among others that rise. No condition. append of a whole slice of structs to a row of the call's own, as one step of a region that draws its order. No condition. What a region that puts one element of two cells among others keeps. No condition. What the document's Tidy and Right answer of labels. No condition but bounds on the lengths. What the document's Right answers of labels (cut from RefRight). No condition but bounds on the lengths.
-/
import Derived.Test.YtccmekdmnkmhlaaGreatLabelCmp
import Derived.Test.YtccmekdmnkmhlaaGreatQuietGr
import Derived.Test.YtccmekdmnkmhlaaGreatSqStoreX
import Derived.Test.YtccmekdmnkmhlaaGreatLabelRight
import Derived.Test.YtccmekdmnkmhlaaGreatAppendRow
import Derived.Deep.RegionLaw
import Derived.Deep.RegionHeld3
import Derived.Test.YtccmekdmnkmhlaaGreatBookRow
import Derived.Test.YtccmekdmnkmhlaaGreatGlyphRefName
namespace Go.Proofs.YtccmekdmnkmhlaaGreat
open Go.RowKit

theorem less_eq : ∀ (a b : List UInt8), Op.bytesLess a b = decide (ltT a b) := by
  intro a
  induction a with
  | nil => intro b; cases b with
    | nil => rfl
    | cons y b => rfl
  | cons x a ih =>
    intro b
    cases b with
    | nil => rfl
    | cons y b =>
      have h := ih b
      unfold ltT at h ⊢
      unfold Op.bytesLess Lib.compareBytes
      by_cases h1 : x < y
      · simp [h1]
      · by_cases h2 : y < x
        · have h3 : (x == y) = false := beq_eq_false_iff_ne.2 (fun e => by subst e; exact UInt8.lt_irrefl x h2)
          simp [h1, h2, h3]
        · have h3 : x = y := UInt8.le_antisymm (UInt8.not_lt.1 h2) (UInt8.not_lt.1 h1)
          subst h3
          simp only [h1, if_false]
          rw [← h]
          simp
set_option maxRecDepth 100000 in
theorem refTexts_any (a b : List UInt8) (w : World) : Calls Tryz.prog 119 #[.string (txt a), .string (txt b)] w fun e w' => e = .returned (.int .i64 (Lib.compareBytes a b)) ∧ w = w' := by
  have hl := less_eq a b
  have h1 := cb_one a b
  obtain ⟨C, hC⟩ : ∃ C, C = Lib.compareBytes a b := ⟨_, rfl⟩
  rw [← hC]
  rcases h1 with h | h | h
  · have q1 : Op.bytesLess a b = true := by rw [hl]; exact decide_eq_true (by unfold ltT; omega)
    have hc : C = -1 := by rw [hC, h]
    replace hc := Lib.hid hc
    clear hl h hC
    go_enter Tryz.func119, Tryz.ntmps119
    go_wp2
    go_ret
    exact ⟨by rw [hc.out]; rfl, rfl⟩
  · have q1 : Op.bytesLess a b = false := by rw [hl]; exact decide_eq_false (by unfold ltT; omega)
    have q2 : (a == b) = true := by rw [cb_eq h]; exact beq_self_eq_true _
    have hc : C = 0 := by rw [hC, h]
    replace hc := Lib.hid hc
    clear hl h hC
    go_enter Tryz.func119, Tryz.ntmps119
    go_wp2
    go_ret
    exact ⟨by rw [hc.out]; rfl, rfl⟩
  · have q1 : Op.bytesLess a b = false := by rw [hl]; exact decide_eq_false (by unfold ltT; omega)
    have q2 : (a == b) = false := beq_eq_false_iff_ne.2 (fun e => by rw [e, cb_refl] at h; omega)
    have hc : C = 1 := by rw [hC, h]
    replace hc := Lib.hid hc
    clear hl h hC
    go_enter Tryz.func119, Tryz.ntmps119
    go_wp2
    go_ret
    exact ⟨by rw [hc.out]; rfl, rfl⟩
set_option maxHeartbeats 8000000 in
set_option maxRecDepth 100000 in
theorem refCompare_any (A B : Option Addr) (n m ca cb : Nat) (zs ys : List Lb) (w : World) (hn : n ≤ 1000000000) (hm : m ≤ 1000000000) (hz : Row w A n 2 (sR lblC zs)) (hy : Row w B m 2 (sR lblC ys)) :
    Calls Tryz.prog 88 #[.slice A n ca, .slice B m cb] w fun e w' => e = .returned (.int .i64 (cmpLs zs ys)) ∧ Gr w w' := by
  have hl : zs.length = n := by have := hz.1; rw [sR_len lblC 2 lblC_len] at this; omega
  have hk : ys.length = m := by have := hy.1; rw [sR_len lblC 2 lblC_len] at this; omega
  replace hz := Lib.hid hz
  replace hy := Lib.hid hy
  replace hl := Lib.hid hl
  replace hk := Lib.hid hk
  obtain ⟨C, hC⟩ : ∃ C, C = cmpLs zs ys := ⟨_, rfl⟩
  rw [← hC]
  replace hC := Lib.hid hC
  go_enter Tryz.func88, Tryz.ntmps88
  go_wp2
  go_loopw [5] (fun iv wr => ∃ k : Nat, k ≤ n ∧ k ≤ m ∧ iv = .int .i64 k ∧ Hid (C = cmpLs (zs.drop k) (ys.drop k)) ∧ Hid (Gr w wr)) (fun iv _ => n - (intOf iv).toNat)
  case atStart => exact ⟨0, Nat.zero_le _, Nat.zero_le _, rfl, hC.out, gr_refl _ _⟩
  case round =>
    obtain ⟨k, hkn, hkm, rfl, hc, hg⟩ := hrel
    by_cases hlt : k < n
    · have hki : (k : Int) < (n : Int) := by omega
      have hk0 : (0 : Int) ≤ (k : Int) := by omega
      by_cases hlm : k < m
      · have hmi : (k : Int) < (m : Int) := by omega
        obtain ⟨x, gA, oA, hx, rfl, _, ha⟩ := rowS_elem lblC_len (row_gr hz.out hg.out) (by decide) hlt
        obtain ⟨a0, a1⟩ := two_cells ha
        obtain ⟨y, gB, oB, hyy, rfl, _, hb⟩ := rowS_elem lblC_len (row_gr hy.out hg.out) (by decide) hlm
        obtain ⟨b0, b1⟩ := two_cells hb
        clear ha hb
        have p0 : ∀ p : Grown wr, p.wd.cell? ⟨gA, oA + k * 2, none⟩ = some (.string (txt x.n)) := fun p => cell_to a0 p
        have p2 : ∀ p : Grown wr, p.wd.cell? ⟨gB, oB + k * 2, none⟩ = some (.string (txt y.n)) := fun p => cell_to b0 p
        have hd := cmpLs_drop hx hyy
        rw [← hc.out] at hd
        have ht1 := fun W => refTexts_any x.n y.n W
        have ht2 := fun W => refTexts_any x.v y.v W
        have hcl : cmpLb x y = if Lib.compareBytes x.n y.n = 0 then Lib.compareBytes x.v y.v else Lib.compareBytes x.n y.n := rfl
        generalize Lib.compareBytes x.n y.n = r1 at ht1 hcl
        generalize Lib.compareBytes x.v y.v = r2 at ht2 hcl
        replace ht1 := Lib.hid ht1
        replace ht2 := Lib.hid ht2
        clear hx hyy
        by_cases hr1 : r1 = 0
        · subst hr1
          rw [if_pos rfl] at hcl
          rw [hcl] at hd
          replace hd := Lib.hid hd
          clear hcl
          go_wp2_with fail
          refine wp_region_quiet_gr (by kernel_rfl) (by kernel_rfl) ?_
          repeat (go_big_quiet_step ((go_at_call 119; exact calls_still (ht1.out _))))
          refine wpQuiet_nil ?_
          intro w2 hw2
          obtain ⟨⟨wP, gP⟩, rfl⟩ := hw2
          have p1 : ∀ p : Grown w2, p.wd.cell? ⟨gA, oA + k * 2 + 1, none⟩ = some (.string (txt x.v)) := fun p => cell_to (gr_cell gP a1) p
          have p3 : ∀ p : Grown w2, p.wd.cell? ⟨gB, oB + k * 2 + 1, none⟩ = some (.string (txt y.v)) := fun p => cell_to (gr_cell gP b1) p
          clear p0 p2 a0 a1 b0 b1
          go_wp2_with fail
          refine wp_region_quiet_gr (by kernel_rfl) (by kernel_rfl) ?_
          repeat (go_big_quiet_step ((go_at_call 119; exact calls_still (ht2.out _))))
          refine wpQuiet_nil ?_
          intro w3 hw3
          obtain ⟨⟨wP3, gP3⟩, rfl⟩ := hw3
          clear p1 p3
          by_cases hr2 : r2 = 0
          · subst hr2
            have hd2 := hd.out
            rw [if_pos rfl] at hd2
            replace hd2 := Lib.hid hd2
            go_wp2
            go_roundw
            case rel => exact ⟨k + 1, by omega, by omega, by go_num, hd2.out, gr_trans hg.out (gr_trans gP gP3)⟩
            case measure => simp [intOf]; omega
          · have hb1 : (r2 == 0) = false := eqF hr2
            have hb2 : (r2 != 0) = true := by simpa using hr2
            have hd2 := hd.out
            rw [if_neg hr2] at hd2
            replace hd2 := Lib.hid hd2
            go_wp2
            go_ret
            exact ⟨by rw [hd2.out]; rfl, gr_trans hg.out (gr_trans gP gP3)⟩
        · rw [if_neg hr1] at hcl
          rw [hcl, if_neg hr1] at hd
          have hb1 : (r1 == 0) = false := eqF hr1
          have hb2 : (r1 != 0) = true := by simpa using hr1
          replace hd := Lib.hid hd
          clear hcl
          go_wp2_with fail
          refine wp_region_quiet_gr (by kernel_rfl) (by kernel_rfl) ?_
          repeat (go_big_quiet_step ((go_at_call 119; exact calls_still (ht1.out _))))
          refine wpQuiet_nil ?_
          intro w2 hw2
          obtain ⟨⟨wP, gP⟩, rfl⟩ := hw2
          clear p0 p2 a0 a1 b0 b1
          go_wp2
          go_ret
          exact ⟨by rw [hd.out]; rfl, gr_trans hg.out gP⟩
      · obtain rfl : k = m := by omega
        have hd : C = 1 := by
          rw [hc.out, show ys.drop k = [] from List.drop_eq_nil_of_le (by rw [hk.out]; exact Nat.le_refl _), List.drop_eq_getElem_cons (by rw [hl.out]; exact hlt)]
          rfl
        have hnk : ((n : Int) < (k : Int)) = False := eq_false (by omega)
        replace hd := Lib.hid hd
        go_wp2
        go_ret
        exact ⟨by rw [hd.out]; rfl, hg.out⟩
    · obtain rfl : k = n := by omega
      by_cases hlm : k < m
      · have hmi : (k : Int) < (m : Int) := by omega
        have hd : C = -1 := by
          rw [hc.out, show zs.drop k = [] from List.drop_eq_nil_of_le (by rw [hl.out]; exact Nat.le_refl _), List.drop_eq_getElem_cons (by rw [hk.out]; exact hlm)]
          rfl
        replace hd := Lib.hid hd
        go_wp2
        go_ret
        exact ⟨by rw [hd.out]; rfl, hg.out⟩
      · obtain rfl : k = m := by omega
        have hd : C = 0 := by
          rw [hc.out, show zs.drop k = [] from List.drop_eq_nil_of_le (by rw [hl.out]; exact Nat.le_refl _), show ys.drop k = [] from List.drop_eq_nil_of_le (by rw [hk.out]; exact Nat.le_refl _)]
          rfl
        replace hd := Lib.hid hd
        go_wp2
        go_ret
        exact ⟨by rw [hd.out]; rfl, hg.out⟩
end Go.Proofs.YtccmekdmnkmhlaaGreat
namespace Go.Proofs.YtccmekdmnkmhlaaGreat
open Go.RowKit

/-- Is a series of these labels there? -/
def isAt (ss : List Ser) (l : List Lb) : Bool := match ss[placeS ss l]? with
  | some s => decide (cmpLs s.l l = 0)
  | none => false
theorem place_of_first {ss : List Ser} {l : List Lb} {k : Nat} (hs : SortedS ss) (h1 : ∀ y ∈ ss.take k, ltLs y.l l) (hk : k ≤ ss.length) (h2 : ∀ s, ss[k]? = some s → ¬ ltLs s.l l) : placeS ss l = k := by
  refine placeS_of ⟨hk, h1, fun y hy hlt => ?_⟩
  rcases Nat.lt_or_ge k ss.length with hkl | hkl
  · rw [List.drop_eq_getElem_cons hkl] at hy
    have h3 := h2 _ (List.getElem?_eq_getElem hkl)
    rcases List.mem_cons.1 hy with rfl | hy
    · exact h3 hlt
    · have h4 : ss.drop k = ss[k] :: ss.drop (k + 1) := List.drop_eq_getElem_cons hkl
      have h5 : SortedS (ss.drop k) := List.Pairwise.sublist (List.drop_sublist _ _) hs
      rw [h4] at h5
      have h6 := (List.pairwise_cons.1 h5).1 y hy
      exact h3 (ltLs_trans h6 hlt)
  · rw [List.drop_of_length_le hkl] at hy
    simp at hy
set_option maxHeartbeats 8000000 in
set_option maxRecDepth 100000 in
theorem rat_any (A : Option Addr) (n c : Nat) (hs : List SHd) (ss : List Ser) (lA : Option Addr) (ln lc : Nat) (zs : List Lb) (w : World) (hn : n ≤ 1000000) (hln : ln ≤ 1000000) (h : SersOf w A n hs ss) (hso : SortedS ss) (hsm : ∀ s ∈ ss, s.l.length ≤ 1000000) (hz : Row w lA ln 2 (sR lblC zs)) :
    Calls Tryz.prog 32 #[.slice A n c, .slice lA ln lc] w fun e w' => e = .returned (.tuple #[.int .i64 (placeS ss zs : Nat), .bool (isAt ss zs)]) ∧ Gr w w' := by
  have hsl := h.1
  obtain ⟨P, hP⟩ : ∃ P, P = placeS ss zs := ⟨_, rfl⟩
  obtain ⟨Y, hY⟩ : ∃ Y, Y = isAt ss zs := ⟨_, rfl⟩
  rw [← hP, ← hY]
  replace hP := Lib.hid hP
  replace hY := Lib.hid hY
  replace h := Lib.hid h
  replace hso := Lib.hid hso
  replace hsm := Lib.hid hsm
  replace hz := Lib.hid hz
  replace hsl := Lib.hid hsl
  go_enter Tryz.func32, Tryz.ntmps32
  go_wp2_with fail
  go_loopw [6] (fun iv wr => ∃ k : Nat, k ≤ n ∧ iv = .int .i64 k ∧ Hid (∀ y ∈ ss.take k, ltLs y.l zs) ∧ Hid (Gr w wr)) (fun iv _ => n - (intOf iv).toNat)
  case atStart => exact ⟨0, Nat.zero_le _, rfl, Lib.hid (by simp), gr_refl _ _⟩
  case round =>
    obtain ⟨k, hk, rfl, hlt0, hg⟩ := hrel
    by_cases hlt : k < n
    · obtain ⟨x, s, B, o, hx, hsk, rfl, hc0, hc1, hrd, hl1, hl2⟩ := sersOf_at (sersOf_gr h.out hg.out) hlt
      have hki : (k : Int) < (n : Int) := by omega
      have hk0 : (0 : Int) ≤ (k : Int) := by omega
      have hsl1 := hsm.out s (List.mem_of_getElem? hsk)
      have cC := fun W (g : Gr wr W) => refCompare_any x.la lA x.ln ln x.lc lc s.l zs W (by omega) (by omega) (row_gr hrd.1 g) (row_gr hz.out (gr_trans hg.out g))
      obtain ⟨q, hq⟩ : ∃ q, q = cmpLs s.l zs := ⟨_, rfl⟩
      rw [← hq] at cC
      replace cC := Lib.hid cC
      by_cases hq0 : q < 0
      · have hnext : Hid (∀ y ∈ ss.take (k + 1), ltLs y.l zs) := by
          have htk : ss.take (k + 1) = ss.take k ++ [s] := by rw [List.take_add_one, hsk]; rfl
          rw [htk]
          intro y hy
          rcases List.mem_append.1 hy with hy | hy
          · exact hlt0.out y hy
          · rw [List.mem_singleton.1 hy]; unfold ltLs; rw [← hq]; exact hq0
        have hq0i : (q < 0) = True := eq_true hq0
        replace hq := Lib.hid hq
        replace hsk := Lib.hid hsk
        replace hx := Lib.hid hx
        replace hrd := Lib.hid hrd
        replace hl1 := Lib.hid hl1
        replace hl2 := Lib.hid hl2
        clear hc1
        go_wp2_with fail
        refine (cC.out _ (gr_refl _ _)).mono ?_
        rintro e W2 ⟨rfl, g2⟩
        have hg2 := gr_trans hg.out g2
        replace hg2 := Lib.hid hg2
        clear g2 cC hc0
        go_wp2
        go_roundw
        case rel => exact ⟨k + 1, by omega, by go_num, hnext, hg2⟩
        case measure => simp [intOf]; omega
      · have hpl := place_of_first hso.out hlt0.out (by rw [hsl.out]; omega) (fun s' hs' => by
          rw [hsk] at hs'
          obtain rfl := Option.some.inj hs'
          unfold ltLs
          rw [← hq]
          exact hq0)
        have his : isAt ss zs = decide (q = 0) := by unfold isAt; rw [hpl, hsk]; simp only; rw [← hq]
        obtain rfl : P = k := hP.out.trans hpl
        obtain rfl : Y = decide (q = 0) := hY.out.trans his
        have hq0f : (q < 0) = False := eq_false hq0
        replace hq := Lib.hid hq
        replace hsk := Lib.hid hsk
        replace hx := Lib.hid hx
        replace hrd := Lib.hid hrd
        replace hl1 := Lib.hid hl1
        replace hl2 := Lib.hid hl2
        replace hpl := Lib.hid hpl
        replace his := Lib.hid his
        clear hc1
        go_wp2_with fail
        refine (cC.out _ (gr_refl _ _)).mono ?_
        rintro e W2 ⟨rfl, g2⟩
        have hc2 := gr_cell g2 hc0
        replace g2 := Lib.hid g2
        clear hc0
        go_wp2_with fail
        refine (cC.out _ g2.out).mono ?_
        rintro e W3 ⟨rfl, g3⟩
        have hg3 := gr_trans hg.out (gr_trans g2.out g3)
        replace hg3 := Lib.hid hg3
        clear g3 cC hc2
        by_cases hqz : q = 0
        · subst hqz
          go_wp2
          go_ret2
          exact ⟨by simp, hg3.out⟩
        · have hqb : (q == 0) = false := by simpa using hqz
          go_wp2
          go_ret2
          exact ⟨by simp [hqz], hg3.out⟩
    · have hki : ((k : Int) < (n : Int)) = False := eq_false (by omega)
      obtain rfl : k = n := by omega
      have hnone : ss[k]? = none := List.getElem?_eq_none (by rw [hsl.out]; exact Nat.le_refl _)
      have hpl := place_of_first hso.out hlt0.out (by rw [hsl.out]; exact Nat.le_refl _) (fun s' hs' => by rw [hnone] at hs'; cases hs')
      have his : isAt ss zs = false := by unfold isAt; rw [hpl, hnone]
      obtain rfl : P = k := hP.out.trans hpl
      obtain rfl : Y = false := hY.out.trans his
      replace hpl := Lib.hid hpl
      replace his := Lib.hid his
      replace hnone := Lib.hid hnone
      go_wp2
      go_ret2
      exact ⟨rfl, hg.out⟩
end Go.Proofs.YtccmekdmnkmhlaaGreat
namespace Go.Proofs.YtccmekdmnkmhlaaGreat
open Go.RowKit

theorem rising_of_pair {l : List Lb} (h : l.Pairwise fun a b => ltT a.n b.n) : Rising l := by
  rw [rising_iff]
  intro i a b ha hb
  have h1 := List.pairwise_iff_getElem.1 h i (i + 1) (List.getElem?_eq_some_iff.1 ha).1 (List.getElem?_eq_some_iff.1 hb).1 (by omega)
  rw [(List.getElem?_eq_some_iff.1 ha).2, (List.getElem?_eq_some_iff.1 hb).2] at h1
  exact h1
theorem rising_ins {P : List Lb} (h : Rising P) {q : Nat} {x : Lb} (h1 : ∀ y ∈ P.take q, ltT y.n x.n) (h2 : ∀ y, P[q]? = some y → ltT x.n y.n) : Rising (P.take q ++ [x] ++ P.drop q) := by
  have hp := rising_pair h
  refine rising_of_pair ?_
  have h0 : (P.take q ++ P.drop q).Pairwise fun a b => ltT a.n b.n := by rw [List.take_append_drop]; exact hp
  rw [List.pairwise_append] at h0
  obtain ⟨ha, hb, hc⟩ := h0
  have hx : ∀ y ∈ P.drop q, ltT x.n y.n := by
    intro y hy
    by_cases hq : q < P.length
    · rw [List.drop_eq_getElem_cons hq] at hy hb
      have h3 := h2 _ (List.getElem?_eq_getElem hq)
      rcases List.mem_cons.1 hy with rfl | hy
      · exact h3
      · exact ltT_trans h3 ((List.pairwise_cons.1 hb).1 y hy)
    · rw [List.drop_eq_nil_of_le (by omega)] at hy
      simp at hy
  rw [List.append_assoc, List.singleton_append, List.pairwise_append]
  refine ⟨ha, ?_, ?_⟩
  · rw [List.pairwise_cons]; exact ⟨hx, hb⟩
  · intro a haa b hbb
    rcases List.mem_cons.1 hbb with rfl | hbb
    · exact h1 a haa
    · exact hc a haa b hbb
theorem ins_perm {P : List Lb} (q : Nat) (x : Lb) : (P.take q ++ [x] ++ P.drop q).Perm (P ++ [x]) := by
  have h1 : (P.take q ++ [x] ++ P.drop q).Perm (x :: (P.take q ++ P.drop q)) := by
    rw [List.append_assoc, List.singleton_append]
    exact List.perm_middle
  rw [List.take_append_drop] at h1
  exact h1.trans (List.perm_append_singleton x P).symm
theorem not_tidy_dup {zs z1 : List Lb} {i : Nat} {x y : Lb} (hp : z1.Perm (zs.take i)) (hx : zs[i]? = some x) (hy : y ∈ z1) (e : y.n = x.n) : ¬ okTidy zs := by
  rintro ⟨_, _, z2, h1, h2⟩
  have hn2 : (z2.map Lb.n).Nodup := by
    rw [List.Nodup, List.pairwise_map]
    exact (rising_pair h2).imp fun {a b} hab k => by rw [k] at hab; exact ltT_irr _ hab
  have hn : (zs.map Lb.n).Nodup := ((h1.map Lb.n).nodup_iff).1 hn2
  obtain ⟨hi, hxi⟩ := List.getElem?_eq_some_iff.1 hx
  have hz : zs = zs.take i ++ x :: zs.drop (i + 1) := by
    have := List.take_append_drop i zs
    rw [List.drop_eq_getElem_cons hi, hxi] at this
    exact this.symm
  rw [hz, List.map_append, List.map_cons, List.nodup_append] at hn
  exact hn.2.2 y.n (List.mem_map_of_mem (hp.mem_iff.1 hy)) x.n List.mem_cons_self e
theorem okTidy_of {zs z1 : List Lb} (hl : zs.length ≤ 8) (hp : z1.Perm zs) (hr : Rising z1) (hk : ∀ x ∈ zs, okLb x) : okTidy zs := ⟨hl, hk, z1, hp, hr⟩
end Go.Proofs.YtccmekdmnkmhlaaGreat
namespace Go.Proofs.YtccmekdmnkmhlaaGreat
open Go.RowKit

theorem step_append_rowS {P : Program} {ops : Array Oper} {o : Oper} {a : Act} {w : World} {K : Act → World → Prop} {Q : Exit → Act → World → Prop} {E : Prop}
    (hg : o.guard = none) (s x : Operand) (t : TypeId) (hop : o.op = Op.call { callee := Callee.builtin Builtin.append, args := #[s, x], argTypes := #[t, t] })
    (base : Nat) (e : TypeId) (i : TypeInfo) (z : Value) (size bytes : Nat) (ht : P.underlying t = some (.slice e)) (hi : P.info? e = some i) (hz : i.zero = some z)
    (hsize : i.size = size) (hby : i.bytes = bytes) (hzs : z.cells.size = size) (hsz : 0 < size)
    (v : Value) (n : Nat) (xs : List Value) (hs : a.eval s = v) (hown : w.ownsRow base e size v n xs)
    (ao : Option Addr) (m c : Nat) (news : List Value) (hx : a.eval x = .slice ao m c) (hao : ao = none → c = 0) (hrow : Row w ao m size news) (h1 : ∀ u ∈ news, u.oneCell' = true)
    (N : Nat) (ys : List Value) (hN : n + m = N) (hys : xs ++ news = ys)
    (h63 : N ≤ maxLen) (hbytes : N * bytes ≤ 140737488355328) (hbase : base ≤ w.heap.size)
    (h : ∀ v' w', w'.ownsRow base e size v' N ys → w.grownBy w' v.ownBlock → K (a.put o.dst v') w') :
    if Region.wanted o (yielded ops a.tmps) = true then Oper.wp P o a w K Q else E := by
  subst hN hys
  have hw : Region.wanted o (yielded ops a.tmps) = true := by simp [Region.wanted, hg]
  rw [if_pos hw]
  cases ao with
  | none =>
    obtain rfl : c = 0 := hao rfl
    have hnews : news = [] := by
      cases news with
      | nil => rfl
      | cons u us => obtain ⟨B, o', e', _⟩ := hrow.2 0 u rfl; cases e'
    subst hnews
    have hm : m * size = 0 := by have := hrow.1; simpa using this.symm
    obtain rfl : m = 0 := by
      rcases Nat.mul_eq_zero.1 hm with h' | h'
      · exact h'
      · omega
    have hrun := run_append_owned_none (P := P) w base t o.type e i size ht (by rw [hi]) v n xs hown
    unfold Oper.wp
    simp [execOp, hop, resolve, invoke, builtin, hs, hx, hrun, Result.andThen]
    exact h v w (by simpa using hown) (World.grownBy.refl _ _)
  | some ad =>
    refine wp_append_own w s x t hop base e i z size bytes ht hi hz hsize hby hzs hsz v n xs hs hown ad m c news hx hrow.1 ?_ h1 h63 hbytes hbase fun v' w' h2 h3 _ => h v' w' h2 h3
    intro j u hu
    obtain ⟨B, o', e', _, hc⟩ := hrow.2 j u hu
    obtain rfl := Option.some.inj e'
    rw [Addr.add_lit]
    exact hc
/-- A row of the call's own as a slice. -/
theorem own_sliceS {w : World} {base size : Nat} {e : TypeId} {v : Value} {n : Nat} {xs : List Value} (h : w.ownsRow base e size v n xs) :
    ∃ A c, v = .slice A n c ∧ n ≤ c ∧ c ≤ 9223372036854775807 ∧ (A = none → c = 0) := by
  rcases h.2 with ⟨rfl, rfl⟩ | ⟨g, cap, cur, rfl, hg, hh, hn, hc, hs, hx⟩
  · exact ⟨none, 0, rfl, Nat.le_refl _, by omega, fun _ => rfl⟩
  · exact ⟨_, cap, rfl, hn, by unfold maxLen at hc; omega, fun e => by simp at e⟩
end Go.Proofs.YtccmekdmnkmhlaaGreat
namespace Go.Proofs.YtccmekdmnkmhlaaGreat
open Go.RowKit

/-- Nothing old has turned, and these two cells are there. -/
abbrev SL (wo : World) (B o : Nat) (u0 u1 : Value) (w' : World) : Prop := Gr wo w' ∧ w'.cell? ⟨B, o, none⟩ = some u0 ∧ w'.cell? ⟨B, o + 1, none⟩ = some u1
theorem sl_of {wo w' : World} {B o : Nat} {u0 u1 : Value} (h0 : wo.cell? ⟨B, o, none⟩ = some u0) (h1 : wo.cell? ⟨B, o + 1, none⟩ = some u1) (g : Gr wo w') : SL wo B o u0 u1 w' := ⟨g, gr_cell g h0, gr_cell g h1⟩
theorem sl_drew {wo w' : World} {B o : Nat} {u0 u1 : Value} (h : SL wo B o u0 u1 w') : SL wo B o u0 u1 w'.drew := ⟨gr_trans h.1 (gr_drew _ _), h.2.1, h.2.2⟩
theorem sl_alloc {wo w' : World} {B o : Nat} {u0 u1 : Value} (h : SL wo B o u0 u1 w') (ob : Obj) : SL wo B o u0 u1 (w'.alloc ob) := ⟨gr_trans h.1 (gr_alloc _ _ _), gr_cell (gr_alloc _ _ none) h.2.1, gr_cell (gr_alloc _ _ none) h.2.2⟩
theorem sl_grown {wo w' w'' : World} {B o : Nat} {u0 u1 : Value} {row : Option Nat} (h0 : wo.cell? ⟨B, o, none⟩ = some u0) (h1 : wo.cell? ⟨B, o + 1, none⟩ = some u1) (h : SL wo B o u0 u1 w') (g : w'.grownBy w'' row) (hr : ∀ k, row = some k → wo.heap.size ≤ k) : SL wo B o u0 u1 w'' :=
  sl_of h0 h1 (gr_of_below ((gr_below h.1).grown g h.1.size hr) (Nat.le_refl _))
theorem sl_gr {wo w' : World} {B o : Nat} {u0 u1 : Value} (h : SL wo B o u0 u1 w') : Gr wo w' := h.1
theorem row_newS {α : Type} {f : α → List Value} {S : Nat} (hf : ∀ x, (f x).length = S) (w : World) (x : α) (e : TypeId) : Row (w.alloc (.cells (f x).toArray e)) (some ⟨w.heap.size, 0, none⟩) 1 S (f x) := by
  refine ⟨by rw [hf, Nat.one_mul], fun j u hj => ⟨w.heap.size, 0, rfl, by simp, ?_⟩⟩
  rw [Nat.zero_add, World.cell?_alloc_new, List.getElem?_toArray]
  exact hj
theorem row_heapS {w w' : World} (h : w'.heap = w.heap) {A : Option Addr} {n size : Nat} {xs : List Value} (hr : Row w A n size xs) : Row w' A n size xs := by
  refine ⟨hr.1, fun j u hj => ?_⟩
  obtain ⟨B, o, e, hb, hc⟩ := hr.2 j u hj
  refine ⟨B, o, e, by rw [h]; exact hb, ?_⟩
  unfold World.cell? at hc ⊢
  rw [h]
  exact hc
/-- The rest of a slice from q on, whatever its address. -/
theorem row_rest {α : Type} {f : α → List Value} {S : Nat} (hf : ∀ x, (f x).length = S) (hS : 0 < S) {w : World} {A : Option Addr} {n c q : Nat} {zs : List α} (h : Row w A n S (sR f zs)) (hq : q ≤ n) (hc : n ≤ c) :
    Row w (if c = q then A else Option.map (fun z => z.add (q * S)) A) (n - q) S (sR f (zs.drop q)) := by
  rw [sR_drop f S hf]
  by_cases hcq : c = q
  · have : n = q := by omega
    subst this
    rw [Nat.sub_self, List.drop_eq_nil_of_le (by rw [h.1]; exact Nat.le_refl _)]
    exact row_zero _ _ _
  · rw [if_neg hcq]
    refine row_drop h q _ (fun B o e _ => ?_) hS
    rw [e]
    exact congrArg some (add_plain B o (q * S))
end Go.Proofs.YtccmekdmnkmhlaaGreat
namespace Go.Proofs.YtccmekdmnkmhlaaGreat
open Go.RowKit

def RefTidyPost (n : Nat) (zs : List Lb) (w : World) (e : Ending) (w' : World) : Prop :=
  ((∃ v z1, e = .returned (.tuple #[v, .bool true]) ∧ z1.Perm zs ∧ Rising z1 ∧ okTidy zs ∧ w'.ownsRow w.heap.size 58 2 v n (sR lblC z1)) ∨ (e = .returned (.tuple #[.slice none 0 0, .bool false]) ∧ ¬ okTidy zs)) ∧ Gr w w'
theorem take_snoc {zs : List Lb} {k : Nat} {x : Lb} (hx : zs[k]? = some x) : zs.take (k + 1) = zs.take k ++ [x] := by
  obtain ⟨h1, h2⟩ := List.getElem?_eq_some_iff.1 hx
  rw [List.take_succ_eq_append_getElem h1, h2]
set_option maxHeartbeats 32000000 in
set_option maxRecDepth 100000 in
theorem refTidy_any (A : Option Addr) (n c : Nat) (zs : List Lb) (w : World) (hn : n ≤ 1000000000) (hz : Row w A n 2 (sR lblC zs)) (hsh : ∀ x ∈ zs, x.n.length ≤ 1000000 ∧ x.v.length ≤ 1000000) :
    Calls Tryz.prog 87 #[.slice A n c] w (RefTidyPost n zs w) := by
  obtain ⟨ii, hi, hz0, hz1, hz2⟩ := info_parts infoLb
  have hl : zs.length = n := by have := hz.1; rw [sR_len lblC 2 lblC_len] at this; omega
  replace hl := Lib.hid hl
  replace hz := Lib.hid hz
  replace hsh := Lib.hid hsh
  go_enter Tryz.func87, Tryz.ntmps87
  by_cases h8 : n ≤ 8
  · have h8i : ((8 : Int) < (n : Int)) = False := eq_false (by omega)
    go_wp2
    go_loopw [4, 5] (fun ov iv wr => ∃ (k : Nat) (z1 : List Lb) (A' : Option Addr) (c' : Nat), k ≤ n ∧ iv = .int .i64 k ∧ ov = .slice A' k c' ∧ Hid (z1.Perm (zs.take k)) ∧ Hid (Rising z1) ∧ Hid (∀ x ∈ zs.take k, okLb x) ∧ Hid (wr.ownsRow w.heap.size 58 2 (.slice A' k c') k (sR lblC z1)) ∧ Hid (Gr w wr)) (fun _ iv _ => n - (intOf iv).toNat)
    case atStart => exact ⟨0, [], none, 0, Nat.zero_le _, rfl, rfl, (by show List.Perm _ _; simp), trivial, (by intro x hx; simp at hx), World.ownsRow_nil _ _ _ _, gr_refl _ _⟩
    case round =>
      obtain ⟨k, z1, A', c', hk, rfl, rfl, hp, hri, hokl, ho, hg⟩ := hrel
      have hz1l : z1.length = k := by rw [hp.out.length_eq, List.length_take, hl.out]; omega
      obtain ⟨A'', c'', hve, hkc, hcm, hnone⟩ := own_sliceS ho.out
      injection hve with e1 _ e2
      subst e1 e2
      replace hnone := Lib.hid hnone
      by_cases hlt : k < n
      · obtain ⟨x, gA, oA, hx, rfl, _, ha⟩ := rowS_elem lblC_len (row_gr hz.out hg.out) (by decide) hlt
        obtain ⟨a0, a1⟩ := two_cells ha
        have hki : (k : Int) < (n : Int) := by omega
        have hk0 : (0 : Int) ≤ (k : Int) := by omega
        have hxm := List.mem_of_getElem? hx
        obtain ⟨hx1, hx2⟩ := hsh.out x hxm
        have hnm : ∀ W, Calls Tryz.prog 92 #[.string (txt x.n)] W fun e w' => e = .returned (.bool (isName x.n)) ∧ Gr W w' := fun W => refName_any x.n W (by omega)
        have hbad : ¬ okLb x → ¬ okTidy zs := fun h kk => h (kk.2.1 x hxm)
        replace hbad := Lib.hid hbad
        have a0' := a0
        have a1' := a1
        replace a0' := Lib.hid a0'
        replace a1' := Lib.hid a1'
        replace hx := Lib.hid hx
        clear ha
        by_cases hn1 : isName x.n = true
        · rw [hn1] at hnm
          replace hnm := Lib.hid hnm
          go_wp2_with fail
          refine (hnm.out _).mono ?_
          rintro e w2 ⟨rfl, g2⟩
          have c0 := gr_cell g2 a0
          have c1 := gr_cell g2 a1
          clear a0 a1
          by_cases hv : x.v = []
          · have hv2 : x.v.isEmpty = true := by rw [hv]; rfl
            have hno := hbad.out (fun q => by have := q.2.1; rw [hv] at this; simp at this)
            replace hno := Lib.hid hno
            replace hv := Lib.hid hv
            go_wp2
            go_ret2
            exact ⟨.inr ⟨rfl, hno.out⟩, gr_trans hg.out g2⟩
          · have hv2 : x.v.isEmpty = false := by rw [List.isEmpty_eq_false_iff]; exact hv
            have hvl : 1 ≤ x.v.length := Nat.pos_of_ne_zero (fun q => hv (List.eq_nil_of_length_eq_zero q))
            replace hv := Lib.hid hv
            by_cases hv60 : 60 < x.v.length
            · have hvi : (60 : Int) < (x.v.length : Int) := by omega
              have hno := hbad.out (fun q => by have := q.2.2; omega)
              replace hno := Lib.hid hno
              go_wp2
              go_ret2
              exact ⟨.inr ⟨rfl, hno.out⟩, gr_trans hg.out g2⟩
            · have hvi : ((60 : Int) < (x.v.length : Int)) = False := eq_false (by omega)
              have hgood : okLb x := ⟨hn1, hvl, by omega⟩
              have hokn : ∀ y ∈ zs.take (k + 1), okLb y := fun y hy => by
                rw [take_snoc hx.out] at hy
                rcases List.mem_append.1 hy with hy | hy
                · exact hokl.out y hy
                · rw [List.mem_singleton.1 hy]; exact hgood
              have ho2 := ho.out.kept g2 (Classical.em _)
              have G2 := gr_trans hg.out g2
              replace hokn := Lib.hid hokn
              replace hgood := Lib.hid hgood
              replace ho2 := Lib.hid ho2
              replace G2 := Lib.hid G2
              clear hbad hokl g2 a0' a1'
              go_wp2
              replace c0 := Lib.hid c0
              replace c1 := Lib.hid c1
              go_loopw [6] (fun jv W => ∃ q : Nat, q ≤ k ∧ jv = .int .i64 q ∧ Hid (∀ y ∈ z1.take q, ltT y.n x.n) ∧ Hid (Gr w2 W)) (fun jv _ => k - (intOf jv).toNat)
              case atStart => exact ⟨0, Nat.zero_le _, rfl, (by intro y hy; simp at hy), gr_refl _ _⟩
              case round =>
                obtain ⟨q, hq, rfl, hle, hgi⟩ := hrel
                have hq0 : (0 : Int) ≤ (q : Int) := by omega
                have hqc : (q : Int) ≤ (c' : Int) := by omega
                have hqk' : (q : Int) ≤ (k : Int) := by omega
                have d0 : ∀ p : Grown wr, p.wd.cell? ⟨gA, oA + k * 2, none⟩ = some (.string (txt x.n)) := fun p => cell_to (gr_cell hgi.out c0.out) p
                by_cases hqk : q < k
                · obtain ⟨y, gB, oB, hy, rfl, _, hb⟩ := rowS_elem lblC_len (row_own (ho2.out.kept hgi.out (Classical.em _))) (by decide) hqk
                  obtain ⟨b0, b1⟩ := two_cells hb
                  have hqi : (q : Int) < (k : Int) := by omega
                  have d1 : ∀ p : Grown wr, p.wd.cell? ⟨gB, oB + q * 2, none⟩ = some (.string (txt y.n)) := fun p => cell_to b0 p
                  clear hb
                  replace b0 := Lib.hid b0
                  replace b1 := Lib.hid b1
                  by_cases hlt2 : ltT y.n x.n
                  · have hls : Op.bytesLess y.n x.n = true := by rw [less_eq]; exact decide_eq_true hlt2
                    have hle2 : ∀ u ∈ z1.take (q + 1), ltT u.n x.n := fun u hu => by
                      rw [take_snoc hy] at hu
                      rcases List.mem_append.1 hu with hu | hu
                      · exact hle.out u hu
                      · rw [List.mem_singleton.1 hu]; exact hlt2
                    replace hle2 := Lib.hid hle2
                    replace hlt2 := Lib.hid hlt2
                    clear hy
                    go_wp2_with fail
                    refine wp_region_quiet_gr (by kernel_rfl) (by kernel_rfl) ?_
                    repeat (go_big_quiet_step (fail))
                    refine wpQuiet_nil ?_
                    intro wq hwq
                    obtain ⟨⟨wp, gq⟩, rfl⟩ := hwq
                    go_wp2
                    go_roundw
                    case rel => exact ⟨q + 1, by omega, by go_num, hle2.out, gr_trans hgi.out gq⟩
                    case measure => simp [intOf]; omega
                  · have hls : Op.bytesLess y.n x.n = false := by rw [less_eq]; exact decide_eq_false hlt2
                    go_wp2_with fail
                    refine wp_region_quiet_gr (by kernel_rfl) (by kernel_rfl) ?_
                    repeat (go_big_quiet_step (fail))
                    refine wpQuiet_nil ?_
                    intro wq hwq
                    obtain ⟨⟨wp, gq⟩, rfl⟩ := hwq
                    have d0' : ∀ p : Grown wq, p.wd.cell? ⟨gA, oA + k * 2, none⟩ = some (.string (txt x.n)) := fun p => cell_to (gr_cell (gr_trans hgi.out gq) c0.out) p
                    have d1' : ∀ p : Grown wq, p.wd.cell? ⟨gB, oB + q * 2, none⟩ = some (.string (txt y.n)) := fun p => cell_to (gr_cell gq b0.out) p
                    clear d0 d1 hls
                    by_cases hyx : y.n = x.n
                    · have hq2 : (y.n == x.n) = true := by rw [hyx]; exact beq_self_eq_true _
                      have hno := not_tidy_dup hp.out hx.out (List.mem_of_getElem? hy) hyx
                      replace hno := Lib.hid hno
                      replace hyx := Lib.hid hyx
                      clear hlt2
                      go_wp2_with fail
                      refine wp_region_quiet_gr (by kernel_rfl) (by kernel_rfl) ?_
                      repeat (go_big_quiet_step (fail))
                      refine wpQuiet_nil ?_
                      intro wo3 hW3
                      obtain ⟨⟨wp2, gq2⟩, rfl⟩ := hW3
                      go_wp2
                      go_ret2
                      exact ⟨.inr ⟨rfl, hno.out⟩, gr_trans G2.out (gr_trans hgi.out (gr_trans gq gq2))⟩
                    · have hq2 : (y.n == x.n) = false := beq_eq_false_iff_ne.2 hyx
                      have hxy : ltT x.n y.n := by
                        rcases ltT_tri x.n y.n with h | h | h
                        · exact h
                        · exact absurd h.symm hyx
                        · exact absurd h hlt2
                      have hrn := rising_ins hri.out hle.out (fun u hu => by rw [hy] at hu; rw [← Option.some.inj hu]; exact hxy)
                      have hpn : (z1.take q ++ [x] ++ z1.drop q).Perm (zs.take (k + 1)) := by rw [take_snoc hx.out]; exact (ins_perm q x).trans (hp.out.append_right [x])
                      replace hrn := Lib.hid hrn
                      replace hpn := Lib.hid hpn
                      clear hlt2 hyx hxy hy
                      go_wp2_with fail
                      refine wp_region_quiet_gr (by kernel_rfl) (by kernel_rfl) ?_
                      repeat (go_big_quiet_step (fail))
                      refine wpQuiet_nil ?_
                      intro wo3 hW3
                      obtain ⟨⟨wp2, gq2⟩, rfl⟩ := hW3
                      have hg23 := gr_trans hgi.out (gr_trans gq gq2)
                      have h0 := gr_cell hg23 c0.out
                      have h1 := gr_cell hg23 c1.out
                      have ho3 := ho2.out.kept hg23 (Classical.em _)
                      have hrt : Row wo3 (some ⟨gB, oB, none⟩) q 2 (sR lblC (z1.take q)) := by rw [sR_take lblC 2 lblC_len]; exact row_take (row_own ho3) q hq
                      have hrd : ∀ _u : Unit, Row wo3 (if c' = q then some ⟨gB, oB, none⟩ else some ⟨gB, oB + q * 2, none⟩) (k - q) 2 (sR lblC (z1.drop q)) := fun _ => by
                        have h9 := row_rest lblC_len (by decide) (row_own ho3) hq hkc
                        by_cases hcq : c' = q
                        · rw [if_pos hcq] at h9 ⊢; exact h9
                        · rw [if_neg hcq] at h9 ⊢
                          rw [show (Option.map (fun z => z.add (q * 2)) (some (⟨gB, oB, none⟩ : Addr))) = some ⟨gB, oB + q * 2, none⟩ from congrArg some (add_plain gB oB (q * 2))] at h9
                          exact h9
                      have hao : ∀ _u : Unit, (if c' = q then some (⟨gB, oB, none⟩ : Addr) else some ⟨gB, oB + q * 2, none⟩) = none → c' - q = 0 := fun _ h => by split at h <;> cases h
                      have hGw := gr_trans G2.out hg23
                      replace h0 := Lib.hid h0
                      replace h1 := Lib.hid h1
                      replace hrt := Lib.hid hrt
                      replace hrd := Lib.hid hrd
                      replace hao := Lib.hid hao
                      replace hGw := Lib.hid hGw
                      clear d0' d1' hq2 ho3 hg23 gq gq2
                      go_wp2_with fail
                      have hb0 : SL wo3 gA (oA + k * 2) (.string (txt x.n)) (.string (txt x.v)) wo3 := sl_of h0.out h1.out (gr_refl _ _)
                      go_region_held3 (fun w' => Gr wo3 w' ∧ w'.cell? ⟨gA, oA + k * 2, none⟩ = some (.string (txt x.n)) ∧ w'.cell? ⟨gA, oA + k * 2 + 1, none⟩ = some (.string (txt x.v))) (first | assumption | exact sl_drew (wo := wo3) (B := gA) (o := oA + k * 2) (u0 := .string (txt x.n)) (u1 := .string (txt x.v)) (by assumption) | exact sl_alloc (wo := wo3) (B := gA) (o := oA + k * 2) (u0 := .string (txt x.n)) (u1 := .string (txt x.v)) (by assumption) _) (first | (refine step_append_rowS (o := ⟨some 79, _, _, _, _, _⟩) (by rfl) _ _ 46 (by rfl) wo3.heap.size 58 ii (.agg #[.string ⟨#[]⟩, .string ⟨#[]⟩]) 2 32 Tryz.underlying46 hi hz0 hz1 hz2 rfl (by decide) (.slice none 0 0) (0) ([]) (by rfl) (by exact World.ownsRow_nil _ _ _ _) _ _ _ (sR lblC (z1.take q)) (by rfl) (by exact hnone.out) (by exact row_gr hrt.out (sl_gr (show SL wo3 gA (oA + k * 2) (.string (txt x.n)) (.string (txt x.v)) _ from by assumption))) (lbls_ones _) (q) (sR lblC (z1.take q)) (by omega) (by rfl) (by unfold maxLen; omega) (by omega) (by exact (sl_gr (show SL wo3 gA (oA + k * 2) (.string (txt x.n)) (.string (txt x.v)) _ from by assumption)).size) ?_; intro v1 W1 hown1 hgrow1; have hsf1 := sl_grown h0.out h1.out (show SL wo3 gA (oA + k * 2) (.string (txt x.n)) (.string (txt x.v)) _ from by assumption) hgrow1 (by simp [Value.ownBlock])) | (refine step_append_rowS (o := ⟨some 85, _, _, _, _, _⟩) (by rfl) _ _ 46 (by rfl) wo3.heap.size 58 ii (.agg #[.string ⟨#[]⟩, .string ⟨#[]⟩]) 2 32 Tryz.underlying46 hi hz0 hz1 hz2 rfl (by decide) v1 (q) (sR lblC (z1.take q)) (by rfl) (by first | exact hown1 | exact hown1.alloc _ | exact (hown1.kept (gr_drew W1 none) (Classical.em _)).alloc _ | exact (hown1.alloc _).kept (gr_drew _ none) (Classical.em _)) _ _ _ (lblC x) (by rfl) (by intro e; cases e) (by first | exact row_newS lblC_len W1 x 58 | exact row_gr (by exact row_heapS (w := wo3.alloc (.cells (lblC x).toArray 58)) (by rfl) (row_newS lblC_len wo3 x 58)) hgrow1 | exact row_gr (row_newS lblC_len W1 x 58) (gr_drew _ none)) (lblC_ones _) (q + 1) (sR lblC (z1.take q ++ [x])) (by omega) (by rw [sR_append, sR_one]) (by unfold maxLen; omega) (by omega) (by exact (sl_gr (show SL wo3 gA (oA + k * 2) (.string (txt x.n)) (.string (txt x.v)) _ from by assumption)).size) ?_; intro v2 W2 hown2 hgrow2; have hsf2 := sl_grown h0.out h1.out (show SL wo3 gA (oA + k * 2) (.string (txt x.n)) (.string (txt x.v)) _ from by assumption) hgrow2 (fun j hj => (hown1.lt j hj).1)) | (refine step_append_rowS (o := ⟨some 89, _, _, _, _, _⟩) (by rfl) _ _ 46 (by rfl) wo3.heap.size 58 ii (.agg #[.string ⟨#[]⟩, .string ⟨#[]⟩]) 2 32 Tryz.underlying46 hi hz0 hz1 hz2 rfl (by decide) v2 (q + 1) (sR lblC (z1.take q ++ [x])) (by rfl) (by first | exact hown2 | exact hown2.kept (gr_drew W2 none) (Classical.em _)) _ _ _ (sR lblC (z1.drop q)) (by rfl) (by exact hao.out ()) (by exact row_gr (hrd.out ()) (sl_gr (show SL wo3 gA (oA + k * 2) (.string (txt x.n)) (.string (txt x.v)) _ from by assumption))) (lbls_ones _) (k + 1) (sR lblC (z1.take q ++ [x] ++ z1.drop q)) (by omega) (by rw [sR_append lblC (z1.take q ++ [x])]) (by unfold maxLen; omega) (by omega) (by exact (sl_gr (show SL wo3 gA (oA + k * 2) (.string (txt x.n)) (.string (txt x.v)) _ from by assumption)).size) ?_; intro v3 W3 hown3 hgrow3; have hsf3 := sl_grown h0.out h1.out (show SL wo3 gA (oA + k * 2) (.string (txt x.n)) (.string (txt x.v)) _ from by assumption) hgrow3 (fun j hj => (hown2.lt j hj).1)))
                      all_goals
                        obtain ⟨A3, c3, rfl, hc31, _, hn3⟩ := own_sliceS hown3
                        have hG3 := sl_gr (wo := wo3) (B := gA) (o := oA + k * 2) (u0 := .string (txt x.n)) (u1 := .string (txt x.v)) hsf3
                        have hG4 := gr_trans hGw.out hG3
                        have hown4 := own_mono hown3 hGw.out.size
                        replace hG4 := Lib.hid hG4
                        replace hown4 := Lib.hid hown4
                        clear hown3 hgrow3 hown2 hgrow2 hown1 hgrow1 hsf1 hsf2 hsf3 hb0 hG3
                        go_wp2
                        go_roundw
                        case rel => exact ⟨k + 1, z1.take q ++ [x] ++ z1.drop q, A3, c3, by omega, by go_num, rfl, hpn.out, hrn.out, hokn.out, hown4.out, hG4.out⟩
                        case measure => simp [intOf]; omega
                · have hqe : q = k := by omega
                  have hqf : ((q : Int) < (k : Int)) = False := eq_false (by omega)
                  have hqf2 : (q < k) = False := eq_false hqk
                  have hrn := rising_ins hri.out hle.out (fun u hu => by have := (List.getElem?_eq_some_iff.1 hu).1; omega)
                  have hpn : (z1.take q ++ [x] ++ z1.drop q).Perm (zs.take (k + 1)) := by rw [take_snoc hx.out]; exact (ins_perm q x).trans (hp.out.append_right [x])
                  replace hrn := Lib.hid hrn
                  replace hpn := Lib.hid hpn
                  replace hqe := Lib.hid hqe
                  go_wp2_with fail
                  refine wp_region_quiet_gr (by kernel_rfl) (by kernel_rfl) ?_
                  repeat (go_big_quiet_step (fail))
                  refine wpQuiet_nil ?_
                  intro wq hwq
                  obtain ⟨⟨wp, gq⟩, rfl⟩ := hwq
                  clear d0
                  go_wp2_with fail
                  refine wp_region_quiet_gr (by kernel_rfl) (by kernel_rfl) ?_
                  repeat (go_big_quiet_step (fail))
                  refine wpQuiet_nil ?_
                  intro wo3 hW3
                  obtain ⟨⟨wp2, gq2⟩, rfl⟩ := hW3
                  have hg23 := gr_trans hgi.out (gr_trans gq gq2)
                  have h0 := gr_cell hg23 c0.out
                  have h1 := gr_cell hg23 c1.out
                  have ho3 := ho2.out.kept hg23 (Classical.em _)
                  have hrt : Row wo3 A' q 2 (sR lblC (z1.take q)) := by rw [sR_take lblC 2 lblC_len]; exact row_take (row_own ho3) q hq
                  have hrd : ∀ _u : Unit, Row wo3 (if c' = q then A' else Option.map (fun z => z.add (q * 2)) A') (k - q) 2 (sR lblC (z1.drop q)) := fun _ => row_rest lblC_len (by decide) (row_own ho3) hq hkc
                  have hao : ∀ _u : Unit, (if c' = q then A' else Option.map (fun z => z.add (q * 2)) A') = none → c' - q = 0 := fun _ h => by
                    have h9 := hnone.out
                    cases A' with
                    | none => have := h9 rfl; omega
                    | some a' => split at h <;> simp at h
                  have hGw := gr_trans G2.out hg23
                  replace h0 := Lib.hid h0
                  replace h1 := Lib.hid h1
                  replace hrt := Lib.hid hrt
                  replace hrd := Lib.hid hrd
                  replace hao := Lib.hid hao
                  replace hGw := Lib.hid hGw
                  clear ho3 hg23 gq gq2
                  go_wp2_with fail
                  have hb0 : SL wo3 gA (oA + k * 2) (.string (txt x.n)) (.string (txt x.v)) wo3 := sl_of h0.out h1.out (gr_refl _ _)
                  go_region_held3 (fun w' => Gr wo3 w' ∧ w'.cell? ⟨gA, oA + k * 2, none⟩ = some (.string (txt x.n)) ∧ w'.cell? ⟨gA, oA + k * 2 + 1, none⟩ = some (.string (txt x.v))) (first | assumption | exact sl_drew (wo := wo3) (B := gA) (o := oA + k * 2) (u0 := .string (txt x.n)) (u1 := .string (txt x.v)) (by assumption) | exact sl_alloc (wo := wo3) (B := gA) (o := oA + k * 2) (u0 := .string (txt x.n)) (u1 := .string (txt x.v)) (by assumption) _) (first | (refine step_append_rowS (o := ⟨some 79, _, _, _, _, _⟩) (by rfl) _ _ 46 (by rfl) wo3.heap.size 58 ii (.agg #[.string ⟨#[]⟩, .string ⟨#[]⟩]) 2 32 Tryz.underlying46 hi hz0 hz1 hz2 rfl (by decide) (.slice none 0 0) (0) ([]) (by rfl) (by exact World.ownsRow_nil _ _ _ _) _ _ _ (sR lblC (z1.take q)) (by rfl) (by exact hnone.out) (by exact row_gr hrt.out (sl_gr (show SL wo3 gA (oA + k * 2) (.string (txt x.n)) (.string (txt x.v)) _ from by assumption))) (lbls_ones _) (q) (sR lblC (z1.take q)) (by omega) (by rfl) (by unfold maxLen; omega) (by omega) (by exact (sl_gr (show SL wo3 gA (oA + k * 2) (.string (txt x.n)) (.string (txt x.v)) _ from by assumption)).size) ?_; intro v1 W1 hown1 hgrow1; have hsf1 := sl_grown h0.out h1.out (show SL wo3 gA (oA + k * 2) (.string (txt x.n)) (.string (txt x.v)) _ from by assumption) hgrow1 (by simp [Value.ownBlock])) | (refine step_append_rowS (o := ⟨some 85, _, _, _, _, _⟩) (by rfl) _ _ 46 (by rfl) wo3.heap.size 58 ii (.agg #[.string ⟨#[]⟩, .string ⟨#[]⟩]) 2 32 Tryz.underlying46 hi hz0 hz1 hz2 rfl (by decide) v1 (q) (sR lblC (z1.take q)) (by rfl) (by first | exact hown1 | exact hown1.alloc _ | exact (hown1.kept (gr_drew W1 none) (Classical.em _)).alloc _ | exact (hown1.alloc _).kept (gr_drew _ none) (Classical.em _)) _ _ _ (lblC x) (by rfl) (by intro e; cases e) (by first | exact row_newS lblC_len W1 x 58 | exact row_gr (by exact row_heapS (w := wo3.alloc (.cells (lblC x).toArray 58)) (by rfl) (row_newS lblC_len wo3 x 58)) hgrow1 | exact row_gr (row_newS lblC_len W1 x 58) (gr_drew _ none)) (lblC_ones _) (q + 1) (sR lblC (z1.take q ++ [x])) (by omega) (by rw [sR_append, sR_one]) (by unfold maxLen; omega) (by omega) (by exact (sl_gr (show SL wo3 gA (oA + k * 2) (.string (txt x.n)) (.string (txt x.v)) _ from by assumption)).size) ?_; intro v2 W2 hown2 hgrow2; have hsf2 := sl_grown h0.out h1.out (show SL wo3 gA (oA + k * 2) (.string (txt x.n)) (.string (txt x.v)) _ from by assumption) hgrow2 (fun j hj => (hown1.lt j hj).1)) | (refine step_append_rowS (o := ⟨some 89, _, _, _, _, _⟩) (by rfl) _ _ 46 (by rfl) wo3.heap.size 58 ii (.agg #[.string ⟨#[]⟩, .string ⟨#[]⟩]) 2 32 Tryz.underlying46 hi hz0 hz1 hz2 rfl (by decide) v2 (q + 1) (sR lblC (z1.take q ++ [x])) (by rfl) (by first | exact hown2 | exact hown2.kept (gr_drew W2 none) (Classical.em _)) _ _ _ (sR lblC (z1.drop q)) (by rfl) (by exact hao.out ()) (by exact row_gr (hrd.out ()) (sl_gr (show SL wo3 gA (oA + k * 2) (.string (txt x.n)) (.string (txt x.v)) _ from by assumption))) (lbls_ones _) (k + 1) (sR lblC (z1.take q ++ [x] ++ z1.drop q)) (by omega) (by rw [sR_append lblC (z1.take q ++ [x])]) (by unfold maxLen; omega) (by omega) (by exact (sl_gr (show SL wo3 gA (oA + k * 2) (.string (txt x.n)) (.string (txt x.v)) _ from by assumption)).size) ?_; intro v3 W3 hown3 hgrow3; have hsf3 := sl_grown h0.out h1.out (show SL wo3 gA (oA + k * 2) (.string (txt x.n)) (.string (txt x.v)) _ from by assumption) hgrow3 (fun j hj => (hown2.lt j hj).1)))
                  all_goals
                    obtain ⟨A3, c3, rfl, hc31, _, hn3⟩ := own_sliceS hown3
                    have hG3 := sl_gr (wo := wo3) (B := gA) (o := oA + k * 2) (u0 := .string (txt x.n)) (u1 := .string (txt x.v)) hsf3
                    have hG4 := gr_trans hGw.out hG3
                    have hown4 := own_mono hown3 hGw.out.size
                    replace hG4 := Lib.hid hG4
                    replace hown4 := Lib.hid hown4
                    clear hown3 hgrow3 hown2 hgrow2 hown1 hgrow1 hsf1 hsf2 hsf3 hb0 hG3
                    go_wp2
                    go_roundw
                    case rel => exact ⟨k + 1, z1.take q ++ [x] ++ z1.drop q, A3, c3, by omega, by go_num, rfl, hpn.out, hrn.out, hokn.out, hown4.out, hG4.out⟩
                    case measure => simp [intOf]; omega
        · have hn0 : isName x.n = false := by simpa using hn1
          rw [hn0] at hnm
          have hno := hbad.out (fun q => hn1 q.1)
          replace hno := Lib.hid hno
          replace hnm := Lib.hid hnm
          go_wp2_with fail
          refine (hnm.out _).mono ?_
          rintro e w2 ⟨rfl, g2⟩
          go_wp2
          go_ret2
          exact ⟨.inr ⟨rfl, hno.out⟩, gr_trans hg.out g2⟩
      · obtain rfl : k = n := by omega
        have hpz := hp.out
        rw [List.take_of_length_le (by rw [hl.out]; exact Nat.le_refl _)] at hpz
        have hokz := hokl.out
        rw [List.take_of_length_le (by rw [hl.out]; exact Nat.le_refl _)] at hokz
        have htd := okTidy_of (by rw [hl.out]; exact h8) hpz hri.out hokz
        replace htd := Lib.hid htd
        replace hpz := Lib.hid hpz
        clear hokz
        go_wp2
        go_ret2
        exact ⟨.inl ⟨_, z1, rfl, hpz.out, hri.out, htd.out, ho.out⟩, hg.out⟩
  · have h8i : (8 : Int) < (n : Int) := by omega
    have hnt : ¬ okTidy zs := fun k => by have := k.1; rw [hl.out] at this; omega
    replace hnt := Lib.hid hnt
    go_wp2
    go_ret2
    exact ⟨.inr ⟨rfl, hnt.out⟩, gr_refl _ _⟩
end Go.Proofs.YtccmekdmnkmhlaaGreat
namespace Go.Proofs.YtccmekdmnkmhlaaGreat
open Go.RowKit

set_option maxHeartbeats 4000000 in
set_option maxRecDepth 100000 in
theorem refRight_any (A : Option Addr) (n c : Nat) (zs : List Lb) (w : World) (hn : n ≤ 1000000000) (hz : Row w A n 2 (sR lblC zs)) (hsh : ∀ x ∈ zs, x.n.length ≤ 1000000 ∧ x.v.length ≤ 1000000) :
    Calls Tryz.prog 29 #[.slice A n c] w fun e w' => e = .returned (.bool (decide (okLbs zs))) ∧ Gr w w' := by
  have htd := refTidy_any A n c zs w hn hz hsh
  replace htd := Lib.hid htd
  replace hz := Lib.hid hz
  clear hsh
  obtain ⟨R, hR⟩ : ∃ R, R = decide (okLbs zs) := ⟨_, rfl⟩
  rw [← hR]
  replace hR := Lib.hid hR
  go_enter Tryz.func29, Tryz.ntmps29
  go_wp2_with fail
  refine htd.out.mono ?_
  rintro e w1 ⟨⟨v, z1, rfl, hp, hr, hok, ho⟩ | ⟨rfl, hno⟩, g1⟩
  · obtain ⟨A1, c1, rfl, hc1, hc2⟩ := own_openS ho
    have hsm := refCompare_any A1 A n n c1 c z1 zs w1 hn hn (row_own ho) (row_gr hz.out g1)
    have hb : (cmpLs z1 zs == 0) = R := by
      rw [hR.out]
      by_cases h : z1 = zs
      · rw [decide_eq_true ((okLbs_iff hp hr hok).2 h), h, cmpLs_refl]; rfl
      · rw [decide_eq_false (fun k => h ((okLbs_iff hp hr hok).1 k))]
        exact eqF (fun k => h (cmpLs_eq k))
    generalize cmpLs z1 zs = r at hsm hb
    replace hsm := Lib.hid hsm
    replace g1 := Lib.hid g1
    clear hp hr hok ho
    go_wp2_with fail
    refine hsm.out.mono ?_
    rintro e w3 ⟨rfl, g3⟩
    go_wp2
    go_ret
    exact ⟨rfl, gr_trans g1.out g3⟩
  · have hb : R = false := by rw [hR.out]; exact decide_eq_false (fun k => hno (okLbs_tidy k))
    replace hb := Lib.hid hb
    clear hno
    go_wp2
    go_ret
    exact ⟨by rw [hb.out]; rfl, g1⟩
end Go.Proofs.YtccmekdmnkmhlaaGreat
