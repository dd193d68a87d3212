/-
  DeskTicks holds of the program: for every input the call returns true and leaves what came in as it was. No condition.
-/
import Derived.Test.YtilbeoblppigeaaDoorRows
import Derived.Test.YtilbeoblppigeaaDoorCards
import Derived.Test.YtilbeoblppigeaaDoorTie
import Derived.LaidMore
import Derived.Stop.Joined
import Derived.Stop.LaidErr
import Derived.Lib.LaidTab
import Derived.SevenTiedAt
import Derived.Test.YtilbeoblppigeaaDoorDeskGen
import Derived.Test.YtilbeoblppigeaaDoorSameCurs
import Derived.Test.YtilbeoblppigeaaDoorSlipVars
import Derived.Test.YtilbeoblppigeaaDoorDyFoldN
import Derived.Test.YtilbeoblppigeaaDoorDyOpen
import Derived.Test.YtilbeoblppigeaaDoorDyLight
import Derived.WalkKit
import Derived.ProofKit
import Derived.OpenShut
import Derived.ShutString
import Derived.ChangeOld
import Derived.Below
namespace Go.Proofs.YtilbeoblppigeaaDoor.deskTicks
open Go.ChangeShapes Go.WideShapes Go.ChangeAt Go.RowKit
open Go.ChangeMaps (open_string shut_string)
set_option linter.unusedVariables false

theorem own : ownKnob Tryd.prog.godebug = none := by kernel_rfl
theorem laidOut : laidOutB Tryd.prog = true := by kernel_rfl
theorem filt_len {p q : Cur → Bool} (h : ∀ y, p y = true → q y = true) : ∀ l : List Cur, (l.filter p).length + ((l.filter (fun y => !p y)).filter q).length = (l.filter q).length
  | [] => rfl
  | y :: l => by
    have ih := filt_len h l
    cases hp : p y with
    | true =>
      have hq := h y hp
      simp only [List.filter_cons, hp, hq, Bool.not_true, Bool.false_eq_true, if_true, if_false, List.length_cons]
      omega
    | false =>
      cases hq : q y with
      | true =>
        simp only [List.filter_cons, hp, hq, Bool.not_false, Bool.false_eq_true, if_true, if_false, List.length_cons]
        omega
      | false =>
        simp only [List.filter_cons, hp, hq, Bool.not_false, Bool.false_eq_true, if_true, if_false]
        omega
theorem filt_two {p q : Cur → Bool} (h : ∀ y, p y = true → q y = true) : ∀ l : List Cur, (l.filter (fun y => !p y)).filter (fun y => !q y) = l.filter (fun y => !q y)
  | [] => rfl
  | y :: l => by
    have ih := filt_two h l
    cases hp : p y with
    | true =>
      have hq := h y hp
      simp only [List.filter_cons, hp, hq, Bool.not_true, Bool.false_eq_true, if_false]
      exact ih
    | false =>
      cases hq : q y with
      | true =>
        simp only [List.filter_cons, hp, hq, Bool.not_false, Bool.not_true, Bool.false_eq_true, if_true, if_false]
        exact ih
      | false =>
        simp only [List.filter_cons, hp, hq, Bool.not_false, if_true]
        rw [ih]
theorem tick_two (s : DkS) (a b : Nat) : tickS (tickS s a) b = tickS s (a + b) := by
  unfold tickS
  have h : ∀ y : Cur, decide (y.tl < s.now + a) = true → decide (y.tl < s.now + a + b) = true := fun y hy => by
    have := of_decide_eq_true hy
    exact decide_eq_true (by omega)
  simp only [DkS.mk.injEq, true_and, and_true]
  refine ⟨by omega, ?_⟩
  rw [filt_two h]
  congr 1
  funext y
  congr 2
  simp only [eq_iff_iff]
  omega
theorem tick_lens (s : DkS) (a b : Nat) : (s.op.filter (fun y => decide (y.tl < s.now + a))).length + ((tickS s a).op.filter (fun y => decide (y.tl < (tickS s a).now + b))).length = (s.op.filter (fun y => decide (y.tl < s.now + (a + b : Nat)))).length := by
  have h : ∀ y : Cur, decide (y.tl < s.now + a) = true → decide (y.tl < s.now + (a + b : Nat)) = true := fun y hy => by
    have := of_decide_eq_true hy
    exact decide_eq_true (by omega)
  rw [← filt_len h]
  unfold tickS
  simp only
  congr 3
  funext y
  congr 1
  simp only [eq_iff_iff]
  omega
/-- The desk's state of notes. -/
def dks (zs : List Nte) : DkS := ⟨(Dy.foldN zs).next, (Dy.foldN zs).now, (Dy.foldN zs).op, (Dy.foldN zs).seg, (Dy.foldN zs).pts⟩
theorem dkIn_B {w wi w' : World} {D E : Nat} {s : DkS} {A : Option Addr} {n c : Nat} (h : DkIn w wi D s A n c) (g : GrB E wi w') (hE : E ≠ D) {t : TypeId} {cs : Array Value} {fr : Nat × Nat} (hb : wi.heap[E]? = some (.cells cs t fr)) (ht : 30 ≠ t) (hw : w.heap.size ≤ E) : DkIn w w' D s A n c :=
  ⟨gr_over h.gr g hw, ⟨gr_blk g h.dk.blk (by simp; omega), own_farD h.dk.own hb ht g⟩, h.le⟩
set_option maxHeartbeats 16000000 in
set_option maxRecDepth 100000 in
theorem walk (w : World) (hL : laidMetH Tryd.prog Rows.deskTicksRow.laid w) (a0 : Option Addr) (len0 cap0 : Nat) (z0 : List Nte) (w0 : Dy.IsNtes w a0 len0 cap0 z0) (a1 : Int) (w1 : (Lit.int .i64 a1).wf = true) (a2 : Int) (w2 : (Lit.int .i64 a2).wf = true) :
    Calls Tryd.prog 4 #[.slice a0 len0 cap0, .int .i64 a1, .int .i64 a2] w fun e w' => e = .returned (.bool true) ∧ Below w.heap.size w w' := by
  have hv : Vars w := vars_of hL
  obtain ⟨hr0, hcap0, hcm0, _, hnil0⟩ := w0
  have cT0 := Dy.light_any a0 len0 cap0 z0 w (by omega) hr0
  clear hL w1 w2
  by_cases c : 1 ≤ a1 ∧ a1 ≤ 1000 ∧ 1 ≤ a2 ∧ a2 ≤ 1000
  · obtain ⟨a, rfl⟩ : ∃ n : Nat, a1 = n := ⟨a1.toNat, by omega⟩
    obtain ⟨b, rfl⟩ : ∃ n : Nat, a2 = n := ⟨a2.toNat, by omega⟩
    obtain ⟨c1, c2, c3, c4⟩ := c
    have hab : IntKind.i64.wrap ((a : Int) + (b : Int)) = ((a + b : Nat) : Int) := by rw [IntWalk.i64_in _ (by omega)]; omega
    have cF := fun W (g : Gr w W) (hn : len0 ≤ 60) => Dy.dFold_any a0 len0 cap0 z0 W (row_gr hr0 g) (by omega)
    have hinv := Dy.foldN_inv z0
    have hnow := hinv.nw
    have hfl := Dy.foldN_len z0
    have hzl : z0.length = len0 := by have := hr0.1; rw [sR_len nteC 6 nteC_len] at this; omega
    replace hr0 := Lib.hid hr0
    replace cF := Lib.hid cF
    replace cT0 := Lib.hid cT0
    replace hv := Lib.hid hv
    replace hinv := Lib.hid hinv
    replace hnow := Lib.hid hnow
    replace hfl := Lib.hid hfl
    replace hzl := Lib.hid hzl
    go_enter Tryd.func4, Tryd.ntmps4
    go_wp2_with fail
    refine cT0.out.mono ?_
    rintro e W ⟨⟨bb0, rfl, hb0⟩, rfl⟩
    cases bb0 with
    | false =>
      go_wp2_with fail
      refine (alive_any _ hv.out).mono ?_
      rintro e W1 ⟨rfl, g1⟩
      go_wp2
      go_ret
      exact ⟨rfl, gr_below g1⟩
    | true =>
      have hn60 := hb0 rfl
      clear hb0
      replace hn60 := Lib.hid hn60
      go_wp2_with fail
      refine (alive_any _ hv.out).mono ?_
      rintro e W1 ⟨rfl, g1⟩
      go_wp2_with fail
      refine (cF.out _ g1 hn60.out).mono ?_
      rintro e W2 ⟨⟨A1, n1, cc1, rfl, hO1⟩, g2⟩
      have hs1 : (Dy.foldN z0).op.length = n1 := by have := hO1.1; rw [sR_len curC 5 curC_len] at this; omega
      have hn1 : n1 ≤ 60 := by have := hfl.out; have := hzl.out; have := hn60.out; omega
      have gA := gr_trans g1 g2
      have hnew1 := dkin_newS (w := w) (wi := W2) gA (dks z0) A1 n1 cc1 (by omega) (own_nilD hO1) (row_own hO1)
      unfold dks at hnew1
      simp only at hnew1
      replace gA := Lib.hid gA
      replace hnew1 := Lib.hid hnew1
      replace hs1 := Lib.hid hs1
      replace hn1 := Lib.hid hn1
      clear hO1 g1 g2
      go_wp2_with fail
      refine hnew1.out.mono ?_
      rintro e W3 ⟨DX, AX, cX, rfl, hX, hXle, gX⟩
      have gB := gr_trans gA.out gX
      replace hX := Lib.hid hX
      replace gB := Lib.hid gB
      clear hnew1 gX gA hXle
      go_wp2_with fail
      refine (cF.out _ gB.out hn60.out).mono ?_
      rintro e W4 ⟨⟨A2, n2, cc2, rfl, hO2⟩, g4⟩
      obtain rfl : n1 = n2 := by have := hO2.1; rw [sR_len curC 5 curC_len] at this; have := hs1.out; omega
      have gC := gr_trans gB.out g4
      have hnew2 := dkin_newS (w := w) (wi := W4) gC (dks z0) A2 n1 cc2 (by have := hn1.out; omega) (own_nilD hO2) (row_own hO2)
      unfold dks at hnew2
      simp only at hnew2
      have hX4 := dkIn_gr hX.out g4
      replace hX4 := Lib.hid hX4
      replace gC := Lib.hid gC
      replace hnew2 := Lib.hid hnew2
      clear hO2 g4 gB hX
      go_wp2_with fail
      refine hnew2.out.mono ?_
      rintro e W5 ⟨DY, AY, cY, rfl, hY, hYle, gY⟩
      have hX5 := dkIn_gr hX4.out gY
      have hXY : DX ≠ DY := by
        have := lt_of_blk hX4.out.dk.blk
        omega
      obtain ⟨s, hs⟩ : ∃ s, s = dks z0 := ⟨_, rfl⟩
      change DkIn w W5 DX (dks z0) AX n1 cX at hX5
      change DkIn w W5 DY (dks z0) AY n1 cY at hY
      rw [← hs] at hX5 hY
      have hnow' : 0 ≤ s.now ∧ s.now ≤ 1000000000 := by rw [hs]; exact hnow.out
      replace hs := Lib.hid hs
      replace hX5 := Lib.hid hX5
      replace hY := Lib.hid hY
      replace hXY := Lib.hid hXY
      replace hnow' := Lib.hid hnow'
      clear hnew2 gY hX4 hYle gC hinv hnow hfl hzl cF hr0 hs1 hs
      go_wp2_with fail
      refine (dkin_tickG hX5.out a (by omega) hnow'.out (by have := hn1.out; omega)).mono ?_
      rintro e W6 ⟨V1, k1, vc1, e1, AX1, m1, cX1, s1, rfl, hX6, g6, ht1⟩
      have hY6 := dkIn_B hY.out g6 hXY.out hX5.out.dk.blk (by decide) hX5.out.le
      have hm1 : m1 ≤ 100 := by
        have h1 := dkIs_len hX6.dk
        have h2 := dkIs_len hX5.out.dk
        have h3 := hn1.out
        rcases ht1 with ⟨_, _, rfl, _⟩ | ⟨_, _, rfl⟩
        · have := List.length_filter_le (fun y : Cur => !decide (y.tl < s.now + a)) s.op
          unfold tickS at h1
          simp only at h1
          omega
        · omega
      have hnow1 : 0 ≤ s1.now ∧ s1.now ≤ 1000000000 := by
        have h0 := hnow'.out
        rcases ht1 with ⟨h1, _, rfl, _⟩ | ⟨_, _, rfl⟩
        · unfold tickS
          simp only
          omega
        · exact h0
      replace hX6 := Lib.hid hX6
      replace hY6 := Lib.hid hY6
      replace ht1 := Lib.hid ht1
      replace hm1 := Lib.hid hm1
      replace hnow1 := Lib.hid hnow1
      clear hX5 hY g6
      go_wp2_with fail
      refine (dkin_tickG hX6.out b (by omega) hnow1.out (by have := hm1.out; omega)).mono ?_
      rintro e W7 ⟨V2, k2, vc2, e2, AX2, m2, cX2, s2, rfl, hX7, g7, ht2⟩
      have hY7 := dkIn_B hY6.out g7 hXY.out hX6.out.dk.blk (by decide) hX6.out.le
      have hm2 : m2 ≤ 100 := by
        have h1 := dkIs_len hX7.dk
        have h2 := dkIs_len hX6.out.dk
        have h3 := hm1.out
        rcases ht2 with ⟨_, _, rfl, _⟩ | ⟨_, _, rfl⟩
        · have := List.length_filter_le (fun y : Cur => !decide (y.tl < s1.now + b)) s1.op
          unfold tickS at h1
          simp only at h1
          omega
        · omega
      replace hX7 := Lib.hid hX7
      replace hY7 := Lib.hid hY7
      replace ht2 := Lib.hid ht2
      replace hm2 := Lib.hid hm2
      clear hX6 hY6 g7
      go_wp2_with fail
      refine (dkin_tickG hY7.out (a + b) (by omega) hnow'.out (by have := hn1.out; omega)).mono ?_
      rintro e W8 ⟨V3, k3, vc3, e3, AY1, m3, cY1, s3, rfl, hY8, g8, ht3⟩
      have hX8 := dkIn_B hX7.out g8 (fun e => hXY.out e.symm) hY7.out.dk.blk (by decide) hY7.out.le
      have h0now := hnow'.out
      have hgr8 := hY8.gr
      replace hgr8 := Lib.hid hgr8
      rcases ht1.out with ⟨hq1, rfl, rfl, hk1⟩ | ⟨hq1, rfl, rfl⟩
      · rcases ht2.out with ⟨hq2, rfl, rfl, hk2⟩ | ⟨hq2, rfl, rfl⟩
        · rcases ht3 with ⟨hq3, rfl, rfl, hk3⟩ | ⟨hq3, rfl, rfl⟩
          · rw [tick_two] at hX8
            have hkk : k1 + k2 = k3 := by rw [hk1, hk2, hk3]; exact tick_lens s a b
            have hm : m2 = m3 := by rw [← dkIs_len hX8.dk, ← dkIs_len hY8.dk]
            have hk1b : k1 ≤ 1000 := by
              rw [hk1]
              have h1 := List.length_filter_le (fun y : Cur => decide (y.tl < s.now + a)) s.op
              have h2 := dkIs_len hY7.out.dk
              have := hn1.out
              omega
            have hk3b : k3 ≤ 1000 := by
              rw [hk3]
              have h1 := List.length_filter_le (fun y : Cur => decide (y.tl < s.now + (a + b : Nat))) s.op
              have h2 := dkIs_len hY7.out.dk
              have := hn1.out
              omega
            subst hm
            generalize tickS s (a + b) = t at hX8 hY8
            have h2b := hm2.out
            have hkI : IntKind.i64.wrap ((k1 : Int) + (k2 : Int)) = (k3 : Int) := by rw [IntWalk.i64_in _ (by omega)]; omega
            obtain ⟨nx, now, op, seg, pts⟩ := t
            have cS1 := fun W (g : Gr W8 W) => dkin_state (dkIn_gr hX8 g) (by omega)
            have cS2 := fun W (g : Gr W8 W) => dkin_state (dkIn_gr hY8 g) (by omega)
            simp only at cS1 cS2
            replace cS1 := Lib.hid cS1
            replace cS2 := Lib.hid cS2
            replace hk1 := Lib.hid hk1
            replace hk2 := Lib.hid hk2
            replace hk3 := Lib.hid hk3
            replace hkk := Lib.hid hkk
            clear hX7 hY7 hX8 hY8 g8 ht1 ht2 hq1 hq2 hq3 h0now hnow1 hnow' hab
            go_wp2_with fail
            refine (cS1.out _ (gr_refl _ _)).mono ?_
            rintro e W9 ⟨B1, d1, rfl, hB1, g9⟩
            go_wp2_with fail
            refine (cS2.out _ g9).mono ?_
            rintro e W10 ⟨B2, d2, rfl, hB2, g10⟩
            have cSm := fun W (g : Gr W10 W) => sameCurs_yes B1 B2 m2 d1 d2 op W (by omega) (row_gr (row_own hB1) (gr_trans g10 g)) (row_gr (row_own hB2) g)
            have hG10 := gr_trans hgr8.out (gr_trans g9 g10)
            have hSA : ((W10.alloc (.cells #[.int .i64 nx, .int .i64 now, .slice B1 m2 d1, .string (txt seg), .int .i64 pts] 27)).alloc (.cells #[.int .i64 nx, .int .i64 now, .slice B2 m2 d2, .string (txt seg), .int .i64 pts] 27)).heap[W10.heap.size]? = some (.cells #[.int .i64 nx, .int .i64 now, .slice B1 m2 d1, .string (txt seg), .int .i64 pts] 27 (0, 0)) := gr_blk (gr_alloc _ _ none) (blk_new W10 _) (by simp)
            have hSB : ((W10.alloc (.cells #[.int .i64 nx, .int .i64 now, .slice B1 m2 d1, .string (txt seg), .int .i64 pts] 27)).alloc (.cells #[.int .i64 nx, .int .i64 now, .slice B2 m2 d2, .string (txt seg), .int .i64 pts] 27)).heap[W10.heap.size + 1]? = some (.cells #[.int .i64 nx, .int .i64 now, .slice B2 m2 d2, .string (txt seg), .int .i64 pts] 27 (0, 0)) := by
              have hz : (W10.alloc (.cells #[.int .i64 nx, .int .i64 now, .slice B1 m2 d1, .string (txt seg), .int .i64 pts] 27)).heap.size = W10.heap.size + 1 := by simp
              rw [← hz]
              exact blk_new _ _
            have g11 : Gr W10 ((W10.alloc (.cells #[.int .i64 nx, .int .i64 now, .slice B1 m2 d1, .string (txt seg), .int .i64 pts] 27)).alloc (.cells #[.int .i64 nx, .int .i64 now, .slice B2 m2 d2, .string (txt seg), .int .i64 pts] 27)) := gr_trans (gr_alloc _ _ _) (gr_alloc _ _ _)
            replace cSm := Lib.hid cSm
            replace hG10 := Lib.hid hG10
            replace hSA := Lib.hid hSA
            replace hSB := Lib.hid hSB
            replace g11 := Lib.hid g11
            clear cS1 cS2 hB1 hB2 g9 g10
            go_upto_region 12 with fail
            generalize (W10.alloc (.cells #[.int .i64 nx, .int .i64 now, .slice B1 m2 d1, .string (txt seg), .int .i64 pts] 27)).alloc (.cells #[.int .i64 nx, .int .i64 now, .slice B2 m2 d2, .string (txt seg), .int .i64 pts] 27) = W11 at *
            have a0 : W11.cell? ⟨W10.heap.size, 0, none⟩ = some (.int .i64 nx) := fcellD hSA.out rfl
            have a1 : W11.cell? ⟨W10.heap.size, 1, none⟩ = some (.int .i64 now) := fcellD hSA.out rfl
            have a2 : W11.cell? ⟨W10.heap.size, 2, none⟩ = some (.slice B1 m2 d1) := fcellD hSA.out rfl
            have b0 : W11.cell? ⟨W10.heap.size + 1, 0, none⟩ = some (.int .i64 nx) := fcellD hSB.out rfl
            have b1 : W11.cell? ⟨W10.heap.size + 1, 1, none⟩ = some (.int .i64 now) := fcellD hSB.out rfl
            have b2 : W11.cell? ⟨W10.heap.size + 1, 2, none⟩ = some (.slice B2 m2 d2) := fcellD hSB.out rfl
            go_wp2_with fail
            refine (cSm.out _ g11.out).mono ?_
            rintro e W12 ⟨rfl, g12⟩
            have p0 := gr_cell g12 a0
            have p1 := gr_cell g12 a1
            have q0 := gr_cell g12 b0
            have q1 := gr_cell g12 b1
            have hfin := gr_trans hG10.out (gr_trans g11.out g12)
            replace hfin := Lib.hid hfin
            clear a0 a1 a2 b0 b1 b2 g12
            go_wp2
            go_ret
            exact ⟨rfl, gr_below hfin.out⟩
          · clear hX7 hY7 hX8 hY8 g8 ht1 ht2 hk1 hk2 hab
            replace hq1 := Lib.hid hq1
            replace hq2 := Lib.hid hq2
            replace hq3 := Lib.hid hq3
            go_wp2
            go_ret
            exact ⟨rfl, gr_below hgr8.out⟩
        · clear hX7 hY7 hX8 hY8 g8 ht1 ht2 ht3 hk1 hab
          replace hq1 := Lib.hid hq1
          replace hq2 := Lib.hid hq2
          go_wp2
          go_ret
          exact ⟨rfl, gr_below hgr8.out⟩
      · clear hX7 hY7 hX8 hY8 g8 ht1 ht2 ht3 hab
        replace hq1 := Lib.hid hq1
        go_wp2
        go_ret
        exact ⟨rfl, gr_below hgr8.out⟩
  · by_cases d0 : a1 < 1
    · clear c
      replace hv := Lib.hid hv
      go_enter Tryd.func4, Tryd.ntmps4
      go_wp2_with fail
      refine cT0.mono ?_
      rintro e W ⟨⟨bb0, rfl, _⟩, rfl⟩
      clear hr0 cT0
      cases bb0 with
      | false =>
        go_wp2_with fail
        refine (alive_any _ hv.out).mono ?_
        rintro e W1 ⟨rfl, g1⟩
        go_wp2
        go_ret
        exact ⟨rfl, gr_below g1⟩
      | true =>
        go_wp2_with fail
        refine (alive_any _ hv.out).mono ?_
        rintro e W1 ⟨rfl, g1⟩
        go_wp2
        go_ret
        exact ⟨rfl, gr_below g1⟩
    by_cases d1 : a2 < 1
    · clear c
      replace hv := Lib.hid hv
      go_enter Tryd.func4, Tryd.ntmps4
      go_wp2_with fail
      refine cT0.mono ?_
      rintro e W ⟨⟨bb0, rfl, _⟩, rfl⟩
      clear hr0 cT0
      cases bb0 with
      | false =>
        go_wp2_with fail
        refine (alive_any _ hv.out).mono ?_
        rintro e W1 ⟨rfl, g1⟩
        go_wp2
        go_ret
        exact ⟨rfl, gr_below g1⟩
      | true =>
        go_wp2_with fail
        refine (alive_any _ hv.out).mono ?_
        rintro e W1 ⟨rfl, g1⟩
        go_wp2
        go_ret
        exact ⟨rfl, gr_below g1⟩
    by_cases d2 : 1000 < a1
    · clear c
      replace hv := Lib.hid hv
      go_enter Tryd.func4, Tryd.ntmps4
      go_wp2_with fail
      refine cT0.mono ?_
      rintro e W ⟨⟨bb0, rfl, _⟩, rfl⟩
      clear hr0 cT0
      cases bb0 with
      | false =>
        go_wp2_with fail
        refine (alive_any _ hv.out).mono ?_
        rintro e W1 ⟨rfl, g1⟩
        go_wp2
        go_ret
        exact ⟨rfl, gr_below g1⟩
      | true =>
        go_wp2_with fail
        refine (alive_any _ hv.out).mono ?_
        rintro e W1 ⟨rfl, g1⟩
        go_wp2
        go_ret
        exact ⟨rfl, gr_below g1⟩
    by_cases d3 : 1000 < a2
    · clear c
      replace hv := Lib.hid hv
      go_enter Tryd.func4, Tryd.ntmps4
      go_wp2_with fail
      refine cT0.mono ?_
      rintro e W ⟨⟨bb0, rfl, _⟩, rfl⟩
      clear hr0 cT0
      cases bb0 with
      | false =>
        go_wp2_with fail
        refine (alive_any _ hv.out).mono ?_
        rintro e W1 ⟨rfl, g1⟩
        go_wp2
        go_ret
        exact ⟨rfl, gr_below g1⟩
      | true =>
        go_wp2_with fail
        refine (alive_any _ hv.out).mono ?_
        rintro e W1 ⟨rfl, g1⟩
        go_wp2
        go_ret
        exact ⟨rfl, gr_below g1⟩
    exact absurd (by omega) c



set_option maxRecDepth 100000 in
theorem door_met (os : Os) (args : Array Value) : laidMetH Tryd.prog Rows.deskTicksRow.laid ((World.doorLaid Tryd.prog 62 os).forCall (fun _ _ => 0) ⟨#[], args, []⟩).memory :=
  laidMetH_of_parts3 (fuel := 8) (laidMet_of_run' 8 (by kernel_rfl) (by kernel_rfl)) (by kernel_rfl) (by kernel_rfl)

set_option maxRecDepth 100000 in
theorem lifted (os : Os) (started : os.Started) (H : Type) (enc : TypeId × Value → H) :
    ReturnsInHanded {} Tryd.checked os 4 .any (fun w args => (Rows.deskTicksSpec.pre enc Tryd.prog Tryd.f4 [] false w args ∧ laidMetH Tryd.prog Rows.deskTicksRow.laid w) ∧ sizedMet enc Tryd.prog Tryd.f4 (OpenSpec.ofChange Rows.deskTicksSpec) false w args) (Rows.deskTicksSpec.post enc Tryd.prog Tryd.f4 false true false false) := by
  refine returnsInHanded_of_change_and (C := Tryd.checked) (X := fun w _ => laidMetH Tryd.prog Rows.deskTicksRow.laid w) (fun _ _ _ hh h => h.of_heap hh) own started (by kernel_rfl) Tryd.func4
    (ChangeSpec.witness_shaped (enc := enc) (C := Tryd.checked) (os := os) (X := fun w _ => laidMetH Tryd.prog Rows.deskTicksRow.laid w) false (World.doorLaid Tryd.prog 62 os) #[.slice none 0 0, .int .i64 0, .int .i64 0] 8 rfl (World.shaped_of_RefB (by kernel_rfl) (by kernel_rfl)) (by kernel_rfl) (by kernel_rfl) (by kernel_rfl) (door_met os _)) ?_
  intro W base args ds gs before hval0 hW _ _ hL _
  have hval : ∀ (j : Nat) t v, Tryd.f4.params[j]? = some t → args[j]? = some v → Value.okWide Tryd.prog W .any base t v := hval0
  have hW' := hW
  obtain ⟨p, q, hA0, hV, rfl, hfz, hnd⟩ := hW
  have hA : DataW.TrodAll enc Tryd.prog W 0 (fun _ => true) true Tryd.f4.params.toList args.toList ds p := hA0
  rw [Tryd.params4] at hA hval
  obtain ⟨v0, vs0, d0, ds0, p0, q0, hargs, rfl, rfl, h0, r0⟩ := trodAll_cons hA
  obtain ⟨v1, vs1, d1, ds1, p1, q1, rfl, rfl, rfl, h1, r1⟩ := trodAll_cons r0
  obtain ⟨v2, vs2, d2, ds2, p2, q2, rfl, rfl, rfl, h2, r2⟩ := trodAll_cons r1
  obtain ⟨rfl, rfl, rfl⟩ := trodAll_nil r2
  obtain rfl : args = #[v0, v1, v2] := by cases args; simp_all
  obtain ⟨rfl, rfl⟩ := trodVars_none hV
  obtain ⟨a0, len0, cap0, rfl⟩ := okWide_slice Tryd.underlying38 (hval 0 38 v0 rfl rfl)
  have k0 := h0
  have lt0 : ∀ x ∈ p0, x.block < W.heap.size := by obtain ⟨m, hm⟩ := k0; exact DataW.trod_lt m _ _ _ hm
  obtain ⟨z0, w0⟩ := Dy.ntes_open h0
  obtain ⟨a1, rfl, rfl, rfl, w1⟩ := open_int Tryd.underlying3 (hval 1 3 v1 rfl rfl) h1
  obtain ⟨a2, rfl, rfl, rfl, w2⟩ := open_int Tryd.underlying3 (hval 2 3 v2 rfl rfl) h2
  clear hA0 hval0
  refine (walk W hL a0 len0 cap0 z0 w0 a1 w1 a2 w2).mono fun e W' ⟨he, bel⟩ => ?_
  subst he
  exact ⟨_, rfl, _, _, _, [], _, [], hW', trodAll_mk1 (shut_bool Tryd.underlying4 _), (trodAll_cons_mk (Below.trod laidOut (by kernel_rfl) (of_decide_eq_true (by kernel_rfl)) k0 bel lt0) (trodAll_cons_mk (shut_int Tryd.underlying3 w1) (trodAll_cons_mk (shut_int Tryd.underlying3 w2) trodAll_mk0))), rfl, bel.frame _, fun h => by cases h⟩

theorem over : Rows.deskTicksRow.holds Tryd.pinned (OpenSpec.ofChange Rows.deskTicksSpec) :=
  OpenClaim.holds_of_wide 4 Tryd.f4 rfl rfl rfl rfl rfl rfl rfl ⟨rfl, rfl, rfl, rfl, rfl⟩ rfl rfl rfl rfl rfl (by kernel_rfl) Tryd.func4 (by kernel_rfl)
    (of_decide_eq_true (by kernel_rfl)) (by unfold Func.isWrapper; first | (rw [if_pos (by decide +kernel)]; kernel_rfl) | (rw [if_neg (by decide +kernel)]; exact ⟨rfl, rfl⟩))
    (fun os started H enc _ => lifted os started H enc)

/-- THE STATEMENT -/
theorem proved : Rows.DeskTicksCardSaid :=
  Claim7.holds_tied_plain_at .later [] [.data, .data, .data, .sentinel, .sentinel] true (true, "66b0c359d6fb581784c11cb2420c86fad2346afcea5ac5b99d7e23e4d7398def") true
    over (fun _ h => by cases h) (by kernel_rfl) (fun _ h => by cases h) deskTicks_row_tie rfl ⟨rfl, rfl⟩ (by kernel_rfl) rfl
    (fun f fn hf hfn => by
      obtain rfl : f = 4 := Option.some.inj ((show Tryd.prog.funcNamed "leporello/leporellolaw22.DeskTicks" = some 4 by kernel_rfl).symm.trans hf) |>.symm
      obtain rfl : fn = Tryd.f4 := (Option.some.inj (Tryd.func4.symm.trans hfn)).symm
      exact ⟨by kernel_rfl, fun j t ht => by
        rw [Tryd.params4] at ht
        have hm : t ∈ [38, 3, 3] := by simpa using Array.mem_of_getElem? ht
        have hall : ([38, 3, 3].all fun u => !Tryd.prog.wantsStandIn u) = true := by kernel_rfl
        exact (show Tryd.prog.wantsStandIn t = false by simpa using List.all_eq_true.1 hall t hm)⟩)
    (by kernel_rfl)
#print axioms proved
end Go.Proofs.YtilbeoblppigeaaDoor.deskTicks

