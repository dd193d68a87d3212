/-
  The document's State: Find of any text. No condition but bounds.
-/
import Derived.Test.YtmldoeeangekoaaGreatDoorRdA
import Derived.Test.YtmldoeeangekoaaGreatDoorSlipRef
import Derived.Test.YtmldoeeangekoaaGreatDoorQuietGr
namespace Go.Proofs.YtmldoeeangekoaaGreatDoor
open Go.RowKit

theorem cur_res {W : World} {RB : Nat} {y0 y1 y2 y3 y4 : Value} {tR : TypeId} (hR : W.heap[RB]? = some (.cells #[y0, y1, y2, y3, y4] tR (0, 0))) (a0 a1 a2 a3 a4 : Value) :
    W.there RB 0 5 ∧ (∀ (j : Nat) (v : Value), (#[a0, a1, a2, a3, a4] : Array Value)[j]? = some v → (W.setCells RB 0 [a0, a1, a2, a3, a4]).cell? ⟨RB, j, none⟩ = some v) ∧ (∀ w : World, Gr w W → w.heap.size ≤ RB → Gr w (W.setCells RB 0 [a0, a1, a2, a3, a4])) := by
  have h1 : (W.setCells RB 0 [a0, a1, a2, a3, a4]).heap[RB]? = some (.cells #[a0, a1, a2, a3, a4] tR (0, 0)) := blk_set (blk_set (blk_set (blk_set (blk_set hR 0 a0) 1 a1) 2 a2) 3 a3) 4 a4
  exact ⟨rs_there hR, fun j v hj => fcellD h1 hj, fun w g hr => gr_of_below ((gr_below g).grown (gr_setCells W RB 0 [a0, a1, a2, a3, a4]) g.size (fun k hk => by cases hk; exact hr)) (Nat.le_refl _)⟩
/-- What the document's Find answers. -/
def RFindIs (nx : Int) (op : List Cur) (l : List UInt8) (x : Cur) (fr e : Int) : Prop :=
  ((∀ m n : Nat, SlipOk m n → l ≠ slipL m n) ∧ x = cu0 ∧ fr = 0 ∧ e = 11) ∨
  ∃ m n : Nat, SlipOk m n ∧ l = slipL m n ∧
    ((nx ≤ m ∧ x = cu0 ∧ fr = 0 ∧ e = 11) ∨ ((m : Int) < nx ∧ findI m op 0 = -1 ∧ x = cu0 ∧ fr = 0 ∧ e = 12) ∨
      ((m : Int) < nx ∧ ∃ (j : Nat) (y : Cur), findI m op 0 = (j : Int) ∧ op[j]? = some y ∧ y.id = m ∧
        ((¬ beginM y.rows y.size n ∧ x = cu0 ∧ fr = 0 ∧ e = 11) ∨ (beginM y.rows y.size n ∧ x = y ∧ fr = n ∧ e = 0))))
def RFindPost (nx : Int) (op : List Cur) (l : List UInt8) (w : World) (e : Ending) (w' : World) : Prop := ∃ x fr k, e = .returned (.tuple #[curV x, .int .i64 fr, .int .i64 k]) ∧ RFindIs nx op l x fr k ∧ Gr w w'
set_option maxHeartbeats 16000000 in
set_option maxRecDepth 100000 in
theorem rfind2_any (nx now pts : Int) (A : Option Addr) (n c : Nat) (seg : List UInt8) (op : List Cur) (l : List UInt8) (w : World) (hn : n ≤ 100000) (hz : Row w A n 5 (sR curC op)) (hl9 : l.length ≤ 1000) :
    Calls Tryz.prog 23 #[.agg #[.int .i64 nx, .int .i64 now, .slice A n c, .string (txt seg), .int .i64 pts], .string (txt l)] w (RFindPost nx op l w) := by
  have hl : op.length = n := by have := hz.1; rw [sR_len curC 5 curC_len] at this; omega
  obtain ⟨Wa, hWa⟩ : ∃ Wa, Wa = w.alloc (.cells #[.int .i64 nx, .int .i64 now, .slice A n c, .string (txt seg), .int .i64 pts] 32) := ⟨_, rfl⟩
  obtain ⟨W0, hW0⟩ : ∃ W0, W0 = Wa.alloc (.cells #[.int .i64 0, .int .i64 0, .int .i64 0, .int .i64 0, .string ⟨#[]⟩] 52) := ⟨_, rfl⟩
  have sa : Wa.heap.size = w.heap.size + 1 := by rw [hWa]; simp
  have ga : Gr w Wa := by rw [hWa]; exact gr_alloc _ _ _
  have gb : Gr Wa W0 := by rw [hW0]; exact gr_alloc _ _ _
  have g0 := gr_trans ga gb
  obtain ⟨SB, hSB⟩ : ∃ SB, SB = w.heap.size := ⟨_, rfl⟩
  obtain ⟨RB, hRB⟩ : ∃ RB, RB = w.heap.size + 1 := ⟨_, rfl⟩
  have hS : W0.heap[SB]? = some (.cells #[.int .i64 nx, .int .i64 now, .slice A n c, .string (txt seg), .int .i64 pts] 32 (0, 0)) := gr_blk gb (by rw [hWa, hSB]; exact blk_new _ _) (by simp)
  have hR : W0.heap[RB]? = some (.cells #[.int .i64 0, .int .i64 0, .int .i64 0, .int .i64 0, .string ⟨#[]⟩] 52 (0, 0)) := by rw [hRB, ← sa, hW0]; exact blk_new _ _
  have hwR : w.heap.size ≤ RB := by omega
  have hW : (w.alloc (.cells #[.int .i64 nx, .int .i64 now, .slice A n c, .string (txt seg), .int .i64 pts] 32)).alloc (.cells #[.int .i64 0, .int .i64 0, .int .i64 0, .int .i64 0, .string ⟨#[]⟩] 52) = W0 := by rw [hW0, hWa]
  have hz0 := row_gr hz g0
  have cU := fun W => refUnslip_any l W hl9
  unfold UnPost at cU
  replace cU := Lib.hid cU
  replace hl := Lib.hid hl
  replace hz0 := Lib.hid hz0
  replace g0 := Lib.hid g0
  replace hS := Lib.hid hS
  replace hR := Lib.hid hR
  replace hW := Lib.hid hW
  replace hwR := Lib.hid hwR
  replace hSB := Lib.hid hSB
  replace hRB := Lib.hid hRB
  clear hWa hW0 sa ga gb hz hl9
  go_enter Tryz.func23, Tryz.ntmps23
  go_upto_region 1 with fail
  rw [hW.out, ← hRB.out, ← hSB.out]
  go_wp2_with fail
  refine (cU.out _).mono ?_
  rintro e W1 ⟨ua, ub, us, rfl, hu, g1⟩
  have hS1 := gr_blk g1 hS.out (by simp)
  have hRx := gr_blk g1 hR.out (by simp)
  have G1 := gr_trans g0.out g1
  have hz1 := row_gr hz0.out g1
  have p0 : W1.cell? ⟨SB, 0, none⟩ = some (.int .i64 nx) := fcellD hS1 rfl
  have p1 : W1.cell? ⟨SB, 1, none⟩ = some (.int .i64 now) := fcellD hS1 rfl
  have p2 : W1.cell? ⟨SB, 2, none⟩ = some (.slice A n c) := fcellD hS1 rfl
  have p3 : W1.cell? ⟨SB, 3, none⟩ = some (.string (txt seg)) := fcellD hS1 rfl
  have p4 : W1.cell? ⟨SB, 4, none⟩ = some (.int .i64 pts) := fcellD hS1 rfl
  replace hS1 := Lib.hid hS1
  replace G1 := Lib.hid G1
  replace hz1 := Lib.hid hz1
  clear cU g1
  rcases hu with ⟨m, fr, hok, hsl, rfl, rfl, rfl⟩ | ⟨hno, rfl, rfl, rfl⟩
  · have hokh := Lib.hid hok
    have hslh := Lib.hid hsl
    have hm6 : (m : Int) ≤ 1000000 := by have := hok; unfold SlipOk at this; omega
    have hfr6 : (fr : Int) ≤ 9223372036854775807 := by have := hok; unfold SlipOk at this; omega
    clear hok hsl
    by_cases hlt : (m : Int) < nx
    · have cF := rfind_any nx now pts m A n c seg op W1 (by omega) hz1.out
      replace cF := Lib.hid cF
      go_wp2_with fail
      refine cF.out.mono ?_
      rintro e W2 ⟨rfl, g2⟩
      have hS2 := gr_blk g2 hS1.out (by simp)
      replace hRx := gr_blk g2 hRx (by simp)
      have G2 := gr_trans G1.out g2
      have hz2 := row_gr hz1.out g2
      clear p0 p1 p2 p3 p4 cF
      have p2 : W2.cell? ⟨SB, 2, none⟩ = some (.slice A n c) := fcellD hS2 rfl
      replace hS2 := Lib.hid hS2
      replace G2 := Lib.hid G2
      replace hz2 := Lib.hid hz2
      clear g2
      rcases findI_yes (id := (m : Int)) op 0 with hf | ⟨k, x, hf, hk, hxi⟩
      · rw [hf]
        have hf0 := Lib.hid hf
        clear hf
        go_upto_region 6 with fail
        obtain ⟨t1, t2, t3⟩ := cur_res hRx (.int .i64 0) (.int .i64 0) (.int .i64 0) (.int .i64 0) (.string ⟨#[]⟩)
        have hGF := t3 w G2.out hwR.out
        generalize hW9 : W2.setCells RB 0 [.int .i64 0, .int .i64 0, .int .i64 0, .int .i64 0, .string ⟨#[]⟩] = W9 at *
        have hrx := Lib.hid (And.intro (t2 0 _ rfl) (And.intro (t2 1 _ rfl) (And.intro (t2 2 _ rfl) (And.intro (t2 3 _ rfl) (t2 4 _ rfl)))))
        replace hW9 := Lib.hid hW9
        replace hGF := Lib.hid hGF
        replace t1 := Lib.hid t1
        clear t2 t3 hRx
        go_wp2_with (refine wpList_store_mid (w := W2) (op := ⟨none, _, _, _, _, _⟩) rfl 52 _ _ rfl RB 0 #[.int .i64 0, .int .i64 0, .int .i64 0, .int .i64 0, .string ⟨#[]⟩] rfl rfl t1.out infoCu (by simp [Value.oneCell']) ?_; rw [hW9.out])
        (try simp only [Exit.inBlock, Exit.then])
        obtain ⟨r0, r1, r2, r3, r4⟩ := hrx.out
        refine bodyPost_ret (by simp [results, Tryz.results23, go_sem, r0, r1, r2, r3, r4]; try rfl) rfl ?_
        exact ⟨cu0, 0, 12, rfl, .inr ⟨m, fr, hokh.out, hslh.out, .inr (.inl ⟨hlt, hf0.out, rfl, rfl, rfl⟩)⟩, hGF.out⟩
      · rw [Nat.zero_add] at hf
        rw [hf]
        have hf0 := Lib.hid hf
        clear hf
        have hkn : k < n := by have := (List.getElem?_eq_some_iff.1 hk).1; have := hl.out; omega
        obtain ⟨x2, B, o, hx2, rfl, _, hc⟩ := rowS_elem curC_len hz2.out (by decide) hkn
        obtain rfl : x2 = x := by rw [hk] at hx2; exact (Option.some.inj hx2).symm
        have hki : (k : Int) < (n : Int) := by omega
        have hk0 : (0 : Int) ≤ (k : Int) := by omega
        have hkf : ((k : Int) < 0) = False := eq_false (by omega)
        have a1 : ∀ p : Grown W2, p.wd.cell? ⟨B, o + k * 5 + 1, none⟩ = some (.int .i64 x2.rows) := fun p => cell_to (hc 1 (by decide)) p
        have a2 : ∀ p : Grown W2, p.wd.cell? ⟨B, o + k * 5 + 2, none⟩ = some (.int .i64 x2.size) := fun p => cell_to (hc 2 (by decide)) p
        have q2 : ∀ p : Grown W2, p.wd.cell? ⟨SB, 2, none⟩ = some (.slice (some ⟨B, o, none⟩) n c) := fun p => cell_to p2 p
        have cB := fun W => rbegins_any x2.rows x2.size fr W hfr6
        obtain ⟨bb, hbb⟩ : ∃ bb, bb = decide (beginM x2.rows x2.size fr) := ⟨_, rfl⟩
        rw [← hbb] at cB
        have cBg : ∀ W, Calls Tryz.prog 46 #[.int .i64 x2.rows, .int .i64 x2.size, .int .i64 fr] W fun e w' => e = .returned (.bool bb) ∧ Gr W w' := fun W => (cB W).mono fun e w' h => ⟨h.1, by rw [h.2]; exact gr_refl _ _⟩
        have hcells : ∀ W, Gr W2 W → (W.cell? ⟨B, o + k * 5, none⟩ = some (.int .i64 x2.id) ∧ W.cell? ⟨B, o + k * 5 + 1, none⟩ = some (.int .i64 x2.rows) ∧ W.cell? ⟨B, o + k * 5 + 2, none⟩ = some (.int .i64 x2.size) ∧ W.cell? ⟨B, o + k * 5 + 3, none⟩ = some (.int .i64 x2.tl) ∧ W.cell? ⟨B, o + k * 5 + 4, none⟩ = some (.string (txt x2.file)) ∧ W.cell? ⟨SB, 2, none⟩ = some (.slice (some ⟨B, o, none⟩) n c)) := fun W g => ⟨gr_cell g (hc 0 (by decide)), gr_cell g (hc 1 (by decide)), gr_cell g (hc 2 (by decide)), gr_cell g (hc 3 (by decide)), gr_cell g (hc 4 (by decide)), gr_cell g p2⟩
        replace cBg := Lib.hid cBg
        replace hcells := Lib.hid hcells
        replace hbb := Lib.hid hbb
        replace hk := Lib.hid hk
        replace hxi := Lib.hid hxi
        clear cB hc hx2 p2
        go_upto_region 7 with fail
        refine wp_region_quiet_gr (by kernel_rfl) (by kernel_rfl) ?_
        repeat (go_big_quiet_step ((go_at_call 46; exact calls_gr (cBg.out _))))
        refine wpQuiet_nil ?_
        intro W3 hw3
        obtain ⟨p3, hp3⟩ := hw3
        have g3 : Gr W2 W3 := by rw [hp3]; exact p3.gr
        clear hp3 p3 a1 a2 q2
        replace hRx := gr_blk g3 hRx (by simp)
        have G3 := gr_trans G2.out g3
        obtain ⟨b0, b1, b2, b3, b4, b5⟩ := hcells.out W3 g3
        replace G3 := Lib.hid G3
        clear hcells g3
        cases bb with
        | false =>
          have hbn : ¬ beginM x2.rows x2.size fr := of_decide_eq_false hbb.out.symm
          replace hbn := Lib.hid hbn
          clear b0 b1 b2 b3 b4 b5
          obtain ⟨t1, t2, t3⟩ := cur_res hRx (.int .i64 0) (.int .i64 0) (.int .i64 0) (.int .i64 0) (.string ⟨#[]⟩)
          have hGF := t3 w G3.out hwR.out
          generalize hW9 : W3.setCells RB 0 [.int .i64 0, .int .i64 0, .int .i64 0, .int .i64 0, .string ⟨#[]⟩] = W9 at *
          have hrx := Lib.hid (And.intro (t2 0 _ rfl) (And.intro (t2 1 _ rfl) (And.intro (t2 2 _ rfl) (And.intro (t2 3 _ rfl) (t2 4 _ rfl)))))
          replace hW9 := Lib.hid hW9
          replace hGF := Lib.hid hGF
          replace t1 := Lib.hid t1
          clear t2 t3 hRx
          go_wp2_with (refine wpList_store_mid (w := W3) (op := ⟨none, _, _, _, _, _⟩) rfl 52 _ _ rfl RB 0 #[.int .i64 0, .int .i64 0, .int .i64 0, .int .i64 0, .string ⟨#[]⟩] rfl rfl t1.out infoCu (by simp [Value.oneCell']) ?_; rw [hW9.out])
          (try simp only [Exit.inBlock, Exit.then])
          obtain ⟨r0, r1, r2, r3, r4⟩ := hrx.out
          refine bodyPost_ret (by simp [results, Tryz.results23, go_sem, r0, r1, r2, r3, r4]; try rfl) rfl ?_
          exact ⟨cu0, 0, 11, rfl, .inr ⟨m, fr, hokh.out, hslh.out, .inr (.inr ⟨hlt, k, x2, hf0.out, hk.out, hxi.out, .inl ⟨hbn.out, rfl, rfl, rfl⟩⟩)⟩, hGF.out⟩
        | true =>
          have hbn : beginM x2.rows x2.size fr := of_decide_eq_true hbb.out.symm
          replace hbn := Lib.hid hbn
          obtain ⟨t1, t2, t3⟩ := cur_res hRx (.int .i64 x2.id) (.int .i64 x2.rows) (.int .i64 x2.size) (.int .i64 x2.tl) (.string (txt x2.file))
          have hGF := t3 w G3.out hwR.out
          generalize hW9 : W3.setCells RB 0 [.int .i64 x2.id, .int .i64 x2.rows, .int .i64 x2.size, .int .i64 x2.tl, .string (txt x2.file)] = W9 at *
          have hrx := Lib.hid (And.intro (t2 0 _ rfl) (And.intro (t2 1 _ rfl) (And.intro (t2 2 _ rfl) (And.intro (t2 3 _ rfl) (t2 4 _ rfl)))))
          replace hW9 := Lib.hid hW9
          replace hGF := Lib.hid hGF
          replace t1 := Lib.hid t1
          clear t2 t3 hRx
          go_wp2_with (refine wpList_store_mid (w := W3) (op := ⟨none, _, _, _, _, _⟩) rfl 52 _ _ rfl RB 0 #[.int .i64 x2.id, .int .i64 x2.rows, .int .i64 x2.size, .int .i64 x2.tl, .string (txt x2.file)] rfl rfl t1.out infoCu (by simp [Value.oneCell']) ?_; rw [hW9.out])
          (try simp only [Exit.inBlock, Exit.then])
          obtain ⟨r0, r1, r2, r3, r4⟩ := hrx.out
          refine bodyPost_ret (by simp [results, Tryz.results23, go_sem, r0, r1, r2, r3, r4]; try rfl) rfl ?_
          exact ⟨x2, fr, 0, rfl, .inr ⟨m, fr, hokh.out, hslh.out, .inr (.inr ⟨hlt, k, x2, hf0.out, hk.out, hxi.out, .inr ⟨hbn.out, rfl, rfl, rfl⟩⟩)⟩, hGF.out⟩
    · have hge : nx ≤ (m : Int) := by omega
      obtain ⟨t1, t2, t3⟩ := cur_res hRx (.int .i64 0) (.int .i64 0) (.int .i64 0) (.int .i64 0) (.string ⟨#[]⟩)
      have hGF := t3 w G1.out hwR.out
      generalize hW9 : W1.setCells RB 0 [.int .i64 0, .int .i64 0, .int .i64 0, .int .i64 0, .string ⟨#[]⟩] = W9 at *
      have hrx := Lib.hid (And.intro (t2 0 _ rfl) (And.intro (t2 1 _ rfl) (And.intro (t2 2 _ rfl) (And.intro (t2 3 _ rfl) (t2 4 _ rfl)))))
      replace hW9 := Lib.hid hW9
      replace hGF := Lib.hid hGF
      replace t1 := Lib.hid t1
      clear t2 t3 hRx
      go_wp2_with (refine wpList_store_mid (w := W1) (op := ⟨none, _, _, _, _, _⟩) rfl 52 _ _ rfl RB 0 #[.int .i64 0, .int .i64 0, .int .i64 0, .int .i64 0, .string ⟨#[]⟩] rfl rfl t1.out infoCu (by simp [Value.oneCell']) ?_; rw [hW9.out])
      (try simp only [Exit.inBlock, Exit.then])
      obtain ⟨r0, r1, r2, r3, r4⟩ := hrx.out
      refine bodyPost_ret (by simp [results, Tryz.results23, go_sem, r0, r1, r2, r3, r4]; try rfl) rfl ?_
      exact ⟨cu0, 0, 11, rfl, .inr ⟨m, fr, hokh.out, hslh.out, .inl ⟨hge, rfl, rfl, rfl⟩⟩, hGF.out⟩
  · replace hno := Lib.hid hno
    obtain ⟨t1, t2, t3⟩ := cur_res hRx (.int .i64 0) (.int .i64 0) (.int .i64 0) (.int .i64 0) (.string ⟨#[]⟩)
    have hGF := t3 w G1.out hwR.out
    generalize hW9 : W1.setCells RB 0 [.int .i64 0, .int .i64 0, .int .i64 0, .int .i64 0, .string ⟨#[]⟩] = W9 at *
    have hrx := Lib.hid (And.intro (t2 0 _ rfl) (And.intro (t2 1 _ rfl) (And.intro (t2 2 _ rfl) (And.intro (t2 3 _ rfl) (t2 4 _ rfl)))))
    replace hW9 := Lib.hid hW9
    replace hGF := Lib.hid hGF
    replace t1 := Lib.hid t1
    clear t2 t3 hRx
    go_wp2_with (refine wpList_store_mid (w := W1) (op := ⟨none, _, _, _, _, _⟩) rfl 52 _ _ rfl RB 0 #[.int .i64 0, .int .i64 0, .int .i64 0, .int .i64 0, .string ⟨#[]⟩] rfl rfl t1.out infoCu (by simp [Value.oneCell']) ?_; rw [hW9.out])
    (try simp only [Exit.inBlock, Exit.then])
    obtain ⟨r0, r1, r2, r3, r4⟩ := hrx.out
    refine bodyPost_ret (by simp [results, Tryz.results23, go_sem, r0, r1, r2, r3, r4]; try rfl) rfl ?_
    exact ⟨cu0, 0, 11, rfl, .inl ⟨hno.out, rfl, rfl, rfl⟩, hGF.out⟩
end Go.Proofs.YtmldoeeangekoaaGreatDoor
