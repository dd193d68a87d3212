/-
  leporellolaw23.Right of a request of the first kind. No condition but bounds on the lengths. leporellolaw23.Right: may a request be, as the document has it. No condition but bounds on the lengths. leporellolaw23.same of two requests that are the same. No condition but a bound on the length.
-/
import Derived.Test.YtbnacoakjhhndaaAskRight
import Derived.Test.YtbnacoakjhhndaaRefRight
import Derived.Test.YtbnacoakjhhndaaAskPlain
import Derived.Test.YtbnacoakjhhndaaRowSame
namespace Go.Proofs.Ytbnacoakjhhndaa
open Go.RowKit

def LawRight (A : Option Addr) (n c : Nat) (q : Aq) (w : World) : Prop := Calls Try.prog 10 #[aqV A n c q] w fun e w' => e = .returned (.bool (decide (okA q))) ∧ Gr w w'
set_option maxHeartbeats 8000000 in
set_option maxRecDepth 100000 in
theorem lright1 (A : Option Addr) (n c : Nat) (zs : List Lb) (t : List UInt8) (a b d : Int) (w : World) (hn9 : n ≤ 1000000000) (hr : Row w A n 2 (sR lblC zs)) (hsh : ∀ x ∈ zs, x.n.length ≤ 1000000 ∧ x.v.length ≤ 1000000) : LawRight A n c ⟨1, zs, t, a, b, d⟩ w := by
  unfold LawRight aqV
  obtain ⟨W1, hW1⟩ : ∃ W1, W1 = w.alloc (.cells #[.int .i64 1, .slice A n c, .string (txt t), .int .i64 a, .int .i64 b, .int .i64 d] 24) := ⟨_, rfl⟩
  have g1 : Gr w W1 := by rw [hW1]; exact gr_alloc _ _ _
  have hbx : AqB W1 w.heap.size 1 A n c t a b d := by rw [hW1]; exact blk_new w _
  have hR := refRight_any A n c zs W1 hn9 (row_gr hr g1) hsh
  have hV := fun W => refValue_any b W
  have hok := okA_1 zs t a b d
  have hor : okR ⟨zs, b⟩ ↔ (okLbs zs ∧ okV b) := Iff.rfl
  rw [hor] at hok
  obtain ⟨b0, b1, b2, b3, b4, b5⟩ := aqb_cells hbx
  replace hok := Lib.hid hok
  replace g1 := Lib.hid g1
  replace hR := Lib.hid hR
  replace hV := Lib.hid hV
  replace hbx := Lib.hid hbx
  clear hor hr hsh
  go_enter Try.func10, Try.ntmps10
  go_upto_region 1 with fail
  rw [← hW1]
  clear hW1
  by_cases h0 : n = 0
  · have hn0 : ((n : Int) == 0) = true := eqT (by omega)
    clear h0
    by_cases ht0 : t = []
    · have hte0 : t.isEmpty = true := by rw [ht0]; rfl
      have htl : t.length = 0 := by rw [ht0]; rfl
      clear ht0
      by_cases cL : okLbs zs
      · have hR2 := hR.out
        rw [decide_eq_true cL] at hR2
        replace hR2 := Lib.hid hR2
        clear hR
        replace cL := Lib.hid cL
        go_wp2_with fail
        refine hR2.out.mono ?_
        rintro e w2 ⟨rfl, g2⟩
        have G2 := gr_trans g1.out g2
        have hb2 : AqB w2 w.heap.size 1 A n c t a b d := gr_blk g2 hbx.out (by simp)
        clear b0 b1 b2 b3 b4 b5
        obtain ⟨b0, b1, b2, b3, b4, b5⟩ := aqb_cells hb2
        replace G2 := Lib.hid G2
        clear hb2 hbx hR2
        by_cases ha0 : 0 ≤ a
        · by_cases ha1 : a ≤ 1000000000
          · go_wp2_with fail
            refine (hV.out _).mono ?_
            rintro e w3 ⟨rfl, rfl⟩
            by_cases cV : okV b
            · rw [decide_eq_true cV]
              by_cases hd0 : d = 0
              · have hdB : (d == 0) = true := eqT hd0
                have hd : Hid (decide (okA ⟨1, zs, t, a, b, d⟩) = true) := decide_eq_true (hok.out.2 ⟨⟨cL.out, cV⟩, htl, ⟨ha0, ha1⟩, hd0⟩)
                clear hok hd0 cV
                go_wp2
                go_ret
                exact ⟨by rw [hd.out]; rfl, G2.out⟩
              · have hdB : (d == 0) = false := eqF hd0
                have hd : Hid (decide (okA ⟨1, zs, t, a, b, d⟩) = false) := decide_eq_false (fun h => hd0 (hok.out.1 h).2.2.2)
                clear hok
                clear hd0 cV
                go_wp2
                go_ret
                exact ⟨by rw [hd.out]; rfl, G2.out⟩
            · rw [decide_eq_false cV]
              have hd : Hid (decide (okA ⟨1, zs, t, a, b, d⟩) = false) := decide_eq_false (fun h => cV (hok.out.1 h).1.2)
              clear hok
              clear cV
              go_wp2
              go_ret
              exact ⟨by rw [hd.out]; rfl, G2.out⟩
          · have ha2 : 1000000000 < a := by omega
            have hd : Hid (decide (okA ⟨1, zs, t, a, b, d⟩) = false) := decide_eq_false (fun h => ha1 (hok.out.1 h).2.2.1.2)
            clear hok
            go_wp2
            go_ret
            exact ⟨by rw [hd.out]; rfl, G2.out⟩
        · have ha2 : a < 0 := by omega
          have hd : Hid (decide (okA ⟨1, zs, t, a, b, d⟩) = false) := decide_eq_false (fun h => ha0 (hok.out.1 h).2.2.1.1)
          clear hok
          go_wp2
          go_ret
          exact ⟨by rw [hd.out]; rfl, G2.out⟩
      · have hR2 := hR.out
        rw [decide_eq_false cL] at hR2
        replace hR2 := Lib.hid hR2
        clear hR
        have hd : Hid (decide (okA ⟨1, zs, t, a, b, d⟩) = false) := decide_eq_false (fun h => cL (hok.out.1 h).1.1)
        clear hok
        replace cL := Lib.hid cL
        go_wp2_with fail
        refine hR2.out.mono ?_
        rintro e w2 ⟨rfl, g2⟩
        have G2 := gr_trans g1.out g2
        have hb2 : AqB w2 w.heap.size 1 A n c t a b d := gr_blk g2 hbx.out (by simp)
        clear b0 b1 b2 b3 b4 b5
        obtain ⟨b0, b1, b2, b3, b4, b5⟩ := aqb_cells hb2
        replace G2 := Lib.hid G2
        clear hb2 hbx hR2
        go_wp2
        go_ret
        exact ⟨by rw [hd.out]; rfl, G2.out⟩
    · have hte0 : t.isEmpty = false := by rw [List.isEmpty_eq_false_iff]; exact ht0
      have htl : 0 < t.length := List.length_pos_iff.2 ht0
      clear ht0
      by_cases cL : okLbs zs
      · have hR2 := hR.out
        rw [decide_eq_true cL] at hR2
        replace hR2 := Lib.hid hR2
        clear hR
        replace cL := Lib.hid cL
        go_wp2_with fail
        refine hR2.out.mono ?_
        rintro e w2 ⟨rfl, g2⟩
        have G2 := gr_trans g1.out g2
        have hb2 : AqB w2 w.heap.size 1 A n c t a b d := gr_blk g2 hbx.out (by simp)
        clear b0 b1 b2 b3 b4 b5
        obtain ⟨b0, b1, b2, b3, b4, b5⟩ := aqb_cells hb2
        replace G2 := Lib.hid G2
        clear hb2 hbx hR2
        have hd : Hid (decide (okA ⟨1, zs, t, a, b, d⟩) = false) := decide_eq_false (fun h => by have := (hok.out.1 h).2.1; omega)
        clear hok
        go_wp2
        go_ret
        exact ⟨by rw [hd.out]; rfl, G2.out⟩
      · have hR2 := hR.out
        rw [decide_eq_false cL] at hR2
        replace hR2 := Lib.hid hR2
        clear hR
        have hd : Hid (decide (okA ⟨1, zs, t, a, b, d⟩) = false) := decide_eq_false (fun h => cL (hok.out.1 h).1.1)
        clear hok
        replace cL := Lib.hid cL
        go_wp2_with fail
        refine hR2.out.mono ?_
        rintro e w2 ⟨rfl, g2⟩
        have G2 := gr_trans g1.out g2
        have hb2 : AqB w2 w.heap.size 1 A n c t a b d := gr_blk g2 hbx.out (by simp)
        clear b0 b1 b2 b3 b4 b5
        obtain ⟨b0, b1, b2, b3, b4, b5⟩ := aqb_cells hb2
        replace G2 := Lib.hid G2
        clear hb2 hbx hR2
        go_wp2
        go_ret
        exact ⟨by rw [hd.out]; rfl, G2.out⟩
  · have hn0 : ((n : Int) == 0) = false := eqF (by omega)
    clear h0
    by_cases ht0 : t = []
    · have hte0 : t.isEmpty = true := by rw [ht0]; rfl
      have htl : t.length = 0 := by rw [ht0]; rfl
      clear ht0
      by_cases cL : okLbs zs
      · have hR2 := hR.out
        rw [decide_eq_true cL] at hR2
        replace hR2 := Lib.hid hR2
        clear hR
        replace cL := Lib.hid cL
        go_wp2_with fail
        refine hR2.out.mono ?_
        rintro e w2 ⟨rfl, g2⟩
        have G2 := gr_trans g1.out g2
        have hb2 : AqB w2 w.heap.size 1 A n c t a b d := gr_blk g2 hbx.out (by simp)
        clear b0 b1 b2 b3 b4 b5
        obtain ⟨b0, b1, b2, b3, b4, b5⟩ := aqb_cells hb2
        replace G2 := Lib.hid G2
        clear hb2 hbx hR2
        by_cases ha0 : 0 ≤ a
        · by_cases ha1 : a ≤ 1000000000
          · go_wp2_with fail
            refine (hV.out _).mono ?_
            rintro e w3 ⟨rfl, rfl⟩
            by_cases cV : okV b
            · rw [decide_eq_true cV]
              by_cases hd0 : d = 0
              · have hdB : (d == 0) = true := eqT hd0
                have hd : Hid (decide (okA ⟨1, zs, t, a, b, d⟩) = true) := decide_eq_true (hok.out.2 ⟨⟨cL.out, cV⟩, htl, ⟨ha0, ha1⟩, hd0⟩)
                clear hok hd0 cV
                go_wp2
                go_ret
                exact ⟨by rw [hd.out]; rfl, G2.out⟩
              · have hdB : (d == 0) = false := eqF hd0
                have hd : Hid (decide (okA ⟨1, zs, t, a, b, d⟩) = false) := decide_eq_false (fun h => hd0 (hok.out.1 h).2.2.2)
                clear hok
                clear hd0 cV
                go_wp2
                go_ret
                exact ⟨by rw [hd.out]; rfl, G2.out⟩
            · rw [decide_eq_false cV]
              have hd : Hid (decide (okA ⟨1, zs, t, a, b, d⟩) = false) := decide_eq_false (fun h => cV (hok.out.1 h).1.2)
              clear hok
              clear cV
              go_wp2
              go_ret
              exact ⟨by rw [hd.out]; rfl, G2.out⟩
          · have ha2 : 1000000000 < a := by omega
            have hd : Hid (decide (okA ⟨1, zs, t, a, b, d⟩) = false) := decide_eq_false (fun h => ha1 (hok.out.1 h).2.2.1.2)
            clear hok
            go_wp2
            go_ret
            exact ⟨by rw [hd.out]; rfl, G2.out⟩
        · have ha2 : a < 0 := by omega
          have hd : Hid (decide (okA ⟨1, zs, t, a, b, d⟩) = false) := decide_eq_false (fun h => ha0 (hok.out.1 h).2.2.1.1)
          clear hok
          go_wp2
          go_ret
          exact ⟨by rw [hd.out]; rfl, G2.out⟩
      · have hR2 := hR.out
        rw [decide_eq_false cL] at hR2
        replace hR2 := Lib.hid hR2
        clear hR
        have hd : Hid (decide (okA ⟨1, zs, t, a, b, d⟩) = false) := decide_eq_false (fun h => cL (hok.out.1 h).1.1)
        clear hok
        replace cL := Lib.hid cL
        go_wp2_with fail
        refine hR2.out.mono ?_
        rintro e w2 ⟨rfl, g2⟩
        have G2 := gr_trans g1.out g2
        have hb2 : AqB w2 w.heap.size 1 A n c t a b d := gr_blk g2 hbx.out (by simp)
        clear b0 b1 b2 b3 b4 b5
        obtain ⟨b0, b1, b2, b3, b4, b5⟩ := aqb_cells hb2
        replace G2 := Lib.hid G2
        clear hb2 hbx hR2
        go_wp2
        go_ret
        exact ⟨by rw [hd.out]; rfl, G2.out⟩
    · have hte0 : t.isEmpty = false := by rw [List.isEmpty_eq_false_iff]; exact ht0
      have htl : 0 < t.length := List.length_pos_iff.2 ht0
      clear ht0
      by_cases cL : okLbs zs
      · have hR2 := hR.out
        rw [decide_eq_true cL] at hR2
        replace hR2 := Lib.hid hR2
        clear hR
        replace cL := Lib.hid cL
        go_wp2_with fail
        refine hR2.out.mono ?_
        rintro e w2 ⟨rfl, g2⟩
        have G2 := gr_trans g1.out g2
        have hb2 : AqB w2 w.heap.size 1 A n c t a b d := gr_blk g2 hbx.out (by simp)
        clear b0 b1 b2 b3 b4 b5
        obtain ⟨b0, b1, b2, b3, b4, b5⟩ := aqb_cells hb2
        replace G2 := Lib.hid G2
        clear hb2 hbx hR2
        have hd : Hid (decide (okA ⟨1, zs, t, a, b, d⟩) = false) := decide_eq_false (fun h => by have := (hok.out.1 h).2.1; omega)
        clear hok
        go_wp2
        go_ret
        exact ⟨by rw [hd.out]; rfl, G2.out⟩
      · have hR2 := hR.out
        rw [decide_eq_false cL] at hR2
        replace hR2 := Lib.hid hR2
        clear hR
        have hd : Hid (decide (okA ⟨1, zs, t, a, b, d⟩) = false) := decide_eq_false (fun h => cL (hok.out.1 h).1.1)
        clear hok
        replace cL := Lib.hid cL
        go_wp2_with fail
        refine hR2.out.mono ?_
        rintro e w2 ⟨rfl, g2⟩
        have G2 := gr_trans g1.out g2
        have hb2 : AqB w2 w.heap.size 1 A n c t a b d := gr_blk g2 hbx.out (by simp)
        clear b0 b1 b2 b3 b4 b5
        obtain ⟨b0, b1, b2, b3, b4, b5⟩ := aqb_cells hb2
        replace G2 := Lib.hid G2
        clear hb2 hbx hR2
        go_wp2
        go_ret
        exact ⟨by rw [hd.out]; rfl, G2.out⟩
end Go.Proofs.Ytbnacoakjhhndaa
namespace Go.Proofs.Ytbnacoakjhhndaa
open Go.RowKit

set_option maxHeartbeats 8000000 in
set_option maxRecDepth 100000 in
theorem lright2 (A : Option Addr) (n c : Nat) (zs : List Lb) (t : List UInt8) (a b d : Int) (w : World) (hn : zs.length = n) (ht : t.length ≤ 1000000000) (hn9 : n ≤ 1000000000) : LawRight A n c ⟨2, zs, t, a, b, d⟩ w := by
  unfold LawRight aqV
  replace hn := Lib.hid hn
  have hte : (t.isEmpty = true ↔ t.length = 0) := by cases t <;> simp
  go_enter Try.func10, Try.ntmps10
  by_cases h0 : n = 0
  · have hn0 : ((n : Int) == 0) = true := eqT (by omega)
    by_cases ht0 : t = []
    · have hte0 : t.isEmpty = true := by rw [ht0]; rfl
      have htl : t.length = 0 := by rw [ht0]; rfl
      clear ht0 hte
      go_wp2
      have hn := hn.out
      all_goals
        go_ret
        refine ⟨congrArg (fun b => Ending.returned (.bool b)) ?_, gr_alloc _ _ _⟩
        rw [Bool.eq_iff_iff]
        (simp only [decide_eq_true_eq, okA_2, hn, Bool.false_eq_true, false_iff, true_iff, beq_iff_eq]) <;> omega
    · have hte0 : t.isEmpty = false := by rw [List.isEmpty_eq_false_iff]; exact ht0
      have htl : 0 < t.length := List.length_pos_iff.2 ht0
      clear ht0 hte
      go_wp2
      have hn := hn.out
      all_goals
        go_ret
        refine ⟨congrArg (fun b => Ending.returned (.bool b)) ?_, gr_alloc _ _ _⟩
        rw [Bool.eq_iff_iff]
        (simp only [decide_eq_true_eq, okA_2, hn, Bool.false_eq_true, false_iff, true_iff, beq_iff_eq]) <;> omega
  · have hn0 : ((n : Int) == 0) = false := eqF (by omega)
    clear hte
    go_wp2
    have hn := hn.out
    all_goals
      go_ret
      refine ⟨congrArg (fun b => Ending.returned (.bool b)) ?_, gr_alloc _ _ _⟩
      rw [Bool.eq_iff_iff]
      (simp only [decide_eq_true_eq, okA_2, hn, Bool.false_eq_true, false_iff, true_iff, beq_iff_eq]) <;> omega
set_option maxHeartbeats 8000000 in
set_option maxRecDepth 100000 in
theorem lright3 (A : Option Addr) (n c : Nat) (zs : List Lb) (t : List UInt8) (a b d : Int) (w : World) (hn : zs.length = n) (ht : t.length ≤ 1000000000) (hn9 : n ≤ 1000000000) : LawRight A n c ⟨3, zs, t, a, b, d⟩ w := by
  unfold LawRight aqV
  replace hn := Lib.hid hn
  have hte : (t.isEmpty = true ↔ t.length = 0) := by cases t <;> simp
  go_enter Try.func10, Try.ntmps10
  by_cases h0 : n = 0
  · have hn0 : ((n : Int) == 0) = true := eqT (by omega)
    by_cases ht0 : t = []
    · have hte0 : t.isEmpty = true := by rw [ht0]; rfl
      have htl : t.length = 0 := by rw [ht0]; rfl
      clear ht0 hte
      go_wp2
      have hn := hn.out
      all_goals
        go_ret
        refine ⟨congrArg (fun b => Ending.returned (.bool b)) ?_, gr_alloc _ _ _⟩
        rw [Bool.eq_iff_iff]
        (simp only [decide_eq_true_eq, okA_3, hn, Bool.false_eq_true, false_iff, true_iff, beq_iff_eq]) <;> omega
    · have hte0 : t.isEmpty = false := by rw [List.isEmpty_eq_false_iff]; exact ht0
      have htl : 0 < t.length := List.length_pos_iff.2 ht0
      clear ht0 hte
      go_wp2
      have hn := hn.out
      all_goals
        go_ret
        refine ⟨congrArg (fun b => Ending.returned (.bool b)) ?_, gr_alloc _ _ _⟩
        rw [Bool.eq_iff_iff]
        (simp only [decide_eq_true_eq, okA_3, hn, Bool.false_eq_true, false_iff, true_iff, beq_iff_eq]) <;> omega
  · have hn0 : ((n : Int) == 0) = false := eqF (by omega)
    clear hte
    go_wp2
    have hn := hn.out
    all_goals
      go_ret
      refine ⟨congrArg (fun b => Ending.returned (.bool b)) ?_, gr_alloc _ _ _⟩
      rw [Bool.eq_iff_iff]
      (simp only [decide_eq_true_eq, okA_3, hn, Bool.false_eq_true, false_iff, true_iff, beq_iff_eq]) <;> omega
set_option maxHeartbeats 8000000 in
set_option maxRecDepth 100000 in
theorem lright4 (A : Option Addr) (n c : Nat) (zs : List Lb) (t : List UInt8) (a b d : Int) (w : World) (hn : zs.length = n) (ht : t.length ≤ 1000000000) (hn9 : n ≤ 1000000000) : LawRight A n c ⟨4, zs, t, a, b, d⟩ w := by
  unfold LawRight aqV
  replace hn := Lib.hid hn
  have hte : (t.isEmpty = true ↔ t.length = 0) := by cases t <;> simp
  go_enter Try.func10, Try.ntmps10
  by_cases h0 : n = 0
  · have hn0 : ((n : Int) == 0) = true := eqT (by omega)
    by_cases ht0 : t = []
    · have hte0 : t.isEmpty = true := by rw [ht0]; rfl
      have htl : t.length = 0 := by rw [ht0]; rfl
      clear ht0 hte
      go_wp2
      have hn := hn.out
      all_goals
        go_ret
        refine ⟨congrArg (fun b => Ending.returned (.bool b)) ?_, gr_alloc _ _ _⟩
        rw [Bool.eq_iff_iff]
        (simp only [decide_eq_true_eq, okA_4, hn, Bool.false_eq_true, false_iff, true_iff, beq_iff_eq]) <;> omega
    · have hte0 : t.isEmpty = false := by rw [List.isEmpty_eq_false_iff]; exact ht0
      have htl : 0 < t.length := List.length_pos_iff.2 ht0
      clear ht0 hte
      go_wp2
      have hn := hn.out
      all_goals
        go_ret
        refine ⟨congrArg (fun b => Ending.returned (.bool b)) ?_, gr_alloc _ _ _⟩
        rw [Bool.eq_iff_iff]
        (simp only [decide_eq_true_eq, okA_4, hn, Bool.false_eq_true, false_iff, true_iff, beq_iff_eq]) <;> omega
  · have hn0 : ((n : Int) == 0) = false := eqF (by omega)
    clear hte
    go_wp2
    have hn := hn.out
    all_goals
      go_ret
      refine ⟨congrArg (fun b => Ending.returned (.bool b)) ?_, gr_alloc _ _ _⟩
      rw [Bool.eq_iff_iff]
      (simp only [decide_eq_true_eq, okA_4, hn, Bool.false_eq_true, false_iff, true_iff, beq_iff_eq]) <;> omega
set_option maxHeartbeats 8000000 in
set_option maxRecDepth 100000 in
theorem lright5 (A : Option Addr) (n c : Nat) (zs : List Lb) (t : List UInt8) (a b d : Int) (w : World) (hn : zs.length = n) (ht : t.length ≤ 1000000000) (hn9 : n ≤ 1000000000) : LawRight A n c ⟨5, zs, t, a, b, d⟩ w := by
  unfold LawRight aqV
  replace hn := Lib.hid hn
  have hte : (t.isEmpty = true ↔ t.length = 0) := by cases t <;> simp
  go_enter Try.func10, Try.ntmps10
  by_cases h0 : n = 0
  · have hn0 : ((n : Int) == 0) = true := eqT (by omega)
    by_cases ht0 : t = []
    · have hte0 : t.isEmpty = true := by rw [ht0]; rfl
      have htl : t.length = 0 := by rw [ht0]; rfl
      clear ht0 hte
      go_wp2
      have hn := hn.out
      all_goals
        go_ret
        refine ⟨congrArg (fun b => Ending.returned (.bool b)) ?_, gr_alloc _ _ _⟩
        rw [Bool.eq_iff_iff]
        (simp only [decide_eq_true_eq, okA_5, hn, Bool.false_eq_true, false_iff, true_iff, beq_iff_eq]) <;> omega
    · have hte0 : t.isEmpty = false := by rw [List.isEmpty_eq_false_iff]; exact ht0
      have htl : 0 < t.length := List.length_pos_iff.2 ht0
      clear ht0 hte
      go_wp2
      have hn := hn.out
      all_goals
        go_ret
        refine ⟨congrArg (fun b => Ending.returned (.bool b)) ?_, gr_alloc _ _ _⟩
        rw [Bool.eq_iff_iff]
        (simp only [decide_eq_true_eq, okA_5, hn, Bool.false_eq_true, false_iff, true_iff, beq_iff_eq]) <;> omega
  · have hn0 : ((n : Int) == 0) = false := eqF (by omega)
    clear hte
    go_wp2
    have hn := hn.out
    all_goals
      go_ret
      refine ⟨congrArg (fun b => Ending.returned (.bool b)) ?_, gr_alloc _ _ _⟩
      rw [Bool.eq_iff_iff]
      (simp only [decide_eq_true_eq, okA_5, hn, Bool.false_eq_true, false_iff, true_iff, beq_iff_eq]) <;> omega
set_option maxHeartbeats 8000000 in
set_option maxRecDepth 100000 in
theorem lright6 (A : Option Addr) (n c : Nat) (zs : List Lb) (t : List UInt8) (a b d : Int) (w : World) (hn : zs.length = n) (ht : t.length ≤ 1000000000) (hn9 : n ≤ 1000000000) : LawRight A n c ⟨6, zs, t, a, b, d⟩ w := by
  unfold LawRight aqV
  replace hn := Lib.hid hn
  have hte : (t.isEmpty = true ↔ t.length = 0) := by cases t <;> simp
  go_enter Try.func10, Try.ntmps10
  by_cases h0 : n = 0
  · have hn0 : ((n : Int) == 0) = true := eqT (by omega)
    by_cases ht0 : t = []
    · have hte0 : t.isEmpty = true := by rw [ht0]; rfl
      have htl : t.length = 0 := by rw [ht0]; rfl
      clear ht0 hte
      go_wp2
      have hn := hn.out
      all_goals
        go_ret
        refine ⟨congrArg (fun b => Ending.returned (.bool b)) ?_, gr_alloc _ _ _⟩
        rw [Bool.eq_iff_iff]
        (simp only [decide_eq_true_eq, okA_6, hn, Bool.false_eq_true, false_iff, true_iff, beq_iff_eq]) <;> omega
    · have hte0 : t.isEmpty = false := by rw [List.isEmpty_eq_false_iff]; exact ht0
      have htl : 0 < t.length := List.length_pos_iff.2 ht0
      clear ht0 hte
      go_wp2
      have hn := hn.out
      all_goals
        go_ret
        refine ⟨congrArg (fun b => Ending.returned (.bool b)) ?_, gr_alloc _ _ _⟩
        rw [Bool.eq_iff_iff]
        (simp only [decide_eq_true_eq, okA_6, hn, Bool.false_eq_true, false_iff, true_iff, beq_iff_eq]) <;> omega
  · have hn0 : ((n : Int) == 0) = false := eqF (by omega)
    clear hte
    go_wp2
    have hn := hn.out
    all_goals
      go_ret
      refine ⟨congrArg (fun b => Ending.returned (.bool b)) ?_, gr_alloc _ _ _⟩
      rw [Bool.eq_iff_iff]
      (simp only [decide_eq_true_eq, okA_6, hn, Bool.false_eq_true, false_iff, true_iff, beq_iff_eq]) <;> omega
set_option maxHeartbeats 8000000 in
set_option maxRecDepth 100000 in
theorem lrightO (A : Option Addr) (n c : Nat) (k : Int) (zs : List Lb) (t : List UInt8) (a b d : Int) (w : World) (h1 : k ≠ 1) (h2 : k ≠ 2) (h3 : k ≠ 3) (h4 : k ≠ 4) (h5 : k ≠ 5) (h6 : k ≠ 6) : LawRight A n c ⟨k, zs, t, a, b, d⟩ w := by
  unfold LawRight aqV
  have e1 := eqF h1
  have e2 := eqF h2
  have e3 := eqF h3
  have e4 := eqF h4
  have e5 := eqF h5
  have e6 := eqF h6
  have ho := Lib.hid (decide_eq_false (okA_o k zs t a b d h1 h2 h3 h4 h5 h6))
  clear h1 h2 h3 h4 h5 h6
  go_enter Try.func10, Try.ntmps10
  by_cases h0 : n = 0
  · have hn0 : ((n : Int) == 0) = true := eqT (by omega)
    by_cases ht0 : t = []
    · have hte0 : t.isEmpty = true := by rw [ht0]; rfl
      have htl : t.length = 0 := by rw [ht0]; rfl
      clear ht0
      go_wp2
      go_ret
      exact ⟨by rw [ho.out]; rfl, gr_alloc _ _ _⟩
    · have hte0 : t.isEmpty = false := by rw [List.isEmpty_eq_false_iff]; exact ht0
      have htl : 0 < t.length := List.length_pos_iff.2 ht0
      clear ht0
      go_wp2
      go_ret
      exact ⟨by rw [ho.out]; rfl, gr_alloc _ _ _⟩
  · have hn0 : ((n : Int) == 0) = false := eqF (by omega)
    by_cases ht0 : t = []
    · have hte0 : t.isEmpty = true := by rw [ht0]; rfl
      have htl : t.length = 0 := by rw [ht0]; rfl
      clear ht0
      go_wp2
      go_ret
      exact ⟨by rw [ho.out]; rfl, gr_alloc _ _ _⟩
    · have hte0 : t.isEmpty = false := by rw [List.isEmpty_eq_false_iff]; exact ht0
      have htl : 0 < t.length := List.length_pos_iff.2 ht0
      clear ht0
      go_wp2
      go_ret
      exact ⟨by rw [ho.out]; rfl, gr_alloc _ _ _⟩
theorem lawRight_any (A : Option Addr) (n c : Nat) (q : Aq) (w : World) (h : AqOk w A n c q) (hsh : ∀ x ∈ q.l, x.n.length ≤ 1000000 ∧ x.v.length ≤ 1000000) : Calls Try.prog 10 #[aqV A n c q] w fun e w' => e = .returned (.bool (decide (okA q))) ∧ Gr w w' := by
  obtain ⟨h1, h2, h3, h4, h5, h6, h7⟩ := h
  obtain ⟨k, zs, t, a, b, d⟩ := q
  simp only at h1 h3 h5 h6 h7 hsh
  by_cases k1 : k = 1
  · subst k1; exact lright1 A n c zs t a b d w h2 h5 hsh
  by_cases k2 : k = 2
  · subst k2; exact lright2 A n c zs t a b d w h1 h3 h2
  by_cases k3 : k = 3
  · subst k3; exact lright3 A n c zs t a b d w h1 h3 h2
  by_cases k4 : k = 4
  · subst k4; exact lright4 A n c zs t a b d w h1 h3 h2
  by_cases k5 : k = 5
  · subst k5; exact lright5 A n c zs t a b d w h1 h3 h2
  by_cases k6 : k = 6
  · subst k6; exact lright6 A n c zs t a b d w h1 h3 h2
  exact lrightO A n c k zs t a b d w k1 k2 k3 k4 k5 k6
end Go.Proofs.Ytbnacoakjhhndaa
namespace Go.Proofs.Ytbnacoakjhhndaa
open Go.RowKit

set_option maxHeartbeats 8000000 in
set_option maxRecDepth 100000 in
theorem sameAq_yes (A B : Option Addr) (n ca cb : Nat) (q : Aq) (w : World) (hn : n ≤ 1000000000) (hA : Row w A n 2 (sR lblC q.l)) (hB : Row w B n 2 (sR lblC q.l)) :
    Calls Try.prog 15 #[aqV A n ca q, aqV B n cb q] w fun e w' => e = .returned (.bool true) ∧ Gr w w' := by
  obtain ⟨k, zs, t, a, b, d⟩ := q
  unfold aqV
  simp only at hA hB ⊢
  obtain ⟨W1, hW1⟩ : ∃ W1, W1 = w.alloc (.cells #[.int .i64 k, .slice A n ca, .string (txt t), .int .i64 a, .int .i64 b, .int .i64 d] 24) := ⟨_, rfl⟩
  have hs1 : W1.heap.size = w.heap.size + 1 := by rw [hW1]; simp
  obtain ⟨W2, hW2⟩ : ∃ W2, W2 = W1.alloc (.cells #[.int .i64 k, .slice B n cb, .string (txt t), .int .i64 a, .int .i64 b, .int .i64 d] 24) := ⟨_, rfl⟩
  have g1 : Gr w W1 := by rw [hW1]; exact gr_alloc _ _ _
  have g2 : Gr W1 W2 := by rw [hW2]; exact gr_alloc _ _ _
  have hx : AqB W2 w.heap.size k A n ca t a b d := gr_blk g2 (by rw [hW1]; exact blk_new w _) (by simp)
  have hy : AqB W2 (w.heap.size + 1) k B n cb t a b d := by rw [hW2, ← hs1]; exact blk_new W1 _
  have G := gr_trans g1 g2
  have hC : ∀ W, Gr W2 W → AqB W w.heap.size k A n ca t a b d ∧ AqB W (w.heap.size + 1) k B n cb t a b d := fun W g => ⟨gr_blk g hx (by simp), gr_blk g hy (by simp)⟩
  have hS := sameLabels_any A B n n ca cb zs zs W2 hn hn (row_gr hA G) (row_gr hB G)
  rw [decide_eq_true rfl] at hS
  obtain ⟨b0, b1, b2, b3, b4, b5⟩ := aqb_cells hx
  obtain ⟨c0, c1, c2, c3, c4, c5⟩ := aqb_cells hy
  have ek : (k == k) = true := beq_self_eq_true k
  have ea : (a == a) = true := beq_self_eq_true a
  have eb : (b == b) = true := beq_self_eq_true b
  have ed : (d == d) = true := beq_self_eq_true d
  have et : (t == t) = true := beq_self_eq_true t
  replace hS := Lib.hid hS
  replace hC := Lib.hid hC
  replace G := Lib.hid G
  clear hx hy hA hB g1 g2 hs1
  go_enter Try.func15, Try.ntmps15
  go_upto_region 1 with fail
  rw [← hW1, ← hW2]
  clear hW1 hW2
  go_wp2_with fail
  refine hS.out.mono ?_
  rintro e w3 ⟨rfl, g3⟩
  obtain ⟨hx, hy⟩ := hC.out w3 g3
  clear b0 b1 b2 b3 b4 b5 c0 c1 c2 c3 c4 c5 hC
  obtain ⟨b0, b1, b2, b3, b4, b5⟩ := aqb_cells hx
  obtain ⟨c0, c1, c2, c3, c4, c5⟩ := aqb_cells hy
  replace g3 := Lib.hid g3
  clear hx hy
  go_wp2
  go_ret
  exact ⟨rfl, gr_trans G.out g3.out⟩
end Go.Proofs.Ytbnacoakjhhndaa
