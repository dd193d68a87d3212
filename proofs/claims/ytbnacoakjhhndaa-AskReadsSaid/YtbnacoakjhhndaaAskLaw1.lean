/-
  leporellolaw23.Right of a request of the first kind. No condition but bounds on the lengths.
-/
import Derived.Test.YtbnacoakjhhndaaAskRight
import Derived.Test.YtbnacoakjhhndaaRefRight
namespace Go.Proofs.Ytbnacoakjhhndaa
open Go.RowKit

def LawRight (A : Option Addr) (n c : Nat) (q : Aq) (w : World) : Prop := Calls Try.prog 10 #[aqV A n c q] w fun e w' => e = .returned (.bool (decide (okA q))) ∧ Gr w w'
set_option maxHeartbeats 8000000 in
set_option maxRecDepth 100000 in
theorem lright1 (A : Option Addr) (n c : Nat) (zs : List Lb) (t : List UInt8) (a b d : Int) (w : World) (hn9 : n ≤ 1000000000) (hr : Row w A n 2 (sR lblC zs)) (hsh : ∀ x ∈ zs, x.n.length ≤ 1000000 ∧ x.v.length ≤ 1000000) : LawRight A n c ⟨1, zs, t, a, b, d⟩ w := by
  unfold LawRight aqV
  obtain ⟨W1, hW1⟩ : ∃ W1, W1 = w.alloc (.cells #[.int .i64 1, .slice A n c, .string (txt t), .int .i64 a, .int .i64 b, .int .i64 d] 24) := ⟨_, rfl⟩
  have g1 : Gr w W1 := by rw [hW1]; exact gr_alloc _ _ _
  have hbx : AqB W1 w.heap.size 1 A n c t a b d := by rw [hW1]; exact blk_new w _
  have hR := refRight_any A n c zs W1 hn9 (row_gr hr g1) hsh
  have hV := fun W => refValue_any b W
  have hok := okA_1 zs t a b d
  have hor : okR ⟨zs, b⟩ ↔ (okLbs zs ∧ okV b) := Iff.rfl
  rw [hor] at hok
  obtain ⟨b0, b1, b2, b3, b4, b5⟩ := aqb_cells hbx
  replace hok := Lib.hid hok
  replace g1 := Lib.hid g1
  replace hR := Lib.hid hR
  replace hV := Lib.hid hV
  replace hbx := Lib.hid hbx
  clear hor hr hsh
  go_enter Try.func10, Try.ntmps10
  go_upto_region 1 with fail
  rw [← hW1]
  clear hW1
  by_cases h0 : n = 0
  · have hn0 : ((n : Int) == 0) = true := eqT (by omega)
    clear h0
    by_cases ht0 : t = []
    · have hte0 : t.isEmpty = true := by rw [ht0]; rfl
      have htl : t.length = 0 := by rw [ht0]; rfl
      clear ht0
      by_cases cL : okLbs zs
      · have hR2 := hR.out
        rw [decide_eq_true cL] at hR2
        replace hR2 := Lib.hid hR2
        clear hR
        replace cL := Lib.hid cL
        go_wp2_with fail
        refine hR2.out.mono ?_
        rintro e w2 ⟨rfl, g2⟩
        have G2 := gr_trans g1.out g2
        have hb2 : AqB w2 w.heap.size 1 A n c t a b d := gr_blk g2 hbx.out (by simp)
        clear b0 b1 b2 b3 b4 b5
        obtain ⟨b0, b1, b2, b3, b4, b5⟩ := aqb_cells hb2
        replace G2 := Lib.hid G2
        clear hb2 hbx hR2
        by_cases ha0 : 0 ≤ a
        · by_cases ha1 : a ≤ 1000000000
          · go_wp2_with fail
            refine (hV.out _).mono ?_
            rintro e w3 ⟨rfl, rfl⟩
            by_cases cV : okV b
            · rw [decide_eq_true cV]
              by_cases hd0 : d = 0
              · have hdB : (d == 0) = true := eqT hd0
                have hd : Hid (decide (okA ⟨1, zs, t, a, b, d⟩) = true) := decide_eq_true (hok.out.2 ⟨⟨cL.out, cV⟩, htl, ⟨ha0, ha1⟩, hd0⟩)
                clear hok hd0 cV
                go_wp2
                go_ret
                exact ⟨by rw [hd.out]; rfl, G2.out⟩
              · have hdB : (d == 0) = false := eqF hd0
                have hd : Hid (decide (okA ⟨1, zs, t, a, b, d⟩) = false) := decide_eq_false (fun h => hd0 (hok.out.1 h).2.2.2)
                clear hok
                clear hd0 cV
                go_wp2
                go_ret
                exact ⟨by rw [hd.out]; rfl, G2.out⟩
            · rw [decide_eq_false cV]
              have hd : Hid (decide (okA ⟨1, zs, t, a, b, d⟩) = false) := decide_eq_false (fun h => cV (hok.out.1 h).1.2)
              clear hok
              clear cV
              go_wp2
              go_ret
              exact ⟨by rw [hd.out]; rfl, G2.out⟩
          · have ha2 : 1000000000 < a := by omega
            have hd : Hid (decide (okA ⟨1, zs, t, a, b, d⟩) = false) := decide_eq_false (fun h => ha1 (hok.out.1 h).2.2.1.2)
            clear hok
            go_wp2
            go_ret
            exact ⟨by rw [hd.out]; rfl, G2.out⟩
        · have ha2 : a < 0 := by omega
          have hd : Hid (decide (okA ⟨1, zs, t, a, b, d⟩) = false) := decide_eq_false (fun h => ha0 (hok.out.1 h).2.2.1.1)
          clear hok
          go_wp2
          go_ret
          exact ⟨by rw [hd.out]; rfl, G2.out⟩
      · have hR2 := hR.out
        rw [decide_eq_false cL] at hR2
        replace hR2 := Lib.hid hR2
        clear hR
        have hd : Hid (decide (okA ⟨1, zs, t, a, b, d⟩) = false) := decide_eq_false (fun h => cL (hok.out.1 h).1.1)
        clear hok
        replace cL := Lib.hid cL
        go_wp2_with fail
        refine hR2.out.mono ?_
        rintro e w2 ⟨rfl, g2⟩
        have G2 := gr_trans g1.out g2
        have hb2 : AqB w2 w.heap.size 1 A n c t a b d := gr_blk g2 hbx.out (by simp)
        clear b0 b1 b2 b3 b4 b5
        obtain ⟨b0, b1, b2, b3, b4, b5⟩ := aqb_cells hb2
        replace G2 := Lib.hid G2
        clear hb2 hbx hR2
        go_wp2
        go_ret
        exact ⟨by rw [hd.out]; rfl, G2.out⟩
    · have hte0 : t.isEmpty = false := by rw [List.isEmpty_eq_false_iff]; exact ht0
      have htl : 0 < t.length := List.length_pos_iff.2 ht0
      clear ht0
      by_cases cL : okLbs zs
      · have hR2 := hR.out
        rw [decide_eq_true cL] at hR2
        replace hR2 := Lib.hid hR2
        clear hR
        replace cL := Lib.hid cL
        go_wp2_with fail
        refine hR2.out.mono ?_
        rintro e w2 ⟨rfl, g2⟩
        have G2 := gr_trans g1.out g2
        have hb2 : AqB w2 w.heap.size 1 A n c t a b d := gr_blk g2 hbx.out (by simp)
        clear b0 b1 b2 b3 b4 b5
        obtain ⟨b0, b1, b2, b3, b4, b5⟩ := aqb_cells hb2
        replace G2 := Lib.hid G2
        clear hb2 hbx hR2
        have hd : Hid (decide (okA ⟨1, zs, t, a, b, d⟩) = false) := decide_eq_false (fun h => by have := (hok.out.1 h).2.1; omega)
        clear hok
        go_wp2
        go_ret
        exact ⟨by rw [hd.out]; rfl, G2.out⟩
      · have hR2 := hR.out
        rw [decide_eq_false cL] at hR2
        replace hR2 := Lib.hid hR2
        clear hR
        have hd : Hid (decide (okA ⟨1, zs, t, a, b, d⟩) = false) := decide_eq_false (fun h => cL (hok.out.1 h).1.1)
        clear hok
        replace cL := Lib.hid cL
        go_wp2_with fail
        refine hR2.out.mono ?_
        rintro e w2 ⟨rfl, g2⟩
        have G2 := gr_trans g1.out g2
        have hb2 : AqB w2 w.heap.size 1 A n c t a b d := gr_blk g2 hbx.out (by simp)
        clear b0 b1 b2 b3 b4 b5
        obtain ⟨b0, b1, b2, b3, b4, b5⟩ := aqb_cells hb2
        replace G2 := Lib.hid G2
        clear hb2 hbx hR2
        go_wp2
        go_ret
        exact ⟨by rw [hd.out]; rfl, G2.out⟩
  · have hn0 : ((n : Int) == 0) = false := eqF (by omega)
    clear h0
    by_cases ht0 : t = []
    · have hte0 : t.isEmpty = true := by rw [ht0]; rfl
      have htl : t.length = 0 := by rw [ht0]; rfl
      clear ht0
      by_cases cL : okLbs zs
      · have hR2 := hR.out
        rw [decide_eq_true cL] at hR2
        replace hR2 := Lib.hid hR2
        clear hR
        replace cL := Lib.hid cL
        go_wp2_with fail
        refine hR2.out.mono ?_
        rintro e w2 ⟨rfl, g2⟩
        have G2 := gr_trans g1.out g2
        have hb2 : AqB w2 w.heap.size 1 A n c t a b d := gr_blk g2 hbx.out (by simp)
        clear b0 b1 b2 b3 b4 b5
        obtain ⟨b0, b1, b2, b3, b4, b5⟩ := aqb_cells hb2
        replace G2 := Lib.hid G2
        clear hb2 hbx hR2
        by_cases ha0 : 0 ≤ a
        · by_cases ha1 : a ≤ 1000000000
          · go_wp2_with fail
            refine (hV.out _).mono ?_
            rintro e w3 ⟨rfl, rfl⟩
            by_cases cV : okV b
            · rw [decide_eq_true cV]
              by_cases hd0 : d = 0
              · have hdB : (d == 0) = true := eqT hd0
                have hd : Hid (decide (okA ⟨1, zs, t, a, b, d⟩) = true) := decide_eq_true (hok.out.2 ⟨⟨cL.out, cV⟩, htl, ⟨ha0, ha1⟩, hd0⟩)
                clear hok hd0 cV
                go_wp2
                go_ret
                exact ⟨by rw [hd.out]; rfl, G2.out⟩
              · have hdB : (d == 0) = false := eqF hd0
                have hd : Hid (decide (okA ⟨1, zs, t, a, b, d⟩) = false) := decide_eq_false (fun h => hd0 (hok.out.1 h).2.2.2)
                clear hok
                clear hd0 cV
                go_wp2
                go_ret
                exact ⟨by rw [hd.out]; rfl, G2.out⟩
            · rw [decide_eq_false cV]
              have hd : Hid (decide (okA ⟨1, zs, t, a, b, d⟩) = false) := decide_eq_false (fun h => cV (hok.out.1 h).1.2)
              clear hok
              clear cV
              go_wp2
              go_ret
              exact ⟨by rw [hd.out]; rfl, G2.out⟩
          · have ha2 : 1000000000 < a := by omega
            have hd : Hid (decide (okA ⟨1, zs, t, a, b, d⟩) = false) := decide_eq_false (fun h => ha1 (hok.out.1 h).2.2.1.2)
            clear hok
            go_wp2
            go_ret
            exact ⟨by rw [hd.out]; rfl, G2.out⟩
        · have ha2 : a < 0 := by omega
          have hd : Hid (decide (okA ⟨1, zs, t, a, b, d⟩) = false) := decide_eq_false (fun h => ha0 (hok.out.1 h).2.2.1.1)
          clear hok
          go_wp2
          go_ret
          exact ⟨by rw [hd.out]; rfl, G2.out⟩
      · have hR2 := hR.out
        rw [decide_eq_false cL] at hR2
        replace hR2 := Lib.hid hR2
        clear hR
        have hd : Hid (decide (okA ⟨1, zs, t, a, b, d⟩) = false) := decide_eq_false (fun h => cL (hok.out.1 h).1.1)
        clear hok
        replace cL := Lib.hid cL
        go_wp2_with fail
        refine hR2.out.mono ?_
        rintro e w2 ⟨rfl, g2⟩
        have G2 := gr_trans g1.out g2
        have hb2 : AqB w2 w.heap.size 1 A n c t a b d := gr_blk g2 hbx.out (by simp)
        clear b0 b1 b2 b3 b4 b5
        obtain ⟨b0, b1, b2, b3, b4, b5⟩ := aqb_cells hb2
        replace G2 := Lib.hid G2
        clear hb2 hbx hR2
        go_wp2
        go_ret
        exact ⟨by rw [hd.out]; rfl, G2.out⟩
    · have hte0 : t.isEmpty = false := by rw [List.isEmpty_eq_false_iff]; exact ht0
      have htl : 0 < t.length := List.length_pos_iff.2 ht0
      clear ht0
      by_cases cL : okLbs zs
      · have hR2 := hR.out
        rw [decide_eq_true cL] at hR2
        replace hR2 := Lib.hid hR2
        clear hR
        replace cL := Lib.hid cL
        go_wp2_with fail
        refine hR2.out.mono ?_
        rintro e w2 ⟨rfl, g2⟩
        have G2 := gr_trans g1.out g2
        have hb2 : AqB w2 w.heap.size 1 A n c t a b d := gr_blk g2 hbx.out (by simp)
        clear b0 b1 b2 b3 b4 b5
        obtain ⟨b0, b1, b2, b3, b4, b5⟩ := aqb_cells hb2
        replace G2 := Lib.hid G2
        clear hb2 hbx hR2
        have hd : Hid (decide (okA ⟨1, zs, t, a, b, d⟩) = false) := decide_eq_false (fun h => by have := (hok.out.1 h).2.1; omega)
        clear hok
        go_wp2
        go_ret
        exact ⟨by rw [hd.out]; rfl, G2.out⟩
      · have hR2 := hR.out
        rw [decide_eq_false cL] at hR2
        replace hR2 := Lib.hid hR2
        clear hR
        have hd : Hid (decide (okA ⟨1, zs, t, a, b, d⟩) = false) := decide_eq_false (fun h => cL (hok.out.1 h).1.1)
        clear hok
        replace cL := Lib.hid cL
        go_wp2_with fail
        refine hR2.out.mono ?_
        rintro e w2 ⟨rfl, g2⟩
        have G2 := gr_trans g1.out g2
        have hb2 : AqB w2 w.heap.size 1 A n c t a b d := gr_blk g2 hbx.out (by simp)
        clear b0 b1 b2 b3 b4 b5
        obtain ⟨b0, b1, b2, b3, b4, b5⟩ := aqb_cells hb2
        replace G2 := Lib.hid G2
        clear hb2 hbx hR2
        go_wp2
        go_ret
        exact ⟨by rw [hd.out]; rfl, G2.out⟩
end Go.Proofs.Ytbnacoakjhhndaa
