/-
  The reader of a request: a row; what is opened. No condition but bounds on the lengths.
-/
import Derived.Test.YtbnacoakjhhndaaAskRead
import Derived.Test.YtbnacoakjhhndaaRowGet
namespace Go.Proofs.Ytbnacoakjhhndaa
open Go.RowKit

/-- What the reader's row answers. -/
def RwPost (b : Nat) (s : List UInt8 × Bool) (w : World) (e : Ending) (w' : World) : Prop :=
  ∃ A c, e = .returned (.agg #[.slice A (rwS s).1.l.length c, .int .i64 (rwS s).1.v]) ∧ Rq.Rdr w' b (rwS s).2.1 (rwS s).2.2 ∧ w'.ownsRow w.heap.size 41 2 (.slice A (rwS s).1.l.length c) (rwS s).1.l.length (sR lblC (rwS s).1.l) ∧ GrB b w w'
theorem rwS_none {s : List UInt8 × Bool} (h : s.2 = true ∨ getR s.1 = none) : rwS s = (⟨[], 0⟩, (s.1, true)) := by
  unfold rwS
  rcases h with h | h
  · rw [if_pos h]
  · by_cases h2 : s.2 = true
    · rw [if_pos h2]
    · rw [if_neg h2, h]
theorem rwS_some {l : List UInt8} {r : Rw} {t : List UInt8} (h : getR l = some (r, t)) : rwS (l, false) = (r, (t, false)) := by
  unfold rwS
  simp only [Bool.false_eq_true, if_false, h]
/-- Old blocks but b are as they were, though a new one has turned. -/
theorem rw_end {w W3 W4 W5 : World} {b : Nat} (_hb : b < w.heap.size) (h3 : Gr w W3) (h4 : GrB b W3 W4) (h5 : GrB w.heap.size W4 W5) : GrB b w W5 :=
  ⟨h5.os.trans (h4.os.trans h3.os), h5.tape.trans (h4.tape.trans h3.tape), h5.output.trans (h4.output.trans h3.output), Nat.le_trans h3.size (Nat.le_trans h4.size h5.size), fun k hk hr => by
    have k3 := h3.size
    have k4 := h4.size
    exact (h5.block k (by omega) (by simp; omega)).trans ((h4.block k (by omega) hr).trans (h3.block k hk (by simp)))⟩
set_option maxHeartbeats 8000000 in
set_option maxRecDepth 100000 in
theorem rrow_any (b : Nat) (l : List UInt8) (bad : Bool) (w : World) (h : Rq.Rdr w b l bad) (hm : l.length ≤ 1000000000) : Calls Try.prog 28 #[.pointer (some ⟨b, 0, none⟩)] w (RwPost b (l, bad) w) := by
  obtain ⟨W1, hW1⟩ : ∃ W1, W1 = w.alloc (.cells #[.slice none 0 0, .int .i64 0] 51) := ⟨_, rfl⟩
  have g1 : Gr w W1 := by rw [hW1]; exact gr_alloc _ _ _
  have hres : RwB W1 w.heap.size none 0 0 0 := by rw [hW1]; exact blk_new w _
  have hr1 := Rq.rdr_gr h g1
  have hbl := lt_of_blk h
  have hs0 := lt_of_blk hres
  have hg := get_any l W1 hm
  obtain ⟨c0, c1, f0, f1⟩ := Rq.rdr_cells hr1
  replace hg := Lib.hid hg
  replace hres := Lib.hid hres
  replace hr1 := Lib.hid hr1
  replace g1 := Lib.hid g1
  clear h
  go_enter Try.func28, Try.ntmps28
  go_upto_region 1 with fail
  rw [← hW1]
  clear hW1
  go_wp2_with fail
  refine hg.out.mono ?_
  rintro e w2 ⟨⟨r, t, A, c, hgr, rfl, hown⟩ | ⟨hgr, rfl⟩, g2⟩
  · obtain ⟨W3, hW3⟩ : ∃ W3, W3 = w2.alloc (.cells #[.slice A r.l.length c, .int .i64 r.v] 51) := ⟨_, rfl⟩
    have g3 : Gr w2 W3 := by rw [hW3]; exact gr_alloc _ _ _
    have hx3 : RwB W3 w2.heap.size A r.l.length c r.v := by rw [hW3]; exact blk_new w2 _
    have gg := gr_trans g2 g3
    have hres3 : RwB W3 w.heap.size none 0 0 0 := gr_blk gg hres.out (by simp)
    have hr3 := Rq.rdr_gr hr1.out gg
    have ho3 := hown.kept g3 (Classical.em _)
    have G3 := gr_trans g1.out gg
    have hs1 := g1.out.size
    have hs2 := g2.size
    clear c0 c1 f0 f1 hg hown g3 hr1 hres
    obtain ⟨c0, c1, f0, f1⟩ := Rq.rdr_cells hr3
    replace hr3 := Lib.hid hr3
    replace ho3 := Lib.hid ho3
    replace hgr := Lib.hid hgr
    go_upto_region 2 with fail
    rw [← hW3]
    clear hW3
    cases bad with
    | true =>
      have hno := rwS_none (s := (l, true)) (.inl rfl)
      have hr4 := Rq.rdr_bad hr3.out true
      have g4 := gr_set W3 ⟨b, 1, none⟩ (.bool true)
      obtain ⟨W4, hW4⟩ : ∃ W4, W4 = W3.setCell ⟨b, 1, none⟩ (.bool true) := ⟨_, rfl⟩
      rw [← hW4] at hr4 g4
      have hres4 : RwB W4 w.heap.size none 0 0 0 := gr_blk g4 hres3 (by simp; omega)
      have hth := rwb_there hres4
      have hsame := World.rangeAt_setCells_same W4 w.heap.size 0 [.slice none 0 0, .int .i64 0] hth
      have r0 := hsame 0 _ rfl
      have r1' := hsame 1 _ rfl
      simp only [Nat.zero_add] at r0 r1'
      have hgs := gr_setCells W4 w.heap.size 0 [.slice none 0 0, .int .i64 0]
      have hr5 : Rq.Rdr (W4.setCells w.heap.size 0 [.slice none 0 0, .int .i64 0]) b l true := gr_blk hgs hr4 (by simp; omega)
      have hgB : GrB b w (W4.setCells w.heap.size 0 [.slice none 0 0, .int .i64 0]) := rw_end hbl G3 g4 hgs
      replace hr5 := Lib.hid hr5
      replace hgB := Lib.hid hgB
      replace hno := Lib.hid hno
      clear hsame hgs hr4 g4 hres3 hx3
      go_upto_region 4 with fail
      rw [← hW4]
      clear hW4
      go_wp2_with (refine wpList_store_mid (op := ⟨none, _, _, _, _, _⟩) rfl 51 _ _ rfl w.heap.size 0 #[.slice none 0 0, .int .i64 0] rfl rfl hth infoRw (by simp [Value.oneCell']) ?_)
      (try simp only [Exit.inBlock, Exit.then])
      refine bodyPost_ret (by simp [results, Try.results28, go_sem, r0, r1']; try rfl) rfl ?_
      unfold RwPost
      rw [hno.out]
      exact ⟨none, 0, rfl, hr5.out, World.ownsRow_nil _ _ _ _, hgB.out⟩
    | false =>
      have hyes := rwS_some hgr.out
      have hr4 := Rq.rdr_on hr3.out t
      have g4 := gr_set W3 ⟨b, 0, none⟩ (.string (txt t))
      obtain ⟨W4, hW4⟩ : ∃ W4, W4 = W3.setCell ⟨b, 0, none⟩ (.string (txt t)) := ⟨_, rfl⟩
      rw [← hW4] at hr4 g4
      have hres4 : RwB W4 w.heap.size none 0 0 0 := gr_blk g4 hres3 (by simp; omega)
      have hx4 : RwB W4 w2.heap.size A r.l.length c r.v := gr_blk g4 hx3 (by simp; omega)
      obtain ⟨x0, x1, _, _⟩ := rwb_cells hx4
      have ho4 := ho3.out.kept g4 (by
        cases hb : (Value.slice A r.l.length c).ownBlock with
        | none => exact .inl rfl
        | some k => exact .inr (fun e => by have h1 := (ho3.out.lt k hb).1; have e2 : k = b := Option.some.inj e; omega))
      have hth := rwb_there hres4
      have hsame := World.rangeAt_setCells_same W4 w.heap.size 0 [.slice A r.l.length c, .int .i64 r.v] hth
      have r0 := hsame 0 _ rfl
      have r1' := hsame 1 _ rfl
      simp only [Nat.zero_add] at r0 r1'
      have hgs := gr_setCells W4 w.heap.size 0 [.slice A r.l.length c, .int .i64 r.v]
      have ho5 := ho4.kept hgs (by
        cases hb : (Value.slice A r.l.length c).ownBlock with
        | none => exact .inl rfl
        | some k => exact .inr (fun e => by have h1 := (ho4.lt k hb).1; have e2 : k = w.heap.size := Option.some.inj e; omega))
      have hr5 : Rq.Rdr (W4.setCells w.heap.size 0 [.slice A r.l.length c, .int .i64 r.v]) b t false := gr_blk hgs hr4 (by simp; omega)
      have hgB : GrB b w (W4.setCells w.heap.size 0 [.slice A r.l.length c, .int .i64 r.v]) := rw_end hbl G3 g4 hgs
      replace hr5 := Lib.hid hr5
      replace hgB := Lib.hid hgB
      replace hyes := Lib.hid hyes
      replace ho5 := Lib.hid (own_mono ho5 hs1)
      clear hsame hgs hr4 g4 hres3 hx3 ho4 hx4
      go_upto_region 6 with fail
      rw [← hW4]
      clear hW4
      go_wp2_with (refine wpList_store_mid (op := ⟨none, _, _, _, _, _⟩) rfl 51 _ _ rfl w.heap.size 0 #[.slice A r.l.length c, .int .i64 r.v] rfl rfl hth infoRw (by simp [Value.oneCell']) ?_)
      (try simp only [Exit.inBlock, Exit.then])
      refine bodyPost_ret (by simp [results, Try.results28, go_sem, r0, r1']; try rfl) rfl ?_
      unfold RwPost
      rw [hyes.out]
      exact ⟨A, c, rfl, hr5.out, ho5.out, hgB.out⟩
  · obtain ⟨W3, hW3⟩ : ∃ W3, W3 = w2.alloc (.cells #[.slice none 0 0, .int .i64 0] 51) := ⟨_, rfl⟩
    have g3 : Gr w2 W3 := by rw [hW3]; exact gr_alloc _ _ _
    have gg := gr_trans g2 g3
    have hres3 : RwB W3 w.heap.size none 0 0 0 := gr_blk gg hres.out (by simp)
    have hr3 := Rq.rdr_gr hr1.out gg
    have G3 := gr_trans g1.out gg
    clear c0 c1 f0 f1 hg g3 hr1 hres
    obtain ⟨c0, c1, f0, f1⟩ := Rq.rdr_cells hr3
    have hno := rwS_none (s := (l, bad)) (.inr hgr)
    have hr4 := Rq.rdr_bad hr3 true
    have g4 := gr_set W3 ⟨b, 1, none⟩ (.bool true)
    obtain ⟨W4, hW4⟩ : ∃ W4, W4 = W3.setCell ⟨b, 1, none⟩ (.bool true) := ⟨_, rfl⟩
    rw [← hW4] at hr4 g4
    have hres4 : RwB W4 w.heap.size none 0 0 0 := gr_blk g4 hres3 (by simp; omega)
    have hth := rwb_there hres4
    have hsame := World.rangeAt_setCells_same W4 w.heap.size 0 [.slice none 0 0, .int .i64 0] hth
    have r0 := hsame 0 _ rfl
    have r1' := hsame 1 _ rfl
    simp only [Nat.zero_add] at r0 r1'
    have hgs := gr_setCells W4 w.heap.size 0 [.slice none 0 0, .int .i64 0]
    have hr5 : Rq.Rdr (W4.setCells w.heap.size 0 [.slice none 0 0, .int .i64 0]) b l true := gr_blk hgs hr4 (by simp; omega)
    have hgB : GrB b w (W4.setCells w.heap.size 0 [.slice none 0 0, .int .i64 0]) := rw_end hbl G3 g4 hgs
    replace hr5 := Lib.hid hr5
    replace hgB := Lib.hid hgB
    replace hno := Lib.hid hno
    clear hsame hgs hr4 g4 hres3 hgr hr3
    go_upto_region 2 with fail
    rw [← hW3]
    clear hW3
    cases bad with
    | true =>
      go_upto_region 4 with fail
      rw [← hW4]
      clear hW4
      go_wp2_with (refine wpList_store_mid (op := ⟨none, _, _, _, _, _⟩) rfl 51 _ _ rfl w.heap.size 0 #[.slice none 0 0, .int .i64 0] rfl rfl hth infoRw (by simp [Value.oneCell']) ?_)
      (try simp only [Exit.inBlock, Exit.then])
      refine bodyPost_ret (by simp [results, Try.results28, go_sem, r0, r1']; try rfl) rfl ?_
      unfold RwPost
      rw [hno.out]
      exact ⟨none, 0, rfl, hr5.out, World.ownsRow_nil _ _ _ _, hgB.out⟩
    | false =>
      go_upto_region 4 with fail
      rw [← hW4]
      clear hW4
      go_wp2_with (refine wpList_store_mid (op := ⟨none, _, _, _, _, _⟩) rfl 51 _ _ rfl w.heap.size 0 #[.slice none 0 0, .int .i64 0] rfl rfl hth infoRw (by simp [Value.oneCell']) ?_)
      (try simp only [Exit.inBlock, Exit.then])
      refine bodyPost_ret (by simp [results, Try.results28, go_sem, r0, r1']; try rfl) rfl ?_
      unfold RwPost
      rw [hno.out]
      exact ⟨none, 0, rfl, hr5.out, World.ownsRow_nil _ _ _ _, hgB.out⟩
/-- What opened answers. -/
def OpenPost (l : List UInt8) (w : World) (e : Ending) (w' : World) : Prop := ∃ b, e = .returned (.pointer (some ⟨b, 0, none⟩)) ∧ w.heap.size ≤ b ∧ Rq.Rdr w' b (openS l).1 (openS l).2 ∧ Gr w w'
set_option maxHeartbeats 8000000 in
set_option maxRecDepth 100000 in
theorem opened_any (l : List UInt8) (w : World) (hm : l.length ≤ 1000000000) : Calls Try.prog 26 #[.string (txt l)] w (OpenPost l w) := by
  have hT := take_any (txt l) w (by rw [txt_size]; unfold maxLen; omega)
  rw [txt_data] at hT
  unfold TakeAns at hT
  have hop : openS l = ((Crc.take l).1, decide (¬ ((Crc.take l).2.2 = 0 ∧ (Crc.take l).2.1 = []))) := rfl
  unfold OpenPost
  rw [hop]
  generalize (Crc.take l).1 = x at *
  generalize (Crc.take l).2.1 = r at *
  generalize (Crc.take l).2.2 = er at *
  clear hop
  replace hT := Lib.hid hT
  by_cases he : er = 0
  · subst he
    by_cases hr : r = []
    · have hr0 : r.isEmpty = true := by rw [hr]; rfl
      have hd : decide (¬ ((0 : Int) = 0 ∧ r = [])) = false := decide_eq_false (fun k => k ⟨rfl, hr⟩)
      rw [hd]
      clear hr hd
      go_enter Try.func26, Try.ntmps26
      go_wp2_with fail
      refine hT.out.mono ?_
      rintro e w2 ⟨rfl, g⟩
      go_wp2
      go_ret
      exact ⟨_, rfl, g.size, blk_new w2 _, gr_trans g (gr_alloc _ _ _)⟩
    · have hr0 : r.isEmpty = false := by rw [List.isEmpty_eq_false_iff]; exact hr
      have hd : decide (¬ ((0 : Int) = 0 ∧ r = [])) = true := decide_eq_true (fun k => hr k.2)
      rw [hd]
      clear hr hd
      go_enter Try.func26, Try.ntmps26
      go_wp2_with fail
      refine hT.out.mono ?_
      rintro e w2 ⟨rfl, g⟩
      go_wp2
      go_ret
      exact ⟨_, rfl, g.size, blk_new w2 _, gr_trans g (gr_alloc _ _ _)⟩
  · have e0 : (er == 0) = false := eqF he
    have e1 : (er != 0) = true := by simp [bne, e0]
    have hd : decide (¬ (er = 0 ∧ r = [])) = true := decide_eq_true (fun k => he k.1)
    rw [hd]
    clear hd
    go_enter Try.func26, Try.ntmps26
    go_wp2_with fail
    refine hT.out.mono ?_
    rintro e w2 ⟨rfl, g⟩
    go_wp2
    go_ret
    exact ⟨_, rfl, g.size, blk_new w2 _, gr_trans g (gr_alloc _ _ _)⟩
end Go.Proofs.Ytbnacoakjhhndaa
