/-
  The laws' first call answers true. No condition.
-/
import Derived.Test.YtbnacoakjhhndaaAskReply
namespace Go.Proofs.Ytbnacoakjhhndaa
open Go.RowKit

def RpB (w : World) (b : Nat) (x y : Int) (t : List UInt8) : Prop := w.heap[b]? = some (.cells #[.int .i64 x, .int .i64 y, .string (txt t), .slice none 0 0] 45 (0, 0))
theorem rpb_cells {w : World} {b : Nat} {x y : Int} {t : List UInt8} (h : RpB w b x y t) : w.cell? ⟨b, 0, none⟩ = some (.int .i64 x) ∧ w.cell? ⟨b, 1, none⟩ = some (.int .i64 y) ∧ w.cell? ⟨b, 2, none⟩ = some (.string (txt t)) ∧ w.cell? ⟨b, 3, none⟩ = some (.slice none 0 0) := ⟨fcellR h rfl, fcellR h rfl, fcellR h rfl, fcellR h rfl⟩
theorem rpb_there {w : World} {b : Nat} {x y : Int} {t : List UInt8} (h : RpB w b x y t) : w.there b 0 4 := fun j hj => ⟨by
  obtain ⟨c0, c1, c2, c3⟩ := rpb_cells h
  match j, hj with
  | 0, _ => rw [c0]; rfl
  | 1, _ => rw [c1]; rfl
  | 2, _ => rw [c2]; rfl
  | 3, _ => rw [c3]; rfl
  | j + 4, hj => omega, fzeroR h _⟩
theorem infoRp : (Try.prog.info? 45).map (·.size) = some 4 := by kernel_rfl
/-- What is at hand while the reply is read. -/
structure RrAt (w wr : World) (b p : Nat) (l : List UInt8) (x y : Int) (t : List UInt8) : Prop where
  res : RpB wr w.heap.size 0 0 []
  rdr : Rq.Rdr wr b l false
  out : RpB wr p x y t
  bel : Below w.heap.size w wr
  hb : w.heap.size < b
  hp : b < p
theorem rrAt_gr {w wr w2 : World} {b p : Nat} {l : List UInt8} {x y : Int} {t : List UInt8} (h : RrAt w wr b p l x y t) (g : Gr wr w2) : RrAt w w2 b p l x y t :=
  ⟨gr_blk g h.res (by simp), Rq.rdr_gr h.rdr g, gr_blk g h.out (by simp), below_gr h.bel g h.bel.size (by simp), h.hb, h.hp⟩
theorem rrAt_rd {w wr w2 : World} {b p : Nat} {l l2 : List UInt8} {x y : Int} {t : List UInt8} (h : RrAt w wr b p l x y t) (hr : Rq.Rdr w2 b l2 false) (g : GrB b wr w2) : RrAt w w2 b p l2 x y t :=
  ⟨gr_blk g h.res (by have := h.hb; simp; omega), hr, gr_blk g h.out (by have := h.hp; simp; omega), below_gr h.bel g h.bel.size (by intro j hj; cases hj; have := h.hb; omega), h.hb, h.hp⟩
theorem rrAt_set {w wr : World} {b p : Nat} {l : List UInt8} {x y x2 y2 : Int} {t t2 : List UInt8} (h : RrAt w wr b p l x y t) (j : Nat) (v : Value) (ho : RpB (wr.setCell ⟨p, j, none⟩ v) p x2 y2 t2) : RrAt w (wr.setCell ⟨p, j, none⟩ v) b p l x2 y2 t2 := by
  have g := gr_set wr ⟨p, j, none⟩ v
  have h1 := h.hb
  have h2 := h.hp
  exact ⟨gr_blk g h.res (by simp; omega), gr_blk g h.rdr (by simp; omega), ho, below_gr h.bel g h.bel.size (by intro j hj; cases hj; simp; omega), h1, h2⟩
theorem open_rep : openS (Crc.frm repB) = (repB, false) := by
  have ht := Crc.take_frm repB [] (by decide)
  rw [List.append_nil] at ht
  unfold openS
  rw [ht]
  simp
theorem num_step (b n : Nat) (l x l2 : List UInt8) (N : Nat) (w : World) (h : Rq.Rdr w b l false) (hn : n ≤ 6) (hm : l.length ≤ 100) (hx : tkS n (l, false) = (x, (l2, false))) (hN : dvN x = N) : Calls Try.prog 27 #[.pointer (some ⟨b, 0, none⟩), .int .i64 n] w fun e w' => Rq.RdPost b w e w' (.int .i64 N) l2 false := by
  have := Rq.num_any b n l false w h hn (by omega)
  rw [hx] at this
  simp only at this
  rw [hN] at this
  exact this
set_option maxHeartbeats 16000000 in
set_option maxRecDepth 100000 in
theorem readReply0_any (w : World) : Calls Try.prog 17 #[.string (txt (Crc.frm repB))] w fun e w' => e = .returned (.tuple #[repV, .int .i64 0]) ∧ Gr w w' := by
  have hop := fun W => opened_any (Crc.frm repB) W (by rw [Crc.frm_length]; decide)
  unfold OpenPost at hop
  rw [open_rep] at hop
  have cRp := fun W => reply0_any W
  unfold repV at cRp ⊢
  have hrl : repB = [0, 0, 0, 0, 3, 4, 112, 51, 46, 48, 0] := rfl
  generalize hF : Crc.frm repB = F at *
  rw [hrl] at hop
  have hFF : (F == F) = true := beq_self_eq_true F
  obtain ⟨W1, hW1⟩ : ∃ W1, W1 = w.alloc (.cells #[.int .i64 0, .int .i64 0, .string ⟨#[]⟩, .slice none 0 0] 45) := ⟨_, rfl⟩
  have g1 : Gr w W1 := by rw [hW1]; exact gr_alloc _ _ _
  have hres : RpB W1 w.heap.size 0 0 [] := by rw [hW1]; exact blk_new w _
  have hs1 : W1.heap.size = w.heap.size + 1 := by rw [hW1]; simp
  replace hop := Lib.hid hop
  replace cRp := Lib.hid cRp
  replace hres := Lib.hid hres
  replace g1 := Lib.hid g1
  replace hs1 := Lib.hid hs1
  clear hrl hF
  go_enter Try.func17, Try.ntmps17
  go_upto_region 1 with fail
  rw [← hW1]
  clear hW1
  go_wp2_with fail
  refine (hop.out _).mono ?_
  rintro e W2 ⟨bb, rfl, hbb, hrd2, g2⟩
  have hnum := num_step bb 1 _ [0] [0, 0, 0, 3, 4, 112, 51, 46, 48, 0] 0 W2 hrd2 (by decide) (by decide) (by decide +kernel) (by decide +kernel)
  have hres2 : RpB W2 w.heap.size 0 0 [] := gr_blk g2 hres.out (by simp)
  have G2 := gr_trans g1.out g2
  replace hnum := Lib.hid hnum
  clear hop hrd2 g2 hres
  go_wp2_with fail
  refine hnum.out.mono ?_
  rintro e W3 ⟨rfl, hrd3, g3⟩
  obtain ⟨W4, hW4⟩ : ∃ W4, W4 = W3.alloc (.cells #[.int .i64 0, .int .i64 0, .string ⟨#[]⟩, .slice none 0 0] 45) := ⟨_, rfl⟩
  have g4 : Gr W3 W4 := by rw [hW4]; exact gr_alloc _ _ _
  have st4 : RrAt w W4 bb W3.heap.size [0, 0, 0, 3, 4, 112, 51, 46, 48, 0] 0 0 [] := by
    have hs := hs1.out
    refine ⟨gr_blk g4 (gr_blk g3 hres2 (by simp; omega)) (by simp), Rq.rdr_gr hrd3 g4, ?_, ?_, by omega, lt_of_blk hrd3⟩
    · rw [hW4]; exact blk_new W3 _
    · have b2 := gr_below G2
      have b3 := below_gr b2 g3 b2.size (by intro k hk; cases hk; omega)
      exact below_gr b3 g4 b3.size (by simp)
  obtain ⟨p, hpp⟩ : ∃ p, p = W3.heap.size := ⟨_, rfl⟩
  rw [← hpp] at st4
  replace hpp := Lib.hid hpp
  replace st4 := Lib.hid st4
  clear hnum hrd3 g3 g4 hres2 G2 g1 hs1
  go_upto_region 3 with fail
  rw [← hW4, ← hpp.out]
  clear hW4 hpp
  have hnum := num_step bb 4 _ [0, 0, 0, 3] [4, 112, 51, 46, 48, 0] 3 W4 st4.out.rdr (by decide) (by decide) (by decide +kernel) (by decide +kernel)
  replace hnum := Lib.hid hnum
  go_wp2_with fail
  refine hnum.out.mono ?_
  rintro e W5 ⟨rfl, hrd, g⟩
  have st5 := rrAt_rd st4.out hrd g
  obtain ⟨q0, q1, q2, q3⟩ := rpb_cells st5.out
  have f1 : W5.frozen? ⟨p, 1, none⟩ = false := fzeroR st5.out 1
  have st6 := rrAt_set st5 1 (.int .i64 3) (x2 := 0) (y2 := 3) (t2 := []) (blk_set st5.out 1 _)
  obtain ⟨W6, hW6⟩ : ∃ W6, W6 = W5.setCell ⟨p, 1, none⟩ (.int .i64 3) := ⟨_, rfl⟩
  rw [← hW6] at st6
  replace st6 := Lib.hid st6
  clear hnum hrd g st5 st4
  go_upto_region 4 with fail
  rw [← hW6]
  clear hW6 q0 q1 q2 q3 f1
  have hnum := num_step bb 1 _ [4] [112, 51, 46, 48, 0] 4 W6 st6.out.rdr (by decide) (by decide) (by decide +kernel) (by decide +kernel)
  replace hnum := Lib.hid hnum
  go_wp2_with fail
  refine hnum.out.mono ?_
  rintro e W7 ⟨rfl, hrd, g⟩
  have st7 := rrAt_rd st6.out hrd g
  have htk : Calls Try.prog 29 #[.pointer (some ⟨bb, 0, none⟩), .int .i64 (4 : Nat)] W7 fun e w' => Rq.RdPost bb W7 e w' (.string (txt [112, 51, 46, 48])) [0] false := by
    have := Rq.take_any bb 4 [112, 51, 46, 48, 0] false W7 st7.rdr (by decide) (by decide)
    rw [show tkS 4 ([112, 51, 46, 48, 0], false) = ([112, 51, 46, 48], ([0], false)) from by decide +kernel] at this
    exact this
  replace htk := Lib.hid htk
  replace st7 := Lib.hid st7
  clear hnum hrd g st6
  go_wp2_with fail
  refine htk.out.mono ?_
  rintro e W8 ⟨rfl, hrd, g⟩
  have st8 := rrAt_rd st7.out hrd g
  obtain ⟨q0, q1, q2, q3⟩ := rpb_cells st8.out
  have f2 : W8.frozen? ⟨p, 2, none⟩ = false := fzeroR st8.out 2
  have st9 := rrAt_set st8 2 (.string (txt [112, 51, 46, 48])) (x2 := 0) (y2 := 3) (t2 := [112, 51, 46, 48]) (blk_set st8.out 2 _)
  obtain ⟨W9, hW9⟩ : ∃ W9, W9 = W8.setCell ⟨p, 2, none⟩ (.string (txt [112, 51, 46, 48])) := ⟨_, rfl⟩
  rw [← hW9] at st9
  replace st9 := Lib.hid st9
  clear htk hrd g st8 st7
  go_upto_region 5 with fail
  rw [← hW9]
  clear hW9 q0 q1 q2 q3 f2
  have hnum := num_step bb 1 _ [0] [] 0 W9 st9.out.rdr (by decide) (by decide) (by decide +kernel) (by decide +kernel)
  replace hnum := Lib.hid hnum
  go_wp2_with fail
  refine hnum.out.mono ?_
  rintro e W10 ⟨rfl, hrd, g⟩
  have st10 := rrAt_rd st9.out hrd g
  obtain ⟨q0, q1, q2, q3⟩ := rpb_cells st10.out
  replace st10 := Lib.hid st10
  clear hnum hrd g st9
  go_wp2
  refine wp_loop_rounds 1 ?_
  rw [rounds_succ]
  go_wp2_with fail
  refine (cRp.out _).mono ?_
  rintro e W11 ⟨rfl, g11⟩
  have st11 := rrAt_gr st10.out g11
  clear q0 q1 q2 q3 g11 st10
  obtain ⟨q0, q1, q2, q3⟩ := rpb_cells st11.out
  obtain ⟨c0, c1, _, _⟩ := Rq.rdr_cells st11.rdr
  have hth := rpb_there st11.res
  have hsame := World.rangeAt_setCells_same W11 w.heap.size 0 [.int .i64 0, .int .i64 3, .string (txt [112, 51, 46, 48]), .slice none 0 0] hth
  have r0 := hsame 0 _ rfl
  have r1 := hsame 1 _ rfl
  have r2 := hsame 2 _ rfl
  have r3 := hsame 3 _ rfl
  simp only [Nat.zero_add] at r0 r1 r2 r3
  have hgs := gr_setCells W11 w.heap.size 0 [.int .i64 0, .int .i64 3, .string (txt [112, 51, 46, 48]), .slice none 0 0]
  have hgf : Gr w (W11.setCells w.heap.size 0 [.int .i64 0, .int .i64 3, .string (txt [112, 51, 46, 48]), .slice none 0 0]) := gr_of_below (below_gr st11.bel hgs st11.bel.size (by intro k hk; cases hk; exact Nat.le_refl _)) (Nat.le_refl _)
  replace hgf := Lib.hid hgf
  clear hsame hgs st11
  go_wp2_with (refine wpList_store_mid (op := ⟨none, _, _, _, _, _⟩) rfl 45 _ _ rfl w.heap.size 0 #[.int .i64 0, .int .i64 3, .string (txt [112, 51, 46, 48]), .slice none 0 0] rfl rfl hth infoRp (by simp [Value.oneCell']) ?_)
  (try simp only [Exit.inBlock, Exit.then])
  refine bodyPost_ret (by simp [results, Try.results17, go_sem, r0, r1, r2, r3]; try rfl) rfl ?_
  exact ⟨rfl, hgf.out⟩
def aq0 : Aq := ⟨3, [], [99, 112, 117], 5, 10, 7⟩
theorem aq0_ok : okA aq0 := by decide +kernel
theorem aq2_ok : okA ⟨2, [], [], 0, 0, 0⟩ := by decide +kernel
theorem aqOk_nil (w : World) (q : Aq) (h : q.l = []) (ht : q.t.length ≤ 1000) (hb : 0 ≤ q.b ∧ q.b ≤ 1000) : AqOk w none 0 0 q := ⟨by rw [h]; rfl, by decide, by omega, fun _ => ⟨rfl, rfl⟩, by rw [h]; exact row_nil _ _ _, by rw [h]; intro x hx; simp at hx, by omega⟩
theorem isAsk_inj {b : List UInt8} {q : Aq} (ho : okA q) (e : b = askL q) : IsAskL b ∧ (readA b).1 = q := by subst e; exact ⟨isAsk_of ho, by rw [read_ask ho]⟩
set_option maxHeartbeats 16000000 in
set_option maxRecDepth 100000 in
theorem alive_any (w : World) : Calls Try.prog 7 #[] w fun e w' => e = .returned (.bool true) ∧ Gr w w' := by
  have cA := ask_any none 0 0 aq0 w (aqOk_nil w aq0 rfl (by decide) (by decide))
  unfold AskPost at cA
  rw [if_pos aq0_ok] at cA
  obtain ⟨F, hF⟩ : ∃ F, F = askL aq0 := ⟨_, rfl⟩
  have hFl : F.length ≤ 100000 := by rw [hF]; unfold askL; rw [Crc.frm_length]; have := bodyL_len aq0_ok; omega
  obtain ⟨his, hq⟩ := isAsk_inj aq0_ok hF
  rw [← hF] at cA
  have cB := fun W => readAsk_any F W hFl
  unfold ReadPost at cB
  rw [hq] at cB
  have cC := fun W => reply0_any W
  have cD := fun W => readReply0_any W
  have cE := fun W => aright_any none 0 0 ⟨2, [], [], 0, 0, 0⟩ W (aqOk_nil W ⟨2, [], [], 0, 0, 0⟩ rfl (by decide) (by decide))
  rw [decide_eq_true aq2_ok] at cE
  unfold aqV aq0 at cA cB
  unfold aqV at cE
  simp only at cA cB cE
  unfold repV at cC cD
  generalize Crc.frm repB = R at *
  replace cA := Lib.hid cA
  replace cB := Lib.hid cB
  replace cC := Lib.hid cC
  replace cD := Lib.hid cD
  replace cE := Lib.hid cE
  replace his := Lib.hid his
  clear hF hq hFl
  go_enter Try.func7, Try.ntmps7
  go_wp2_with fail
  refine cA.out.mono ?_
  rintro e W1 ⟨rfl, g1⟩
  go_wp2_with fail
  refine (cB.out _).mono ?_
  rintro e W2 ⟨⟨_, A, c, rfl, hown⟩ | ⟨hno, rfl⟩, g2⟩
  · obtain ⟨W3, hW3⟩ : ∃ W3, W3 = W2.alloc (.cells #[.int .i64 3, .slice A 0 c, .string (txt [99, 112, 117]), .int .i64 5, .int .i64 10, .int .i64 7] 24) := ⟨_, rfl⟩
    have g3 : Gr W2 W3 := by rw [hW3]; exact gr_alloc _ _ _
    have hb3 : AqB W3 W2.heap.size 3 A 0 c [99, 112, 117] 5 10 7 := by rw [hW3]; exact blk_new W2 _
    have G3 := gr_trans g1 (gr_trans g2 g3)
    replace hb3 := Lib.hid hb3
    replace G3 := Lib.hid G3
    clear hown g1 g2 g3 cA cB
    go_upto_region 3 with fail
    rw [← hW3]
    clear hW3
    go_wp2_with fail
    refine (cC.out _).mono ?_
    rintro e W4 ⟨rfl, g4⟩
    go_wp2_with fail
    refine (cD.out _).mono ?_
    rintro e W5 ⟨rfl, g5⟩
    obtain ⟨W6, hW6⟩ : ∃ W6, W6 = W5.alloc (.cells #[.int .i64 0, .int .i64 3, .string (txt [112, 51, 46, 48]), .slice none 0 0] 45) := ⟨_, rfl⟩
    have g6 : Gr W5 W6 := by rw [hW6]; exact gr_alloc _ _ _
    have hr6 : RpB W6 W5.heap.size 0 3 [112, 51, 46, 48] := by rw [hW6]; exact blk_new W5 _
    have hb6 : AqB W6 W2.heap.size 3 A 0 c [99, 112, 117] 5 10 7 := gr_blk (gr_trans g4 (gr_trans g5 g6)) hb3.out (by simp)
    have G6 := gr_trans G3.out (gr_trans g4 (gr_trans g5 g6))
    obtain ⟨p0, p1, p2, p3⟩ := rpb_cells hr6
    obtain ⟨q0, q1, q2, q3, q4, q5⟩ := aqb_cells hb6
    replace G6 := Lib.hid G6
    clear hr6 hb6 g4 g5 g6 G3 hb3 cC cD
    go_upto_region 5 with fail
    rw [← hW6]
    clear hW6
    go_wp2_with fail
    refine (cE.out _).mono ?_
    rintro e W7 ⟨rfl, g7⟩
    go_wp2
    go_ret
    exact ⟨rfl, gr_trans G6.out g7⟩
  · exact absurd his.out hno
end Go.Proofs.Ytbnacoakjhhndaa
