/-
  Several facts, one behind the other; no condition but bounds: The document's fewest notes of a state that notes come to. No condition but the machine's numbers.
-/
import Derived.Test.YtmldoeeangekoaaGreatDiaryNotes
import Derived.Test.YtmldoeeangekoaaGreatRFDA
namespace Go.Proofs.YtmldoeeangekoaaGreat
open Go.RowKit

theorem any_last {s : StM} (hi : InvM s) (h0 : s.op ≠ []) : (s.op.any (fun y => y.id == s.next - 1)) = ((s.op.getLast h0).id == s.next - 1) := by
  rw [Bool.eq_iff_iff, List.any_eq_true]
  constructor
  · rintro ⟨y, hy, he⟩
    have he2 : y.id = s.next - 1 := by simpa using he
    have hlast := (hi.ok _ (List.getLast_mem h0)).2
    rcases List.mem_iff_getElem.1 hy with ⟨k, hk, hky⟩
    rw [List.getLast_eq_getElem]
    by_cases hkl : k = s.op.length - 1
    · subst hkl
      rw [hky]
      exact he
    · have hs := List.pairwise_iff_getElem.1 hi.so k (s.op.length - 1) hk (by omega) (by omega)
      rw [hky] at hs
      rw [List.getLast_eq_getElem] at hlast
      omega
  · intro h
    exact ⟨_, List.getLast_mem h0, h⟩
set_option maxHeartbeats 16000000 in
set_option maxRecDepth 100000 in
theorem rfew_any (s : StM) (A : Option Addr) (n c : Nat) (w : World) (hr : Row w A n 5 (sR curC s.op)) (hn : n ≤ 100000) (hinv : InvM s) :
    Calls Tryz.prog 21 #[.agg #[.int .i64 s.next, .int .i64 s.now, .slice A n c, .string (txt s.seg), .int .i64 s.pts]] w fun e w' => ∃ v, e = .returned v ∧ OwnN w' w.heap.size v (fewM s) ∧ Gr w w' := by
  have hl : s.op.length = n := by have := hr.1; rw [sR_len curC 5 curC_len] at this; omega
  have hnx := hinv.nx
  obtain ⟨ii, hi, hz0, hz1, hz2⟩ := info_parts infoNote
  have hw : IntKind.i64.wrap (s.next - 1) = s.next - 1 := IntWalk.i64_in _ (by omega)
  have hfl := few_lens s
  have f1 : few1 s = if 0 < s.next - 1 ∧ (s.op.any (fun y => y.id == s.next - 1)) = false then [⟨2, ⟨s.next - 1, 0, 0, 0, []⟩⟩] else [] := rfl
  have hlast : ∀ (h0 : s.op ≠ []), (s.op.any (fun y => y.id == s.next - 1)) = ((s.op.getLast h0).id == s.next - 1) := fun h0 => any_last hinv h0
  have hnil : s.op = [] → (s.op.any (fun y => y.id == s.next - 1)) = false := fun h => by rw [h]; rfl
  generalize (s.op.any (fun y => y.id == s.next - 1)) = bb at *
  obtain ⟨W0, hW0⟩ : ∃ W0, W0 = w.alloc (.cells #[.int .i64 s.next, .int .i64 s.now, .slice A n c, .string (txt s.seg), .int .i64 s.pts] 54) := ⟨_, rfl⟩
  have g0 : Gr w W0 := by rw [hW0]; exact gr_alloc _ _ _
  have hS0 : W0.heap[w.heap.size]? = some (.cells #[.int .i64 s.next, .int .i64 s.now, .slice A n c, .string (txt s.seg), .int .i64 s.pts] 54 (0, 0)) := by rw [hW0]; exact blk_new _ _
  have e0 : W0.cell? ⟨w.heap.size, 0, none⟩ = some (.int .i64 s.next) := fcellD hS0 rfl
  have e2 : W0.cell? ⟨w.heap.size, 2, none⟩ = some (.slice A n c) := fcellD hS0 rfl
  have hr0 := row_gr hr g0
  replace f1 := Lib.hid f1
  replace hlast := Lib.hid hlast
  replace hnil := Lib.hid hnil
  replace hfl := Lib.hid hfl
  replace hl := Lib.hid hl
  replace hr0 := Lib.hid hr0
  replace g0 := Lib.hid g0
  replace hS0 := Lib.hid hS0
  replace hinv := Lib.hid hinv
  clear hr
  go_enter Tryz.func21, Tryz.ntmps21
  go_upto_region 2 with fail
  rw [← hW0]
  clear hW0
  go_cut [28] (fun qv wx => (∃ q : Bool, qv = .bool q ∧ Hid (few1 s = if q = true then [⟨2, ⟨s.next - 1, 0, 0, 0, []⟩⟩] else [])) ∧ Hid (Gr W0 wx))
  case first =>
    by_cases h1 : 1 < s.next
    · by_cases hn0 : n = 0
      · have hn1 : (n : Int) = 0 := by omega
        have hb : bb = false := hnil.out (List.length_eq_zero_iff.1 (by rw [hl.out]; exact hn0))
        subst hb
        subst hn0
        go_wp2_with fail
        go_quiet (fail)
        rename_i nq
        have gq := gr_drewN W0 nq none
        generalize W0.drewN nq = W3 at *
        clear e0 e2
        go_wp2_with fail
        go_meet
        exact ⟨⟨true, rfl, Lib.hid (by rw [f1.out, if_pos ⟨by omega, by first | rfl | trivial⟩]; rfl)⟩, Lib.hid gq⟩
      · have h0 : s.op ≠ [] := fun h => hn0 (by rw [← hl.out, h]; rfl)
        have hb := hlast.out h0
        obtain ⟨y, B, o, hy, rfl, _, hc⟩ := rowS_elem curC_len hr0.out (by decide) (show n - 1 < n by omega)
        have hyl : s.op.getLast h0 = y := by
          rw [List.getLast_eq_getElem]
          obtain ⟨j1, j2⟩ := List.getElem?_eq_some_iff.1 hy
          rw [← j2]
          congr 1
          have := hl.out
          omega
        rw [hyl] at hb
        have hn1 : ((n : Int) = 0) = False := eq_false (by omega)
        have hn2 : ((n : Int) == 0) = false := eqF (by omega)
        have hwn : IntKind.i64.wrap ((n : Int) - 1) = ((n - 1 : Nat) : Int) := by rw [IntWalk.i64_in _ (by omega)]; omega
        have hwn2 : (n : Int) - 1 = ((n - 1 : Nat) : Int) := by omega
        have d0 : W0.cell? ⟨B, o + (n - 1) * 5, none⟩ = some (.int .i64 y.id) := hc 0 (by decide)
        obtain ⟨m, hm⟩ : ∃ m, m = n - 1 := ⟨_, rfl⟩
        rw [← hm] at hwn hwn2 d0
        have hmn : (m : Int) < (n : Int) := by omega
        have hm0 : (0 : Int) ≤ (m : Int) := by omega
        clear hc hy hyl
        by_cases hq : y.id = s.next - 1
        · have hb2 : bb = true := by rw [hb]; simpa using hq
          have hqe : (y.id == s.next - 1) = true := by simpa using hq
          have hqn : (y.id != s.next - 1) = false := by simpa using hq
          subst hb2
          replace hq := Lib.hid hq
          replace hm := Lib.hid hm
          replace hwn2 := Lib.hid hwn2
          clear hb hn0 h0
          go_wp2_with fail
          go_quiet (fail)
          rename_i nq
          have gq := gr_drewN W0 nq none
          generalize W0.drewN nq = W3 at *
          clear e0 e2 d0
          go_wp2_with fail
          go_meet
          exact ⟨⟨false, rfl, Lib.hid (by rw [f1.out, if_neg (by simp)]; rfl)⟩, Lib.hid gq⟩
        · have hb2 : bb = false := by rw [hb]; simpa using hq
          have hqe : (y.id == s.next - 1) = false := by simpa using hq
          have hqn : (y.id != s.next - 1) = true := by simpa using hq
          subst hb2
          replace hq := Lib.hid hq
          replace hm := Lib.hid hm
          replace hwn2 := Lib.hid hwn2
          clear hb hn0 h0
          go_wp2_with fail
          go_quiet (fail)
          rename_i nq
          have gq := gr_drewN W0 nq none
          generalize W0.drewN nq = W3 at *
          clear e0 e2 d0
          go_wp2_with fail
          go_meet
          exact ⟨⟨true, rfl, Lib.hid (by rw [f1.out, if_pos ⟨by omega, by first | rfl | trivial⟩]; rfl)⟩, Lib.hid gq⟩
    · have h1f : (1 < s.next) = False := eq_false h1
      replace h1 := Lib.hid h1
      go_wp2_with fail
      go_quiet (fail)
      rename_i nq
      have gq := gr_drewN W0 nq none
      generalize W0.drewN nq = W3 at *
      clear e0 e2 h1f
      go_wp2_with fail
      go_meet
      exact ⟨⟨false, rfl, Lib.hid (by rw [f1.out, if_neg (by have := h1.out; omega)]; rfl)⟩, Lib.hid gq⟩
  case rest =>
  obtain ⟨⟨q, rfl, f1'⟩, hgc⟩ := hcut
  obtain ⟨W1, hW1⟩ : ∃ W1, W1 = wc := ⟨_, rfl⟩
  rw [← hW1]
  rw [← hW1] at hgc
  clear hW1
  have hS1 := gr_blk hgc.out hS0.out (by simp)
  replace e0 : W1.cell? ⟨w.heap.size, 0, none⟩ = some (.int .i64 s.next) := fcellD hS1 rfl
  have e1 : W1.cell? ⟨w.heap.size, 1, none⟩ = some (.int .i64 s.now) := fcellD hS1 rfl
  replace e2 : W1.cell? ⟨w.heap.size, 2, none⟩ = some (.slice A n c) := fcellD hS1 rfl
  have e3 : W1.cell? ⟨w.heap.size, 3, none⟩ = some (.string (txt s.seg)) := fcellD hS1 rfl
  have e5 : W1.cell? ⟨w.heap.size, 4, none⟩ = some (.int .i64 s.pts) := fcellD hS1 rfl
  have gw := gr_trans g0.out hgc.out
  have hzw : w.heap.size + 1 ≤ W1.heap.size := lt_of_blk hS1
  have hr1 := row_gr hr0.out hgc.out
  replace hr1 := Lib.hid hr1
  replace gw := Lib.hid gw
  clear hgc hS0 g0 hr0 f1 hlast hnil hS1
  go_upto_if 28 with fail
  go_cut [3] (fun ov wx => Hid (OwnN wx W1.heap.size ov (few1 s)) ∧ Hid (Below W1.heap.size W1 wx))
  case first =>
    cases q with
    | true =>
      have hf : few1 s = [⟨2, ⟨s.next - 1, 0, 0, 0, []⟩⟩] := by rw [f1'.out, if_pos rfl]
      have hbe := Below.refl W1.heap.size W1
      have own0 : W1.ownsRow W1.heap.size 30 6 (.slice none 0 0) 0 [] := World.ownsRow_nil _ _ _ _
      replace own0 := Lib.hid own0
      replace hbe := Lib.hid hbe
      replace hf := Lib.hid hf
      go_wp2_with (at_builtin; refine wpList_append_own _ rfl _ _ 22 rfl W1.heap.size 30 ii (.agg #[.int .i64 0, .int .i64 0, .int .i64 0, .int .i64 0, .int .i64 0, .string ⟨#[]⟩]) 6 56 Tryz.underlying22 hi hz0 hz1 hz2 rfl (by decide) (.slice none 0 0) 0 _ rfl (own0.out.alloc _) ⟨W1.heap.size, 0, none⟩ 1 1 [.int .i64 2, .int .i64 (s.next - 1), .int .i64 0, .int .i64 0, .int .i64 0, .string ⟨#[]⟩] rfl rfl ?c1 ?c2 ?c3 ?c4 ?c5 ?_; rotate_right; intro v' W5 hown5 hgrow _nl; clear _nl; have hb5 := hbe.out.trans (below_append own0.out hgrow hbe.out.size); clear hgrow; replace hown5 := Lib.hid hown5; replace hb5 := Lib.hid hb5)
      try (case c1 =>
        intro j u hj
        have hjl := (List.getElem?_eq_some_iff.1 hj).1
        rw [add_plain, Nat.zero_add, World.cell?_alloc_new]
        simpa using hj)
      try (case c2 => first | exact nteC_ones ⟨2, ⟨s.next - 1, 0, 0, 0, []⟩⟩ | simp [Value.oneCell'])
      try (case c3 => unfold maxLen; omega)
      try (case c4 => omega)
      try (case c5 => first | omega | (simp; omega))
      go_meet
      exact ⟨by rw [hf.out]; exact hown5.out, hb5.out⟩
    | false =>
      have hf : few1 s = [] := by rw [f1'.out, if_neg (by decide)]
      go_wp2_with fail
      go_meet
      exact ⟨by rw [hf]; exact World.ownsRow_nil _ _ _ _, Below.refl _ _⟩
  case rest =>
  clear f1' e0
  have he := Lib.hid (And.intro e1 (And.intro e2 (And.intro e3 e5)))
  clear e1 e2 e3 e5
  obtain ⟨ho, hb⟩ := hcut
  obtain ⟨m, hm⟩ : ∃ m, m = (few1 s).length := ⟨_, rfl⟩
  have hml : m ≤ 1 := by rw [hm]; have := hfl.out; omega
  replace hm := Lib.hid hm
  have hs := hb.out.size
  have g := gr_of_below hb.out (Nat.le_refl _)
  have k1 := gr_cell g he.out.1
  have k2 := gr_cell g he.out.2.1
  have k3 := gr_cell g he.out.2.2.1
  have k5 := gr_cell g he.out.2.2.2
  clear g
  have ho' : wc.ownsRow W1.heap.size 30 6 u3 m (sR nteC (few1 s)) := by rw [hm.out]; exact ho.out
  replace ho' := Lib.hid ho'
  go_upto_if 39 with fail
  go_cut [3] (fun ov wx => Hid (OwnN wx W1.heap.size ov (few1 s ++ few2 s)) ∧ Hid (Below W1.heap.size W1 wx))
  case first =>
    by_cases hq : 0 < s.now
    · have hf : few2 s = [⟨3, ⟨0, 0, 0, s.now, []⟩⟩] := by unfold few2; rw [if_pos hq]
      replace hf := Lib.hid hf
      go_wp2_with (at_builtin; refine wpList_append_own _ rfl _ _ 22 rfl W1.heap.size 30 ii (.agg #[.int .i64 0, .int .i64 0, .int .i64 0, .int .i64 0, .int .i64 0, .string ⟨#[]⟩]) 6 56 Tryz.underlying22 hi hz0 hz1 hz2 rfl (by decide) u3 m _ rfl (ho'.out.alloc _) ⟨wc.heap.size, 0, none⟩ 1 1 [.int .i64 3, .int .i64 0, .int .i64 0, .int .i64 0, .int .i64 s.now, .string ⟨#[]⟩] rfl rfl ?d1 ?d2 ?d3 ?d4 ?d5 ?_; rotate_right; intro v' W5 hown5 hgrow _nl; clear _nl; have hb5 := hb.out.trans (below_append ho'.out hgrow hb.out.size); clear hgrow; replace hown5 := Lib.hid hown5; replace hb5 := Lib.hid hb5)
      try (case d1 =>
        intro j u hj
        have hjl := (List.getElem?_eq_some_iff.1 hj).1
        rw [add_plain, Nat.zero_add, World.cell?_alloc_new]
        simpa using hj)
      try (case d2 => first | exact nteC_ones ⟨3, ⟨0, 0, 0, s.now, []⟩⟩ | simp [Value.oneCell'])
      try (case d3 => unfold maxLen; omega)
      try (case d4 => omega)
      try (case d5 => first | omega | (simp; omega))
      go_meet
      refine ⟨?_, hb5.out⟩
      have h9 := hown5.out
      unfold OwnN
      rw [hf.out, sR_append, sR_one, List.length_append, ← hm.out]
      exact h9
    · have hf : few2 s = [] := by unfold few2; rw [if_neg hq]
      replace hf := Lib.hid hf
      go_wp2_with fail
      go_meet
      exact ⟨by rw [hf.out, List.append_nil]; exact ho.out, hb.out⟩
  case rest =>
  clear ho hb hm hml k1 k2 k3 k5 ho' hs
  obtain ⟨ho, hb⟩ := hcut
  obtain ⟨m, hm⟩ : ∃ m, m = (few1 s ++ few2 s).length := ⟨_, rfl⟩
  have hml : m ≤ 2 := by rw [hm]; have := hfl.out; omega
  replace hm := Lib.hid hm
  have hs := hb.out.size
  have g := gr_of_below hb.out (Nat.le_refl _)
  have k1 := gr_cell g he.out.1
  have k2 := gr_cell g he.out.2.1
  have k3 := gr_cell g he.out.2.2.1
  have k5 := gr_cell g he.out.2.2.2
  clear g
  have ho' : wc.ownsRow W1.heap.size 30 6 u3 m (sR nteC (few1 s ++ few2 s)) := by rw [hm.out]; exact ho.out
  replace ho' := Lib.hid ho'
  go_upto_if 49 with fail
  go_cut [3] (fun ov wx => Hid (OwnN wx W1.heap.size ov (few1 s ++ few2 s ++ few3 s)) ∧ Hid (Below W1.heap.size W1 wx))
  case first =>
    by_cases hq : ¬ s.seg = []
    · have hf : few3 s = [⟨4, ⟨0, s.pts, 0, 0, s.seg⟩⟩] := by unfold few3; rw [if_neg hq]
      replace hf := Lib.hid hf
      rw [show (!s.seg.isEmpty) = true by simp [hq]]
      go_wp2_with (at_builtin; refine wpList_append_own _ rfl _ _ 22 rfl W1.heap.size 30 ii (.agg #[.int .i64 0, .int .i64 0, .int .i64 0, .int .i64 0, .int .i64 0, .string ⟨#[]⟩]) 6 56 Tryz.underlying22 hi hz0 hz1 hz2 rfl (by decide) u3 m _ rfl (ho'.out.alloc _) ⟨wc.heap.size, 0, none⟩ 1 1 [.int .i64 4, .int .i64 0, .int .i64 s.pts, .int .i64 0, .int .i64 0, .string (txt s.seg)] rfl rfl ?e1 ?e2 ?e3 ?e4 ?e5 ?_; rotate_right; intro v' W5 hown5 hgrow _nl; clear _nl; have hb5 := hb.out.trans (below_append ho'.out hgrow hb.out.size); clear hgrow; replace hown5 := Lib.hid hown5; replace hb5 := Lib.hid hb5)
      try (case e1 =>
        intro j u hj
        have hjl := (List.getElem?_eq_some_iff.1 hj).1
        rw [add_plain, Nat.zero_add, World.cell?_alloc_new]
        simpa using hj)
      try (case e2 => first | exact nteC_ones ⟨4, ⟨0, s.pts, 0, 0, s.seg⟩⟩ | simp [Value.oneCell'])
      try (case e3 => unfold maxLen; omega)
      try (case e4 => omega)
      try (case e5 => first | omega | (simp; omega))
      go_meet
      refine ⟨?_, hb5.out⟩
      have h9 := hown5.out
      unfold OwnN
      rw [hf.out, sR_append, sR_one, List.length_append, ← hm.out]
      exact h9
    · have hf : few3 s = [] := by unfold few3; rw [if_pos (Classical.not_not.1 hq)]
      replace hf := Lib.hid hf
      rw [show (!s.seg.isEmpty) = false by simp [Classical.not_not.1 hq]]
      go_wp2_with fail
      go_meet
      exact ⟨by rw [hf.out, List.append_nil]; exact ho.out, hb.out⟩
  case rest =>
  clear ho hb hm hml k1 k2 k3 k5 ho' hs
  obtain ⟨ho, hb⟩ := hcut
  obtain ⟨m, hm⟩ : ∃ m, m = (few1 s ++ few2 s ++ few3 s).length := ⟨_, rfl⟩
  have hml : m ≤ 3 := by rw [hm]; have := hfl.out; omega
  replace hm := Lib.hid hm
  have hs := hb.out.size
  have g := gr_of_below hb.out (Nat.le_refl _)
  have k1 := gr_cell g he.out.1
  have k2 := gr_cell g he.out.2.1
  have k3 := gr_cell g he.out.2.2.1
  have k5 := gr_cell g he.out.2.2.2
  clear g
  have ho' : wc.ownsRow W1.heap.size 30 6 u3 m (sR nteC (few1 s ++ few2 s ++ few3 s)) := by rw [hm.out]; exact ho.out
  replace ho' := Lib.hid ho'
  have hpar := few_parts s
  generalize few1 s ++ few2 s ++ few3 s = F at *
  replace hpar := Lib.hid hpar
  replace he := Lib.hid he
  clear ho hfl
  go_wp2_with fail
  go_loopw [3, 4] (fun ov iv wr => ∃ k : Nat, k ≤ n ∧ iv = .int .i64 k ∧ Hid (wr.ownsRow W1.heap.size 30 6 ov (m + k) (sR nteC (F ++ (s.op.take k).map opN))) ∧ Hid (Below W1.heap.size W1 wr)) (fun _ iv _ => n - (intOf iv).toNat)
  case atStart => exact ⟨0, Nat.zero_le _, rfl, Lib.hid (by simpa using ho'.out), hb.out⟩
  case round =>
    obtain ⟨k, hk, rfl, hown, hbel⟩ := hrel
    have hsr := hbel.out.size
    by_cases hlt : k < n
    · obtain ⟨x, B, o, hx, rfl, _, hc⟩ := rowS_elem curC_len (row_gr hr1.out (gr_of_below hbel.out (Nat.le_refl _))) (by decide) hlt
      have hki : (k : Int) < (n : Int) := by omega
      have hk0 : (0 : Int) ≤ (k : Int) := by omega
      have d0 : wr.cell? ⟨B, o + k * 5, none⟩ = some (.int .i64 x.id) := hc 0 (by decide)
      have d1 : wr.cell? ⟨B, o + k * 5 + 1, none⟩ = some (.int .i64 x.rows) := hc 1 (by decide)
      have d2 : wr.cell? ⟨B, o + k * 5 + 2, none⟩ = some (.int .i64 x.size) := hc 2 (by decide)
      have d3 : wr.cell? ⟨B, o + k * 5 + 3, none⟩ = some (.int .i64 x.tl) := hc 3 (by decide)
      have d4 : wr.cell? ⟨B, o + k * 5 + 4, none⟩ = some (.string (txt x.file)) := hc 4 (by decide)
      have q2 := gr_cell (gr_of_below hbel.out (Nat.le_refl _)) he.out.out.2.1
      clear hc k1 k2 k3 k5
      replace hx := Lib.hid hx
      go_wp2_with (at_builtin; refine wpList_append_own _ rfl _ _ 22 rfl W1.heap.size 30 ii (.agg #[.int .i64 0, .int .i64 0, .int .i64 0, .int .i64 0, .int .i64 0, .string ⟨#[]⟩]) 6 56 Tryz.underlying22 hi hz0 hz1 hz2 rfl (by decide) u3 (m + k) _ rfl (hown.out.alloc _) ⟨wr.heap.size, 0, none⟩ 1 1 [.int .i64 1, .int .i64 x.id, .int .i64 x.rows, .int .i64 x.size, .int .i64 x.tl, .string (txt x.file)] rfl rfl ?f1 ?f2 ?f3 ?f4 ?f5 ?_; rotate_right; intro v' W5 hown5 hgrow _nl; clear _nl; have hb5 := hbel.out.trans (below_append hown.out hgrow hsr); clear hgrow; replace hown5 := Lib.hid hown5; replace hb5 := Lib.hid hb5)
      try (case f1 =>
        intro j u hj
        have hjl := (List.getElem?_eq_some_iff.1 hj).1
        rw [add_plain, Nat.zero_add, World.cell?_alloc_new]
        simpa using hj)
      try (case f2 => first | exact nteC_ones ⟨1, x⟩ | simp [Value.oneCell'])
      try (case f3 => unfold maxLen; omega)
      try (case f4 => omega)
      try (case f5 => first | omega | (simp; omega))
      go_roundw
      case rel =>
        refine ⟨k + 1, by omega, by go_num, ?_, hb5.out⟩
        rw [take_step hx.out, List.map_append, ← List.append_assoc]
        show Hid (World.ownsRow _ _ _ _ _ (m + (k + 1)) (sR nteC ((F ++ (s.op.take k).map opN) ++ [opN x])))
        rw [sR_append, sR_one, ← Nat.add_assoc]
        exact hown5.out
      case measure => simp [intOf]; omega
    · obtain rfl : k = n := by omega
      have hop : s.op.take k = s.op := by rw [List.take_of_length_le (Nat.le_of_eq hl.out)]
      have hfin : OwnN wr W1.heap.size u3 (fewM s) := by
        have h9 := hown.out
        rw [hop] at h9
        unfold OwnN
        rw [hpar.out, List.length_append, List.length_map, hl.out, ← hm.out]
        exact h9
      replace hfin := Lib.hid hfin
      have q2 := gr_cell (gr_of_below hbel.out (Nat.le_refl _)) he.out.out.2.1
      clear k1 k2 k3 k5
      go_wp2
      go_ret
      exact ⟨u3, rfl, own_mono hfin.out gw.out.size, gr_trans gw.out (gr_of_below hbel.out (Nat.le_refl _))⟩
end Go.Proofs.YtmldoeeangekoaaGreat
