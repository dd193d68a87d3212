/-
  diary.Notes of any state that notes come to. No condition but the machine's numbers.
-/
import Derived.Test.YtmldoeeangekoaaGreatDiaryFoldMath
import Derived.Deep.CutBlock
namespace Go.Proofs.YtmldoeeangekoaaGreat
open Go.RowKit

/-- The fewest notes, part by part. -/
def few1 (s : StM) : List Nte := if 0 < s.next - 1 ∧ (s.op.any (fun y => y.id == s.next - 1)) = false then [⟨2, ⟨s.next - 1, 0, 0, 0, []⟩⟩] else []
def few2 (s : StM) : List Nte := if 0 < s.now then [⟨3, ⟨0, 0, 0, s.now, []⟩⟩] else []
def few3 (s : StM) : List Nte := if s.seg = [] then [] else [⟨4, ⟨0, s.pts, 0, 0, s.seg⟩⟩]
theorem few_parts (s : StM) : fewM s = few1 s ++ few2 s ++ few3 s ++ s.op.map opN := rfl
theorem few_lens (s : StM) : (few1 s).length ≤ 1 ∧ (few1 s ++ few2 s).length ≤ 2 ∧ (few1 s ++ few2 s ++ few3 s).length ≤ 3 := by
  have h1 : (few1 s).length ≤ 1 := by unfold few1; split <;> simp
  have h2 : (few2 s).length ≤ 1 := by unfold few2; split <;> simp
  have h3 : (few3 s).length ≤ 1 := by unfold few3; split <;> simp
  simp only [List.length_append]
  omega
/-- A list of notes of the call's own. -/
def OwnN (w : World) (base : Nat) (v : Value) (l : List Nte) : Prop := w.ownsRow base 30 6 v l.length (sR nteC l)
theorem ownN_gr {w w' : World} {base : Nat} {v : Value} {l : List Nte} (h : OwnN w base v l) (g : Gr w w') : OwnN w' base v l := World.ownsRow.kept h g (by cases v.ownBlock <;> simp)
set_option maxHeartbeats 16000000 in
set_option maxRecDepth 100000 in
theorem dnotes_any (s : StM) (A : Option Addr) (n c : Nat) (w : World) (hr : Row w A n 5 (sR curC s.op)) (hn : n ≤ 100000) (hnx : 1 ≤ s.next ∧ s.next ≤ 1000001) :
    Calls Tryz.prog 18 #[.agg #[.int .i64 s.next, .int .i64 s.now, .slice A n c, .string (txt s.seg), .int .i64 s.pts]] w fun e w' => ∃ v, e = .returned v ∧ OwnN w' w.heap.size v (fewM s) ∧ Gr w w' := by
  have hl : s.op.length = n := by have := hr.1; rw [sR_len curC 5 curC_len] at this; omega
  obtain ⟨ii, hi, hz0, hz1, hz2⟩ := info_parts infoNote
  have hw : IntKind.i64.wrap (s.next - 1) = s.next - 1 := IntWalk.i64_in _ (by omega)
  have cC := fun W hW hH => dcon_notes (fun W => W.cell? ⟨w.heap.size + 1, 0, none⟩ = some (.int .i64 (s.next - 1))) (fun y => y.id == s.next - 1) (.pointer (some ⟨w.heap.size + 1, 0, none⟩)) (fun x W hW => pnotes_any x (w.heap.size + 1) (s.next - 1) W hW) (fun W W' h g => gr_cell g h) A n c s.op W hW (by omega) hH
  have hfl := few_lens s
  replace cC := Lib.hid cC
  replace hr := Lib.hid hr
  replace hl := Lib.hid hl
  replace hfl := Lib.hid hfl
  go_enter Tryz.func18, Tryz.ntmps18
  go_wp2_with fail
  obtain ⟨W0, hW0⟩ : ∃ W0, W0 = (w.alloc (.cells #[.int .i64 s.next, .int .i64 s.now, .slice A n c, .string (txt s.seg), .int .i64 s.pts] 56)).alloc (.cells #[.int .i64 (s.next - 1)] 3) := ⟨_, rfl⟩
  rw [← hW0]
  have hzs : (w.alloc (.cells #[.int .i64 s.next, .int .i64 s.now, .slice A n c, .string (txt s.seg), .int .i64 s.pts] 56)).heap.size = w.heap.size + 1 := by simp
  have g0 : Gr w W0 := by rw [hW0]; exact gr_trans (gr_alloc _ _ _) (gr_alloc _ _ _)
  have hlast : W0.cell? ⟨w.heap.size + 1, 0, none⟩ = some (.int .i64 (s.next - 1)) := by rw [hW0, ← hzs, World.cell?_alloc_new]; rfl
  have hcs : ∀ j v, (#[.int .i64 s.next, .int .i64 s.now, .slice A n c, .string (txt s.seg), .int .i64 s.pts] : Array Value)[j]? = some v → W0.cell? ⟨w.heap.size, j, none⟩ = some v := fun j v hj => by rw [hW0]; exact gr_cell (gr_alloc _ _ none) (by rw [World.cell?_alloc_new]; exact hj)
  refine (cC.out W0 (row_gr hr.out g0) hlast).mono ?_
  rintro e W1 ⟨rfl, g1⟩
  have e4 := gr_cell g1 hlast
  have e1 : W1.cell? ⟨w.heap.size, 1, none⟩ = some (.int .i64 s.now) := gr_cell g1 (hcs 1 _ rfl)
  have e2 : W1.cell? ⟨w.heap.size, 2, none⟩ = some (.slice A n c) := gr_cell g1 (hcs 2 _ rfl)
  have e3 : W1.cell? ⟨w.heap.size, 3, none⟩ = some (.string (txt s.seg)) := gr_cell g1 (hcs 3 _ rfl)
  have e5 : W1.cell? ⟨w.heap.size, 4, none⟩ = some (.int .i64 s.pts) := gr_cell g1 (hcs 4 _ rfl)
  have hr1 := row_gr hr.out (gr_trans g0 g1)
  have gw := gr_trans g0 g1
  have hzw : w.heap.size + 2 ≤ W1.heap.size := by have := g1.size; rw [hW0] at this; simp at this; omega
  have f1 : few1 s = if 0 < s.next - 1 ∧ (s.op.any (fun y => y.id == s.next - 1)) = false then [⟨2, ⟨s.next - 1, 0, 0, 0, []⟩⟩] else [] := rfl
  generalize (s.op.any (fun y => y.id == s.next - 1)) = bb at *
  replace f1 := Lib.hid f1
  replace hr1 := Lib.hid hr1
  replace gw := Lib.hid gw
  replace hr := Lib.hid hr
  clear hcs hlast g0 g1 hzs hW0 cC
  go_upto_region 4 with fail
  go_cut [20] (fun qv wx => (∃ q : Bool, qv = .bool q ∧ Hid (few1 s = if q = true then [⟨2, ⟨s.next - 1, 0, 0, 0, []⟩⟩] else [])) ∧ W1 = wx)
  case first =>
    by_cases h0 : 0 < s.next - 1
    · cases bb with
      | true =>
        go_wp2_with fail
        go_meet
        exact ⟨⟨false, rfl, by rw [f1.out, if_neg (by simp)]; rfl⟩, rfl⟩
      | false =>
        replace f1 := Lib.hid f1
        go_wp2_with fail
        go_meet
        exact ⟨⟨true, rfl, by rw [f1.out.out, if_pos ⟨h0, by first | rfl | trivial⟩]; rfl⟩, rfl⟩
    · go_wp2_with fail
      go_meet
      exact ⟨⟨false, rfl, by rw [f1.out, if_neg (by omega)]; rfl⟩, rfl⟩
  case rest =>
  obtain ⟨⟨q, rfl, f1'⟩, rfl⟩ := hcut
  clear f1
  go_upto_if 20 with fail
  go_cut [3] (fun ov wx => Hid (OwnN wx W1.heap.size ov (few1 s)) ∧ Hid (Below W1.heap.size W1 wx))
  case first =>
    cases q with
    | true =>
      have hf : few1 s = [⟨2, ⟨s.next - 1, 0, 0, 0, []⟩⟩] := by rw [f1'.out, if_pos rfl]
      have hbe := Below.refl W1.heap.size W1
      have own0 : W1.ownsRow W1.heap.size 30 6 (.slice none 0 0) 0 [] := World.ownsRow_nil _ _ _ _
      replace own0 := Lib.hid own0
      replace hbe := Lib.hid hbe
      replace hf := Lib.hid hf
      go_wp2_with (at_builtin; refine wpList_append_own _ rfl _ _ 22 rfl W1.heap.size 30 ii (.agg #[.int .i64 0, .int .i64 0, .int .i64 0, .int .i64 0, .int .i64 0, .string ⟨#[]⟩]) 6 56 Tryz.underlying22 hi hz0 hz1 hz2 rfl (by decide) (.slice none 0 0) 0 _ rfl (own0.out.alloc _) ⟨W1.heap.size, 0, none⟩ 1 1 [.int .i64 2, .int .i64 (s.next - 1), .int .i64 0, .int .i64 0, .int .i64 0, .string ⟨#[]⟩] rfl rfl ?c1 ?c2 ?c3 ?c4 ?c5 ?_; rotate_right; intro v' W5 hown5 hgrow _nl; clear _nl; have hb5 := hbe.out.trans (below_append own0.out hgrow hbe.out.size); clear hgrow; replace hown5 := Lib.hid hown5; replace hb5 := Lib.hid hb5)
      try (case c1 =>
        intro j u hj
        have hjl := (List.getElem?_eq_some_iff.1 hj).1
        rw [add_plain, Nat.zero_add, World.cell?_alloc_new]
        simpa using hj)
      try (case c2 => first | exact nteC_ones ⟨2, ⟨s.next - 1, 0, 0, 0, []⟩⟩ | simp [Value.oneCell'])
      try (case c3 => unfold maxLen; omega)
      try (case c4 => omega)
      try (case c5 => first | omega | (simp; omega))
      go_meet
      exact ⟨by rw [hf.out]; exact hown5.out, hb5.out⟩
    | false =>
      have hf : few1 s = [] := by rw [f1'.out, if_neg (by decide)]
      go_wp2_with fail
      go_meet
      exact ⟨by rw [hf]; exact World.ownsRow_nil _ _ _ _, Below.refl _ _⟩
  case rest =>
  clear f1' e4
  have he := Lib.hid (And.intro e1 (And.intro e2 (And.intro e3 e5)))
  clear e1 e2 e3 e5
  obtain ⟨ho, hb⟩ := hcut
  obtain ⟨m, hm⟩ : ∃ m, m = (few1 s).length := ⟨_, rfl⟩
  have hml : m ≤ 1 := by rw [hm]; have := hfl.out; omega
  replace hm := Lib.hid hm
  have hs := hb.out.size
  have g := gr_of_below hb.out (Nat.le_refl _)
  have k1 := gr_cell g he.out.1
  have k2 := gr_cell g he.out.2.1
  have k3 := gr_cell g he.out.2.2.1
  have k5 := gr_cell g he.out.2.2.2
  clear g
  have ho' : wc.ownsRow W1.heap.size 30 6 u3 m (sR nteC (few1 s)) := by rw [hm.out]; exact ho.out
  replace ho' := Lib.hid ho'
  go_upto_if 29 with fail
  go_cut [3] (fun ov wx => Hid (OwnN wx W1.heap.size ov (few1 s ++ few2 s)) ∧ Hid (Below W1.heap.size W1 wx))
  case first =>
    by_cases hq : 0 < s.now
    · have hf : few2 s = [⟨3, ⟨0, 0, 0, s.now, []⟩⟩] := by unfold few2; rw [if_pos hq]
      replace hf := Lib.hid hf
      go_wp2_with (at_builtin; refine wpList_append_own _ rfl _ _ 22 rfl W1.heap.size 30 ii (.agg #[.int .i64 0, .int .i64 0, .int .i64 0, .int .i64 0, .int .i64 0, .string ⟨#[]⟩]) 6 56 Tryz.underlying22 hi hz0 hz1 hz2 rfl (by decide) u3 m _ rfl (ho'.out.alloc _) ⟨wc.heap.size, 0, none⟩ 1 1 [.int .i64 3, .int .i64 0, .int .i64 0, .int .i64 0, .int .i64 s.now, .string ⟨#[]⟩] rfl rfl ?d1 ?d2 ?d3 ?d4 ?d5 ?_; rotate_right; intro v' W5 hown5 hgrow _nl; clear _nl; have hb5 := hb.out.trans (below_append ho'.out hgrow hb.out.size); clear hgrow; replace hown5 := Lib.hid hown5; replace hb5 := Lib.hid hb5)
      try (case d1 =>
        intro j u hj
        have hjl := (List.getElem?_eq_some_iff.1 hj).1
        rw [add_plain, Nat.zero_add, World.cell?_alloc_new]
        simpa using hj)
      try (case d2 => first | exact nteC_ones ⟨3, ⟨0, 0, 0, s.now, []⟩⟩ | simp [Value.oneCell'])
      try (case d3 => unfold maxLen; omega)
      try (case d4 => omega)
      try (case d5 => first | omega | (simp; omega))
      go_meet
      refine ⟨?_, hb5.out⟩
      have h9 := hown5.out
      unfold OwnN
      rw [hf.out, sR_append, sR_one, List.length_append, ← hm.out]
      exact h9
    · have hf : few2 s = [] := by unfold few2; rw [if_neg hq]
      replace hf := Lib.hid hf
      go_wp2_with fail
      go_meet
      exact ⟨by rw [hf.out, List.append_nil]; exact ho.out, hb.out⟩
  case rest =>
  clear ho hb hm hml k1 k2 k3 k5 ho' hs
  obtain ⟨ho, hb⟩ := hcut
  obtain ⟨m, hm⟩ : ∃ m, m = (few1 s ++ few2 s).length := ⟨_, rfl⟩
  have hml : m ≤ 2 := by rw [hm]; have := hfl.out; omega
  replace hm := Lib.hid hm
  have hs := hb.out.size
  have g := gr_of_below hb.out (Nat.le_refl _)
  have k1 := gr_cell g he.out.1
  have k2 := gr_cell g he.out.2.1
  have k3 := gr_cell g he.out.2.2.1
  have k5 := gr_cell g he.out.2.2.2
  clear g
  have ho' : wc.ownsRow W1.heap.size 30 6 u3 m (sR nteC (few1 s ++ few2 s)) := by rw [hm.out]; exact ho.out
  replace ho' := Lib.hid ho'
  go_upto_if 39 with fail
  go_cut [3] (fun ov wx => Hid (OwnN wx W1.heap.size ov (few1 s ++ few2 s ++ few3 s)) ∧ Hid (Below W1.heap.size W1 wx))
  case first =>
    by_cases hq : ¬ s.seg = []
    · have hf : few3 s = [⟨4, ⟨0, s.pts, 0, 0, s.seg⟩⟩] := by unfold few3; rw [if_neg hq]
      replace hf := Lib.hid hf
      rw [show (!s.seg.isEmpty) = true by simp [hq]]
      go_wp2_with (at_builtin; refine wpList_append_own _ rfl _ _ 22 rfl W1.heap.size 30 ii (.agg #[.int .i64 0, .int .i64 0, .int .i64 0, .int .i64 0, .int .i64 0, .string ⟨#[]⟩]) 6 56 Tryz.underlying22 hi hz0 hz1 hz2 rfl (by decide) u3 m _ rfl (ho'.out.alloc _) ⟨wc.heap.size, 0, none⟩ 1 1 [.int .i64 4, .int .i64 0, .int .i64 s.pts, .int .i64 0, .int .i64 0, .string (txt s.seg)] rfl rfl ?e1 ?e2 ?e3 ?e4 ?e5 ?_; rotate_right; intro v' W5 hown5 hgrow _nl; clear _nl; have hb5 := hb.out.trans (below_append ho'.out hgrow hb.out.size); clear hgrow; replace hown5 := Lib.hid hown5; replace hb5 := Lib.hid hb5)
      try (case e1 =>
        intro j u hj
        have hjl := (List.getElem?_eq_some_iff.1 hj).1
        rw [add_plain, Nat.zero_add, World.cell?_alloc_new]
        simpa using hj)
      try (case e2 => first | exact nteC_ones ⟨4, ⟨0, s.pts, 0, 0, s.seg⟩⟩ | simp [Value.oneCell'])
      try (case e3 => unfold maxLen; omega)
      try (case e4 => omega)
      try (case e5 => first | omega | (simp; omega))
      go_meet
      refine ⟨?_, hb5.out⟩
      have h9 := hown5.out
      unfold OwnN
      rw [hf.out, sR_append, sR_one, List.length_append, ← hm.out]
      exact h9
    · have hf : few3 s = [] := by unfold few3; rw [if_pos (Classical.not_not.1 hq)]
      replace hf := Lib.hid hf
      rw [show (!s.seg.isEmpty) = false by simp [Classical.not_not.1 hq]]
      go_wp2_with fail
      go_meet
      exact ⟨by rw [hf.out, List.append_nil]; exact ho.out, hb.out⟩
  case rest =>
  clear ho hb hm hml k1 k2 k3 k5 ho' hs
  obtain ⟨ho, hb⟩ := hcut
  obtain ⟨m, hm⟩ : ∃ m, m = (few1 s ++ few2 s ++ few3 s).length := ⟨_, rfl⟩
  have hml : m ≤ 3 := by rw [hm]; have := hfl.out; omega
  replace hm := Lib.hid hm
  have hs := hb.out.size
  have g := gr_of_below hb.out (Nat.le_refl _)
  have k1 := gr_cell g he.out.1
  have k2 := gr_cell g he.out.2.1
  have k3 := gr_cell g he.out.2.2.1
  have k5 := gr_cell g he.out.2.2.2
  clear g
  have ho' : wc.ownsRow W1.heap.size 30 6 u3 m (sR nteC (few1 s ++ few2 s ++ few3 s)) := by rw [hm.out]; exact ho.out
  replace ho' := Lib.hid ho'
  have hpar := few_parts s
  generalize few1 s ++ few2 s ++ few3 s = F at *
  replace hpar := Lib.hid hpar
  replace he := Lib.hid he
  clear ho hfl
  go_wp2_with fail
  go_loopw [3, 52] (fun ov iv wr => ∃ k : Nat, k ≤ n ∧ iv = .int .i64 k ∧ Hid (wr.ownsRow W1.heap.size 30 6 ov (m + k) (sR nteC (F ++ (s.op.take k).map opN))) ∧ Hid (Below W1.heap.size W1 wr)) (fun _ iv _ => n - (intOf iv).toNat)
  case atStart => exact ⟨0, Nat.zero_le _, rfl, Lib.hid (by simpa using ho'.out), hb.out⟩
  case round =>
    obtain ⟨k, hk, rfl, hown, hbel⟩ := hrel
    have hsr := hbel.out.size
    by_cases hlt : k < n
    · obtain ⟨x, B, o, hx, rfl, _, hc⟩ := rowS_elem curC_len (row_gr hr1.out (gr_of_below hbel.out (Nat.le_refl _))) (by decide) hlt
      have hki : (k : Int) < (n : Int) := by omega
      have hk0 : (0 : Int) ≤ (k : Int) := by omega
      have d0 : wr.cell? ⟨B, o + k * 5, none⟩ = some (.int .i64 x.id) := hc 0 (by decide)
      have d1 : wr.cell? ⟨B, o + k * 5 + 1, none⟩ = some (.int .i64 x.rows) := hc 1 (by decide)
      have d2 : wr.cell? ⟨B, o + k * 5 + 2, none⟩ = some (.int .i64 x.size) := hc 2 (by decide)
      have d3 : wr.cell? ⟨B, o + k * 5 + 3, none⟩ = some (.int .i64 x.tl) := hc 3 (by decide)
      have d4 : wr.cell? ⟨B, o + k * 5 + 4, none⟩ = some (.string (txt x.file)) := hc 4 (by decide)
      clear hc k1 k2 k3 k5
      have hz3 : (wr.alloc (.cells #[.int .i64 x.id, .int .i64 x.rows, .int .i64 x.size, .int .i64 x.tl, .string (txt x.file)] 28)).heap.size = wr.heap.size + 1 := by simp
      replace hz3 := Lib.hid hz3
      replace hx := Lib.hid hx
      go_wp2_with (at_builtin; refine wpList_append_own _ rfl _ _ 22 rfl W1.heap.size 30 ii (.agg #[.int .i64 0, .int .i64 0, .int .i64 0, .int .i64 0, .int .i64 0, .string ⟨#[]⟩]) 6 56 Tryz.underlying22 hi hz0 hz1 hz2 rfl (by decide) u3 (m + k) _ rfl ((show (wr.alloc (.cells #[.int .i64 x.id, .int .i64 x.rows, .int .i64 x.size, .int .i64 x.tl, .string (txt x.file)] 28)).ownsRow W1.heap.size 30 6 u3 (m + k) (sR nteC (F ++ (s.op.take k).map opN)) from hown.out.alloc _).alloc _) ⟨wr.heap.size + 1, 0, none⟩ 1 1 [.int .i64 1, .int .i64 x.id, .int .i64 x.rows, .int .i64 x.size, .int .i64 x.tl, .string (txt x.file)] rfl rfl ?f1 ?f2 ?f3 ?f4 ?f5 ?_; rotate_right; intro v' W5 hown5 hgrow _nl; clear _nl; have hb5 := (show Below W1.heap.size W1 (wr.alloc (.cells #[.int .i64 x.id, .int .i64 x.rows, .int .i64 x.size, .int .i64 x.tl, .string (txt x.file)] 28)) from below_gr hbel.out (gr_alloc _ _ none) hsr (by simp)).trans (below_append (show (wr.alloc (.cells #[.int .i64 x.id, .int .i64 x.rows, .int .i64 x.size, .int .i64 x.tl, .string (txt x.file)] 28)).ownsRow W1.heap.size 30 6 u3 (m + k) (sR nteC (F ++ (s.op.take k).map opN)) from hown.out.alloc _) hgrow (show Below W1.heap.size W1 (wr.alloc (.cells #[.int .i64 x.id, .int .i64 x.rows, .int .i64 x.size, .int .i64 x.tl, .string (txt x.file)] 28)) from below_gr hbel.out (gr_alloc _ _ none) hsr (by simp)).size); clear hgrow; replace hown5 := Lib.hid hown5; replace hb5 := Lib.hid hb5)
      try (case f1 =>
        intro j u hj
        have hjl := (List.getElem?_eq_some_iff.1 hj).1
        rw [add_plain, Nat.zero_add, ← hz3.out, World.cell?_alloc_new]
        simpa using hj)
      try (case f2 => first | exact nteC_ones ⟨1, x⟩ | simp [Value.oneCell'])
      try (case f3 => unfold maxLen; omega)
      try (case f4 => omega)
      try (case f5 => first | omega | (simp; omega))
      go_roundw
      case rel =>
        refine ⟨k + 1, by omega, by go_num, ?_, hb5.out⟩
        rw [take_step hx.out, List.map_append, ← List.append_assoc]
        show Hid (World.ownsRow _ _ _ _ _ (m + (k + 1)) (sR nteC ((F ++ (s.op.take k).map opN) ++ [opN x])))
        rw [sR_append, sR_one, ← Nat.add_assoc]
        exact hown5.out
      case measure => simp [intOf]; omega
    · obtain rfl : k = n := by omega
      have hop : s.op.take k = s.op := by rw [List.take_of_length_le (Nat.le_of_eq hl.out)]
      have hfin : OwnN wr W1.heap.size u3 (fewM s) := by
        have h9 := hown.out
        rw [hop] at h9
        unfold OwnN
        rw [hpar.out, List.length_append, List.length_map, hl.out, ← hm.out]
        exact h9
      replace hfin := Lib.hid hfin
      clear k1 k2 k3 k5
      go_wp2
      go_ret
      exact ⟨u3, rfl, own_mono hfin.out gw.out.size, gr_trans gw.out (gr_of_below hbel.out (Nat.le_refl _))⟩
end Go.Proofs.YtmldoeeangekoaaGreat
