/-
  What the ref's Rank answers. No condition but a bound on the length.
-/
import Derived.Test.YtoickcaccielkaaInsMath
import Derived.Test.YtoickcaccielkaaLentInts
import Derived.Test.YtoickcaccielkaaFixedRefSum
import Derived.Test.YtoickcaccielkaaRegionOwn
import Derived.Deep.RegionHeld3
namespace Go.Proofs.Ytoickcaccielkaa
open Go.RowKit

theorem refRank_bad (p : Int) (A : Option Addr) (n c : Nat) (w : World) (h : n = 0 ∨ p < 0 ∨ 100 < p) (hp : -9223372036854775808 ≤ p ∧ p ≤ 9223372036854775807) (hn : n ≤ maxLen) :
    Calls Try.prog 23 #[.int .i64 p, .slice A n c] w fun e w' => e = .returned (.tuple #[.int .i64 0, .bool false]) ∧ w = w' := by
  unfold maxLen at hn
  by_cases h0 : n = 0
  · subst h0
    go_enter Try.func23, Try.ntmps23
    go_wp2
    go_ret2
    exact ⟨rfl, rfl⟩
  · have nz : ((n : Int) == 0) = false := eqF (by omega)
    by_cases h1 : p < 0
    · go_enter Try.func23, Try.ntmps23
      go_wp2
      go_ret2
      exact ⟨rfl, rfl⟩
    · have h2 : 100 < p := by omega
      go_enter Try.func23, Try.ntmps23
      go_wp2
      go_ret2
      exact ⟨rfl, rfl⟩


/-- What a drawn region keeps: nothing old turns, and this cell holds this. -/
abbrev SF (wr : World) (a : Addr) (v : Value) (w' : World) : Prop := Below wr.heap.size wr w' ∧ w'.cell? a = some v
theorem sf_drew {wr w' : World} {a : Addr} {v : Value} (h : SF wr a v w') : SF wr a v w'.drew := ⟨h.1.drew, h.2⟩
theorem sf_alloc {wr w' : World} {a : Addr} {v : Value} (hb : a.block < wr.heap.size) (hc : wr.cell? a = some v) (h : SF wr a v w') (o : Obj) : SF wr a v (w'.alloc o) := by
  have h1 := h.1.alloc h.1.size o
  exact ⟨h1, (h1.cell hb).trans hc⟩
theorem sf_grown {wr w' w'' : World} {a : Addr} {v : Value} {row : Option Nat} (hb : a.block < wr.heap.size) (hc : wr.cell? a = some v) (h : SF wr a v w') (g : w'.grownBy w'' row) (hr : ∀ k, row = some k → wr.heap.size ≤ k) : SF wr a v w'' := by
  have h1 := h.1.grown g h.1.size hr
  exact ⟨h1, (h1.cell hb).trans hc⟩
theorem row_heap {w w' : World} (h : w'.heap = w.heap) {A : Option Addr} {n size : Nat} {xs : List Value} (hr : Row w A n size xs) : Row w' A n size xs := by
  refine ⟨hr.1, fun j u hj => ?_⟩
  obtain ⟨B, o, e, hb, hc⟩ := hr.2 j u hj
  exact ⟨B, o, e, by rw [h]; exact hb, by unfold World.cell? at hc ⊢; rw [h]; exact hc⟩
theorem sf_size {wr w' : World} {a : Addr} {v : Value} (h : SF wr a v w') : wr.heap.size ≤ w'.heap.size := h.1.size
theorem sf_gr {wr w' : World} {a : Addr} {v : Value} (h : SF wr a v w') : Gr wr w' := gr_of_below h.1 (Nat.le_refl _)
theorem ints_one (l : List Int) : ∀ u ∈ l.map (Value.int .i64), u.oneCell' = true := by
  intro u hu
  obtain ⟨z, _, rfl⟩ := List.mem_map.1 hu
  simp [Value.oneCell']
theorem le_more {S : List Int} {q : Nat} {x y : Int} (h : S[q]? = some y) (hp : ∀ y ∈ S.take q, y ≤ x) (hyx : y ≤ x) : ∀ y ∈ S.take (q + 1), y ≤ x := by
  rw [take_next h]
  intro z hz
  rcases List.mem_append.1 hz with hz | hz
  · exact hp z hz
  · simp at hz; subst hz; exact hyx

set_option maxHeartbeats 2000000 in
set_option maxRecDepth 100000 in
theorem refRank_any (p : Nat) (A : Option Addr) (n c : Nat) (zs : List Int) (w : World) (hp : p ≤ 100) (h0 : 0 < n) (hn : n ≤ 1000) (hr : Row w A n 1 (zs.map (.int .i64))) :
    Calls Try.prog 23 #[.int .i64 p, .slice A n c] w (RankPost p zs w) := by
  have hl : zs.length = n := by simpa using hr.1
  have nz : ((n : Int) == 0) = false := eqF (by omega)
  have p1 : decide ((p : Int) < 0) = false := decide_eq_false (by omega)
  have p2 : decide (100 < (p : Int)) = false := decide_eq_false (by omega)
  obtain ⟨ii, hi, hz0, hz1, hz2⟩ := info_parts infoInt'
  replace hl := Lib.hid hl
  replace hr := Lib.hid hr
  go_enter Try.func23, Try.ntmps23
  go_wp2
  go_loopw [6, 7] (fun s i wr => ∃ (k : Nat) (S : List Int) (A' : Option Addr) (c' : Nat), k ≤ n ∧ i = .int .i64 k ∧ s = .slice A' k c' ∧ k ≤ c' ∧ c' ≤ 9223372036854775807 ∧ Hid (A' = none → c' = 0) ∧ Hid (Row wr A' k 1 (S.map (.int .i64))) ∧ Hid (SortedI S) ∧ Hid (S.Perm (zs.take k)) ∧ Hid (Gr w wr)) (fun _ i _ => n - (intOf i).toNat)
  case atStart => exact ⟨0, [], none, 0, Nat.zero_le _, rfl, rfl, Nat.le_refl _, by omega, fun _ => rfl, row_nil _ _ _, List.Pairwise.nil, by simp [Hid], gr_refl _ _⟩
  case round =>
    obtain ⟨k, S, A', c', hk, rfl, rfl, hc1, hc2, hnone, hrow, hso, hpe, hg⟩ := hrel
    have hSl : S.length = k := by have := hrow.out.1; simpa using this
    replace hSl := Lib.hid hSl
    by_cases hlt : k < n
    · obtain ⟨x, B, o, hx, rfl, hcx⟩ := row_elem (row_gr hr.out hg.out) hlt
      replace hx := Lib.hid hx
      replace hcx := Lib.hid hcx
      obtain ⟨wo, rfl⟩ : ∃ wo : World, wo = wr := ⟨_, rfl⟩
      go_wp2
      go_loopw [8] (fun j W => ∃ q : Nat, q ≤ k ∧ j = .int .i64 q ∧ Hid (∀ y ∈ S.take q, y ≤ x) ∧ Hid (Gr wo W)) (fun j _ => k - (intOf j).toNat)
      case atStart => exact ⟨0, Nat.zero_le _, rfl, (by intro y hy; simp at hy), gr_refl _ _⟩
      case round =>
        obtain ⟨q, hq, rfl, hle, hgi⟩ := hrel
        have hcx' := gr_cell hgi.out hcx.out
        by_cases hmore : q < k ∧ ∀ y, S[q]? = some y → y ≤ x
        · obtain ⟨hqk, hmy⟩ := hmore
          obtain ⟨y, hyk⟩ : ∃ y, S[q]? = some y := ⟨_, List.getElem?_eq_getElem (by rw [hSl.out]; exact hqk)⟩
          have hyx := hmy y hyk
          clear hmy
          obtain ⟨Bs, os, rfl, _, hcy⟩ := (row_gr hrow.out hgi.out).2 q (.int .i64 y) (by simp [hyk])
          replace hyk := Lib.hid hyk
          have hq1 : (q : Int) < k := by omega
          go_wp2_with fail
          go_quiet (fail)
          go_wp2
          go_roundw
          case rel => exact ⟨q + 1, by omega, by go_num, le_more hyk.out hle.out hyx, gr_trans hgi.out (gr_drewN _ _ _)⟩
          case measure => simp [intOf]; omega
        · have hend : ∀ y, S[q]? = some y → x < y := by
            intro y hy
            have hqk : q < k := by have := (List.getElem?_eq_some_iff.1 hy).1; rw [hSl.out] at this; exact this
            rcases Int.lt_or_le x y with h' | h'
            · exact h'
            · exfalso
              apply hmore
              refine ⟨hqk, fun z hz => ?_⟩
              rw [hy] at hz
              rw [← Option.some.inj hz]
              exact h'
          replace hend := Lib.hid hend
          clear hmore
          have hSq : (S.take q).length = q := by rw [List.length_take, hSl.out]; omega
          have hbl : B < wo.heap.size := by
            have := (row_gr hr.out hg.out).2 k (.int .i64 x) (by simp [hx.out])
            obtain ⟨B', o', e', hB', _⟩ := this
            have e2 := Option.some.inj e'
            injection e2 with e3
            rw [e3]; exact hB'
          have hcw := hcx.out
          have hrt := row_take hrow.out q hq
          rw [Nat.mul_one, ← List.map_take] at hrt
          replace hSq := Lib.hid hSq
          replace hrt := Lib.hid hrt
          replace hbl := Lib.hid hbl
          replace hcw := Lib.hid hcw
          have hq0 : (0 : Int) ≤ (q : Int) := by omega
          have hqc : (q : Int) ≤ (c' : Int) := by omega
          have hqkI : (q : Int) ≤ (k : Int) := by omega
          by_cases hqk : q < k
          · obtain ⟨y, hyk⟩ : ∃ y, S[q]? = some y := ⟨_, List.getElem?_eq_getElem (by rw [hSl.out]; exact hqk)⟩
            have hyx := hend.out y hyk
            obtain ⟨Bs, os, rfl, _, hcy⟩ := (row_gr hrow.out hgi.out).2 q (.int .i64 y) (by simp [hyk])
            replace hyk := Lib.hid hyk
            have hq1 : (q : Int) < k := by omega
            go_wp2_with fail
            go_quiet (fail)
            go_wp2_with fail
            have hb0 : SF wo ⟨B, o + k, none⟩ (.int .i64 x) (wr.drewN nq) := ⟨(gr_below hgi.out).trans (gr_below (gr_drewN _ _ _) |> fun h => ⟨h.os, h.tape, h.output, h.size, fun i hi => h.block i (by have := hgi.out.size; omega)⟩), gr_cell (gr_trans hgi.out (gr_drewN _ _ _)) hcw.out⟩
            have hrd : ∀ _u : Unit, Row wo (if c' = q then some ⟨Bs, os, none⟩ else some ⟨Bs, os + q, none⟩) (k - q) 1 ((S.drop q).map (.int .i64)) := fun _ => by
              have := row_drop hrow.out q (if c' = q then some ⟨Bs, os, none⟩ else some ⟨Bs, os + q, none⟩) (fun B' o' e' _ => by
                have e2 := Option.some.inj e'
                injection e2 with e3 e4
                subst e3 e4
                rw [if_neg (by omega), Nat.mul_one]) (by omega)
              rwa [Nat.mul_one, ← List.map_drop] at this
            have hao : ∀ _u : Unit, (if c' = q then some (⟨Bs, os, none⟩ : Addr) else some ⟨Bs, os + q, none⟩) = none → c' - q = 0 := fun _ h => by split at h <;> cases h
            replace hrd := Lib.hid hrd
            replace hao := Lib.hid hao
            go_region_held3 (fun w' => Below wo.heap.size wo w' ∧ w'.cell? ⟨B, o + k, none⟩ = some (.int .i64 x)) (first | assumption | exact sf_drew (wr := wo) (a := ⟨B, o + k, none⟩) (v := (.int .i64 x)) (by assumption) | exact sf_alloc (wr := wo) (a := ⟨B, o + k, none⟩) (v := (.int .i64 x)) hbl.out hcw.out (by assumption) _) (first | (refine step_append_row2 (o := ⟨some 46, _, _, _, _, _⟩) (by rfl) _ _ 30 (by rfl) wo.heap.size 3 ii (.int .i64 0) 8 Try.underlying30 hi hz0 hz1 hz2 (by decide) (.slice none 0 0) (0) ([]) (by rfl) (by exact World.ownsRow_nil _ _ _ _) _ _ _ ((S.take q).map (.int .i64)) (by rfl) (by exact hnone.out) (by exact row_gr hrt.out (sf_gr (show SF wo ⟨B, o + k, none⟩ (.int .i64 x) _ from by assumption))) (ints_one _) (q) ((S.take q).map (.int .i64)) (by omega) (by rfl) (by unfold maxLen; omega) (by omega) (by exact sf_size (show SF wo ⟨B, o + k, none⟩ (.int .i64 x) _ from by assumption)) ?_; intro v1 W1 hown1 hgrow1; have hsf1 := sf_grown (wr := wo) (a := ⟨B, o + k, none⟩) (v := (.int .i64 x)) hbl.out hcw.out (by assumption) hgrow1 (by simp [Value.ownBlock])) | (refine step_append_row2 (o := ⟨some 56, _, _, _, _, _⟩) (by rfl) _ _ 30 (by rfl) wo.heap.size 3 ii (.int .i64 0) 8 Try.underlying30 hi hz0 hz1 hz2 (by decide) v2 (q + 1) ((S.take q ++ [x]).map (.int .i64)) (by rfl) (by first | exact hown2 | exact hown2.kept (gr_drew W2 none) (by cases v2.ownBlock <;> simp)) _ _ _ ((S.drop q).map (.int .i64)) (by rfl) (by exact hao.out ()) (by exact row_gr (hrd.out ()) (sf_gr (show SF wo ⟨B, o + k, none⟩ (.int .i64 x) _ from by assumption))) (ints_one _) (k + 1) ((S.take q ++ [x] ++ S.drop q).map (.int .i64)) (by omega) (by simp) (by unfold maxLen; omega) (by omega) (by exact sf_size (show SF wo ⟨B, o + k, none⟩ (.int .i64 x) _ from by assumption)) ?_; intro v3 W3 hown3 hgrow3; have hsf3 := sf_grown (wr := wo) (a := ⟨B, o + k, none⟩) (v := (.int .i64 x)) hbl.out hcw.out (by assumption) hgrow3 (fun j hj => (hown2.lt j hj).1)) | (refine step_append_row2 (o := ⟨some 52, _, _, _, _, _⟩) (by rfl) _ _ 30 (by rfl) wo.heap.size 3 ii (.int .i64 0) 8 Try.underlying30 hi hz0 hz1 hz2 (by decide) v1 (q) ((S.take q).map (.int .i64)) (by rfl) (by first | exact hown1 | exact hown1.alloc _ | exact (hown1.kept (gr_drew W1 none) (by cases v1.ownBlock <;> simp)).alloc _ | exact (hown1.alloc _).kept (gr_drew _ none) (by cases v1.ownBlock <;> simp)) _ _ _ ([x].map (.int .i64)) (by rfl) (by simp) (by first | exact row_new W1 #[.int .i64 x] 3 1 rfl | exact row_gr (by exact row_heap (w := wr.alloc (.cells #[.int .i64 x] 3)) (by rfl) (row_new wr #[.int .i64 x] 3 1 rfl)) hgrow1 | exact row_gr (row_new W1 #[.int .i64 x] 3 1 rfl) (gr_drew _ none)) (ints_one _) (q + 1) ((S.take q ++ [x]).map (.int .i64)) (by omega) (by simp) (by unfold maxLen; omega) (by omega) (by exact sf_size (show SF wo ⟨B, o + k, none⟩ (.int .i64 x) _ from by assumption)) ?_; intro v2 W2 hown2 hgrow2; have hsf2 := sf_grown (wr := wo) (a := ⟨B, o + k, none⟩) (v := (.int .i64 x)) hbl.out hcw.out (by assumption) hgrow2 (fun j hj => (hown1.lt j hj).1)))
            all_goals
              obtain ⟨A3, c3, rfl, hc31, hc32, hn3, hr3⟩ := own_slice hown3
              have hG3 : Gr wo W3 := sf_gr (wr := wo) (a := ⟨B, o + k, none⟩) (v := .int .i64 x) (by assumption)
              have hins := ins_sorted hso.out (by rw [hSl.out]; exact hq) hle.out (by exact hend.out)
              have hprm := ins_perm S q x hpe.out
              rw [← take_next hx.out] at hprm
              replace hn3 := Lib.hid hn3
              replace hr3 := Lib.hid hr3
              replace hG3 := Lib.hid hG3
              replace hins := Lib.hid hins
              replace hprm := Lib.hid hprm
              clear hown3 hgrow3 hown2 hgrow2 hown1 hgrow1 hsf1 hsf2 hsf3
              go_wp2
              go_roundw
              case rel => exact ⟨k + 1, S.take q ++ [x] ++ S.drop q, A3, c3, by omega, by go_num, rfl, hc31, hc32, hn3, hr3, hins, hprm, gr_trans hg.out hG3.out⟩
              case measure => simp [intOf]; omega
          · have hq1 : decide ((q : Int) < (k : Int)) = false := decide_eq_false (by omega)
            go_wp2_with fail
            go_quiet (fail)
            go_wp2_with fail
            have hb0 : SF wo ⟨B, o + k, none⟩ (.int .i64 x) (wr.drewN nq) := ⟨(gr_below hgi.out).trans (gr_below (gr_drewN _ _ _) |> fun h => ⟨h.os, h.tape, h.output, h.size, fun i hi => h.block i (by have := hgi.out.size; omega)⟩), gr_cell (gr_trans hgi.out (gr_drewN _ _ _)) hcw.out⟩
            have hrd : ∀ AA : Option Addr, Row wo AA (k - q) 1 ((S.drop q).map (.int .i64)) := fun AA => by
              rw [List.drop_of_length_le (by rw [hSl.out]; omega), show k - q = 0 by omega]
              exact row_nil _ _ _
            have hao : ∀ _u : Unit, (if c' = q then A' else Option.map (fun z => z.add q) A') = none → c' - q = 0 := fun _ h => by
              have h0 := hnone.out
              cases A' with
              | none => have := h0 rfl; omega
              | some a' => split at h <;> simp at h
            replace hrd := Lib.hid hrd
            replace hao := Lib.hid hao
            go_region_held3 (fun w' => Below wo.heap.size wo w' ∧ w'.cell? ⟨B, o + k, none⟩ = some (.int .i64 x)) (first | assumption | exact sf_drew (wr := wo) (a := ⟨B, o + k, none⟩) (v := (.int .i64 x)) (by assumption) | exact sf_alloc (wr := wo) (a := ⟨B, o + k, none⟩) (v := (.int .i64 x)) hbl.out hcw.out (by assumption) _) (first | (refine step_append_row2 (o := ⟨some 46, _, _, _, _, _⟩) (by rfl) _ _ 30 (by rfl) wo.heap.size 3 ii (.int .i64 0) 8 Try.underlying30 hi hz0 hz1 hz2 (by decide) (.slice none 0 0) (0) ([]) (by rfl) (by exact World.ownsRow_nil _ _ _ _) _ _ _ ((S.take q).map (.int .i64)) (by rfl) (by exact hnone.out) (by exact row_gr hrt.out (sf_gr (show SF wo ⟨B, o + k, none⟩ (.int .i64 x) _ from by assumption))) (ints_one _) (q) ((S.take q).map (.int .i64)) (by omega) (by rfl) (by unfold maxLen; omega) (by omega) (by exact sf_size (show SF wo ⟨B, o + k, none⟩ (.int .i64 x) _ from by assumption)) ?_; intro v1 W1 hown1 hgrow1; have hsf1 := sf_grown (wr := wo) (a := ⟨B, o + k, none⟩) (v := (.int .i64 x)) hbl.out hcw.out (by assumption) hgrow1 (by simp [Value.ownBlock])) | (refine step_append_row2 (o := ⟨some 56, _, _, _, _, _⟩) (by rfl) _ _ 30 (by rfl) wo.heap.size 3 ii (.int .i64 0) 8 Try.underlying30 hi hz0 hz1 hz2 (by decide) v2 (q + 1) ((S.take q ++ [x]).map (.int .i64)) (by rfl) (by first | exact hown2 | exact hown2.kept (gr_drew W2 none) (by cases v2.ownBlock <;> simp)) _ _ _ ((S.drop q).map (.int .i64)) (by rfl) (by exact hao.out ()) (by exact row_gr (hrd.out _) (sf_gr (show SF wo ⟨B, o + k, none⟩ (.int .i64 x) _ from by assumption))) (ints_one _) (k + 1) ((S.take q ++ [x] ++ S.drop q).map (.int .i64)) (by omega) (by simp) (by unfold maxLen; omega) (by omega) (by exact sf_size (show SF wo ⟨B, o + k, none⟩ (.int .i64 x) _ from by assumption)) ?_; intro v3 W3 hown3 hgrow3; have hsf3 := sf_grown (wr := wo) (a := ⟨B, o + k, none⟩) (v := (.int .i64 x)) hbl.out hcw.out (by assumption) hgrow3 (fun j hj => (hown2.lt j hj).1)) | (refine step_append_row2 (o := ⟨some 52, _, _, _, _, _⟩) (by rfl) _ _ 30 (by rfl) wo.heap.size 3 ii (.int .i64 0) 8 Try.underlying30 hi hz0 hz1 hz2 (by decide) v1 (q) ((S.take q).map (.int .i64)) (by rfl) (by first | exact hown1 | exact hown1.alloc _ | exact (hown1.kept (gr_drew W1 none) (by cases v1.ownBlock <;> simp)).alloc _ | exact (hown1.alloc _).kept (gr_drew _ none) (by cases v1.ownBlock <;> simp)) _ _ _ ([x].map (.int .i64)) (by rfl) (by simp) (by first | exact row_new W1 #[.int .i64 x] 3 1 rfl | exact row_gr (by exact row_heap (w := wr.alloc (.cells #[.int .i64 x] 3)) (by rfl) (row_new wr #[.int .i64 x] 3 1 rfl)) hgrow1 | exact row_gr (row_new W1 #[.int .i64 x] 3 1 rfl) (gr_drew _ none)) (ints_one _) (q + 1) ((S.take q ++ [x]).map (.int .i64)) (by omega) (by simp) (by unfold maxLen; omega) (by omega) (by exact sf_size (show SF wo ⟨B, o + k, none⟩ (.int .i64 x) _ from by assumption)) ?_; intro v2 W2 hown2 hgrow2; have hsf2 := sf_grown (wr := wo) (a := ⟨B, o + k, none⟩) (v := (.int .i64 x)) hbl.out hcw.out (by assumption) hgrow2 (fun j hj => (hown1.lt j hj).1)))
            all_goals
              obtain ⟨A3, c3, rfl, hc31, hc32, hn3, hr3⟩ := own_slice hown3
              have hG3 : Gr wo W3 := sf_gr (wr := wo) (a := ⟨B, o + k, none⟩) (v := .int .i64 x) (by assumption)
              have hins := ins_sorted hso.out (by rw [hSl.out]; exact hq) hle.out (by exact hend.out)
              have hprm := ins_perm S q x hpe.out
              rw [← take_next hx.out] at hprm
              replace hn3 := Lib.hid hn3
              replace hr3 := Lib.hid hr3
              replace hG3 := Lib.hid hG3
              replace hins := Lib.hid hins
              replace hprm := Lib.hid hprm
              clear hown3 hgrow3 hown2 hgrow2 hown1 hgrow1 hsf1 hsf2 hsf3
              go_wp2
              go_roundw
              case rel => exact ⟨k + 1, S.take q ++ [x] ++ S.drop q, A3, c3, by omega, by go_num, rfl, hc31, hc32, hn3, hr3, hins, hprm, gr_trans hg.out hG3.out⟩
              case measure => simp [intOf]; omega
    · obtain rfl : k = n := by omega
      have hpz : S.Perm zs := by
        have h := hpe.out
        rw [List.take_of_length_le (Nat.le_of_eq hl.out)] at h
        exact h
      have hS := sorted_eq hso.out hpz
      have hzl := hl.out
      obtain ⟨M, hM⟩ : ∃ M, M = p * k := ⟨_, rfl⟩
      have hMi : (p : Int) * (k : Int) = (M : Int) := by rw [hM]; simp
      have hMb : M ≤ 100000000000 := by
        have : p * k ≤ 100 * k := Nat.mul_le_mul_right k hp
        omega
      have hMn : M ≤ 100 * k := by rw [hM]; exact Nat.mul_le_mul_right k hp
      have hI : rankI p zs.length = max ((M + 99) / 100) 1 - 1 := by rw [hzl, hM]; rfl
      have hlt2 := rankI_lt p k hp h0
      rw [← hzl, hI, hzl] at hlt2
      obtain ⟨y, hy⟩ : ∃ y, S[max ((M + 99) / 100) 1 - 1]? = some y := ⟨_, List.getElem?_eq_getElem (by rw [hSl.out]; exact hlt2)⟩
      obtain ⟨Bs, os, rfl, _, hcell⟩ := hrow.out.2 (max ((M + 99) / 100) 1 - 1) (.int .i64 y) (by simp [hy])
      have hres : (sortI zs).getD (rankI p zs.length) 0 = y := by rw [hI, ← hS, List.getD_eq_getElem?_getD, hy]; rfl
      replace hy := Lib.hid hy
      replace hI := Lib.hid hI
      replace hM := Lib.hid hM
      replace hS := Lib.hid hS
      replace hres := Lib.hid hres
      have hidx : (max (((M : Int) + 99) / 100) 1).toNat - 1 = max ((M + 99) / 100) 1 - 1 := by omega
      rw [← hidx] at hcell
      have hix : max (((M : Int) + 99) / 100) 1 - 1 < (k : Int) := by omega
      clear hpz hidx hlt2
      go_wp2
      go_ret2
      exact ⟨by rw [hres.out] <;> rfl, hg.out⟩
end Go.Proofs.Ytoickcaccielkaa
