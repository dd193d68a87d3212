/-
  What window.Of and window.Last answer. No condition but a bound on the length.
-/
import Derived.Test.YtkpmonefhpnljaaGreatWinRight
namespace Go.Proofs.YtkpmonefhpnljaaGreat
open Go.RowKit

theorem infoPt : (Tryz.prog.info? 43).map (fun i => (i.zero, i.size, i.bytes)) = some (some (.agg #[.int .i64 0, .int .i64 0]), 2, 16) := by kernel_rfl
def inWin (t d : Int) (x : Int × Int) : Bool := decide (t - d < x.1) && decide (x.1 ≤ t)
def mayWin (zs : List (Int × Int)) (t d : Int) : Bool := rightB zs && (decide (0 ≤ t ∧ t ≤ 1000000000) && decide (0 ≤ d ∧ d ≤ 1000000000))
def ofP (zs : List (Int × Int)) (t d : Int) : List (Int × Int) := if mayWin zs t d = true then zs.filter (inWin t d) else []
def OfPost (zs : List (Int × Int)) (t d : Int) (w : World) (e : Ending) (w' : World) : Prop :=
  ∃ v, e = .returned v ∧ w'.ownsRow w.heap.size 43 2 v (ofP zs t d).length (pcs (ofP zs t d)) ∧ Gr w w'
theorem of_none {zs : List (Int × Int)} {t d : Int} (h : mayWin zs t d = false) {w w' : World} (g : Gr w w') : OfPost zs t d w (.returned (.slice none 0 0)) w' := by
  refine ⟨_, rfl, ?_, g⟩
  unfold ofP
  rw [h, if_neg (by simp)]
  exact World.ownsRow_nil _ _ _ _
theorem filter_next {α : Type} (p : α → Bool) {zs : List α} {k : Nat} {x : α} (h : zs[k]? = some x) : (zs.take (k + 1)).filter p = (zs.take k).filter p ++ (if p x then [x] else []) := by
  obtain ⟨h1, h2⟩ := List.getElem?_eq_some_iff.1 h
  rw [List.take_succ_eq_append_getElem h1, h2, List.filter_append]
  congr 1
  by_cases c : p x = true
  · rw [if_pos c, List.filter_cons_of_pos c]
    rfl
  · rw [if_neg c, List.filter_cons_of_neg c]
    rfl
theorem mayWin_no {zs : List (Int × Int)} {t d : Int} (h : t < 0 ∨ 1000000000 < t ∨ d < 0 ∨ 1000000000 < d) : mayWin zs t d = false := by
  unfold mayWin
  rw [Bool.and_eq_false_iff, Bool.and_eq_false_iff]
  right
  rcases h with h | h | h | h
  · left; exact decide_eq_false (by omega)
  · left; exact decide_eq_false (by omega)
  · right; exact decide_eq_false (by omega)
  · right; exact decide_eq_false (by omega)

set_option maxHeartbeats 4000000 in
set_option maxRecDepth 100000 in
theorem winOf_any (A : Option Addr) (n c : Nat) (zs : List (Int × Int)) (t d : Int) (w : World) (hn : n ≤ 9223372036854775807) (hr : PtRow w A n zs) (ht : -9223372036854775808 ≤ t ∧ t ≤ 9223372036854775807) (hd : -9223372036854775808 ≤ d ∧ d ≤ 9223372036854775807) :
    Calls Tryz.prog 7 #[.slice A n c, .int .i64 t, .int .i64 d] w (OfPost zs t d w) := by
  have hl := pt_len hr
  have cR := winRight_any A n c zs w hn hr
  obtain ⟨ii, hi, hz0, hz1, hz2⟩ := info_parts infoPt
  obtain ⟨ht1, ht2⟩ := ht
  obtain ⟨hd1, hd2⟩ := hd
  cases hrb : rightB zs with
  | false =>
    have hm : mayWin zs t d = false := by unfold mayWin; rw [hrb]; rfl
    rw [hrb] at cR
    replace cR := Lib.hid cR
    replace hm := Lib.hid hm
    replace hl := Lib.hid hl
    replace hrb := Lib.hid hrb
    clear hr
    go_enter Tryz.func7, Tryz.ntmps7
    go_wp2_with fail
    refine cR.out.mono ?_
    rintro e W1 ⟨rfl, g1⟩
    go_wp2
    go_ret
    exact of_none hm.out g1
  | true =>
    rw [hrb] at cR
    replace cR := Lib.hid cR
    by_cases hbad : t < 0 ∨ 1000000000 < t ∨ d < 0 ∨ 1000000000 < d
    · have hm := Lib.hid (mayWin_no (zs := zs) hbad)
      have hcs : t < 0 ∨ (¬ t < 0 ∧ 1000000000 < t) ∨ (¬ t < 0 ∧ ¬ 1000000000 < t ∧ d < 0) ∨ (¬ t < 0 ∧ ¬ 1000000000 < t ∧ ¬ d < 0 ∧ 1000000000 < d) := by omega
      replace hl := Lib.hid hl
      replace hrb := Lib.hid hrb
      clear hr hbad
      rcases hcs with h | ⟨h, h2⟩ | ⟨h, h2, h3⟩ | ⟨h, h2, h3, h4⟩
      all_goals
        go_enter Tryz.func7, Tryz.ntmps7
        go_wp2_with fail
        refine cR.out.mono ?_
        rintro e W1 ⟨rfl, g1⟩
        go_wp2
        go_ret
        exact of_none hm.out g1
    · have t0 : 0 ≤ t := by omega
      have t1 : t ≤ 1000000000 := by omega
      have d0 : 0 ≤ d := by omega
      have d1 : d ≤ 1000000000 := by omega
      have hm : mayWin zs t d = true := by
        unfold mayWin
        rw [hrb, Bool.true_and, Bool.and_eq_true]
        exact ⟨decide_eq_true ⟨t0, t1⟩, decide_eq_true ⟨d0, d1⟩⟩
      have hof : ofP zs t d = zs.filter (inWin t d) := if_pos hm
      have h25 : n ≤ 25 := by rw [← hl]; exact (right_iff.1 hrb).1
      replace hr := Lib.hid hr
      replace hl := Lib.hid hl
      replace hrb := Lib.hid hrb
      replace hm := Lib.hid hm
      replace hof := Lib.hid hof
      clear hbad
      go_enter Tryz.func7, Tryz.ntmps7
      go_wp2_with fail
      refine cR.out.mono ?_
      rintro e W1 ⟨rfl, g1⟩
      have bel1 := Lib.hid (gr_below g1)
      clear g1
      go_wp2_with fail
      go_loopw [7, 31] (fun ov i wr => ∃ k : Nat, k ≤ n ∧ i = .int .i64 k ∧ Hid (wr.ownsRow w.heap.size 43 2 ov ((zs.take k).filter (inWin t d)).length (pcs ((zs.take k).filter (inWin t d)))) ∧ Hid (Below w.heap.size w wr)) (fun _ i _ => n - (intOf i).toNat)
      case atStart => exact ⟨0, Nat.zero_le _, rfl, World.ownsRow_nil _ _ _ _, bel1.out⟩
      case round =>
        obtain ⟨k, hk, rfl, hown, hbel⟩ := hrel
        have hs := hbel.out.size
        by_cases hlt : k < n
        · obtain ⟨⟨T, V⟩, B, o, hx, rfl, hB, hc1, hc2⟩ := pt_elem (pt_gr hr.out (gr_of_below hbel.out (Nat.le_refl _))) hlt
          have hki : (k : Int) < (n : Int) := by omega
          have hfn := filter_next (inWin t d) hx
          have hfl : ((zs.take k).filter (inWin t d)).length ≤ 25 := by
            have h1 := List.length_filter_le (inWin t d) (zs.take k)
            have h2 := List.length_take_le k zs
            omega
          generalize (zs.take k).filter (inWin t d) = F at *
          replace hx := Lib.hid hx
          by_cases hin : t - d < T ∧ T ≤ t
          · have hp : inWin t d (T, V) = true := by unfold inWin; rw [decide_eq_true hin.1, decide_eq_true hin.2]; rfl
            rw [hp, if_pos rfl] at hfn
            replace hfn := Lib.hid hfn
            obtain ⟨hin1, hin2⟩ := hin
            clear hp
            go_wp2_with (at_builtin; refine wpList_append_own _ rfl _ _ 22 rfl w.heap.size 43 ii (.agg #[.int .i64 0, .int .i64 0]) 2 16 Tryz.underlying22 hi hz0 hz1 hz2 rfl (by decide) u7 _ _ rfl ((hown.out.alloc _).alloc _) ⟨wr.heap.size + 1, 0, none⟩ 1 1 [.int .i64 T, .int .i64 V] rfl rfl ?c1 ?c2 ?c3 ?c4 ?c5 ?_; rotate_right; intro v' W4 hown4 hgrow _nl; clear _nl; have hb4 := (below_gr hbel.out (gr_alloc wr _ none) hs (by simp)).trans (below_append (hown.out.alloc _) hgrow (by simp; omega)); clear hgrow; replace hown4 := Lib.hid hown4; replace hb4 := Lib.hid hb4)
            case c2 => simp [Value.oneCell']
            case c3 => unfold maxLen; omega
            case c4 => omega
            case c5 => omega
            go_roundw
            case rel =>
              refine ⟨k + 1, by omega, by go_num, ?_, hb4.out⟩
              have := hown4.out
              rw [hfn.out, pcs_append, List.length_append]
              exact this
            case measure => simp [intOf]; omega
          · have hp : inWin t d (T, V) = false := by
              unfold inWin
              rw [Bool.and_eq_false_iff]
              by_cases h1 : t - d < T
              · exact Or.inr (decide_eq_false fun h2 => hin ⟨h1, h2⟩)
              · exact Or.inl (decide_eq_false h1)
            rw [hp, if_neg (by simp), List.append_nil] at hfn
            replace hfn := Lib.hid hfn
            clear hp
            have hcs : ¬ t - d < T ∨ (t - d < T ∧ ¬ T ≤ t) := by omega
            have hown2 := Lib.hid (hown.out.alloc (.cells #[.int .i64 T, .int .i64 V] 43))
            have hb2 := Lib.hid (below_gr hbel.out (gr_alloc wr (.cells #[.int .i64 T, .int .i64 V] 43) none) hs (by simp))
            clear hin
            rcases hcs with h1 | ⟨h1, h2⟩
            all_goals
              go_wp2
              go_roundw
              case rel => exact ⟨k + 1, by omega, by go_num, by rw [hfn.out]; exact hown2.out, hb2.out⟩
              case measure => simp [intOf]; omega
        · obtain rfl : k = n := by omega
          have ho := hown.out
          rw [List.take_of_length_le (Nat.le_of_eq hl.out), ← hof.out] at ho
          replace ho := Lib.hid ho
          go_wp2
          go_ret
          exact ⟨_, rfl, ho.out, gr_of_below hbel.out (Nat.le_refl _)⟩
end Go.Proofs.YtkpmonefhpnljaaGreat
