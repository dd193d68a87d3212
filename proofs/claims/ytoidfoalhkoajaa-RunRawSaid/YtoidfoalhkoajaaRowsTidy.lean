/-
  What the laws' Tidy keeps of rows. No condition but bounds on the lengths.
-/
import Derived.Test.YtoidfoalhkoajaaRefRows
namespace Go.Proofs.Ytoidfoalhkoajaa
open Go.RowKit

/-- The document's Tidy of a row of the call's own, in one shape. -/
def RowsPost (n : Nat) (hs : List Hd) (base : Nat) (w : World) (e : Ending) (w' : World) : Prop :=
  (∃ v code, e = .returned (.tuple #[v, .int .i64 code]) ∧ (code = 0 → ∃ hs1 : List Hd, (∀ h ∈ hs1, h ∈ hs) ∧ hs1.length = n ∧ w'.ownsRow base 40 2 v n (sR hdC hs1))) ∧ Gr w w'
theorem refRows_one (v : Value) (n base : Nat) (hs : List Hd) (w : World) (hn : n ≤ 2000) (hb : base ≤ w.heap.size) (ho : w.ownsRow base 40 2 v n (sR hdC hs)) (hP : ∀ h ∈ hs, GoodH w h) :
    Calls Try.prog 34 #[v] w (RowsPost n hs base w) := by
  obtain ⟨A, c, rfl, _, _, _⟩ := own_sliceS ho
  refine (refRows_any A n c hs w hn (row_own ho) hP).mono ?_
  rintro e w' ⟨⟨v, z1, rfl, hm, hl, h2⟩ | rfl, g⟩
  · exact ⟨⟨v, 0, rfl, fun _ => ⟨z1, hm, hl, own_mono h2 hb⟩⟩, g⟩
  · exact ⟨⟨_, 6, rfl, fun h => by cases h⟩, g⟩
def TRPost (n : Nat) (w : World) (e : Ending) (w' : World) : Prop :=
  (∃ v m hs1, e = .returned v ∧ m ≤ n ∧ hs1.length = m ∧ (∀ h ∈ hs1, GoodH w' h) ∧ w'.ownsRow w.heap.size 40 2 v m (sR hdC hs1)) ∧ Gr w w'
theorem hdOk_own {w : World} {base : Nat} {A : Option Addr} {n c : Nat} {z : List Lb} {v : Int} (ho : w.ownsRow base 76 2 (.slice A n c) n (sR lblC z)) : HdOk w ⟨A, n, c, v⟩ ⟨z, v⟩ := by
  obtain ⟨A', c', hv, h1, h2, h3⟩ := own_sliceS ho
  injection hv with e1 _ e2
  subst e1 e2
  have hl : z.length = n := by have := ho.1; rw [sR_len lblC 2 lblC_len] at this; omega
  exact ⟨rfl, hl.symm, row_own ho, fun h => ⟨by have := h3 h; show n = 0; omega, h3 h⟩, h1, h2⟩
set_option maxHeartbeats 16000000 in
set_option maxRecDepth 100000 in
theorem rtidy10_any (A : Option Addr) (n c : Nat) (rs : List Rw) (w : World) (hn : n ≤ 60) (hr : Rows w A n rs) (hL : ∀ r ∈ rs, LightL r.l) :
    Calls Try.prog 14 #[.slice A n c] w (TRPost n w) := by
  obtain ⟨ii, hi, hz0, hz1, hz2⟩ := info_parts infoRow3
  replace hr := Lib.hid hr
  replace hL := Lib.hid hL
  go_enter Try.func14, Try.ntmps14
  go_wp2
  go_loopw [3, 4] (fun ov iv wr => ∃ (k m : Nat) (z1 : List Hd) (A' : Option Addr) (c' : Nat), k ≤ n ∧ m ≤ k ∧ iv = .int .i64 k ∧ ov = .slice A' m c' ∧ Hid (∀ h ∈ z1, GoodH wr h) ∧ Hid (z1.length = m) ∧ Hid (wr.ownsRow w.heap.size 40 2 (.slice A' m c') m (sR hdC z1)) ∧ Hid (Gr w wr)) (fun _ iv _ => n - (intOf iv).toNat)
  case atStart => exact ⟨0, 0, [], none, 0, Nat.zero_le _, Nat.le_refl _, rfl, rfl, (by intro x hx; simp at hx), rfl, World.ownsRow_nil _ _ _ _, gr_refl _ _⟩
  case round =>
    obtain ⟨k, m, z1, A', c', hk, hmk, rfl, rfl, hm, hz1l, ho, hg⟩ := hrel
    obtain ⟨A'', c'', hve, hkc, hcm, hnone⟩ := own_sliceS ho.out
    injection hve with e1 _ e2
    subst e1 e2
    replace hnone := Lib.hid hnone
    by_cases hlt : k < n
    · obtain ⟨r, x, gA, oA, hxe, hxo, rfl, a0, a1⟩ := rows_at (rows_gr hr.out hg.out) hlt
      rw [hxo.v] at a1
      have hLr := hL.out r (List.mem_of_getElem? hxe)
      have hki : (k : Int) < (n : Int) := by omega
      have hk0 : (0 : Int) ≤ (k : Int) := by omega
      have htd := refTidy_any x.A x.n x.c r.l wr (by rw [hxo.n]; have := hLr.1; omega) hxo.row (fun y hy => by have := hLr.2 y hy; omega)
      have hV := fun W => refValue_any r.v W
      replace htd := Lib.hid htd
      replace hV := Lib.hid hV
      clear hxe hxo
      go_wp2_with fail
      refine htd.out.mono ?_
      rintro e w2 ⟨⟨tv, t1, rfl, hp, hri, hok, hto⟩ | ⟨rfl, _⟩, g2⟩
      · obtain ⟨A1, c1, rfl, _, _, _⟩ := own_sliceS hto
        have b0 := gr_cell g2 a0
        have b1 := gr_cell g2 a1
        clear a0 a1
        have hokz : okLbs t1 := ⟨by rw [hp.length_eq]; exact hok.1, fun y hy => hok.2.1 y (hp.mem_iff.1 hy), hri⟩
        by_cases hv : okV r.v
        · rw [decide_eq_true hv] at hV
          have hyk : GoodH w2 ⟨A1, x.n, c1, r.v⟩ := ⟨⟨t1, r.v⟩, hdOk_own hto, hokz, hv⟩
          have hdisj := hV.out
          have ho2 := ho.out.kept g2 (Classical.em _)
          have hm2 : ∀ h ∈ z1, GoodH w2 h := fun h hh => goodH_gr (hm.out h hh) g2
          have G2 := gr_trans hg.out g2
          replace hyk := Lib.hid hyk
          replace ho2 := Lib.hid ho2
          replace hm2 := Lib.hid hm2
          replace G2 := Lib.hid G2
          clear hok hokz hto hdisj ho hm hg htd hri hp
          go_wp2_with fail
          refine (hV.out _).mono ?_
          rintro e wo3 ⟨rfl, rfl⟩
          obtain ⟨y, hy⟩ : ∃ y : Hd, y = ⟨A1, x.n, c1, r.v⟩ := ⟨_, rfl⟩
          rw [← hy] at hyk
          have hyC : hdC y = [.slice A1 x.n c1, .int .i64 r.v] := by rw [hy]; rfl
          have hT : ∀ W v, W.ownsRow w2.heap.size 40 2 v (m + 1) (sR hdC (z1 ++ [y])) → Gr w2 W → Calls Try.prog 34 #[v] W (RowsPost (m + 1) (z1 ++ [y]) w2.heap.size W) := fun W v h1 h2 => refRows_one v (m + 1) w2.heap.size (z1 ++ [y]) W (by omega) h2.size h1 (fun h hh => by
            rcases List.mem_append.1 hh with hh | hh
            · exact goodH_gr (hm2.out h hh) h2
            · rw [List.mem_singleton.1 hh]; exact goodH_gr hyk.out h2)
          have hrt := row_own ho2.out
          have h0 := b0
          have h1 := b1
          have hb0 : SL w2 gA (oA + k * 2) (.slice x.A x.n x.c) (.int .i64 r.v) w2 := sl_of h0 h1 (gr_refl _ _)
          subst hy
          replace hT := Lib.hid hT
          replace hrt := Lib.hid hrt
          replace h0 := Lib.hid h0
          replace h1 := Lib.hid h1
          clear b0 b1 hyC hV
          go_wp2_with fail
          go_region_held3 (fun w' => Gr w2 w' ∧ w'.cell? ⟨gA, oA + k * 2, none⟩ = some (.slice x.A x.n x.c) ∧ w'.cell? ⟨gA, oA + k * 2 + 1, none⟩ = some (.int .i64 r.v)) (first | assumption | exact sl_drew (wo := w2) (B := gA) (o := oA + k * 2) (u0 := .slice x.A x.n x.c) (u1 := .int .i64 r.v) (by assumption) | exact sl_alloc (wo := w2) (B := gA) (o := oA + k * 2) (u0 := .slice x.A x.n x.c) (u1 := .int .i64 r.v) (by assumption) _) (first | (refine step_append_rowS (o := ⟨some 37, _, _, _, _, _⟩) (by rfl) _ _ 23 (by rfl) w2.heap.size 40 ii (.agg #[.slice none 0 0, .int .i64 0]) 2 32 Try.underlying23 hi hz0 hz1 hz2 rfl (by decide) (.slice none 0 0) (0) ([]) (by rfl) (by exact World.ownsRow_nil _ _ _ _) _ _ _ (sR hdC z1) (by rfl) (by exact hnone.out) (by exact row_gr hrt.out (sl_gr (show SL w2 gA (oA + k * 2) (.slice x.A x.n x.c) (.int .i64 r.v) _ from by assumption))) (hds_ones _) (m) (sR hdC z1) (by omega) (by rfl) (by unfold maxLen; omega) (by omega) (by exact (sl_gr (show SL w2 gA (oA + k * 2) (.slice x.A x.n x.c) (.int .i64 r.v) _ from by assumption)).size) ?_; intro v1 W1 hown1 hgrow1; have hsf1 := sl_grown h0.out h1.out (show SL w2 gA (oA + k * 2) (.slice x.A x.n x.c) (.int .i64 r.v) _ from by assumption) hgrow1 (by simp [Value.ownBlock])) | (refine step_append_rowS (o := ⟨some 46, _, _, _, _, _⟩) (by rfl) _ _ 23 (by rfl) w2.heap.size 40 ii (.agg #[.slice none 0 0, .int .i64 0]) 2 32 Try.underlying23 hi hz0 hz1 hz2 rfl (by decide) v1 (m) (sR hdC z1) (by rfl) (by first | exact hown1 | exact hown1.alloc _ | exact (hown1.kept (gr_drew W1 none) (Classical.em _)).alloc _ | exact (hown1.alloc _).kept (gr_drew _ none) (Classical.em _)) _ _ _ (hdC ⟨A1, x.n, c1, r.v⟩) (by rfl) (by intro e; cases e) (by first | exact row_newS hdC_len W1 ⟨A1, x.n, c1, r.v⟩ 40 | exact row_gr (by exact row_heapS (w := w2.alloc (.cells (hdC ⟨A1, x.n, c1, r.v⟩).toArray 40)) (by rfl) (row_newS hdC_len w2 ⟨A1, x.n, c1, r.v⟩ 40)) hgrow1 | exact row_gr (row_newS hdC_len W1 ⟨A1, x.n, c1, r.v⟩ 40) (gr_drew _ none)) (hdC_ones _) (m + 1) (sR hdC (z1 ++ [⟨A1, x.n, c1, r.v⟩])) (by omega) (by rw [sR_append, sR_one]) (by unfold maxLen; omega) (by omega) (by exact (sl_gr (show SL w2 gA (oA + k * 2) (.slice x.A x.n x.c) (.int .i64 r.v) _ from by assumption)).size) ?_; intro v2 W2 hown2 hgrow2; have hsf2 := sl_grown h0.out h1.out (show SL w2 gA (oA + k * 2) (.slice x.A x.n x.c) (.int .i64 r.v) _ from by assumption) hgrow2 (fun j hj => (hown1.lt j hj).1)) | (go_at_call 34; refine (hT.out _ _ (by first | exact hown2 | exact hown2.kept (gr_drew W2 none) (Classical.em _)) (by exact (sl_gr (show SL w2 gA (oA + k * 2) (.slice x.A x.n x.c) (.int .i64 r.v) _ from by assumption)))).mono ?_; rintro e W3 ⟨⟨v3, code, rfl, hcd⟩, gP⟩; have hsf3 : SL w2 gA (oA + k * 2) (.slice x.A x.n x.c) (.int .i64 r.v) W3 := sl_of h0.out h1.out (gr_trans (sl_gr (show SL w2 gA (oA + k * 2) (.slice x.A x.n x.c) (.int .i64 r.v) _ from by assumption)) gP)))
          all_goals
            have hG3 := gr_trans G2.out (sl_gr (wo := w2) (B := gA) (o := oA + k * 2) (u0 := .slice x.A x.n x.c) (u1 := .int .i64 r.v) hsf3)
            by_cases hc0 : code = 0
            · obtain ⟨z3, hz3m, hz3l, hz3o⟩ := hcd hc0
              have hz3g : ∀ h ∈ z3, GoodH W3 h := fun h hh => by
                rcases List.mem_append.1 (hz3m h hh) with hh | hh
                · exact goodH_gr (hm2.out h hh) (sl_gr (wo := w2) (B := gA) (o := oA + k * 2) (u0 := .slice x.A x.n x.c) (u1 := .int .i64 r.v) hsf3)
                · rw [List.mem_singleton.1 hh]; exact goodH_gr hyk.out (sl_gr (wo := w2) (B := gA) (o := oA + k * 2) (u0 := .slice x.A x.n x.c) (u1 := .int .i64 r.v) hsf3)
              obtain ⟨A3, c3, rfl, _, _, _⟩ := own_sliceS hz3o
              have hz3b := own_mono hz3o G2.out.size
              have hcb : (code == 0) = true := by rw [hc0]; rfl
              replace hz3g := Lib.hid hz3g
              replace hz3b := Lib.hid hz3b
              replace hz3l := Lib.hid hz3l
              replace hG3 := Lib.hid hG3
              clear hcd hz3m hz3o hown2 hown1 hgrow1 hgrow2 hsf1 hsf2 hsf3 hb0 gP hc0
              go_wp2
              go_roundw
              case rel => exact ⟨k + 1, m + 1, z3, A3, c3, by omega, by omega, by go_num, rfl, hz3g.out, hz3l.out, hz3b.out, hG3.out⟩
              case measure => simp [intOf]; omega
            · have hcb : (code == 0) = false := eqF hc0
              have hm3 : ∀ h ∈ z1, GoodH W3 h := fun h hh => goodH_gr (hm2.out h hh) (sl_gr (wo := w2) (B := gA) (o := oA + k * 2) (u0 := .slice x.A x.n x.c) (u1 := .int .i64 r.v) hsf3)
              have ho3 := ho2.out.kept (sl_gr (wo := w2) (B := gA) (o := oA + k * 2) (u0 := .slice x.A x.n x.c) (u1 := .int .i64 r.v) hsf3) (Classical.em _)
              replace hm3 := Lib.hid hm3
              replace ho3 := Lib.hid ho3
              replace hG3 := Lib.hid hG3
              clear hcd hown2 hown1 hgrow1 hgrow2 hsf1 hsf2 hsf3 hb0 gP hc0
              go_wp2
              go_roundw
              case rel => exact ⟨k + 1, m, z1, A', c', by omega, by omega, by go_num, rfl, hm3.out, hz1l.out, ho3.out, hG3.out⟩
              case measure => simp [intOf]; omega
        · rw [decide_eq_false hv] at hV
          have ho2 := ho.out.kept g2 (Classical.em _)
          have hm2 : ∀ h ∈ z1, GoodH w2 h := fun h hh => goodH_gr (hm.out h hh) g2
          have G2 := gr_trans hg.out g2
          replace ho2 := Lib.hid ho2
          replace hm2 := Lib.hid hm2
          replace G2 := Lib.hid G2
          clear hok hokz hto ho hm hg htd hri hp
          go_wp2_with fail
          refine (hV.out _).mono ?_
          rintro e wo3 ⟨rfl, rfl⟩
          go_wp2
          go_roundw
          case rel => exact ⟨k + 1, m, z1, A', c', by omega, by omega, by go_num, rfl, hm2.out, hz1l.out, ho2.out, G2.out⟩
          case measure => simp [intOf]; omega
      · have ho2 := ho.out.kept g2 (Classical.em _)
        have hm2 : ∀ h ∈ z1, GoodH w2 h := fun h hh => goodH_gr (hm.out h hh) g2
        have G2 := gr_trans hg.out g2
        replace ho2 := Lib.hid ho2
        replace hm2 := Lib.hid hm2
        replace G2 := Lib.hid G2
        clear ho hm hg htd
        go_wp2
        go_roundw
        case rel => exact ⟨k + 1, m, z1, A', c', by omega, by omega, by go_num, rfl, hm2.out, hz1l.out, ho2.out, G2.out⟩
        case measure => simp [intOf]; omega
    · obtain rfl : k = n := by omega
      go_wp2
      go_ret
      exact ⟨⟨_, m, z1, rfl, hmk, hz1l.out, hm.out, ho.out⟩, hg.out⟩
end Go.Proofs.Ytoidfoalhkoajaa
