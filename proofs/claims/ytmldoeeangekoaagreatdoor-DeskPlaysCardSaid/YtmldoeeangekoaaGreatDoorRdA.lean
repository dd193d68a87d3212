/-
  Several facts, one behind the other; no condition but bounds: Whether a note may be, as the document has it. No condition. The document's desk: find, without. No condition but bounds. The document's desk: May, Begins. No condition but bounds. The document's State: one note more. No condition but bounds. The document's State: a cursor is closed. No condition but bounds.
-/
import Derived.Test.YtmldoeeangekoaaGreatDoorDkA
import Derived.Test.YtmldoeeangekoaaGreatDoorAppendRow
import Derived.Test.YtmldoeeangekoaaGreatDoorBookRow
import Derived.Deep.CutBlock
namespace Go.Proofs.YtmldoeeangekoaaGreatDoor
open Go.RowKit

set_option maxHeartbeats 16000000 in
set_option maxRecDepth 100000 in
theorem refNote_any (x : Nte) (w : World) : Calls Tryz.prog 19 #[nteV x] w fun e w' => e = .returned (.bool (decide (okN x))) ∧ Gr w w' := by
  obtain ⟨kd, ⟨id, rows, size, tl, file⟩⟩ := x
  show Calls Tryz.prog 19 #[.agg #[.int .i64 kd, .int .i64 id, .int .i64 rows, .int .i64 size, .int .i64 tl, .string (txt file)]] w _
  obtain ⟨R, hR⟩ : ∃ R, R = decide (okN ⟨kd, ⟨id, rows, size, tl, file⟩⟩) := ⟨_, rfl⟩
  rw [← hR]
  obtain ⟨W1, hW1⟩ : ∃ W1, W1 = (w.alloc (.cells #[.int .i64 kd, .int .i64 id, .int .i64 rows, .int .i64 size, .int .i64 tl, .string (txt file)] 67)).alloc (.cells #[.int .i64 id, .int .i64 rows, .int .i64 size, .int .i64 tl, .string (txt file)] 52) := ⟨_, rfl⟩
  have hz : (w.alloc (.cells #[.int .i64 kd, .int .i64 id, .int .i64 rows, .int .i64 size, .int .i64 tl, .string (txt file)] 67)).heap.size = w.heap.size + 1 := by simp
  have g1 : Gr w W1 := by rw [hW1]; exact gr_trans (gr_alloc _ _ _) (gr_alloc _ _ _)
  have hR : W1.heap[w.heap.size + 1]? = some (.cells #[.int .i64 id, .int .i64 rows, .int .i64 size, .int .i64 tl, .string (txt file)] 52) := by rw [← hz, hW1]; exact blk_new _ _
  have hN : W1.cell? ⟨w.heap.size, 0, none⟩ = some (.int .i64 kd) := by rw [hW1]; exact gr_cell (gr_alloc _ _ none) (by rw [World.cell?_alloc_new]; rfl)
  have r0 := fcellD hR (j := 0) rfl
  have r1 := fcellD hR (j := 1) rfl
  have r2 := fcellD hR (j := 2) rfl
  have r3 := fcellD hR (j := 3) rfl
  have r4 := fcellD hR (j := 4) rfl
  replace g1 := Lib.hid g1
  replace hW1 := Lib.hid hW1
  clear hz hR
  go_enter Tryz.func19, Tryz.ntmps19
  go_upto_region 2 with fail
  rw [← hW1.out]
  by_cases k1 : kd = 1
  · have hok : okN ⟨kd, ⟨id, rows, size, tl, file⟩⟩ ↔ ((1 ≤ id ∧ id ≤ 1000000) ∧ (0 ≤ rows ∧ rows ≤ 2000) ∧ (1 ≤ size ∧ size ≤ 100) ∧ (0 ≤ tl ∧ tl ≤ 1000000000) ∧ (1 ≤ file.length ∧ file.length ≤ 60)) := by
      refine ⟨?_, fun h => .inl ⟨k1, h⟩⟩
      rintro (h | h | h | h)
      · exact h.2
      · have := h.1; simp only at this; omega
      · have := h.1; simp only at this; omega
      · have := h.1; simp only at this; omega
    have e1 : (kd == 1) = true := eqT (by omega)
    have e2 : (kd == 2) = false := eqF (by omega)
    have e3 : (kd == 3) = false := eqF (by omega)
    have e4 : (kd == 4) = false := eqF (by omega)
    rw [← decide_eq_true_iff (p := okN _), ← hR] at hok
    replace hok := Lib.hid hok
    clear hR
    go_wp2
    all_goals
      go_ret
      refine ⟨?_, g1.out⟩
      apply congrArg (fun b => Ending.returned (Value.bool b))
      rw [Bool.eq_iff_iff, hok.out]
      first | (simp; done) | (simp; omega) | (simp [List.isEmpty_iff]; omega) | (simp [List.isEmpty_iff]; intros; omega) | (simp only [true_iff]; and_intros <;> first | assumption | omega) | skip
  · by_cases k2 : kd = 2
    · have hok : okN ⟨kd, ⟨id, rows, size, tl, file⟩⟩ ↔ ((1 ≤ id ∧ id ≤ 1000000) ∧ rows = 0 ∧ size = 0 ∧ tl = 0 ∧ file = []) := by
        refine ⟨?_, fun h => .inr (.inl ⟨k2, h⟩)⟩
        rintro (h | h | h | h)
        · have := h.1; simp only at this; omega
        · exact h.2
        · have := h.1; simp only at this; omega
        · have := h.1; simp only at this; omega
      have e1 : (kd == 1) = false := eqF (by omega)
      have e2 : (kd == 2) = true := eqT (by omega)
      have e3 : (kd == 3) = false := eqF (by omega)
      have e4 : (kd == 4) = false := eqF (by omega)
      rw [← decide_eq_true_iff (p := okN _), ← hR] at hok
      replace hok := Lib.hid hok
      clear hR
      go_wp2
      all_goals
        go_ret
        refine ⟨?_, g1.out⟩
        apply congrArg (fun b => Ending.returned (Value.bool b))
        rw [Bool.eq_iff_iff, hok.out]
        first | (simp; done) | (simp; omega) | (simp [List.isEmpty_iff]; omega) | (simp [List.isEmpty_iff]; intros; omega) | (simp only [true_iff]; and_intros <;> first | assumption | omega) | skip
    · by_cases k3 : kd = 3
      · have hok : okN ⟨kd, ⟨id, rows, size, tl, file⟩⟩ ↔ ((0 ≤ tl ∧ tl ≤ 1000000000) ∧ id = 0 ∧ rows = 0 ∧ size = 0 ∧ file = []) := by
          refine ⟨?_, fun h => .inr (.inr (.inl ⟨k3, h⟩))⟩
          rintro (h | h | h | h)
          · have := h.1; simp only at this; omega
          · have := h.1; simp only at this; omega
          · exact h.2
          · have := h.1; simp only at this; omega
        have e1 : (kd == 1) = false := eqF (by omega)
        have e2 : (kd == 2) = false := eqF (by omega)
        have e3 : (kd == 3) = true := eqT (by omega)
        have e4 : (kd == 4) = false := eqF (by omega)
        rw [← decide_eq_true_iff (p := okN _), ← hR] at hok
        replace hok := Lib.hid hok
        clear hR
        go_wp2
        all_goals
          go_ret
          refine ⟨?_, g1.out⟩
          apply congrArg (fun b => Ending.returned (Value.bool b))
          rw [Bool.eq_iff_iff, hok.out]
          first | (simp; done) | (simp; omega) | (simp [List.isEmpty_iff]; omega) | (simp [List.isEmpty_iff]; intros; omega) | (simp only [true_iff]; and_intros <;> first | assumption | omega) | skip
      · by_cases k4 : kd = 4
        · have hok : okN ⟨kd, ⟨id, rows, size, tl, file⟩⟩ ↔ ((0 ≤ rows ∧ rows ≤ 1000) ∧ (1 ≤ file.length ∧ file.length ≤ 60) ∧ id = 0 ∧ size = 0 ∧ tl = 0) := by
            refine ⟨?_, fun h => .inr (.inr (.inr ⟨k4, h⟩))⟩
            rintro (h | h | h | h)
            · have := h.1; simp only at this; omega
            · have := h.1; simp only at this; omega
            · have := h.1; simp only at this; omega
            · exact h.2
          have e1 : (kd == 1) = false := eqF (by omega)
          have e2 : (kd == 2) = false := eqF (by omega)
          have e3 : (kd == 3) = false := eqF (by omega)
          have e4 : (kd == 4) = true := eqT (by omega)
          rw [← decide_eq_true_iff (p := okN _), ← hR] at hok
          replace hok := Lib.hid hok
          clear hR
          go_wp2
          all_goals
            go_ret
            refine ⟨?_, g1.out⟩
            apply congrArg (fun b => Ending.returned (Value.bool b))
            rw [Bool.eq_iff_iff, hok.out]
            first | (simp; done) | (simp; omega) | (simp [List.isEmpty_iff]; omega) | (simp [List.isEmpty_iff]; intros; omega) | (simp only [true_iff]; and_intros <;> first | assumption | omega) | skip
        · have hok : ¬ okN ⟨kd, ⟨id, rows, size, tl, file⟩⟩ := by
            rintro (h | h | h | h)
            all_goals
              have := h.1
              simp only at this
              omega
          have e1 : (kd == 1) = false := eqF (by omega)
          have e2 : (kd == 2) = false := eqF (by omega)
          have e3 : (kd == 3) = false := eqF (by omega)
          have e4 : (kd == 4) = false := eqF (by omega)
          rw [decide_eq_false hok] at hR
          replace hR := Lib.hid hR
          clear hok
          go_wp2
          all_goals
            go_ret
            exact ⟨by rw [hR.out]; rfl, g1.out⟩
end Go.Proofs.YtmldoeeangekoaaGreatDoor
namespace Go.Proofs.YtmldoeeangekoaaGreatDoor
open Go.RowKit

def findI (id : Int) : List Cur → Nat → Int
  | [], _ => -1
  | x :: r, k => if x.id = id then (k : Int) else findI id r (k + 1)
theorem findI_drop {id : Int} {zs : List Cur} {k : Nat} {x : Cur} (h : zs[k]? = some x) : findI id (zs.drop k) k = if x.id = id then (k : Int) else findI id (zs.drop (k + 1)) (k + 1) := by
  obtain ⟨h1, h2⟩ := List.getElem?_eq_some_iff.1 h
  rw [List.drop_eq_getElem_cons h1, h2]
  rfl
set_option maxHeartbeats 4000000 in
set_option maxRecDepth 100000 in
theorem rfind_any (nx now pts id : Int) (A : Option Addr) (n c : Nat) (seg : List UInt8) (zs : List Cur) (w : World) (hn : n ≤ 1000000) (hz : Row w A n 5 (sR curC zs)) :
    Calls Tryz.prog 38 #[.agg #[.int .i64 nx, .int .i64 now, .slice A n c, .string (txt seg), .int .i64 pts], .int .i64 id] w fun e w' => e = .returned (.int .i64 (findI id zs 0)) ∧ Gr w w' := by
  have hl : zs.length = n := by have := hz.1; rw [sR_len curC 5 curC_len] at this; omega
  obtain ⟨F, hF⟩ : ∃ F, F = findI id zs 0 := ⟨_, rfl⟩
  rw [← hF]
  obtain ⟨W1, hW1⟩ : ∃ W1, W1 = w.alloc (.cells #[.int .i64 nx, .int .i64 now, .slice A n c, .string (txt seg), .int .i64 pts] 32) := ⟨_, rfl⟩
  have g1 : Gr w W1 := by rw [hW1]; exact gr_alloc _ _ _
  have s2 : W1.cell? ⟨w.heap.size, 2, none⟩ = some (.slice A n c) := by rw [hW1, World.cell?_alloc_new]; rfl
  replace hz := Lib.hid (row_gr hz g1)
  replace hl := Lib.hid hl
  replace hF := Lib.hid hF
  replace g1 := Lib.hid g1
  go_enter Tryz.func38, Tryz.ntmps38
  go_upto_region 1 with fail
  rw [← hW1]
  clear hW1
  go_wp2_with fail
  go_loopw [5] (fun iv wr => ∃ k : Nat, k ≤ n ∧ iv = .int .i64 k ∧ Hid (F = findI id (zs.drop k) k) ∧ Hid (Gr W1 wr)) (fun iv _ => n - (intOf iv).toNat)
  case atStart => exact ⟨0, Nat.zero_le _, rfl, hF, Lib.hid (gr_refl _ _)⟩
  case round =>
    obtain ⟨k, hkn, rfl, hc, hg⟩ := hrel
    have p2 := gr_cell hg.out s2
    by_cases hlt : k < n
    · obtain ⟨x, B, o, hx, rfl, _, ha⟩ := rowS_elem curC_len (row_gr hz.out hg.out) (by decide) hlt
      have a0 : wr.cell? ⟨B, o + k * 5, none⟩ = some (.int .i64 x.id) := ha 0 (by decide)
      have hkI : (k : Int) < (n : Int) := by omega
      have hk0 : (0 : Int) ≤ (k : Int) := by omega
      have hstep := findI_drop (id := id) hx
      rw [← hc.out] at hstep
      clear ha hx
      by_cases he : x.id = id
      · rw [if_pos he] at hstep
        have hq : (x.id == id) = true := by simp [he]
        replace hstep := Lib.hid hstep
        replace he := Lib.hid he
        go_wp2
        go_ret
        exact ⟨by rw [hstep.out]; rfl, gr_trans g1.out hg.out⟩
      · rw [if_neg he] at hstep
        have hq : (x.id == id) = false := by simp [he]
        replace hstep := Lib.hid hstep
        replace he := Lib.hid he
        go_wp2
        go_roundw
        case rel => exact ⟨k + 1, by omega, by go_num, hstep, hg⟩
        case measure => simp [intOf]; omega
    · have hkI : ((k : Int) < (n : Int)) = False := eq_false (by omega)
      have hf : F = -1 := by rw [hc.out, List.drop_eq_nil_of_le (by rw [hl.out]; omega)]; rfl
      replace hf := Lib.hid hf
      go_wp2
      go_ret
      exact ⟨by rw [hf.out]; rfl, gr_trans g1.out hg.out⟩
theorem cur_ones (x : Cur) : ∀ u ∈ curC x, u.oneCell' = true := fun u hu => by
  simp [curC] at hu
  rcases hu with rfl | rfl | rfl | rfl | rfl <;> rfl
set_option maxHeartbeats 8000000 in
set_option maxRecDepth 100000 in
theorem without_any (A : Option Addr) (n c : Nat) (zs : List Cur) (id : Int) (w : World) (hn : n ≤ 100000) (hz : Row w A n 5 (sR curC zs)) :
    Calls Tryz.prog 39 #[.slice A n c, .int .i64 id] w fun e w' => ∃ v, e = .returned v ∧ w'.ownsRow w.heap.size 52 5 v (zs.filter fun y => !(y.id == id)).length (sR curC (zs.filter fun y => !(y.id == id))) ∧ Gr w w' := by
  obtain ⟨ii, hii, hz0, hz1, hz2⟩ := info_parts infoCuE
  have hl : zs.length = n := by have := hz.1; rw [sR_len curC 5 curC_len] at this; omega
  replace hz := Lib.hid hz
  replace hl := Lib.hid hl
  go_enter Tryz.func39, Tryz.ntmps39
  go_wp2
  go_loopw [5, 6] (fun ov iv wr => ∃ k m : Nat, k ≤ n ∧ iv = .int .i64 k ∧ m ≤ k ∧ Hid (m = ((zs.take k).filter fun y => !(y.id == id)).length) ∧ Hid (wr.ownsRow w.heap.size 52 5 ov m (sR curC ((zs.take k).filter fun y => !(y.id == id)))) ∧ Hid (Below w.heap.size w wr)) (fun _ iv _ => n - (intOf iv).toNat)
  case atStart => exact ⟨0, 0, Nat.zero_le _, rfl, Nat.le_refl _, rfl, World.ownsRow_nil _ _ _ _, Below.refl _ _⟩
  case round =>
    obtain ⟨k, m, hkn, rfl, hmk, hm, hown, hbel⟩ := hrel
    by_cases hlt : k < n
    · obtain ⟨x, B, o, hx, rfl, _, ha⟩ := rowS_elem curC_len (row_below hz.out hbel.out) (by decide) hlt
      have a0 : wr.cell? ⟨B, o + k * 5, none⟩ = some (.int .i64 x.id) := ha 0 (by decide)
      have a1 : wr.cell? ⟨B, o + k * 5 + 1, none⟩ = some (.int .i64 x.rows) := ha 1 (by decide)
      have a2 : wr.cell? ⟨B, o + k * 5 + 2, none⟩ = some (.int .i64 x.size) := ha 2 (by decide)
      have a3 : wr.cell? ⟨B, o + k * 5 + 3, none⟩ = some (.int .i64 x.tl) := ha 3 (by decide)
      have a4 : wr.cell? ⟨B, o + k * 5 + 4, none⟩ = some (.string (txt x.file)) := ha 4 (by decide)
      have hkI : (k : Int) < (n : Int) := by omega
      have hk0 : (0 : Int) ≤ (k : Int) := by omega
      obtain ⟨h1, h2⟩ := List.getElem?_eq_some_iff.1 hx
      have htk : zs.take (k + 1) = zs.take k ++ [x] := by rw [List.take_succ_eq_append_getElem h1, h2]
      clear ha hx h1 h2
      by_cases he : x.id = id
      · have hq : (x.id == id) = true := by simp [he]
        have hf : (zs.take (k + 1)).filter (fun y => !(y.id == id)) = (zs.take k).filter (fun y => !(y.id == id)) := by rw [htk, List.filter_append]; simp [he]
        replace hf := Lib.hid hf
        clear htk
        replace he := Lib.hid he
        go_wp2
        go_roundw
        case rel => exact ⟨k + 1, m, by omega, by go_num, by omega, Lib.hid (by rw [hf.out]; exact hm.out), Lib.hid (by rw [hf.out]; exact hown.out), hbel⟩
        case measure => simp [intOf]; omega
      · have hq : (x.id == id) = false := by simp [he]
        have hf : (zs.take (k + 1)).filter (fun y => !(y.id == id)) = (zs.take k).filter (fun y => !(y.id == id)) ++ [x] := by rw [htk, List.filter_append]; simp [he]
        have hone := cur_ones x
        have hs1 := hbel.out.size
        unfold curC at hone
        replace hone := Lib.hid hone
        replace hf := Lib.hid hf
        clear htk
        replace he := Lib.hid he
        go_wp2_with (at_builtin; refine wpList_append_own _ rfl _ _ 28 rfl w.heap.size 52 ii (.agg #[.int .i64 0, .int .i64 0, .int .i64 0, .int .i64 0, .string ⟨#[]⟩]) 5 48 Tryz.underlying28 hii hz0 hz1 hz2 rfl (by decide) u5 _ _ rfl (hown.out.alloc _) ⟨wr.heap.size, 0, none⟩ 1 1 [.int .i64 x.id, .int .i64 x.rows, .int .i64 x.size, .int .i64 x.tl, .string (txt x.file)] rfl rfl ?c1 ?c2 ?c3 ?c4 ?c5 ?_; rotate_right; intro v' W4 hown4 hgrow _nl; clear _nl; have hb4 := hbel.out.trans (below_append hown.out hgrow hbel.out.size); clear hgrow; replace hown4 := Lib.hid hown4; replace hb4 := Lib.hid hb4)
        case c1 =>
          intro j u hj
          have hjl := (List.getElem?_eq_some_iff.1 hj).1
          simp only [List.length_cons, List.length_nil] at hjl
          rw [add_plain, Nat.zero_add, World.cell?_alloc_new]
          simpa using hj
        case c2 => exact hone.out
        case c3 => unfold maxLen; omega
        case c4 => omega
        case c5 => simp; omega
        go_roundw
        case rel => exact ⟨k + 1, m + 1, by omega, by go_num, by omega, Lib.hid (by rw [hf.out, List.length_append, ← hm.out]; rfl), Lib.hid (by rw [hf.out, sR_append]; exact hown4.out), hb4⟩
        case measure => simp [intOf]; omega
    · have hkI : ((k : Int) < (n : Int)) = False := eq_false (by omega)
      have hfull : zs.take k = zs := List.take_of_length_le (by rw [hl.out]; omega)
      have ho := hown.out
      have hm2 := hm.out
      rw [hfull] at ho hm2
      rw [hm2] at ho
      replace ho := Lib.hid ho
      clear hm hm2 hown hfull
      go_wp2
      go_ret
      exact ⟨_, rfl, ho.out, gr_of_below hbel.out (Nat.le_refl _)⟩
end Go.Proofs.YtmldoeeangekoaaGreatDoor
namespace Go.Proofs.YtmldoeeangekoaaGreatDoor
open Go.RowKit

def mayM (nx now : Int) (n : Nat) (rows size ticks : Int) : Int :=
  if rows < 0 ∨ 2000 < rows ∨ size < 1 ∨ 100 < size ∨ ticks < 0 ∨ 100000 < ticks ∨ 1000000000 < now + ticks then 1 else if 20 ≤ n ∨ 1000000 < nx then 8 else 0
set_option maxHeartbeats 8000000 in
set_option maxRecDepth 100000 in
theorem rmay_any (nx now pts rows size ticks : Int) (A : Option Addr) (n c : Nat) (seg : List UInt8) (w : World) (hnow : 0 ≤ now ∧ now ≤ 1000000000) :
    Calls Tryz.prog 9 #[.agg #[.int .i64 nx, .int .i64 now, .slice A n c, .string (txt seg), .int .i64 pts], .int .i64 rows, .int .i64 size, .int .i64 ticks] w fun e w' => e = .returned (.int .i64 (mayM nx now n rows size ticks)) ∧ Gr w w' := by
  obtain ⟨W1, hW1⟩ : ∃ W1, W1 = w.alloc (.cells #[.int .i64 nx, .int .i64 now, .slice A n c, .string (txt seg), .int .i64 pts] 32) := ⟨_, rfl⟩
  have g1 : Gr w W1 := by rw [hW1]; exact gr_alloc _ _ _
  have s0 : W1.cell? ⟨w.heap.size, 0, none⟩ = some (.int .i64 nx) := by rw [hW1, World.cell?_alloc_new]; rfl
  have s1 : W1.cell? ⟨w.heap.size, 1, none⟩ = some (.int .i64 now) := by rw [hW1, World.cell?_alloc_new]; rfl
  have s2 : W1.cell? ⟨w.heap.size, 2, none⟩ = some (.slice A n c) := by rw [hW1, World.cell?_alloc_new]; rfl
  obtain ⟨M, hM⟩ : ∃ M, M = mayM nx now n rows size ticks := ⟨_, rfl⟩
  rw [← hM]
  replace hM := Lib.hid hM
  replace g1 := Lib.hid g1
  by_cases ht : 0 ≤ ticks ∧ ticks ≤ 100000
  · have hwr : IntKind.i64.wrap (now + ticks) = now + ticks := IntWalk.i64_in _ (by omega)
    go_enter Tryz.func9, Tryz.ntmps9
    go_upto_region 1 with fail
    rw [← hW1]
    clear hW1
    go_wp2
    all_goals
      go_ret
      refine ⟨?_, g1.out⟩
      apply congrArg (fun b => Ending.returned (Value.int .i64 b))
      rw [hM.out]
      unfold mayM
      first
        | (rw [if_pos (by omega)]; done)
        | (rw [if_neg (by omega), if_pos (by omega)]; done)
        | (rw [if_neg (by omega), if_neg (by omega)]; done)
        | skip
  · have hM1 : M = 1 := by
      rw [hM.out]
      unfold mayM
      rw [if_pos (by omega)]
    replace hM1 := Lib.hid hM1
    have hb : ticks < 0 ∨ (¬ ticks < 0 ∧ 100000 < ticks) := by omega
    rcases hb with hb | ⟨hb1, hb⟩
    all_goals
      go_enter Tryz.func9, Tryz.ntmps9
      go_upto_region 1 with fail
      rw [← hW1]
      clear hW1
      go_wp2
      all_goals
        go_ret
        exact ⟨by rw [hM1.out]; rfl, g1.out⟩
def beginM (rows size fr : Int) : Prop := (0 ≤ rows ∧ rows ≤ 2000) ∧ (1 ≤ size ∧ size ≤ 100) ∧ 0 ≤ fr ∧ (fr < rows ∨ fr = 0) ∧ fr % size = 0
instance (rows size fr : Int) : Decidable (beginM rows size fr) := by unfold beginM; exact inferInstance
set_option maxHeartbeats 8000000 in
set_option maxRecDepth 100000 in
theorem rbegins_any (rows size fr : Int) (w : World) (hfr : fr ≤ 9223372036854775807) :
    Calls Tryz.prog 46 #[.int .i64 rows, .int .i64 size, .int .i64 fr] w fun e w' => e = .returned (.bool (decide (beginM rows size fr))) ∧ w = w' := by
  obtain ⟨M, hM⟩ : ∃ M, M = decide (beginM rows size fr) := ⟨_, rfl⟩
  rw [← hM]
  have hM2 : M = true ↔ beginM rows size fr := by rw [hM, decide_eq_true_iff]
  clear hM
  replace hM2 := Lib.hid hM2
  by_cases hs : (1 ≤ size ∧ size ≤ 100) ∧ 0 ≤ fr
  · obtain ⟨⟨h1, h2⟩, h3⟩ := hs
    have hr0 := Int.emod_nonneg fr (show size ≠ 0 by omega)
    have hr1 := Int.emod_lt_of_pos fr (show 0 < size by omega)
    have htm : fr.tmod size = fr % size := by rw [Int.tmod_eq_emod_of_nonneg h3]
    have hne : (size == 0) = false := eqF (by omega)
    have hwr : IntKind.i64.wrap (fr % size) = fr % size := IntWalk.i64_in _ (by omega)
    obtain ⟨r, hr⟩ : ∃ r, r = fr % size := ⟨_, rfl⟩
    rw [← hr] at hr0 hr1 htm hwr
    replace hr := Lib.hid hr
    go_enter Tryz.func46, Tryz.ntmps46
    go_wp2
    all_goals
      go_ret
      refine ⟨?_, rfl⟩
      apply congrArg (fun b => Ending.returned (Value.bool b))
      rw [Bool.eq_iff_iff, hM2.out]
      unfold beginM
      rw [← hr.out]
      first | (simp; done) | (simp; omega) | (simp; intros; omega) | skip
  · have hM3 : M = false := by
      cases hh : M with
      | false => rfl
      | true => exact absurd ((fun (q : beginM rows size fr) => ⟨q.2.1, q.2.2.1⟩) (hM2.out.1 hh)) hs
    replace hM3 := Lib.hid hM3
    have hb : size < 1 ∨ (1 ≤ size ∧ 100 < size) ∨ ((1 ≤ size ∧ size ≤ 100) ∧ fr < 0) := by omega
    replace hs := Lib.hid hs
    rcases hb with hb | ⟨hb1, hb2⟩ | ⟨⟨hb1, hb2⟩, hb3⟩
    all_goals
      go_enter Tryz.func46, Tryz.ntmps46
      go_wp2
      all_goals
        go_ret
        exact ⟨by rw [hM3.out]; rfl, rfl⟩
end Go.Proofs.YtmldoeeangekoaaGreatDoor
namespace Go.Proofs.YtmldoeeangekoaaGreatDoor
open Go.RowKit

def rsC (nx now : Int) (v : Value) (seg : List UInt8) (pts : Int) : Array Value := #[.int .i64 nx, .int .i64 now, v, .string (txt seg), .int .i64 pts]
theorem infoRSt : (Tryz.prog.info? 32).map (·.size) = some 5 := by kernel_rfl
/-- Where a fold begins: the state, the note, the result's place, the cursor. -/
structure FB (w W1 : World) (nx now : Int) (v : Value) (seg : List UInt8) (pts : Int) (x : Nte) : Prop where
  g : Gr w W1
  s : W1.heap[w.heap.size]? = some (.cells (rsC nx now v seg pts) 32 (0, 0))
  n : W1.heap[w.heap.size + 1]? = some (.cells #[.int .i64 x.kind, .int .i64 x.c.id, .int .i64 x.c.rows, .int .i64 x.c.size, .int .i64 x.c.tl, .string (txt x.c.file)] 67 (0, 0))
  r : W1.heap[w.heap.size + 2]? = some (.cells #[.int .i64 0, .int .i64 0, .slice none 0 0, .string ⟨#[]⟩, .int .i64 0] 32 (0, 0))
  c : W1.heap[w.heap.size + 3]? = some (.cells #[.int .i64 x.c.id, .int .i64 x.c.rows, .int .i64 x.c.size, .int .i64 x.c.tl, .string (txt x.c.file)] 52 (0, 0))
/-- The world there. -/
def fbW (w : World) (nx now : Int) (v : Value) (seg : List UInt8) (pts : Int) (x : Nte) : World := ((((w.alloc (.cells (rsC nx now v seg pts) 32)).alloc (.cells #[.int .i64 x.kind, .int .i64 x.c.id, .int .i64 x.c.rows, .int .i64 x.c.size, .int .i64 x.c.tl, .string (txt x.c.file)] 67)).alloc (.cells #[.int .i64 0, .int .i64 0, .slice none 0 0, .string ⟨#[]⟩, .int .i64 0] 32)).alloc (.cells #[.int .i64 x.c.id, .int .i64 x.c.rows, .int .i64 x.c.size, .int .i64 x.c.tl, .string (txt x.c.file)] 52))
theorem fb_new (w : World) (nx now : Int) (v : Value) (seg : List UInt8) (pts : Int) (x : Nte) :
    FB w (fbW w nx now v seg pts x) nx now v seg pts x := by
  unfold fbW
  obtain ⟨V1, hV1⟩ : ∃ V1, V1 = w.alloc (.cells (rsC nx now v seg pts) 32) := ⟨_, rfl⟩
  obtain ⟨V2, hV2⟩ : ∃ V2, V2 = V1.alloc (.cells #[.int .i64 x.kind, .int .i64 x.c.id, .int .i64 x.c.rows, .int .i64 x.c.size, .int .i64 x.c.tl, .string (txt x.c.file)] 67) := ⟨_, rfl⟩
  obtain ⟨V3, hV3⟩ : ∃ V3, V3 = V2.alloc (.cells #[.int .i64 0, .int .i64 0, .slice none 0 0, .string ⟨#[]⟩, .int .i64 0] 32) := ⟨_, rfl⟩
  have z1 : V1.heap.size = w.heap.size + 1 := by rw [hV1]; simp
  have z2 : V2.heap.size = w.heap.size + 2 := by rw [hV2]; simp [z1]
  have z3 : V3.heap.size = w.heap.size + 3 := by rw [hV3]; simp [z2]
  have b1 := blk_new w (.cells (rsC nx now v seg pts) 32)
  have b2 := blk_new V1 (.cells #[.int .i64 x.kind, .int .i64 x.c.id, .int .i64 x.c.rows, .int .i64 x.c.size, .int .i64 x.c.tl, .string (txt x.c.file)] 67)
  have b3 := blk_new V2 (.cells #[.int .i64 0, .int .i64 0, .slice none 0 0, .string ⟨#[]⟩, .int .i64 0] 32)
  have b4 := blk_new V3 (.cells #[.int .i64 x.c.id, .int .i64 x.c.rows, .int .i64 x.c.size, .int .i64 x.c.tl, .string (txt x.c.file)] 52)
  rw [← hV1, ← hV2, ← hV3]
  rw [← hV1] at b1
  rw [← hV2, z1] at b2
  rw [← hV3, z2] at b3
  rw [z3] at b4
  have g1 : Gr w V1 := by rw [hV1]; exact gr_alloc _ _ _
  have g2 : Gr V1 V2 := by rw [hV2]; exact gr_alloc _ _ _
  have g3 : Gr V2 V3 := by rw [hV3]; exact gr_alloc _ _ _
  have g4 : Gr V3 (V3.alloc (.cells #[.int .i64 x.c.id, .int .i64 x.c.rows, .int .i64 x.c.size, .int .i64 x.c.tl, .string (txt x.c.file)] 52)) := gr_alloc _ _ _
  exact ⟨gr_trans g1 (gr_trans g2 (gr_trans g3 g4)), gr_blk (gr_trans g2 (gr_trans g3 g4)) b1 (by simp), gr_blk (gr_trans g3 g4) b2 (by simp), gr_blk g4 b3 (by simp), b4⟩
theorem rs_there {W : World} {b : Nat} {v0 v1 v2 v3 v4 : Value} {t : TypeId} (h : W.heap[b]? = some (.cells #[v0, v1, v2, v3, v4] t (0, 0))) : W.there b 0 5 := fun j hj => ⟨by
  match j, hj with
  | 0, _ => rw [fcellD h rfl]; rfl
  | 1, _ => rw [fcellD h rfl]; rfl
  | 2, _ => rw [fcellD h rfl]; rfl
  | 3, _ => rw [fcellD h rfl]; rfl
  | 4, _ => rw [fcellD h rfl]; rfl
  | j + 5, hj => omega, fzeroD h _⟩
set_option maxHeartbeats 8000000 in
set_option maxRecDepth 100000 in
theorem rfold_bad (nx now pts : Int) (A : Option Addr) (n c : Nat) (seg : List UInt8) (x : Nte) (w : World) (hx : ¬ okN x) :
    Calls Tryz.prog 21 #[.agg #[.int .i64 nx, .int .i64 now, .slice A n c, .string (txt seg), .int .i64 pts], .agg #[.int .i64 x.kind, .int .i64 x.c.id, .int .i64 x.c.rows, .int .i64 x.c.size, .int .i64 x.c.tl, .string (txt x.c.file)]] w fun e w' => e = .returned (.agg #[.int .i64 nx, .int .i64 now, .slice A n c, .string (txt seg), .int .i64 pts]) ∧ Gr w w' := by
  have hB := fb_new w nx now (.slice A n c) seg pts x
  obtain ⟨W1, hW1⟩ : ∃ W1, W1 = fbW w nx now (.slice A n c) seg pts x := ⟨_, rfl⟩
  rw [← hW1] at hB
  obtain ⟨g1, hs, hn, hr, hc⟩ := hB
  have cN := fun W => refNote_any x W
  rw [decide_eq_false hx] at cN
  unfold nteV at cN
  replace cN := Lib.hid cN
  replace hW1 := Lib.hid hW1
  have n0 := fcellD hn (j := 0) rfl
  have n1 := fcellD hn (j := 1) rfl
  have n2 := fcellD hn (j := 2) rfl
  have n3 := fcellD hn (j := 3) rfl
  have n4 := fcellD hn (j := 4) rfl
  have n5 := fcellD hn (j := 5) rfl
  clear hn hc
  replace hs := Lib.hid hs
  replace hr := Lib.hid hr
  go_enter Tryz.func21, Tryz.ntmps21
  go_upto_region 2 with fail
  change Code.wp _ _ _ _ (fbW w nx now (.slice A n c) seg pts x)
  rw [← hW1.out]
  go_wp2_with fail
  refine (cN.out _).mono ?_
  rintro e w2 ⟨rfl, g2⟩
  have hs2 := gr_blk g2 hs.out (by simp)
  have hr2 := gr_blk g2 hr.out (by simp)
  have m0 := fcellD hs2 (j := 0) rfl
  have m1 := fcellD hs2 (j := 1) rfl
  have m2 := fcellD hs2 (j := 2) rfl
  have m3 := fcellD hs2 (j := 3) rfl
  have m4 := fcellD hs2 (j := 4) rfl
  have hth := rs_there hr2
  have hsame := World.rangeAt_setCells_same w2 (w.heap.size + 2) 0 [.int .i64 nx, .int .i64 now, .slice A n c, .string (txt seg), .int .i64 pts] hth
  have hgs := gr_setCells w2 (w.heap.size + 2) 0 [.int .i64 nx, .int .i64 now, .slice A n c, .string (txt seg), .int .i64 pts]
  have r0 := hsame 0 _ rfl
  have r1 := hsame 1 _ rfl
  have r2 := hsame 2 _ rfl
  have r3 := hsame 3 _ rfl
  have r4 := hsame 4 _ rfl
  simp only [Nat.zero_add] at r0 r1 r2 r3 r4
  have hgf : Gr w (w2.setCells (w.heap.size + 2) 0 [.int .i64 nx, .int .i64 now, .slice A n c, .string (txt seg), .int .i64 pts]) := gr_of_below ((gr_below (gr_trans g1 g2)).grown hgs (gr_trans g1 g2).size (fun k hk => by cases hk; omega)) (Nat.le_refl _)
  replace hgf := Lib.hid hgf
  clear hsame hgs g2 hs2 hr2 cN
  go_wp2_with (refine wpList_store_mid (op := ⟨none, _, _, _, _, _⟩) rfl 32 _ _ rfl (w.heap.size + 2) 0 #[.int .i64 nx, .int .i64 now, .slice A n c, .string (txt seg), .int .i64 pts] rfl rfl hth infoRSt (by simp [Value.oneCell']) ?_)
  (try simp only [Exit.inBlock, Exit.then])
  refine bodyPost_ret (by simp [results, Tryz.results21, go_sem, r0, r1, r2, r3, r4]; try rfl) rfl ?_
  exact ⟨rfl, hgf.out⟩
end Go.Proofs.YtmldoeeangekoaaGreatDoor
namespace Go.Proofs.YtmldoeeangekoaaGreatDoor
open Go.RowKit

theorem own_ne_blk {w : World} {base size n b : Nat} {e t : TypeId} {v : Value} {xs : List Value} {cs : Array Value} {fr : Nat × Nat} (h : w.ownsRow base e size v n xs) (hb : w.heap[b]? = some (.cells cs t fr)) (he : e ≠ t) : v.ownBlock ≠ some b := by
  rcases h.2 with ⟨rfl, _⟩ | ⟨g', cap, cur, rfl, _, hg, _⟩
  · intro e; cases e
  · intro e2
    have : g' = b := by simpa [Value.ownBlock] using e2
    subst this
    rw [hb] at hg
    injection hg with h1
    injection h1 with _ h2
    exact he h2.symm
/-- Two results in memory are stored, one behind the other. -/
theorem two_res {W : World} {RB XB : Nat} {y0 y1 y2 y3 y4 z0 z1 z2 z3 z4 : Value} {tR tX : TypeId} (hR : W.heap[RB]? = some (.cells #[y0, y1, y2, y3, y4] tR (0, 0))) (hX : W.heap[XB]? = some (.cells #[z0, z1, z2, z3, z4] tX (0, 0))) (hne : RB ≠ XB) (a0 a1 a2 a3 a4 x0 x1 x2 x3 x4 : Value) :
    W.there RB 0 5 ∧ (W.setCells RB 0 [a0, a1, a2, a3, a4]).there XB 0 5 ∧
    (∀ (j : Nat) (v : Value), (#[a0, a1, a2, a3, a4] : Array Value)[j]? = some v → ((W.setCells RB 0 [a0, a1, a2, a3, a4]).setCells XB 0 [x0, x1, x2, x3, x4]).cell? ⟨RB, j, none⟩ = some v) ∧
    (∀ (j : Nat) (v : Value), (#[x0, x1, x2, x3, x4] : Array Value)[j]? = some v → ((W.setCells RB 0 [a0, a1, a2, a3, a4]).setCells XB 0 [x0, x1, x2, x3, x4]).cell? ⟨XB, j, none⟩ = some v) ∧
    (∀ w : World, Gr w W → w.heap.size ≤ RB → w.heap.size ≤ XB → Gr w ((W.setCells RB 0 [a0, a1, a2, a3, a4]).setCells XB 0 [x0, x1, x2, x3, x4])) := by
  have h1 : (W.setCells RB 0 [a0, a1, a2, a3, a4]).heap[RB]? = some (.cells #[a0, a1, a2, a3, a4] tR (0, 0)) := blk_set (blk_set (blk_set (blk_set (blk_set hR 0 a0) 1 a1) 2 a2) 3 a3) 4 a4
  have g1 := gr_setCells W RB 0 [a0, a1, a2, a3, a4]
  have hX1 := gr_blk g1 hX (by simp; exact fun e => hne e.symm)
  have h2 : ((W.setCells RB 0 [a0, a1, a2, a3, a4]).setCells XB 0 [x0, x1, x2, x3, x4]).heap[XB]? = some (.cells #[x0, x1, x2, x3, x4] tX (0, 0)) := blk_set (blk_set (blk_set (blk_set (blk_set hX1 0 x0) 1 x1) 2 x2) 3 x3) 4 x4
  have g2 := gr_setCells (W.setCells RB 0 [a0, a1, a2, a3, a4]) XB 0 [x0, x1, x2, x3, x4]
  have h3 := gr_blk g2 h1 (by simp; exact hne)
  refine ⟨rs_there hR, rs_there hX1, fun j v hj => fcellD h3 hj, fun j v hj => fcellD h2 hj, fun w g hr hx => ?_⟩
  have b1 := (gr_below g).grown g1 g.size (fun k hk => by cases hk; exact hr)
  exact gr_of_below (b1.grown g2 b1.size (fun k hk => by cases hk; exact hx)) (Nat.le_refl _)
theorem findI_yes {id : Int} : ∀ (zs : List Cur) (k : Nat), findI id zs k = -1 ∨ ∃ (j : Nat) (x : Cur), findI id zs k = ((k + j : Nat) : Int) ∧ zs[j]? = some x ∧ x.id = id
  | [], _ => .inl rfl
  | x :: r, k => by
    unfold findI
    by_cases h : x.id = id
    · rw [if_pos h]; exact .inr ⟨0, x, by simp, rfl, h⟩
    · rw [if_neg h]
      rcases findI_yes r (k + 1) with h1 | ⟨j, y, h1, h2, h3⟩
      · exact .inl h1
      · exact .inr ⟨j + 1, y, by rw [h1]; congr 1; omega, by simpa using h2, h3⟩
/-- What Closed answers. -/
def ClosedPost (nx now pts id : Int) (A : Option Addr) (n c : Nat) (seg : List UInt8) (op : List Cur) (w : World) (e : Ending) (w' : World) : Prop :=
  (((id < 1 ∨ nx ≤ id) ∧ e = .returned (.tuple #[.agg #[.int .i64 nx, .int .i64 now, .slice A n c, .string (txt seg), .int .i64 pts], curV cu0, .int .i64 11])) ∨
    ((1 ≤ id ∧ id < nx) ∧ findI id op 0 = -1 ∧ e = .returned (.tuple #[.agg #[.int .i64 nx, .int .i64 now, .slice A n c, .string (txt seg), .int .i64 pts], curV cu0, .int .i64 12])) ∨
    (∃ (k : Nat) (x : Cur) (v : Value), (1 ≤ id ∧ id < nx) ∧ findI id op 0 = (k : Int) ∧ op[k]? = some x ∧ x.id = id ∧ e = .returned (.tuple #[.agg #[.int .i64 nx, .int .i64 now, v, .string (txt seg), .int .i64 pts], curV x, .int .i64 0]) ∧
      w'.ownsRow w.heap.size 52 5 v (op.filter fun y => !(y.id == id)).length (sR curC (op.filter fun y => !(y.id == id))))) ∧ Gr w w'
set_option maxHeartbeats 16000000 in
set_option maxRecDepth 100000 in
theorem rclosed_any (nx now pts id : Int) (A : Option Addr) (n c : Nat) (seg : List UInt8) (op : List Cur) (w : World) (hn : n ≤ 100000) (hz : Row w A n 5 (sR curC op)) :
    Calls Tryz.prog 14 #[.agg #[.int .i64 nx, .int .i64 now, .slice A n c, .string (txt seg), .int .i64 pts], .int .i64 id] w (ClosedPost nx now pts id A n c seg op w) := by
  have hl : op.length = n := by have := hz.1; rw [sR_len curC 5 curC_len] at this; omega
  obtain ⟨Wa, hWa⟩ : ∃ Wa, Wa = w.alloc (.cells #[.int .i64 nx, .int .i64 now, .slice A n c, .string (txt seg), .int .i64 pts] 32) := ⟨_, rfl⟩
  obtain ⟨Wb, hWb⟩ : ∃ Wb, Wb = Wa.alloc (.cells #[.int .i64 0, .int .i64 0, .slice none 0 0, .string ⟨#[]⟩, .int .i64 0] 32) := ⟨_, rfl⟩
  obtain ⟨W0, hW0⟩ : ∃ W0, W0 = Wb.alloc (.cells #[.int .i64 0, .int .i64 0, .int .i64 0, .int .i64 0, .string ⟨#[]⟩] 52) := ⟨_, rfl⟩
  have sa : Wa.heap.size = w.heap.size + 1 := by rw [hWa]; simp
  have sb : Wb.heap.size = w.heap.size + 1 + 1 := by rw [hWb]; simp [sa]
  have ga : Gr w Wa := by rw [hWa]; exact gr_alloc _ _ _
  have gb : Gr Wa Wb := by rw [hWb]; exact gr_alloc _ _ _
  have gc : Gr Wb W0 := by rw [hW0]; exact gr_alloc _ _ _
  have g0 := gr_trans ga (gr_trans gb gc)
  have hS : W0.heap[w.heap.size]? = some (.cells #[.int .i64 nx, .int .i64 now, .slice A n c, .string (txt seg), .int .i64 pts] 32 (0, 0)) := gr_blk (gr_trans gb gc) (by rw [hWa]; exact blk_new _ _) (by simp)
  have hR : W0.heap[w.heap.size + 1]? = some (.cells #[.int .i64 0, .int .i64 0, .slice none 0 0, .string ⟨#[]⟩, .int .i64 0] 32 (0, 0)) := gr_blk gc (by rw [← sa, hWb]; exact blk_new _ _) (by simp)
  have hX : W0.heap[w.heap.size + 1 + 1]? = some (.cells #[.int .i64 0, .int .i64 0, .int .i64 0, .int .i64 0, .string ⟨#[]⟩] 52 (0, 0)) := by rw [← sb, hW0]; exact blk_new _ _
  have hW : ((w.alloc (.cells #[.int .i64 nx, .int .i64 now, .slice A n c, .string (txt seg), .int .i64 pts] 32)).alloc (.cells #[.int .i64 0, .int .i64 0, .slice none 0 0, .string ⟨#[]⟩, .int .i64 0] 32)).alloc (.cells #[.int .i64 0, .int .i64 0, .int .i64 0, .int .i64 0, .string ⟨#[]⟩] 52) = W0 := by rw [hW0, hWb, hWa]
  have hz0 := row_gr hz g0
  have p0 : W0.cell? ⟨w.heap.size, 0, none⟩ = some (.int .i64 nx) := fcellD hS rfl
  have p1 : W0.cell? ⟨w.heap.size, 1, none⟩ = some (.int .i64 now) := fcellD hS rfl
  have p2 : W0.cell? ⟨w.heap.size, 2, none⟩ = some (.slice A n c) := fcellD hS rfl
  have p3 : W0.cell? ⟨w.heap.size, 3, none⟩ = some (.string (txt seg)) := fcellD hS rfl
  have p4 : W0.cell? ⟨w.heap.size, 4, none⟩ = some (.int .i64 pts) := fcellD hS rfl
  replace hl := Lib.hid hl
  replace hz0 := Lib.hid hz0
  replace g0 := Lib.hid g0
  replace hS := Lib.hid hS
  replace hW := Lib.hid hW
  clear hWa hWb hW0 sa sb ga gb gc hz
  obtain ⟨SB, hSB⟩ : ∃ SB, SB = w.heap.size := ⟨_, rfl⟩
  obtain ⟨RB, hRB⟩ : ∃ RB, RB = w.heap.size + 1 := ⟨_, rfl⟩
  obtain ⟨XB, hXB⟩ : ∃ XB, XB = w.heap.size + 1 + 1 := ⟨_, rfl⟩
  have hne : RB ≠ XB := by omega
  have hwR : w.heap.size ≤ RB := by omega
  have hwX : w.heap.size ≤ XB := by omega
  have hSR : SB ≠ RB := by omega
  have hSX : SB ≠ XB := by omega
  rw [← hSB] at p0 p1 p2 p3 p4
  replace hS : Hid (W0.heap[SB]? = some (.cells #[.int .i64 nx, .int .i64 now, .slice A n c, .string (txt seg), .int .i64 pts] 32 (0, 0))) := by rw [hSB]; exact hS
  rw [← hXB] at hX
  rw [← hRB] at hR
  replace hne := Lib.hid hne
  replace hwR := Lib.hid hwR
  replace hwX := Lib.hid hwX
  replace hSR := Lib.hid hSR
  replace hSX := Lib.hid hSX
  replace hSB := Lib.hid hSB
  replace hRB := Lib.hid hRB
  replace hXB := Lib.hid hXB
  by_cases hb : id < 1 ∨ nx ≤ id
  · obtain ⟨t1, t2, t3, t4, t5⟩ := two_res hR hX hne.out (.int .i64 nx) (.int .i64 now) (.slice A n c) (.string (txt seg)) (.int .i64 pts) (.int .i64 0) (.int .i64 0) (.int .i64 0) (.int .i64 0) (.string ⟨#[]⟩)
    have hGF := t5 w g0.out hwR.out hwX.out
    generalize hW9 : W0.setCells RB 0 [.int .i64 nx, .int .i64 now, .slice A n c, .string (txt seg), .int .i64 pts] = W9 at *
    generalize hW10 : W9.setCells XB 0 [.int .i64 0, .int .i64 0, .int .i64 0, .int .i64 0, .string ⟨#[]⟩] = W10 at *
    replace hW9 := Lib.hid hW9
    replace hW10 := Lib.hid hW10
    have r0 := t3 0 _ rfl
    have r1 := t3 1 _ rfl
    have r2 := t3 2 _ rfl
    have r3 := t3 3 _ rfl
    have r4 := t3 4 _ rfl
    have x0 := t4 0 _ rfl
    have x1 := t4 1 _ rfl
    have x2 := t4 2 _ rfl
    have x3 := t4 3 _ rfl
    have x4 := t4 4 _ rfl
    have hrx := Lib.hid (And.intro (And.intro r0 (And.intro r1 (And.intro r2 (And.intro r3 r4)))) (And.intro x0 (And.intro x1 (And.intro x2 (And.intro x3 x4)))))
    replace hGF := Lib.hid hGF
    replace t1 := Lib.hid t1
    replace t2 := Lib.hid t2
    clear t3 t4 t5 hR hX r0 r1 r2 r3 r4 x0 x1 x2 x3 x4
    have hb2 : id < 1 ∨ (¬ id < 1 ∧ nx ≤ id) := by omega
    rcases hb2 with hb1 | ⟨hb1, hb2⟩
    all_goals
      replace hb := Lib.hid hb
      go_enter Tryz.func14, Tryz.ntmps14
      go_upto_region 1 with fail
      rw [hW.out, ← hXB.out, ← hRB.out, ← hSB.out]
      go_upto_region 2 with fail
      go_wp2_with (first
        | (refine wpList_store_mid (w := W0) (op := ⟨none, _, _, _, _, _⟩) rfl 32 _ _ rfl RB 0 #[.int .i64 nx, .int .i64 now, .slice A n c, .string (txt seg), .int .i64 pts] rfl rfl t1.out infoRSt (by simp [Value.oneCell']) ?_; rw [hW9.out])
        | (refine wpList_store_mid (w := W9) (op := ⟨none, _, _, _, _, _⟩) rfl 52 _ _ rfl XB 0 #[.int .i64 0, .int .i64 0, .int .i64 0, .int .i64 0, .string ⟨#[]⟩] rfl rfl t2.out infoCu (by simp [Value.oneCell']) ?_; rw [hW10.out]))
      (try simp only [Exit.inBlock, Exit.then])
      obtain ⟨⟨r0, r1, r2, r3, r4⟩, ⟨x0, x1, x2, x3, x4⟩⟩ := hrx.out
      refine bodyPost_ret (by simp [results, Tryz.results14, go_sem, r0, r1, r2, r3, r4, x0, x1, x2, x3, x4]; try rfl) rfl ?_
      exact ⟨.inl ⟨hb.out, rfl⟩, hGF.out⟩
  · have hb1 : ¬ id < 1 := fun h => hb (.inl h)
    have hb2 : ¬ nx ≤ id := fun h => hb (.inr h)
    have hin : 1 ≤ id ∧ id < nx := by omega
    have cF := fun W (g : Gr W0 W) => rfind_any nx now pts id A n c seg op W (by omega) (row_gr hz0.out g)
    replace cF := Lib.hid cF
    replace hb := Lib.hid hb
    replace hin := Lib.hid hin
    replace hR := Lib.hid hR
    replace hX := Lib.hid hX
    go_enter Tryz.func14, Tryz.ntmps14
    go_upto_region 1 with fail
    rw [hW.out, ← hXB.out, ← hRB.out, ← hSB.out]
    go_wp2_with fail
    refine (cF.out _ (gr_refl _ _)).mono ?_
    rintro e W1 ⟨rfl, g1⟩
    have hS1 := gr_blk g1 hS.out (by simp)
    have hR1 := gr_blk g1 hR.out (by simp)
    have hX1 := gr_blk g1 hX.out (by simp)
    have G1 := gr_trans g0.out g1
    have hz1 := row_gr hz0.out g1
    clear p0 p1 p2 p3 p4 cF
    have p0 : W1.cell? ⟨SB, 0, none⟩ = some (.int .i64 nx) := fcellD hS1 rfl
    have p1 : W1.cell? ⟨SB, 1, none⟩ = some (.int .i64 now) := fcellD hS1 rfl
    have p2 : W1.cell? ⟨SB, 2, none⟩ = some (.slice A n c) := fcellD hS1 rfl
    have p3 : W1.cell? ⟨SB, 3, none⟩ = some (.string (txt seg)) := fcellD hS1 rfl
    have p4 : W1.cell? ⟨SB, 4, none⟩ = some (.int .i64 pts) := fcellD hS1 rfl
    rcases findI_yes (id := id) op 0 with hf | ⟨k, x, hf, hk, hxi⟩
    · rw [hf]
      have hf0 := Lib.hid hf
      clear hf
      obtain ⟨t1, t2, t3, t4, t5⟩ := two_res hR1 hX1 hne.out (.int .i64 nx) (.int .i64 now) (.slice A n c) (.string (txt seg)) (.int .i64 pts) (.int .i64 0) (.int .i64 0) (.int .i64 0) (.int .i64 0) (.string ⟨#[]⟩)
      have hGF := t5 w G1 hwR.out hwX.out
      generalize hW9 : W1.setCells RB 0 [.int .i64 nx, .int .i64 now, .slice A n c, .string (txt seg), .int .i64 pts] = W9 at *
      generalize hW10 : W9.setCells XB 0 [.int .i64 0, .int .i64 0, .int .i64 0, .int .i64 0, .string ⟨#[]⟩] = W10 at *
      replace hW9 := Lib.hid hW9
      replace hW10 := Lib.hid hW10
      have hrx := Lib.hid (And.intro (And.intro (t3 0 _ rfl) (And.intro (t3 1 _ rfl) (And.intro (t3 2 _ rfl) (And.intro (t3 3 _ rfl) (t3 4 _ rfl))))) (And.intro (t4 0 _ rfl) (And.intro (t4 1 _ rfl) (And.intro (t4 2 _ rfl) (And.intro (t4 3 _ rfl) (t4 4 _ rfl))))))
      replace hGF := Lib.hid hGF
      replace t1 := Lib.hid t1
      replace t2 := Lib.hid t2
      clear t3 t4 t5 hR1 hX1 hS1 G1 hz1 g1
      go_upto_region 5 with fail
      go_wp2_with (first
        | (refine wpList_store_mid (w := W1) (op := ⟨none, _, _, _, _, _⟩) rfl 32 _ _ rfl RB 0 #[.int .i64 nx, .int .i64 now, .slice A n c, .string (txt seg), .int .i64 pts] rfl rfl t1.out infoRSt (by simp [Value.oneCell']) ?_; rw [hW9.out])
        | (refine wpList_store_mid (w := W9) (op := ⟨none, _, _, _, _, _⟩) rfl 52 _ _ rfl XB 0 #[.int .i64 0, .int .i64 0, .int .i64 0, .int .i64 0, .string ⟨#[]⟩] rfl rfl t2.out infoCu (by simp [Value.oneCell']) ?_; rw [hW10.out]))
      (try simp only [Exit.inBlock, Exit.then])
      obtain ⟨⟨r0, r1, r2, r3, r4⟩, ⟨x0, x1, x2, x3, x4⟩⟩ := hrx.out
      refine bodyPost_ret (by simp [results, Tryz.results14, go_sem, r0, r1, r2, r3, r4, x0, x1, x2, x3, x4]; try rfl) rfl ?_
      exact ⟨.inr (.inl ⟨hin.out, hf0.out, rfl⟩), hGF.out⟩
    · rw [Nat.zero_add] at hf
      rw [hf]
      have hf0 := Lib.hid hf
      clear hf
      have hkn : k < n := by have := (List.getElem?_eq_some_iff.1 hk).1; have := hl.out; omega
      obtain ⟨x2, B, o, hx2, rfl, _, hc⟩ := rowS_elem curC_len hz1 (by decide) hkn
      obtain rfl : x2 = x := by rw [hk] at hx2; exact (Option.some.inj hx2).symm
      have hki : (k : Int) < (n : Int) := by omega
      have hk0 : (0 : Int) ≤ (k : Int) := by omega
      have hkf : ((k : Int) < 0) = False := eq_false (by omega)
      have a0 : W1.cell? ⟨B, o + k * 5, none⟩ = some (.int .i64 x2.id) := hc 0 (by decide)
      have a1 : W1.cell? ⟨B, o + k * 5 + 1, none⟩ = some (.int .i64 x2.rows) := hc 1 (by decide)
      have a2 : W1.cell? ⟨B, o + k * 5 + 2, none⟩ = some (.int .i64 x2.size) := hc 2 (by decide)
      have a3 : W1.cell? ⟨B, o + k * 5 + 3, none⟩ = some (.int .i64 x2.tl) := hc 3 (by decide)
      have a4 : W1.cell? ⟨B, o + k * 5 + 4, none⟩ = some (.string (txt x2.file)) := hc 4 (by decide)
      obtain ⟨W2, hW2⟩ : ∃ W2, W2 = W1.alloc (.cells #[.int .i64 x2.id, .int .i64 x2.rows, .int .i64 x2.size, .int .i64 x2.tl, .string (txt x2.file)] 52) := ⟨_, rfl⟩
      have g2 : Gr W1 W2 := by rw [hW2]; exact gr_alloc _ _ _
      obtain ⟨CB, hCB⟩ : ∃ CB, CB = W1.heap.size := ⟨_, rfl⟩
      have hC2 : W2.heap[CB]? = some (.cells #[.int .i64 x2.id, .int .i64 x2.rows, .int .i64 x2.size, .int .i64 x2.tl, .string (txt x2.file)] 52 (0, 0)) := by rw [hW2, hCB]; exact blk_new _ _
      have hS2 := gr_blk g2 hS1 (by simp)
      have hR2 := gr_blk g2 hR1 (by simp)
      have hX2 := gr_blk g2 hX1 (by simp)
      have G2 := gr_trans G1 g2
      have hCS : CB ≠ SB := by have := lt_of_blk hS1; omega
      have hCR : CB ≠ RB := by have := lt_of_blk hR1; omega
      have hCX : CB ≠ XB := by have := lt_of_blk hX1; omega
      have cW := without_any (some ⟨B, o, none⟩) n c op id W2 hn (row_gr hz1 g2)
      obtain ⟨fz, hfz⟩ : ∃ fz, fz = op.filter fun y => !(y.id == id) := ⟨_, rfl⟩
      rw [← hfz] at cW
      replace hfz := Lib.hid hfz
      replace hC2 := Lib.hid hC2
      replace hS2 := Lib.hid hS2
      replace hR2 := Lib.hid hR2
      replace hX2 := Lib.hid hX2
      replace G2 := Lib.hid G2
      replace hCS := Lib.hid hCS
      replace hCR := Lib.hid hCR
      replace hCX := Lib.hid hCX
      replace cW := Lib.hid cW
      replace hk := Lib.hid hk
      replace hxi := Lib.hid hxi
      clear hc hx2 hS1 hR1 hX1 G1 hz1 g1 g2
      go_upto_region 7 with fail
      rw [← hW2, ← hCB]
      clear hW2 hCB p0 p1 p2 p3 p4 a0 a1 a2 a3 a4
      have p2 : W2.cell? ⟨SB, 2, none⟩ = some (.slice (some ⟨B, o, none⟩) n c) := fcellD hS2.out rfl
      go_wp2_with fail
      refine cW.out.mono ?_
      rintro e W3 ⟨v, rfl, hv, g3⟩
      have hS3 := gr_blk g3 hS2.out (by simp)
      have q2 : W3.cell? ⟨SB, 2, none⟩ = some (.slice (some ⟨B, o, none⟩) n c) := fcellD hS3 rfl
      have z2 := fzeroD hS3 2
      obtain ⟨W4, hW4⟩ : ∃ W4, W4 = W3.setCell ⟨SB, 2, none⟩ v := ⟨_, rfl⟩
      have gs := gr_set W3 ⟨SB, 2, none⟩ v
      rw [← hW4] at gs
      have hS4 : W4.heap[SB]? = some (.cells #[.int .i64 nx, .int .i64 now, v, .string (txt seg), .int .i64 pts] 32 (0, 0)) := by rw [hW4]; exact blk_set hS3 2 v
      have hR4 := gr_blk gs (gr_blk g3 hR2.out (by simp)) (by simp; exact fun e => hSR.out e.symm)
      have hX4 := gr_blk gs (gr_blk g3 hX2.out (by simp)) (by simp; exact fun e => hSX.out e.symm)
      have hC4 := gr_blk gs (gr_blk g3 hC2.out (by simp)) (by simp; exact hCS.out)
      have hv4 := hv.kept gs (.inr (own_ne_blk hv hS3 (by decide)))
      have hsz3 : SB < W2.heap.size := lt_of_blk hS2.out
      have b4 := (gr_below (gr_trans G2.out g3)).grown gs (gr_trans G2.out g3).size (fun j hj => by cases hj; rw [hSB.out]; exact Nat.le_refl _)
      have G4 := gr_of_below b4 (Nat.le_refl _)
      have hvw := own_mono hv4 G2.out.size
      replace hv4 := Lib.hid hv4
      replace hvw := Lib.hid hvw
      replace G4 := Lib.hid G4
      obtain ⟨vA, vc, rfl, -, -⟩ := own_openS hv
      have hv3 : (Value.slice vA fz.length vc).ownBlock = some XB → False := fun e => by have h1 := (hv.lt _ e).1; have h2 := lt_of_blk hX2.out; omega
      replace hv3 := Lib.hid hv3
      clear hv g3 gs hS3 b4 hsz3 cW p2
      go_upto_region 8 with fail
      rw [← hW4]
      clear hW4 q2 z2
      have s0 : W4.cell? ⟨SB, 0, none⟩ = some (.int .i64 nx) := fcellD hS4 rfl
      have s1 : W4.cell? ⟨SB, 1, none⟩ = some (.int .i64 now) := fcellD hS4 rfl
      have s2 : W4.cell? ⟨SB, 2, none⟩ = some (.slice vA fz.length vc) := fcellD hS4 rfl
      have s3 : W4.cell? ⟨SB, 3, none⟩ = some (.string (txt seg)) := fcellD hS4 rfl
      have s4 : W4.cell? ⟨SB, 4, none⟩ = some (.int .i64 pts) := fcellD hS4 rfl
      have d0 : W4.cell? ⟨CB, 0, none⟩ = some (.int .i64 x2.id) := fcellD hC4 rfl
      have d1 : W4.cell? ⟨CB, 1, none⟩ = some (.int .i64 x2.rows) := fcellD hC4 rfl
      have d2 : W4.cell? ⟨CB, 2, none⟩ = some (.int .i64 x2.size) := fcellD hC4 rfl
      have d3 : W4.cell? ⟨CB, 3, none⟩ = some (.int .i64 x2.tl) := fcellD hC4 rfl
      have d4 : W4.cell? ⟨CB, 4, none⟩ = some (.string (txt x2.file)) := fcellD hC4 rfl
      have f0 : W4.cell? ⟨RB, 0, none⟩ = some (.int .i64 0) := fcellD hR4 rfl
      have z0 := fzeroD hR4 0
      have f1 : W4.cell? ⟨RB, 1, none⟩ = some (.int .i64 0) := fcellD hR4 rfl
      have z1 := fzeroD hR4 1
      have f2 : W4.cell? ⟨RB, 2, none⟩ = some (.slice none 0 0) := fcellD hR4 rfl
      have z2 := fzeroD hR4 2
      have f3 : W4.cell? ⟨RB, 3, none⟩ = some (.string ⟨#[]⟩) := fcellD hR4 rfl
      have z3 := fzeroD hR4 3
      have f4 : W4.cell? ⟨RB, 4, none⟩ = some (.int .i64 0) := fcellD hR4 rfl
      have z4 := fzeroD hR4 4
      have u0 : W4.cell? ⟨XB, 0, none⟩ = some (.int .i64 0) := fcellD hX4 rfl
      have v0 := fzeroD hX4 0
      have u1 : W4.cell? ⟨XB, 1, none⟩ = some (.int .i64 0) := fcellD hX4 rfl
      have v1 := fzeroD hX4 1
      have u2 : W4.cell? ⟨XB, 2, none⟩ = some (.int .i64 0) := fcellD hX4 rfl
      have v2 := fzeroD hX4 2
      have u3 : W4.cell? ⟨XB, 3, none⟩ = some (.int .i64 0) := fcellD hX4 rfl
      have v3 := fzeroD hX4 3
      have u4 : W4.cell? ⟨XB, 4, none⟩ = some (.string ⟨#[]⟩) := fcellD hX4 rfl
      have v4 := fzeroD hX4 4
      obtain ⟨-, -, t3, t4, t5⟩ := two_res hR4 hX4 hne.out (.int .i64 nx) (.int .i64 now) (.slice vA fz.length vc) (.string (txt seg)) (.int .i64 pts) (.int .i64 x2.id) (.int .i64 x2.rows) (.int .i64 x2.size) (.int .i64 x2.tl) (.string (txt x2.file))
      have hGF := gr_trans (t5 w G4.out hwR.out hwX.out) (gr_drew _ none)
      generalize hW9 : W4.setCells RB 0 [.int .i64 nx, .int .i64 now, .slice vA fz.length vc, .string (txt seg), .int .i64 pts] = W9 at *
      generalize hW10 : W9.setCells XB 0 [.int .i64 x2.id, .int .i64 x2.rows, .int .i64 x2.size, .int .i64 x2.tl, .string (txt x2.file)] = W10 at *
      have gg1 : GrB RB W4 W9 := by rw [← hW9]; exact gr_setCells _ _ _ _
      have gg2 : GrB XB W9 W10 := by rw [← hW10]; exact gr_setCells _ _ _ _
      have hvF := hvw.out.kept gg1 (.inr (own_ne_blk hvw.out hR4 (by decide)))
      have hvG := (hvF.kept gg2 (.inr hv3.out)).kept (gr_drew W10 none) (Classical.em _)
      replace hW9 := Lib.hid hW9
      replace hW10 := Lib.hid hW10
      have hrx := Lib.hid (And.intro (And.intro (gr_cell (gr_drew W10 none) (t3 0 _ rfl)) (And.intro (gr_cell (gr_drew W10 none) (t3 1 _ rfl)) (And.intro (gr_cell (gr_drew W10 none) (t3 2 _ rfl)) (And.intro (gr_cell (gr_drew W10 none) (t3 3 _ rfl)) (gr_cell (gr_drew W10 none) (t3 4 _ rfl)))))) (And.intro (gr_cell (gr_drew W10 none) (t4 0 _ rfl)) (And.intro (gr_cell (gr_drew W10 none) (t4 1 _ rfl)) (And.intro (gr_cell (gr_drew W10 none) (t4 2 _ rfl)) (And.intro (gr_cell (gr_drew W10 none) (t4 3 _ rfl)) (gr_cell (gr_drew W10 none) (t4 4 _ rfl)))))))
      replace hGF := Lib.hid hGF
      replace hvG := Lib.hid hvG
      have hne1 : RB ≠ XB := hne.out
      have hne2 : XB ≠ RB := fun e => hne.out e.symm
      have hne3 : RB ≠ CB := fun e => hCR.out e.symm
      have hne4 : CB ≠ RB := hCR.out
      have hne5 : XB ≠ CB := fun e => hCX.out e.symm
      have hne6 : CB ≠ XB := hCX.out
      clear t3 t4 t5 hR4 hX4 hS4 hC4 hvw hv4 gg1 gg2 hvF G4
      go_region
      all_goals
        rw [show ((((((((((W4.setCell ⟨RB, 0, none⟩ (.int .i64 nx)).setCell ⟨RB, 1, none⟩ (.int .i64 now)).setCell ⟨RB, 2, none⟩ (.slice vA fz.length vc)).setCell ⟨RB, 3, none⟩ (.string (txt seg))).setCell ⟨RB, 4, none⟩ (.int .i64 pts)).setCell ⟨XB, 0, none⟩ (.int .i64 x2.id)).setCell ⟨XB, 1, none⟩ (.int .i64 x2.rows)).setCell ⟨XB, 2, none⟩ (.int .i64 x2.size)).setCell ⟨XB, 3, none⟩ (.int .i64 x2.tl)).setCell ⟨XB, 4, none⟩ (.string (txt x2.file))) = W10 from by rw [← hW10.out, ← hW9.out]; rfl]
        clear u0 u1 u2 u3 u4 v0 v1 v2 v3 v4 f0 f1 f2 f3 f4 z0 z1 z2 z3 z4 s0 s1 s2 s3 s4 d0 d1 d2 d3 d4
        obtain ⟨W11, hW11⟩ : ∃ W11, W11 = W10.drew := ⟨_, rfl⟩
        rw [← hW11] at hrx hGF hvG ⊢
        clear hW11
        go_wp2_with fail
        (try simp only [Exit.inBlock, Exit.then])
        obtain ⟨⟨r0, r1, r2, r3, r4⟩, ⟨x0, x1, x2', x3, x4⟩⟩ := hrx.out
        refine bodyPost_ret (by simp [results, Tryz.results14, go_sem, r0, r1, r2, r3, r4, x0, x1, x2', x3, x4]; try rfl) rfl ?_
        exact ⟨.inr (.inr ⟨k, x2, _, hin.out, hf0.out, hk.out, hxi.out, rfl, by rw [← hfz.out]; exact hvG.out⟩), hGF.out⟩
end Go.Proofs.YtmldoeeangekoaaGreatDoor
