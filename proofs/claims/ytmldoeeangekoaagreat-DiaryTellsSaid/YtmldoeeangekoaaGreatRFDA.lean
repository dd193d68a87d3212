/-
  Several facts, one behind the other; no condition but bounds: A cursor in memory; cells of a block. No condition. Whether a note may be, as the document has it. No condition. The document's desk: find, without. No condition but bounds. The document's State: one note more. No condition but bounds.
-/
import Derived.Test.YtmldoeeangekoaaGreatDiaryCur
import Derived.Test.YtmldoeeangekoaaGreatQuietGr
import Derived.Test.YtmldoeeangekoaaGreatAppendRow
import Derived.Test.YtmldoeeangekoaaGreatBookRow
import Derived.Test.YtmldoeeangekoaaGreatProg
import Derived.Deep.RegionLaw
import Derived.Deep.RegionHeld3
import Derived.Lib.MinMax
namespace Go.Proofs.YtmldoeeangekoaaGreat
open Go.RowKit

theorem fcellD {w : World} {b : Nat} {cs : Array Value} {t : TypeId} {fr : Nat × Nat} (h : w.heap[b]? = some (.cells cs t fr)) {j : Nat} {v : Value} (hj : cs[j]? = some v) : w.cell? ⟨b, j, none⟩ = some v := by
  unfold World.cell?
  rw [h]
  simpa using hj
theorem fzeroD {w : World} {b : Nat} {cs : Array Value} {t : TypeId} (h : w.heap[b]? = some (.cells cs t (0, 0))) (j : Nat) : w.frozen? ⟨b, j, none⟩ = false := by
  unfold World.frozen?
  rw [h]
  simp
def CuB (w : World) (b : Nat) (x : Cur) : Prop := w.heap[b]? = some (.cells #[.int .i64 x.id, .int .i64 x.rows, .int .i64 x.size, .int .i64 x.tl, .string (txt x.file)] 28 (0, 0))
theorem cub_cells {w : World} {b : Nat} {x : Cur} (h : CuB w b x) : w.cell? ⟨b, 0, none⟩ = some (.int .i64 x.id) ∧ w.cell? ⟨b, 1, none⟩ = some (.int .i64 x.rows) ∧ w.cell? ⟨b, 2, none⟩ = some (.int .i64 x.size) ∧ w.cell? ⟨b, 3, none⟩ = some (.int .i64 x.tl) ∧ w.cell? ⟨b, 4, none⟩ = some (.string (txt x.file)) := ⟨fcellD h rfl, fcellD h rfl, fcellD h rfl, fcellD h rfl, fcellD h rfl⟩
theorem infoCu : (Tryz.prog.info? 28).map (·.size) = some 5 := by kernel_rfl
theorem infoCuE : (Tryz.prog.info? 28).map (fun i => (i.zero, i.size, i.bytes)) = some (some (.agg #[.int .i64 0, .int .i64 0, .int .i64 0, .int .i64 0, .string ⟨#[]⟩]), 5, 48) := by kernel_rfl
theorem curs_ones (zs : List Cur) : ∀ u ∈ sR curC zs, u.oneCell' = true := fun u hu => by
  unfold sR at hu
  rw [List.mem_flatMap] at hu
  obtain ⟨x, _, hx⟩ := hu
  simp only [curC, List.mem_cons, List.not_mem_nil, or_false] at hx
  rcases hx with rfl | rfl | rfl | rfl | rfl <;> rfl
end Go.Proofs.YtmldoeeangekoaaGreat
namespace Go.Proofs.YtmldoeeangekoaaGreat
open Go.RowKit

set_option maxHeartbeats 16000000 in
set_option maxRecDepth 100000 in
theorem refNote_any (x : Nte) (w : World) : Calls Tryz.prog 8 #[nteV x] w fun e w' => e = .returned (.bool (decide (okN x))) ∧ Gr w w' := by
  obtain ⟨kd, ⟨id, rows, size, tl, file⟩⟩ := x
  show Calls Tryz.prog 8 #[.agg #[.int .i64 kd, .int .i64 id, .int .i64 rows, .int .i64 size, .int .i64 tl, .string (txt file)]] w _
  obtain ⟨R, hR⟩ : ∃ R, R = decide (okN ⟨kd, ⟨id, rows, size, tl, file⟩⟩) := ⟨_, rfl⟩
  rw [← hR]
  obtain ⟨W1, hW1⟩ : ∃ W1, W1 = (w.alloc (.cells #[.int .i64 kd, .int .i64 id, .int .i64 rows, .int .i64 size, .int .i64 tl, .string (txt file)] 30)).alloc (.cells #[.int .i64 id, .int .i64 rows, .int .i64 size, .int .i64 tl, .string (txt file)] 28) := ⟨_, rfl⟩
  have hz : (w.alloc (.cells #[.int .i64 kd, .int .i64 id, .int .i64 rows, .int .i64 size, .int .i64 tl, .string (txt file)] 30)).heap.size = w.heap.size + 1 := by simp
  have g1 : Gr w W1 := by rw [hW1]; exact gr_trans (gr_alloc _ _ _) (gr_alloc _ _ _)
  have hR : W1.heap[w.heap.size + 1]? = some (.cells #[.int .i64 id, .int .i64 rows, .int .i64 size, .int .i64 tl, .string (txt file)] 28) := by rw [← hz, hW1]; exact blk_new _ _
  have hN : W1.cell? ⟨w.heap.size, 0, none⟩ = some (.int .i64 kd) := by rw [hW1]; exact gr_cell (gr_alloc _ _ none) (by rw [World.cell?_alloc_new]; rfl)
  have r0 := fcellD hR (j := 0) rfl
  have r1 := fcellD hR (j := 1) rfl
  have r2 := fcellD hR (j := 2) rfl
  have r3 := fcellD hR (j := 3) rfl
  have r4 := fcellD hR (j := 4) rfl
  replace g1 := Lib.hid g1
  replace hW1 := Lib.hid hW1
  clear hz hR
  go_enter Tryz.func8, Tryz.ntmps8
  go_upto_region 2 with fail
  rw [← hW1.out]
  by_cases k1 : kd = 1
  · have hok : okN ⟨kd, ⟨id, rows, size, tl, file⟩⟩ ↔ ((1 ≤ id ∧ id ≤ 1000000) ∧ (0 ≤ rows ∧ rows ≤ 2000) ∧ (1 ≤ size ∧ size ≤ 100) ∧ (0 ≤ tl ∧ tl ≤ 1000000000) ∧ (1 ≤ file.length ∧ file.length ≤ 60)) := by
      refine ⟨?_, fun h => .inl ⟨k1, h⟩⟩
      rintro (h | h | h | h)
      · exact h.2
      · have := h.1; simp only at this; omega
      · have := h.1; simp only at this; omega
      · have := h.1; simp only at this; omega
    have e1 : (kd == 1) = true := eqT (by omega)
    have e2 : (kd == 2) = false := eqF (by omega)
    have e3 : (kd == 3) = false := eqF (by omega)
    have e4 : (kd == 4) = false := eqF (by omega)
    rw [← decide_eq_true_iff (p := okN _), ← hR] at hok
    replace hok := Lib.hid hok
    clear hR
    go_wp2
    all_goals
      go_ret
      refine ⟨?_, g1.out⟩
      apply congrArg (fun b => Ending.returned (Value.bool b))
      rw [Bool.eq_iff_iff, hok.out]
      first | (simp; done) | (simp; omega) | (simp [List.isEmpty_iff]; omega) | (simp [List.isEmpty_iff]; intros; omega) | (simp only [true_iff]; and_intros <;> first | assumption | omega) | skip
  · by_cases k2 : kd = 2
    · have hok : okN ⟨kd, ⟨id, rows, size, tl, file⟩⟩ ↔ ((1 ≤ id ∧ id ≤ 1000000) ∧ rows = 0 ∧ size = 0 ∧ tl = 0 ∧ file = []) := by
        refine ⟨?_, fun h => .inr (.inl ⟨k2, h⟩)⟩
        rintro (h | h | h | h)
        · have := h.1; simp only at this; omega
        · exact h.2
        · have := h.1; simp only at this; omega
        · have := h.1; simp only at this; omega
      have e1 : (kd == 1) = false := eqF (by omega)
      have e2 : (kd == 2) = true := eqT (by omega)
      have e3 : (kd == 3) = false := eqF (by omega)
      have e4 : (kd == 4) = false := eqF (by omega)
      rw [← decide_eq_true_iff (p := okN _), ← hR] at hok
      replace hok := Lib.hid hok
      clear hR
      go_wp2
      all_goals
        go_ret
        refine ⟨?_, g1.out⟩
        apply congrArg (fun b => Ending.returned (Value.bool b))
        rw [Bool.eq_iff_iff, hok.out]
        first | (simp; done) | (simp; omega) | (simp [List.isEmpty_iff]; omega) | (simp [List.isEmpty_iff]; intros; omega) | (simp only [true_iff]; and_intros <;> first | assumption | omega) | skip
    · by_cases k3 : kd = 3
      · have hok : okN ⟨kd, ⟨id, rows, size, tl, file⟩⟩ ↔ ((0 ≤ tl ∧ tl ≤ 1000000000) ∧ id = 0 ∧ rows = 0 ∧ size = 0 ∧ file = []) := by
          refine ⟨?_, fun h => .inr (.inr (.inl ⟨k3, h⟩))⟩
          rintro (h | h | h | h)
          · have := h.1; simp only at this; omega
          · have := h.1; simp only at this; omega
          · exact h.2
          · have := h.1; simp only at this; omega
        have e1 : (kd == 1) = false := eqF (by omega)
        have e2 : (kd == 2) = false := eqF (by omega)
        have e3 : (kd == 3) = true := eqT (by omega)
        have e4 : (kd == 4) = false := eqF (by omega)
        rw [← decide_eq_true_iff (p := okN _), ← hR] at hok
        replace hok := Lib.hid hok
        clear hR
        go_wp2
        all_goals
          go_ret
          refine ⟨?_, g1.out⟩
          apply congrArg (fun b => Ending.returned (Value.bool b))
          rw [Bool.eq_iff_iff, hok.out]
          first | (simp; done) | (simp; omega) | (simp [List.isEmpty_iff]; omega) | (simp [List.isEmpty_iff]; intros; omega) | (simp only [true_iff]; and_intros <;> first | assumption | omega) | skip
      · by_cases k4 : kd = 4
        · have hok : okN ⟨kd, ⟨id, rows, size, tl, file⟩⟩ ↔ ((0 ≤ rows ∧ rows ≤ 1000) ∧ (1 ≤ file.length ∧ file.length ≤ 60) ∧ id = 0 ∧ size = 0 ∧ tl = 0) := by
            refine ⟨?_, fun h => .inr (.inr (.inr ⟨k4, h⟩))⟩
            rintro (h | h | h | h)
            · have := h.1; simp only at this; omega
            · have := h.1; simp only at this; omega
            · have := h.1; simp only at this; omega
            · exact h.2
          have e1 : (kd == 1) = false := eqF (by omega)
          have e2 : (kd == 2) = false := eqF (by omega)
          have e3 : (kd == 3) = false := eqF (by omega)
          have e4 : (kd == 4) = true := eqT (by omega)
          rw [← decide_eq_true_iff (p := okN _), ← hR] at hok
          replace hok := Lib.hid hok
          clear hR
          go_wp2
          all_goals
            go_ret
            refine ⟨?_, g1.out⟩
            apply congrArg (fun b => Ending.returned (Value.bool b))
            rw [Bool.eq_iff_iff, hok.out]
            first | (simp; done) | (simp; omega) | (simp [List.isEmpty_iff]; omega) | (simp [List.isEmpty_iff]; intros; omega) | (simp only [true_iff]; and_intros <;> first | assumption | omega) | skip
        · have hok : ¬ okN ⟨kd, ⟨id, rows, size, tl, file⟩⟩ := by
            rintro (h | h | h | h)
            all_goals
              have := h.1
              simp only at this
              omega
          have e1 : (kd == 1) = false := eqF (by omega)
          have e2 : (kd == 2) = false := eqF (by omega)
          have e3 : (kd == 3) = false := eqF (by omega)
          have e4 : (kd == 4) = false := eqF (by omega)
          rw [decide_eq_false hok] at hR
          replace hR := Lib.hid hR
          clear hok
          go_wp2
          all_goals
            go_ret
            exact ⟨by rw [hR.out]; rfl, g1.out⟩
end Go.Proofs.YtmldoeeangekoaaGreat
namespace Go.Proofs.YtmldoeeangekoaaGreat
open Go.RowKit

theorem cur_ones (x : Cur) : ∀ u ∈ curC x, u.oneCell' = true := fun u hu => by
  simp [curC] at hu
  rcases hu with rfl | rfl | rfl | rfl | rfl <;> rfl
set_option maxHeartbeats 8000000 in
set_option maxRecDepth 100000 in
theorem without_any (A : Option Addr) (n c : Nat) (zs : List Cur) (id : Int) (w : World) (hn : n ≤ 100000) (hz : Row w A n 5 (sR curC zs)) :
    Calls Tryz.prog 127 #[.slice A n c, .int .i64 id] w fun e w' => ∃ v, e = .returned v ∧ w'.ownsRow w.heap.size 28 5 v (zs.filter fun y => !(y.id == id)).length (sR curC (zs.filter fun y => !(y.id == id))) ∧ Gr w w' := by
  obtain ⟨ii, hii, hz0, hz1, hz2⟩ := info_parts infoCuE
  have hl : zs.length = n := by have := hz.1; rw [sR_len curC 5 curC_len] at this; omega
  replace hz := Lib.hid hz
  replace hl := Lib.hid hl
  go_enter Tryz.func127, Tryz.ntmps127
  go_wp2
  go_loopw [5, 6] (fun ov iv wr => ∃ k m : Nat, k ≤ n ∧ iv = .int .i64 k ∧ m ≤ k ∧ Hid (m = ((zs.take k).filter fun y => !(y.id == id)).length) ∧ Hid (wr.ownsRow w.heap.size 28 5 ov m (sR curC ((zs.take k).filter fun y => !(y.id == id)))) ∧ Hid (Below w.heap.size w wr)) (fun _ iv _ => n - (intOf iv).toNat)
  case atStart => exact ⟨0, 0, Nat.zero_le _, rfl, Nat.le_refl _, rfl, World.ownsRow_nil _ _ _ _, Below.refl _ _⟩
  case round =>
    obtain ⟨k, m, hkn, rfl, hmk, hm, hown, hbel⟩ := hrel
    by_cases hlt : k < n
    · obtain ⟨x, B, o, hx, rfl, _, ha⟩ := rowS_elem curC_len (row_below hz.out hbel.out) (by decide) hlt
      have a0 : wr.cell? ⟨B, o + k * 5, none⟩ = some (.int .i64 x.id) := ha 0 (by decide)
      have a1 : wr.cell? ⟨B, o + k * 5 + 1, none⟩ = some (.int .i64 x.rows) := ha 1 (by decide)
      have a2 : wr.cell? ⟨B, o + k * 5 + 2, none⟩ = some (.int .i64 x.size) := ha 2 (by decide)
      have a3 : wr.cell? ⟨B, o + k * 5 + 3, none⟩ = some (.int .i64 x.tl) := ha 3 (by decide)
      have a4 : wr.cell? ⟨B, o + k * 5 + 4, none⟩ = some (.string (txt x.file)) := ha 4 (by decide)
      have hkI : (k : Int) < (n : Int) := by omega
      have hk0 : (0 : Int) ≤ (k : Int) := by omega
      obtain ⟨h1, h2⟩ := List.getElem?_eq_some_iff.1 hx
      have htk : zs.take (k + 1) = zs.take k ++ [x] := by rw [List.take_succ_eq_append_getElem h1, h2]
      clear ha hx h1 h2
      by_cases he : x.id = id
      · have hq : (x.id == id) = true := by simp [he]
        have hf : (zs.take (k + 1)).filter (fun y => !(y.id == id)) = (zs.take k).filter (fun y => !(y.id == id)) := by rw [htk, List.filter_append]; simp [he]
        replace hf := Lib.hid hf
        clear htk
        replace he := Lib.hid he
        go_wp2
        go_roundw
        case rel => exact ⟨k + 1, m, by omega, by go_num, by omega, Lib.hid (by rw [hf.out]; exact hm.out), Lib.hid (by rw [hf.out]; exact hown.out), hbel⟩
        case measure => simp [intOf]; omega
      · have hq : (x.id == id) = false := by simp [he]
        have hf : (zs.take (k + 1)).filter (fun y => !(y.id == id)) = (zs.take k).filter (fun y => !(y.id == id)) ++ [x] := by rw [htk, List.filter_append]; simp [he]
        have hone := cur_ones x
        have hs1 := hbel.out.size
        unfold curC at hone
        replace hone := Lib.hid hone
        replace hf := Lib.hid hf
        clear htk
        replace he := Lib.hid he
        go_wp2_with (at_builtin; refine wpList_append_own _ rfl _ _ 52 rfl w.heap.size 28 ii (.agg #[.int .i64 0, .int .i64 0, .int .i64 0, .int .i64 0, .string ⟨#[]⟩]) 5 48 Tryz.underlying52 hii hz0 hz1 hz2 rfl (by decide) u5 _ _ rfl (hown.out.alloc _) ⟨wr.heap.size, 0, none⟩ 1 1 [.int .i64 x.id, .int .i64 x.rows, .int .i64 x.size, .int .i64 x.tl, .string (txt x.file)] rfl rfl ?c1 ?c2 ?c3 ?c4 ?c5 ?_; rotate_right; intro v' W4 hown4 hgrow _nl; clear _nl; have hb4 := hbel.out.trans (below_append hown.out hgrow hbel.out.size); clear hgrow; replace hown4 := Lib.hid hown4; replace hb4 := Lib.hid hb4)
        case c1 =>
          intro j u hj
          have hjl := (List.getElem?_eq_some_iff.1 hj).1
          simp only [List.length_cons, List.length_nil] at hjl
          rw [add_plain, Nat.zero_add, World.cell?_alloc_new]
          simpa using hj
        case c2 => exact hone.out
        case c3 => unfold maxLen; omega
        case c4 => omega
        case c5 => simp; omega
        go_roundw
        case rel => exact ⟨k + 1, m + 1, by omega, by go_num, by omega, Lib.hid (by rw [hf.out, List.length_append, ← hm.out]; rfl), Lib.hid (by rw [hf.out, sR_append]; exact hown4.out), hb4⟩
        case measure => simp [intOf]; omega
    · have hkI : ((k : Int) < (n : Int)) = False := eq_false (by omega)
      have hfull : zs.take k = zs := List.take_of_length_le (by rw [hl.out]; omega)
      have ho := hown.out
      have hm2 := hm.out
      rw [hfull] at ho hm2
      rw [hm2] at ho
      replace ho := Lib.hid ho
      clear hm hm2 hown hfull
      go_wp2
      go_ret
      exact ⟨_, rfl, ho.out, gr_of_below hbel.out (Nat.le_refl _)⟩
end Go.Proofs.YtmldoeeangekoaaGreat
namespace Go.Proofs.YtmldoeeangekoaaGreat
open Go.RowKit

def rsC (nx now : Int) (v : Value) (seg : List UInt8) (pts : Int) : Array Value := #[.int .i64 nx, .int .i64 now, v, .string (txt seg), .int .i64 pts]
theorem infoRSt : (Tryz.prog.info? 54).map (·.size) = some 5 := by kernel_rfl
/-- Where a fold begins: the state, the note, the result's place, the cursor. -/
structure FB (w W1 : World) (nx now : Int) (v : Value) (seg : List UInt8) (pts : Int) (x : Nte) : Prop where
  g : Gr w W1
  s : W1.heap[w.heap.size]? = some (.cells (rsC nx now v seg pts) 54 (0, 0))
  n : W1.heap[w.heap.size + 1]? = some (.cells #[.int .i64 x.kind, .int .i64 x.c.id, .int .i64 x.c.rows, .int .i64 x.c.size, .int .i64 x.c.tl, .string (txt x.c.file)] 30 (0, 0))
  r : W1.heap[w.heap.size + 2]? = some (.cells #[.int .i64 0, .int .i64 0, .slice none 0 0, .string ⟨#[]⟩, .int .i64 0] 54 (0, 0))
  c : W1.heap[w.heap.size + 3]? = some (.cells #[.int .i64 x.c.id, .int .i64 x.c.rows, .int .i64 x.c.size, .int .i64 x.c.tl, .string (txt x.c.file)] 28 (0, 0))
/-- The world there. -/
def fbW (w : World) (nx now : Int) (v : Value) (seg : List UInt8) (pts : Int) (x : Nte) : World := ((((w.alloc (.cells (rsC nx now v seg pts) 54)).alloc (.cells #[.int .i64 x.kind, .int .i64 x.c.id, .int .i64 x.c.rows, .int .i64 x.c.size, .int .i64 x.c.tl, .string (txt x.c.file)] 30)).alloc (.cells #[.int .i64 0, .int .i64 0, .slice none 0 0, .string ⟨#[]⟩, .int .i64 0] 54)).alloc (.cells #[.int .i64 x.c.id, .int .i64 x.c.rows, .int .i64 x.c.size, .int .i64 x.c.tl, .string (txt x.c.file)] 28))
theorem fb_new (w : World) (nx now : Int) (v : Value) (seg : List UInt8) (pts : Int) (x : Nte) :
    FB w (fbW w nx now v seg pts x) nx now v seg pts x := by
  unfold fbW
  obtain ⟨V1, hV1⟩ : ∃ V1, V1 = w.alloc (.cells (rsC nx now v seg pts) 54) := ⟨_, rfl⟩
  obtain ⟨V2, hV2⟩ : ∃ V2, V2 = V1.alloc (.cells #[.int .i64 x.kind, .int .i64 x.c.id, .int .i64 x.c.rows, .int .i64 x.c.size, .int .i64 x.c.tl, .string (txt x.c.file)] 30) := ⟨_, rfl⟩
  obtain ⟨V3, hV3⟩ : ∃ V3, V3 = V2.alloc (.cells #[.int .i64 0, .int .i64 0, .slice none 0 0, .string ⟨#[]⟩, .int .i64 0] 54) := ⟨_, rfl⟩
  have z1 : V1.heap.size = w.heap.size + 1 := by rw [hV1]; simp
  have z2 : V2.heap.size = w.heap.size + 2 := by rw [hV2]; simp [z1]
  have z3 : V3.heap.size = w.heap.size + 3 := by rw [hV3]; simp [z2]
  have b1 := blk_new w (.cells (rsC nx now v seg pts) 54)
  have b2 := blk_new V1 (.cells #[.int .i64 x.kind, .int .i64 x.c.id, .int .i64 x.c.rows, .int .i64 x.c.size, .int .i64 x.c.tl, .string (txt x.c.file)] 30)
  have b3 := blk_new V2 (.cells #[.int .i64 0, .int .i64 0, .slice none 0 0, .string ⟨#[]⟩, .int .i64 0] 54)
  have b4 := blk_new V3 (.cells #[.int .i64 x.c.id, .int .i64 x.c.rows, .int .i64 x.c.size, .int .i64 x.c.tl, .string (txt x.c.file)] 28)
  rw [← hV1, ← hV2, ← hV3]
  rw [← hV1] at b1
  rw [← hV2, z1] at b2
  rw [← hV3, z2] at b3
  rw [z3] at b4
  have g1 : Gr w V1 := by rw [hV1]; exact gr_alloc _ _ _
  have g2 : Gr V1 V2 := by rw [hV2]; exact gr_alloc _ _ _
  have g3 : Gr V2 V3 := by rw [hV3]; exact gr_alloc _ _ _
  have g4 : Gr V3 (V3.alloc (.cells #[.int .i64 x.c.id, .int .i64 x.c.rows, .int .i64 x.c.size, .int .i64 x.c.tl, .string (txt x.c.file)] 28)) := gr_alloc _ _ _
  exact ⟨gr_trans g1 (gr_trans g2 (gr_trans g3 g4)), gr_blk (gr_trans g2 (gr_trans g3 g4)) b1 (by simp), gr_blk (gr_trans g3 g4) b2 (by simp), gr_blk g4 b3 (by simp), b4⟩
theorem rs_there {W : World} {b : Nat} {v0 v1 v2 v3 v4 : Value} {t : TypeId} (h : W.heap[b]? = some (.cells #[v0, v1, v2, v3, v4] t (0, 0))) : W.there b 0 5 := fun j hj => ⟨by
  match j, hj with
  | 0, _ => rw [fcellD h rfl]; rfl
  | 1, _ => rw [fcellD h rfl]; rfl
  | 2, _ => rw [fcellD h rfl]; rfl
  | 3, _ => rw [fcellD h rfl]; rfl
  | 4, _ => rw [fcellD h rfl]; rfl
  | j + 5, hj => omega, fzeroD h _⟩
set_option maxHeartbeats 8000000 in
set_option maxRecDepth 100000 in
theorem rfold_bad (nx now pts : Int) (A : Option Addr) (n c : Nat) (seg : List UInt8) (x : Nte) (w : World) (hx : ¬ okN x) :
    Calls Tryz.prog 52 #[.agg #[.int .i64 nx, .int .i64 now, .slice A n c, .string (txt seg), .int .i64 pts], .agg #[.int .i64 x.kind, .int .i64 x.c.id, .int .i64 x.c.rows, .int .i64 x.c.size, .int .i64 x.c.tl, .string (txt x.c.file)]] w fun e w' => e = .returned (.agg #[.int .i64 nx, .int .i64 now, .slice A n c, .string (txt seg), .int .i64 pts]) ∧ Gr w w' := by
  have hB := fb_new w nx now (.slice A n c) seg pts x
  obtain ⟨W1, hW1⟩ : ∃ W1, W1 = fbW w nx now (.slice A n c) seg pts x := ⟨_, rfl⟩
  rw [← hW1] at hB
  obtain ⟨g1, hs, hn, hr, hc⟩ := hB
  have cN := fun W => refNote_any x W
  rw [decide_eq_false hx] at cN
  unfold nteV at cN
  replace cN := Lib.hid cN
  replace hW1 := Lib.hid hW1
  have n0 := fcellD hn (j := 0) rfl
  have n1 := fcellD hn (j := 1) rfl
  have n2 := fcellD hn (j := 2) rfl
  have n3 := fcellD hn (j := 3) rfl
  have n4 := fcellD hn (j := 4) rfl
  have n5 := fcellD hn (j := 5) rfl
  clear hn hc
  replace hs := Lib.hid hs
  replace hr := Lib.hid hr
  go_enter Tryz.func52, Tryz.ntmps52
  go_upto_region 2 with fail
  change Code.wp _ _ _ _ (fbW w nx now (.slice A n c) seg pts x)
  rw [← hW1.out]
  go_wp2_with fail
  refine (cN.out _).mono ?_
  rintro e w2 ⟨rfl, g2⟩
  have hs2 := gr_blk g2 hs.out (by simp)
  have hr2 := gr_blk g2 hr.out (by simp)
  have m0 := fcellD hs2 (j := 0) rfl
  have m1 := fcellD hs2 (j := 1) rfl
  have m2 := fcellD hs2 (j := 2) rfl
  have m3 := fcellD hs2 (j := 3) rfl
  have m4 := fcellD hs2 (j := 4) rfl
  have hth := rs_there hr2
  have hsame := World.rangeAt_setCells_same w2 (w.heap.size + 2) 0 [.int .i64 nx, .int .i64 now, .slice A n c, .string (txt seg), .int .i64 pts] hth
  have hgs := gr_setCells w2 (w.heap.size + 2) 0 [.int .i64 nx, .int .i64 now, .slice A n c, .string (txt seg), .int .i64 pts]
  have r0 := hsame 0 _ rfl
  have r1 := hsame 1 _ rfl
  have r2 := hsame 2 _ rfl
  have r3 := hsame 3 _ rfl
  have r4 := hsame 4 _ rfl
  simp only [Nat.zero_add] at r0 r1 r2 r3 r4
  have hgf : Gr w (w2.setCells (w.heap.size + 2) 0 [.int .i64 nx, .int .i64 now, .slice A n c, .string (txt seg), .int .i64 pts]) := gr_of_below ((gr_below (gr_trans g1 g2)).grown hgs (gr_trans g1 g2).size (fun k hk => by cases hk; omega)) (Nat.le_refl _)
  replace hgf := Lib.hid hgf
  clear hsame hgs g2 hs2 hr2 cN
  go_wp2_with (refine wpList_store_mid (op := ⟨none, _, _, _, _, _⟩) rfl 54 _ _ rfl (w.heap.size + 2) 0 #[.int .i64 nx, .int .i64 now, .slice A n c, .string (txt seg), .int .i64 pts] rfl rfl hth infoRSt (by simp [Value.oneCell']) ?_)
  (try simp only [Exit.inBlock, Exit.then])
  refine bodyPost_ret (by simp [results, Tryz.results52, go_sem, r0, r1, r2, r3, r4]; try rfl) rfl ?_
  exact ⟨rfl, hgf.out⟩
end Go.Proofs.YtmldoeeangekoaaGreat
