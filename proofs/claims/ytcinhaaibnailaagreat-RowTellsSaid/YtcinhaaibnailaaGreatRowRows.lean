/-
  Lists of rows that are alike, or not. No condition but bounds on the lengths.
-/
import Derived.Test.YtcinhaaibnailaaGreatRowSame
namespace Go.Proofs.YtcinhaaibnailaaGreat
open Go.RowKit

/-- A row as it lies: its labels' slice, its number. -/
structure Hd where
  A : Option Addr
  n : Nat
  c : Nat
  v : Int
def hdC (h : Hd) : List Value := [.slice h.A h.n h.c, .int .i64 h.v]
theorem hdC_len (h : Hd) : (hdC h).length = 2 := rfl
theorem hdC_ones (h : Hd) : ∀ u ∈ hdC h, u.oneCell' = true := by
  intro u hu
  simp only [hdC, List.mem_cons, List.not_mem_nil, or_false] at hu
  rcases hu with rfl | rfl <;> rfl
structure HdOk (w : World) (h : Hd) (r : Rw) : Prop where
  v : h.v = r.v
  n : h.n = r.l.length
  row : Row w h.A h.n 2 (sR lblC r.l)
  nil : h.A = none → h.n = 0 ∧ h.c = 0
  le : h.n ≤ h.c
  small : h.c ≤ 9223372036854775807
theorem hdOk_gr {w w' : World} {h : Hd} {r : Rw} (k : HdOk w h r) (g : Gr w w') : HdOk w' h r := ⟨k.v, k.n, row_gr k.row g, k.nil, k.le, k.small⟩
/-- A slice of rows. -/
def Rows (w : World) (A : Option Addr) (n : Nat) (rs : List Rw) : Prop := rs.length = n ∧ ∃ hs : List Hd, Row w A n 2 (sR hdC hs) ∧ ∀ (i : Nat) (r : Rw), rs[i]? = some r → ∃ h, hs[i]? = some h ∧ HdOk w h r
theorem rows_gr {w w' : World} {A : Option Addr} {n : Nat} {rs : List Rw} (k : Rows w A n rs) (g : Gr w w') : Rows w' A n rs := by
  obtain ⟨h1, hs, h2, h3⟩ := k
  exact ⟨h1, hs, row_gr h2 g, fun i r hr => by obtain ⟨h, e, hk⟩ := h3 i r hr; exact ⟨h, e, hdOk_gr hk g⟩⟩
theorem rows_at {w : World} {A : Option Addr} {n : Nat} {rs : List Rw} (k : Rows w A n rs) {i : Nat} (hi : i < n) : ∃ r h B o, rs[i]? = some r ∧ HdOk w h r ∧ A = some ⟨B, o, none⟩ ∧ w.cell? ⟨B, o + i * 2, none⟩ = some (.slice h.A h.n h.c) ∧ w.cell? ⟨B, o + i * 2 + 1, none⟩ = some (.int .i64 h.v) := by
  obtain ⟨h1, hs, h2, h3⟩ := k
  have hr : rs[i]? = some (rs[i]'(by omega)) := List.getElem?_eq_getElem (by omega)
  obtain ⟨h, e, hk⟩ := h3 i _ hr
  obtain ⟨x, B, o, hx, hA, _, hc⟩ := rowS_elem hdC_len h2 (by decide) hi
  rw [e] at hx
  obtain rfl := Option.some.inj hx
  exact ⟨_, h, B, o, hr, hk, hA, hc 0 (by decide), hc 1 (by decide)⟩
theorem rows_nil (w : World) (A : Option Addr) : Rows w A 0 [] := ⟨rfl, [], row_nil _ _ _, fun i r h => by simp at h⟩
set_option maxHeartbeats 8000000 in
set_option maxRecDepth 100000 in
theorem rowsEq_any (A B : Option Addr) (n m ca cb : Nat) (rs ss : List Rw) (w : World) (hn : n ≤ 1000000000) (hm : m ≤ 1000000000) (hr : Rows w A n rs) (hs : Rows w B m ss) (hb1 : ∀ r ∈ rs, r.l.length ≤ 1000000000) (hb2 : ∀ r ∈ ss, r.l.length ≤ 1000000000) :
    Calls Tryz.prog 29 #[.slice A n ca, .slice B m cb, .func (.func 30) #[] #[]] w fun e w' => e = .returned (.bool (decide (rs = ss))) ∧ Gr w w' := by
  have hl : rs.length = n := hr.1
  have hk : ss.length = m := hs.1
  obtain ⟨R, hR⟩ : ∃ R, R = decide (rs = ss) := ⟨_, rfl⟩
  rw [← hR]
  replace hr := Lib.hid hr
  replace hs := Lib.hid hs
  replace hl := Lib.hid hl
  replace hk := Lib.hid hk
  replace hR := Lib.hid hR
  replace hb1 := Lib.hid hb1
  replace hb2 := Lib.hid hb2
  go_enter Tryz.func29, Tryz.ntmps29
  by_cases hnm : n = m
  · subst hnm
    go_wp2
    go_loopw [17] (fun i wr => ∃ k : Nat, k ≤ n ∧ i = .int .i64 k ∧ Hid (rs.take k = ss.take k) ∧ Hid (Gr w wr)) (fun i _ => n - (intOf i).toNat)
    case atStart => exact ⟨0, Nat.zero_le _, rfl, rfl, gr_refl _ _⟩
    case round =>
      obtain ⟨k, hkn, rfl, ht, hg⟩ := hrel
      by_cases hlt : k < n
      · obtain ⟨x, hx, gA, oA, hxe, hxo, rfl, a0, a1⟩ := rows_at (rows_gr hr.out hg.out) hlt
        obtain ⟨y, hy, gB, oB, hye, hyo, rfl, b0, b1⟩ := rows_at (rows_gr hs.out hg.out) hlt
        have hgA : gA < wr.heap.size := World.block_lt_of_cell? _ _ a0
        have hgB : gB < wr.heap.size := World.block_lt_of_cell? _ _ b0
        have hki : (k : Int) < (n : Int) := by omega
        have hk0 : (0 : Int) ≤ (k : Int) := by omega
        have hal : ∀ W, Gr wr W → Calls Tryz.prog 30 #[.agg #[.slice hx.A hx.n hx.c, .int .i64 hx.v], .agg #[.slice hy.A hy.n hy.c, .int .i64 hy.v]] W fun e w' => e = .returned (.bool (decide (x = y))) ∧ Gr W w' := fun W gW => by
          have h1 := alike_any hx.A hy.A hx.n hy.n hx.c hy.c x.l y.l hx.v hy.v W (by rw [hxo.n]; exact hb1.out x (List.mem_of_getElem? hxe)) (by rw [hyo.n]; exact hb2.out y (List.mem_of_getElem? hye)) (row_gr hxo.row gW) (row_gr hyo.row gW)
          rw [hxo.v, hyo.v] at h1
          exact (by rw [hxo.v, hyo.v]; exact h1)
        replace hal := Lib.hid hal
        by_cases hxy : x = y
        · have hd : decide (x = y) = true := decide_eq_true hxy
          rw [hd] at hal
          have ht2 := take_next ht.out hxe hye hxy
          replace ht2 := Lib.hid ht2
          clear hxo hyo hxe hye hxy hd
          go_wp2_with fail
          refine (hal.out _ (gr_trans (gr_alloc _ _ _) (gr_alloc _ _ _))).mono ?_
          rintro e w3 ⟨rfl, g3⟩
          go_wp2
          go_roundw
          case rel => exact ⟨k + 1, by omega, by go_num, ht2.out, gr_trans hg.out (gr_trans (gr_trans (gr_alloc _ _ _) (gr_alloc _ _ _)) g3)⟩
          case measure => simp [intOf]; omega
        · have hd : decide (x = y) = false := decide_eq_false hxy
          rw [hd] at hal
          have hf : R = false := by
            rw [hR.out]
            refine decide_eq_false (fun e => hxy ?_)
            rw [e, hye] at hxe
            exact (Option.some.inj hxe).symm
          replace hf := Lib.hid hf
          clear hxo hyo hxe hye hxy hd
          go_wp2_with fail
          refine (hal.out _ (gr_trans (gr_alloc _ _ _) (gr_alloc _ _ _))).mono ?_
          rintro e w3 ⟨rfl, g3⟩
          go_wp2
          go_ret
          exact ⟨by rw [hf.out]; rfl, gr_trans hg.out (gr_trans (gr_trans (gr_alloc _ _ _) (gr_alloc _ _ _)) g3)⟩
      · obtain rfl : k = n := by omega
        have hf : R = true := by
          rw [hR.out]
          refine decide_eq_true ?_
          have h1 := ht.out
          rwa [List.take_of_length_le (by rw [hl.out]; exact Nat.le_refl _), List.take_of_length_le (by rw [hk.out]; exact Nat.le_refl _)] at h1
        replace hf := Lib.hid hf
        go_wp2
        go_ret
        exact ⟨by rw [hf.out]; rfl, hg.out⟩
  · have hb : ((n : Int) == (m : Int)) = false := eqF (by omega)
    have hb2' : ((n : Int) != (m : Int)) = true := by rw [bne_iff_ne]; omega
    have hb3 : (n == m) = false := beq_eq_false_iff_ne.2 hnm
    have hf : R = false := by rw [hR.out]; exact decide_eq_false (fun e => hnm (by rw [← hl.out, ← hk.out, e]))
    replace hf := Lib.hid hf
    go_wp2
    go_ret
    exact ⟨by rw [hf.out]; rfl, gr_refl _ _⟩
theorem rsame_any (A B : Option Addr) (n m ca cb : Nat) (rs ss : List Rw) (w : World) (hn : n ≤ 1000000000) (hm : m ≤ 1000000000) (hr : Rows w A n rs) (hs : Rows w B m ss) (hb1 : ∀ r ∈ rs, r.l.length ≤ 1000000000) (hb2 : ∀ r ∈ ss, r.l.length ≤ 1000000000) :
    Calls Tryz.prog 18 #[.slice A n ca, .slice B m cb] w fun e w' => e = .returned (.bool (decide (rs = ss))) ∧ Gr w w' := by
  have h := rowsEq_any A B n m ca cb rs ss w hn hm hr hs hb1 hb2
  generalize decide (rs = ss) = R at *
  clear hr hs hb1 hb2
  replace h := Lib.hid h
  go_enter Tryz.func18, Tryz.ntmps18
  go_wp2_with fail
  refine h.out.mono ?_
  rintro e w3 ⟨rfl, g3⟩
  go_wp2
  go_ret
  exact ⟨rfl, g3⟩
end Go.Proofs.YtcinhaaibnailaaGreat
