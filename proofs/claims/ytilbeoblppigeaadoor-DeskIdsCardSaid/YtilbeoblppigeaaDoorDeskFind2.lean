/-
  (*Desk).Find of any slip. No condition but bounds.
-/
import Derived.Test.YtilbeoblppigeaaDoorDeskFind
namespace Go.Proofs.YtilbeoblppigeaaDoor
open Go.RowKit

/-- A cursor whose pages may be. -/
def PgOk (x : Cur) : Prop := ∃ R S : Nat, x.rows = R ∧ x.size = S ∧ R ≤ 2000 ∧ 0 < S ∧ S ≤ 100
/-- What Find answers. -/
def FindIs (nx : Int) (op : List Cur) (l : List UInt8) (x : Cur) (fr e : Int) : Prop :=
  ((∀ m n : Nat, SlipOk m n → l ≠ slipL m n) ∧ x = cu0 ∧ fr = 0 ∧ e = 11) ∨
  ∃ m n : Nat, SlipOk m n ∧ l = slipL m n ∧
    ((∃ v, DkAt nx op m v e ∧ e ≠ 0 ∧ x = cu0 ∧ fr = 0) ∨
     ∃ (k : Nat) (y : Cur), (m : Int) < nx ∧ op[k]? = some y ∧ y.id = m ∧
       (((n : Int) ∈ pagesL y.size.toNat (pagesN y.rows.toNat y.size.toNat) ∧ x = y ∧ fr = n ∧ e = 0) ∨ ((n : Int) ∉ pagesL y.size.toNat (pagesN y.rows.toNat y.size.toNat) ∧ x = cu0 ∧ fr = 0 ∧ e = 11)))
def FindPost (nx : Int) (op : List Cur) (l : List UInt8) (w : World) (e : Ending) (w' : World) : Prop := ∃ x fr k, e = .returned (.tuple #[curV x, .int .i64 fr, .int .i64 k]) ∧ FindIs nx op l x fr k ∧ Gr w w'
theorem gr_over {w V V' : World} {b : Nat} (h : Gr w V) (k : GrB b V V') (hb : w.heap.size ≤ b) : Gr w V' :=
  ⟨by rw [k.os, h.os], by rw [k.tape, h.tape], by rw [k.output, h.output], Nat.le_trans h.size k.size, fun i hi hn => by rw [k.block i (Nat.lt_of_lt_of_le hi h.size) (by simp; omega), h.block i hi hn]⟩
set_option maxHeartbeats 8000000 in
set_option maxRecDepth 100000 in
theorem dfind_any (D : Nat) (s : DkS) (A : Option Addr) (n c : Nat) (l : List UInt8) (w : World) (hb : DkB w D s.nx s.now (.slice A n c) s.seg s.pts) (hr : Row w A n 5 (sR curC s.op)) (hn : n ≤ 9223372036854775807) (hv : Vars w) (hl : l.length ≤ 1000000) (hop : ∀ y ∈ s.op, PgOk y) :
    Calls Tryd.prog 11 #[.pointer (some ⟨D, 0, none⟩), .string (txt l)] w (FindPost s.nx s.op l w) := by
  obtain ⟨W1, hW1⟩ : ∃ W1, W1 = w.alloc (.cells #[.int .i64 0, .int .i64 0, .int .i64 0, .int .i64 0, .string ⟨#[]⟩] 30) := ⟨_, rfl⟩
  have g0 : Gr w W1 := by rw [hW1]; exact gr_alloc _ _ _
  have hres : CuB W1 w.heap.size cu0 := by rw [hW1]; exact blk_new w _
  have cG := get_any l W1 hl (vars_gr hv g0)
  have cO := fun (id : Int) W (g : Gr W1 W) => dplace_any D s A n c id W (gr_blk (gr_trans g0 g) hb (by simp)) (row_gr hr (gr_trans g0 g)) hn
  obtain ⟨nx, now, op, seg, pts⟩ := s
  simp only at hb hr hop cO ⊢
  have hB := fun W (g : Gr W1 W) => (dkb_cells (show DkB W D nx now (.slice A n c) seg pts from gr_blk (gr_trans g0 g) hb (by simp))).2.2.1
  have hR := fun W (g : Gr W1 W) => row_gr hr (gr_trans g0 g)
  replace cO := Lib.hid cO
  replace hB := Lib.hid hB
  replace hR := Lib.hid hR
  replace hop := Lib.hid hop
  replace hres := Lib.hid hres
  replace g0 := Lib.hid g0
  clear hb hr hv
  go_enter Tryd.func11, Tryd.ntmps11
  go_upto_region 1 with fail
  rw [← hW1]
  clear hW1
  go_wp2_with fail
  refine cG.mono ?_
  rintro e w1 ⟨a, b, cc, rfl, hget, g1⟩
  clear cG
  rcases hget with ⟨m, k, hok, rfl, rfl, rfl, rfl⟩ | ⟨hno, rfl, rfl, rfl⟩
  · replace hok := Lib.hid hok
    go_wp2_with fail
    refine (cO.out (m : Int) _ g1).mono ?_
    rintro e w2 ⟨⟨v, cd, rfl, hat⟩, g2⟩
    clear cO
    have g12 := gr_trans g1 g2
    clear g1 g2
    by_cases hcd : cd = 0
    · subst hcd
      obtain ⟨j, y, rfl, hj, hid, hm⟩ : ∃ (j : Nat) (y : Cur), v = j ∧ op[j]? = some y ∧ y.id = m ∧ (m : Int) < nx := by
        rcases hat with ⟨_, _, h⟩ | ⟨_, _, _, _, h⟩ | ⟨_, h, _, k, x, h1, h2, h3⟩
        · cases h
        · cases h
        · exact ⟨k, x, h1, h2, h3, h⟩
      have hy := List.mem_of_getElem? hj
      obtain ⟨R, S, hyr, hys, hR2, hS, hS2⟩ := hop.out y hy
      have hlen : op.length = n := by have := (hR.out _ g12).1; rw [sR_len curC 5 curC_len] at this; omega
      have hjn : j < n := by have := (List.getElem?_eq_some_iff.1 hj).1; omega
      obtain ⟨x, B, o, hx, rfl, _, hc⟩ := rowS_elem curC_len (hR.out _ g12) (by decide) hjn
      obtain rfl : x = y := by rw [hx] at hj; exact Option.some.inj hj
      have hji : (j : Int) < (n : Int) := by omega
      have hj0 : (0 : Int) ≤ (j : Int) := by omega
      have d0 : w2.cell? ⟨B, o + j * 5, none⟩ = some (.int .i64 x.id) := hc 0 (by decide)
      have d1 : w2.cell? ⟨B, o + j * 5 + 1, none⟩ = some (.int .i64 x.rows) := hc 1 (by decide)
      have d2 : w2.cell? ⟨B, o + j * 5 + 2, none⟩ = some (.int .i64 x.size) := hc 2 (by decide)
      have d3 : w2.cell? ⟨B, o + j * 5 + 3, none⟩ = some (.int .i64 x.tl) := hc 3 (by decide)
      have d4 : w2.cell? ⟨B, o + j * 5 + 4, none⟩ = some (.string (txt x.file)) := hc 4 (by decide)
      have c2 := hB.out _ g12
      have cP := fun W => pages_any R S W hR2 hS hS2
      have hpe : pagesL x.size.toNat (pagesN x.rows.toNat x.size.toNat) = pagesL S (pagesN R S) := by rw [hyr, hys]; rfl
      have hN0 : 0 < pagesN R S := by unfold pagesN; omega
      have hN1 := (pages_small hR2 hS hS2 hN0 (Nat.le_refl _)).2
      have fin : ∀ w', Gr w w' → ∀ (z : Cur) (fr ee : Int), (((k : Int) ∈ pagesL S (pagesN R S) ∧ z = x ∧ fr = k ∧ ee = 0) ∨ ((k : Int) ∉ pagesL S (pagesN R S) ∧ z = cu0 ∧ fr = 0 ∧ ee = 11)) → FindPost nx op (slipL m k) w (.returned (.tuple #[curV z, .int .i64 fr, .int .i64 ee])) w' := fun w' g z fr ee h =>
        ⟨z, fr, ee, rfl, .inr ⟨m, k, hok.out, rfl, .inr ⟨j, x, hm, hx, hid, by rw [hpe]; exact h⟩⟩, g⟩
      replace fin := Lib.hid fin
      replace cP := Lib.hid cP
      replace g12 := Lib.hid g12
      obtain ⟨xi, xr, xs, xt, xf⟩ := x
      simp only at hyr hys d0 d1 d2 d3 d4 fin
      subst hyr hys
      clear hc hx hj hy hat hid hlen hpe hop hR hB
      go_wp2_with fail
      refine (cP.out _).mono ?_
      rintro e w3 ⟨v, rfl, hown, g3⟩
      obtain ⟨A2, c2', rfl, _, _⟩ := own_open hown
      have hrow := row_own hown
      have cK := contains_any (k : Int) A2 _ c2' _ w3 hrow (by omega)
      clear hown hrow cP
      go_wp2_with fail
      refine cK.mono ?_
      rintro e w4 ⟨rfl, g4⟩
      have g34 := gr_trans g3 g4
      have hX : CuB w4 w2.heap.size ⟨xi, (R : Int), (S : Int), xt, xf⟩ := gr_blk g34 (blk_new w2 _) (by simp)
      obtain ⟨x0, x1, x2, x3, x4⟩ := cub_cells hX
      simp only at x0 x1 x2 x3 x4
      have g14 := gr_trans g12.out (gr_trans (gr_alloc _ _ _) g34)
      replace g14 := Lib.hid g14
      clear cK g3 g4 g12 g34 hX d0 d1 d2 d3 d4 c2
      by_cases hin : (k : Int) ∈ pagesL S (pagesN R S)
      · rw [decide_eq_true hin]
        replace hin := Lib.hid hin
        have hRf := gr_blk (g14.out) hres.out (by simp)
        have hth := cub_there (show CuB w4 w.heap.size cu0 from hRf)
        have hsame := World.rangeAt_setCells_same w4 w.heap.size 0 [.int .i64 xi, .int .i64 (R : Int), .int .i64 (S : Int), .int .i64 xt, .string (txt xf)] hth
        have r0 := hsame 0 _ rfl
        have r1 := hsame 1 _ rfl
        have r2 := hsame 2 _ rfl
        have r3 := hsame 3 _ rfl
        have r4 := hsame 4 _ rfl
        simp only [Nat.zero_add] at r0 r1 r2 r3 r4
        have hgs := gr_over (gr_trans g0.out (g14.out)) (gr_setCells w4 w.heap.size 0 [.int .i64 xi, .int .i64 (R : Int), .int .i64 (S : Int), .int .i64 xt, .string (txt xf)]) (Nat.le_refl _)
        replace hgs := Lib.hid hgs
        clear hsame hRf
        go_wp2_with (refine wpList_store_mid (op := ⟨none, _, _, _, _, _⟩) rfl 30 _ _ rfl w.heap.size 0 #[.int .i64 xi, .int .i64 (R : Int), .int .i64 (S : Int), .int .i64 xt, .string (txt xf)] rfl rfl hth infoCu (by simp [Value.oneCell']) ?_)
        (try simp only [Exit.inBlock, Exit.then])
        refine bodyPost_ret (by simp [results, Tryd.results11, go_sem, r0, r1, r2, r3, r4]; try rfl) rfl ?_
        exact fin.out _ hgs.out _ _ _ (.inl ⟨hin.out, rfl, rfl, rfl⟩)
      · rw [decide_eq_false hin]
        replace hin := Lib.hid hin
        have hRf := gr_blk (g14.out) hres.out (by simp)
        have hth := cub_there (show CuB w4 w.heap.size cu0 from hRf)
        have hsame := World.rangeAt_setCells_same w4 w.heap.size 0 [.int .i64 0, .int .i64 0, .int .i64 0, .int .i64 0, .string ⟨#[]⟩] hth
        have r0 := hsame 0 _ rfl
        have r1 := hsame 1 _ rfl
        have r2 := hsame 2 _ rfl
        have r3 := hsame 3 _ rfl
        have r4 := hsame 4 _ rfl
        simp only [Nat.zero_add] at r0 r1 r2 r3 r4
        have hgs := gr_over (gr_trans g0.out (g14.out)) (gr_setCells w4 w.heap.size 0 [.int .i64 0, .int .i64 0, .int .i64 0, .int .i64 0, .string ⟨#[]⟩]) (Nat.le_refl _)
        replace hgs := Lib.hid hgs
        clear hsame hRf
        go_wp2_with (refine wpList_store_mid (op := ⟨none, _, _, _, _, _⟩) rfl 30 _ _ rfl w.heap.size 0 #[.int .i64 0, .int .i64 0, .int .i64 0, .int .i64 0, .string ⟨#[]⟩] rfl rfl hth infoCu (by simp [Value.oneCell']) ?_)
        (try simp only [Exit.inBlock, Exit.then])
        refine bodyPost_ret (by simp [results, Tryd.results11, go_sem, r0, r1, r2, r3, r4]; try rfl) rfl ?_
        exact fin.out _ hgs.out _ _ _ (.inr ⟨hin.out, rfl, rfl, rfl⟩)
    · have hcF : (cd == 0) = false := eqF hcd
      have hcN : (cd != 0) = true := by simp [hcd]
      replace hcd := Lib.hid hcd
      replace hat := Lib.hid hat
      replace g12 := Lib.hid g12
      have hRf := gr_blk (g12.out) hres.out (by simp)
      have hth := cub_there (show CuB w2 w.heap.size cu0 from hRf)
      have hsame := World.rangeAt_setCells_same w2 w.heap.size 0 [.int .i64 0, .int .i64 0, .int .i64 0, .int .i64 0, .string ⟨#[]⟩] hth
      have r0 := hsame 0 _ rfl
      have r1 := hsame 1 _ rfl
      have r2 := hsame 2 _ rfl
      have r3 := hsame 3 _ rfl
      have r4 := hsame 4 _ rfl
      simp only [Nat.zero_add] at r0 r1 r2 r3 r4
      have hgs := gr_over (gr_trans g0.out (g12.out)) (gr_setCells w2 w.heap.size 0 [.int .i64 0, .int .i64 0, .int .i64 0, .int .i64 0, .string ⟨#[]⟩]) (Nat.le_refl _)
      replace hgs := Lib.hid hgs
      clear hsame hRf
      go_wp2_with (refine wpList_store_mid (op := ⟨none, _, _, _, _, _⟩) rfl 30 _ _ rfl w.heap.size 0 #[.int .i64 0, .int .i64 0, .int .i64 0, .int .i64 0, .string ⟨#[]⟩] rfl rfl hth infoCu (by simp [Value.oneCell']) ?_)
      (try simp only [Exit.inBlock, Exit.then])
      refine bodyPost_ret (by simp [results, Tryd.results11, go_sem, r0, r1, r2, r3, r4]; try rfl) rfl ?_
      exact ⟨cu0, 0, _, rfl, .inr ⟨m, k, hok.out, rfl, .inl ⟨_, hat.out, hcd.out, rfl, rfl⟩⟩, hgs.out⟩
  · replace hno := Lib.hid hno
    replace g1 := Lib.hid g1
    have hRf := gr_blk (g1.out) hres.out (by simp)
    have hth := cub_there (show CuB w1 w.heap.size cu0 from hRf)
    have hsame := World.rangeAt_setCells_same w1 w.heap.size 0 [.int .i64 0, .int .i64 0, .int .i64 0, .int .i64 0, .string ⟨#[]⟩] hth
    have r0 := hsame 0 _ rfl
    have r1 := hsame 1 _ rfl
    have r2 := hsame 2 _ rfl
    have r3 := hsame 3 _ rfl
    have r4 := hsame 4 _ rfl
    simp only [Nat.zero_add] at r0 r1 r2 r3 r4
    have hgs := gr_over (gr_trans g0.out (g1.out)) (gr_setCells w1 w.heap.size 0 [.int .i64 0, .int .i64 0, .int .i64 0, .int .i64 0, .string ⟨#[]⟩]) (Nat.le_refl _)
    replace hgs := Lib.hid hgs
    clear hsame hRf
    go_wp2_with (refine wpList_store_mid (op := ⟨none, _, _, _, _, _⟩) rfl 30 _ _ rfl w.heap.size 0 #[.int .i64 0, .int .i64 0, .int .i64 0, .int .i64 0, .string ⟨#[]⟩] rfl rfl hth infoCu (by simp [Value.oneCell']) ?_)
    (try simp only [Exit.inBlock, Exit.then])
    refine bodyPost_ret (by simp [results, Tryd.results11, go_sem, r0, r1, r2, r3, r4]; try rfl) rfl ?_
    exact ⟨cu0, 0, _, rfl, .inl ⟨hno.out, rfl, rfl, rfl⟩, hgs.out⟩
end Go.Proofs.YtilbeoblppigeaaDoor
