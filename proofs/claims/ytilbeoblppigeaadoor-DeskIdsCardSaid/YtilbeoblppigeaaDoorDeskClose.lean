/-
  (*Desk).Close of a desk that came behind world w. No condition but bounds.
-/
import Derived.Test.YtilbeoblppigeaaDoorDeskAlive
import Derived.Test.YtilbeoblppigeaaDoorDeskDel
namespace Go.Proofs.YtilbeoblppigeaaDoor
open Go.RowKit

def ClosePost (w : World) (D : Nat) (s : DkS) (A : Option Addr) (n c : Nat) (id : Int) (e : Ending) (w' : World) : Prop :=
  ∃ x ee, e = .returned (.tuple #[curV x, .int .i64 ee]) ∧ ((ee ≠ 0 ∧ x = cu0 ∧ (∃ v, DkAt s.nx s.op id v ee) ∧ DkIn w w' D s A n c) ∨ (ee = 0 ∧ ∃ k : Nat, s.op[k]? = some x ∧ x.id = id ∧ 1 ≤ id ∧ id < s.nx ∧ DkIn w w' D ⟨s.nx, s.now, s.op.eraseIdx k, s.seg, s.pts⟩ A (n - 1) c))
theorem dkin_grB {w wi w' : World} {D b : Nat} {s : DkS} {A : Option Addr} {n c : Nat} (h : DkIn w wi D s A n c) (k : GrB b wi w') (hb : w.heap.size ≤ b) (hD : b ≠ D) (ho : (Value.slice A n c).ownBlock ≠ some b) : DkIn w w' D s A n c :=
  ⟨gr_over h.gr k hb, ⟨gr_blk k h.dk.blk (by simp; omega), h.dk.own.kept k (.inr ho)⟩, h.le⟩
set_option maxHeartbeats 8000000 in
set_option maxRecDepth 100000 in
theorem dkin_close {w wi : World} {D : Nat} {s : DkS} {A : Option Addr} {n c : Nat} (h : DkIn w wi D s A n c) (hn : n ≤ 9223372036854775807) (id : Int) :
    Calls Tryd.prog 18 #[.pointer (some ⟨D, 0, none⟩), .int .i64 id] wi (ClosePost w D s A n c id) := by
  obtain ⟨W1, hW1⟩ : ∃ W1, W1 = wi.alloc (.cells #[.int .i64 0, .int .i64 0, .int .i64 0, .int .i64 0, .string ⟨#[]⟩] 30) := ⟨_, rfl⟩
  have g0 : Gr wi W1 := by rw [hW1]; exact gr_alloc _ _ _
  have hres : CuB W1 wi.heap.size cu0 := by rw [hW1]; exact blk_new wi _
  have h1 := dkIn_gr h g0
  have cO := dplace_any D s A n c id W1 h1.dk.blk (row_own h1.dk.own) hn
  have hDlt := lt_of_blk h.dk.blk
  have hwi := h.gr.size
  have hob : ∀ b, (Value.slice A n c).ownBlock = some b → b < wi.heap.size := fun b hb => (h.dk.own.lt b hb).2
  obtain ⟨nx, now, op, seg, pts⟩ := s
  simp only at cO
  replace hres := Lib.hid hres
  replace h1 := Lib.hid h1
  replace hob := Lib.hid hob
  replace hDlt := Lib.hid hDlt
  replace hwi := Lib.hid hwi
  clear h g0
  go_enter Tryd.func18, Tryd.ntmps18
  go_upto_region 1 with fail
  rw [← hW1]
  clear hW1
  go_wp2_with fail
  refine cO.mono ?_
  rintro e w2 ⟨⟨v, cd, rfl, hat⟩, g2⟩
  clear cO
  have h2 := dkIn_gr h1.out g2
  have hR2 : CuB w2 wi.heap.size cu0 := gr_blk g2 hres.out (by simp)
  clear hres h1
  by_cases hcd : cd = 0
  · subst hcd
    obtain ⟨j, y, rfl, hj, hid, hm1, hm⟩ : ∃ (j : Nat) (y : Cur), v = j ∧ op[j]? = some y ∧ y.id = id ∧ 1 ≤ id ∧ id < nx := by
      rcases hat with ⟨_, _, h⟩ | ⟨_, _, _, _, h⟩ | ⟨h', h, _, k, x, h1, h2, h3⟩
      · cases h
      · cases h
      · exact ⟨k, x, h1, h2, h3, h', h⟩
    have hlen : op.length = n := dkIs_len h2.dk
    have hjn : j < n := by have := (List.getElem?_eq_some_iff.1 hj).1; omega
    obtain ⟨g, cap, hv, hbg, hgl⟩ := h2.dk.own.form (by omega)
    injection hv with hA _ hc
    subst hA hc
    have hgw : w.heap.size ≤ g := (h2.dk.own.lt g rfl).1
    have hgi : g < wi.heap.size := hob.out g rfl
    have hap : g ≠ D := fun e => dk_apart h2.dk.blk h2.dk.own (by rw [e]; rfl)
    obtain ⟨x, B, o, hx, hAo, _, hcl⟩ := rowS_elem curC_len (row_own h2.dk.own) (by decide) hjn
    injection hAo with hAo
    injection hAo with hB ho
    subst hB ho
    obtain rfl : x = y := by
      have hx' : op[j]? = some x := hx
      rw [hx'] at hj; exact Option.some.inj hj
    have hji : (j : Int) < (n : Int) := by omega
    have hj0 : (0 : Int) ≤ (j : Int) := by omega
    have hjw : IntKind.i64.wrap ((j : Int) + 1) = (j : Int) + 1 := IntWalk.i64_in _ (by omega)
    have hcl2 := fun (q : Nat) (hq : q < 5) => hcl q hq
    have d0 : w2.cell? ⟨g, j * 5, none⟩ = some (.int .i64 x.id) := by have := hcl 0 (by decide); rw [Nat.zero_add] at this; exact this
    have d1 : w2.cell? ⟨g, j * 5 + 1, none⟩ = some (.int .i64 x.rows) := by have := hcl 1 (by decide); rw [Nat.zero_add] at this; exact this
    have d2 : w2.cell? ⟨g, j * 5 + 2, none⟩ = some (.int .i64 x.size) := by have := hcl 2 (by decide); rw [Nat.zero_add] at this; exact this
    have d3 : w2.cell? ⟨g, j * 5 + 3, none⟩ = some (.int .i64 x.tl) := by have := hcl 3 (by decide); rw [Nat.zero_add] at this; exact this
    have d4 : w2.cell? ⟨g, j * 5 + 4, none⟩ = some (.string (txt x.file)) := by have := hcl 4 (by decide); rw [Nat.zero_add] at this; exact this
    have c2 := (dkb_cells h2.dk.blk).2.2.1
    (try simp only at c2)
    clear hcl hcl2 hj hat
    obtain ⟨xi, xr, xs, xt, xf⟩ := x
    simp only at d0 d1 d2 d3 d4 hid
    subst hid
    obtain ⟨W3, hW3⟩ : ∃ W3, W3 = w2.alloc (.cells #[.int .i64 xi, .int .i64 xr, .int .i64 xs, .int .i64 xt, .string (txt xf)] 30) := ⟨_, rfl⟩
    have g3 : Gr w2 W3 := by rw [hW3]; exact gr_alloc _ _ _
    have hX3 : CuB W3 w2.heap.size ⟨xi, xr, xs, xt, xf⟩ := by rw [hW3]; exact blk_new w2 _
    have h3 := dkIn_gr h2 g3
    have hR3 : CuB W3 wi.heap.size cu0 := gr_blk g3 hR2 (by simp)
    have e2 := (dkb_cells h3.dk.blk).2.2.1
    (try simp only at e2)
    have cD := sdel_any w.heap.size g n c j op W3 h3.dk.own hjn
    have hs2 : wi.heap.size < w2.heap.size := lt_of_blk hR2
    replace h2 := Lib.hid h2
    replace h3 := Lib.hid h3
    replace hR3 := Lib.hid hR3
    replace hX3 := Lib.hid hX3
    replace hx := Lib.hid hx
    replace hs2 := Lib.hid hs2
    clear hR2 hbg hgl
    go_upto_region 5 with fail
    rw [← hW3]
    clear hW3 d0 d1 d2 d3 d4 c2
    go_wp2_with fail
    refine cD.mono ?_
    rintro e w4 ⟨rfl, hown4, g4⟩
    clear cD e2
    have hb4 : DkB w4 D nx now (.slice (some ⟨g, 0, none⟩) n c) seg pts := gr_blk g4 h3.out.dk.blk (by simp; omega)
    have hR4 : CuB w4 wi.heap.size cu0 := gr_blk g4 hR3.out (by simp; omega)
    have hX4 : CuB w4 w2.heap.size ⟨xi, xr, xs, xt, xf⟩ := gr_blk g4 hX3.out (by simp; have := hs2.out; omega)
    have f2 : w4.frozen? ⟨D, 2, none⟩ = false := fzeroD hb4 2
    have e2 := (dkb_cells hb4).2.2.1
    obtain ⟨W5, hW5⟩ : ∃ W5, W5 = w4.setCell ⟨D, 2, none⟩ (.slice (some ⟨g, 0, none⟩) (n - 1) c) := ⟨_, rfl⟩
    have g5 : GrB D w4 W5 := by rw [hW5]; exact gr_set w4 ⟨D, 2, none⟩ _
    have hb5 : DkB W5 D nx now (.slice (some ⟨g, 0, none⟩) (n - 1) c) seg pts := by rw [hW5]; exact blk_set hb4 2 _
    have hown5 := hown4.kept g5 (.inr (by simp [Value.ownBlock]; omega))
    have hR5 : CuB W5 wi.heap.size cu0 := gr_blk g5 hR4 (by simp; have := hDlt.out; omega)
    have hX5 : CuB W5 w2.heap.size ⟨xi, xr, xs, xt, xf⟩ := gr_blk g5 hX4 (by simp; have := hDlt.out; have := hs2.out; omega)
    have gw5 : Gr w W5 := gr_over (gr_over h3.out.gr g4 hgw) g5 h3.out.le
    have h5 : DkIn w W5 D ⟨nx, now, op.eraseIdx j, seg, pts⟩ (some ⟨g, 0, none⟩) (n - 1) c := ⟨gw5, ⟨hb5, hown5⟩, h3.out.le⟩
    obtain ⟨x0, x1, x2, x3, x4⟩ := cub_cells hX5
    simp only at x0 x1 x2 x3 x4
    replace h5 := Lib.hid h5
    replace hR5 := Lib.hid hR5
    clear hb4 hR4 hX4 g4 g5 hb5 hown4 hown5 hX5 gw5 h2 h3 hX3 hR3
    go_upto_region 6 with fail
    rw [← hW5]
    clear hW5 e2 f2
    have hRf := hR5.out
    have hth := cub_there (show CuB W5 wi.heap.size cu0 from hRf)
    have hsame := World.rangeAt_setCells_same W5 wi.heap.size 0 [.int .i64 xi, .int .i64 xr, .int .i64 xs, .int .i64 xt, .string (txt xf)] hth
    have r0 := hsame 0 _ rfl
    have r1 := hsame 1 _ rfl
    have r2 := hsame 2 _ rfl
    have r3 := hsame 3 _ rfl
    have r4 := hsame 4 _ rfl
    simp only [Nat.zero_add] at r0 r1 r2 r3 r4
    have hgs := gr_setCells W5 wi.heap.size 0 [.int .i64 xi, .int .i64 xr, .int .i64 xs, .int .i64 xt, .string (txt xf)]
    replace hgs := Lib.hid hgs
    clear hsame hRf
    go_wp2_with (refine wpList_store_mid (op := ⟨none, _, _, _, _, _⟩) rfl 30 _ _ rfl wi.heap.size 0 #[.int .i64 xi, .int .i64 xr, .int .i64 xs, .int .i64 xt, .string (txt xf)] rfl rfl hth infoCu (by simp [Value.oneCell']) ?_)
    (try simp only [Exit.inBlock, Exit.then])
    refine bodyPost_ret (by simp [results, Tryd.results18, go_sem, r0, r1, r2, r3, r4]; try rfl) rfl ?_
    exact ⟨⟨xi, xr, xs, xt, xf⟩, 0, rfl, .inr ⟨rfl, j, hx.out, rfl, hm1, hm, dkin_grB h5.out hgs.out hwi.out (by have := hDlt.out; omega) (by simp [Value.ownBlock]; omega)⟩⟩
  · have hcN : (cd != 0) = true := by simp [hcd]
    replace hcd := Lib.hid hcd
    replace hat := Lib.hid hat
    replace h2 := Lib.hid h2
    replace hR2 := Lib.hid hR2
    have hRf := hR2.out
    have hth := cub_there (show CuB w2 wi.heap.size cu0 from hRf)
    have hsame := World.rangeAt_setCells_same w2 wi.heap.size 0 [.int .i64 0, .int .i64 0, .int .i64 0, .int .i64 0, .string ⟨#[]⟩] hth
    have r0 := hsame 0 _ rfl
    have r1 := hsame 1 _ rfl
    have r2 := hsame 2 _ rfl
    have r3 := hsame 3 _ rfl
    have r4 := hsame 4 _ rfl
    simp only [Nat.zero_add] at r0 r1 r2 r3 r4
    have hgs := gr_setCells w2 wi.heap.size 0 [.int .i64 0, .int .i64 0, .int .i64 0, .int .i64 0, .string ⟨#[]⟩]
    replace hgs := Lib.hid hgs
    clear hsame hRf
    go_wp2_with (refine wpList_store_mid (op := ⟨none, _, _, _, _, _⟩) rfl 30 _ _ rfl wi.heap.size 0 #[.int .i64 0, .int .i64 0, .int .i64 0, .int .i64 0, .string ⟨#[]⟩] rfl rfl hth infoCu (by simp [Value.oneCell']) ?_)
    (try simp only [Exit.inBlock, Exit.then])
    refine bodyPost_ret (by simp [results, Tryd.results18, go_sem, r0, r1, r2, r3, r4]; try rfl) rfl ?_
    exact ⟨cu0, cd, rfl, .inl ⟨hcd.out, rfl, ⟨v, hat.out⟩, dkin_grB h2.out hgs.out hwi.out (by have := hDlt.out; omega) (fun e => by have := hob.out _ e; omega)⟩⟩
end Go.Proofs.YtilbeoblppigeaaDoor
