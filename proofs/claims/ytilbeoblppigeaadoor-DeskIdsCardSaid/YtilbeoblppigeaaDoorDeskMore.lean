/-
  slices.Clone of cursors; desk.own, New and State of any list. No condition but bounds on the lengths.
-/
import Derived.Test.YtilbeoblppigeaaDoorDeskTick
import Derived.Test.YtilbeoblppigeaaDoorAppendRow
import Derived.Deep.RegionHeld3
namespace Go.Proofs.YtilbeoblppigeaaDoor
open Go.RowKit

theorem curs_ones (zs : List Cur) : ∀ u ∈ sR curC zs, u.oneCell' = true := fun u hu => by
  unfold sR at hu
  rw [List.mem_flatMap] at hu
  obtain ⟨x, _, hx⟩ := hu
  simp only [curC, List.mem_cons, List.not_mem_nil, or_false] at hx
  rcases hx with rfl | rfl | rfl | rfl | rfl <;> rfl
theorem own_empty (w : World) (e : TypeId) (size : Nat) : (w.alloc (.cells #[] e)).ownsRow w.heap.size e size (.slice (some ⟨w.heap.size, 0, none⟩) 0 0) 0 [] :=
  ⟨by simp, .inr ⟨w.heap.size, 0, #[], rfl, Nat.le_refl _, blk_new w _, Nat.le_refl _, Nat.zero_le _, by simp, by simp⟩⟩
set_option maxHeartbeats 4000000 in
set_option maxRecDepth 100000 in
theorem dclone_any (A : Option Addr) (n c : Nat) (zs : List Cur) (w : World) (hn : n ≤ 1000000000) (hA : A = none → n = 0 ∧ c = 0) (hz : Row w A n 5 (sR curC zs)) :
    Calls Tryd.prog 32 #[.slice A n c] w fun e w' => ∃ v, e = .returned v ∧ w'.ownsRow w.heap.size 30 5 v n (sR curC zs) ∧ Gr w w' := by
  obtain ⟨ii, hi, hz0, hz1, hz2⟩ := info_parts infoCuE
  cases A with
  | none =>
    obtain ⟨rfl, rfl⟩ := hA rfl
    have hzs : sR curC zs = [] := by
      have := hz.1
      simpa using this
    rw [hzs]
    have he : ∀ w : World, (binOp .eql 25 (.slice none 0 0) (.slice none 0 0)).run Tryd.prog w = .ok (.bool true) w := fun _ => rfl
    go_enter Tryd.func32, Tryd.ntmps32
    go_wp2
    go_ret
    exact ⟨_, rfl, World.ownsRow_nil _ _ _ _, gr_refl _ _⟩
  | some a =>
    have hoe := own_empty w 30 5
    have ge : Gr w (w.alloc (.cells #[] 30)) := gr_alloc _ _ _
    have hz2' := row_gr hz ge
    have hsz : w.heap.size ≤ (w.alloc (.cells #[] 30)).heap.size := ge.size
    replace hz2' := Lib.hid hz2'
    replace hoe := Lib.hid hoe
    replace ge := Lib.hid ge
    clear hz
    have he : ∀ w : World, (binOp .eql 25 (.slice (some a) n c) (.slice none 0 0)).run Tryd.prog w = .ok (.bool false) w := fun _ => rfl
    go_enter Tryd.func32, Tryd.ntmps32
    go_wp2_with (at_builtin; refine wpList_append_row rfl _ _ 25 rfl w.heap.size 30 ii (.agg #[.int .i64 0, .int .i64 0, .int .i64 0, .int .i64 0, .string ⟨#[]⟩]) 5 48 Tryd.underlying25 hi hz0 hz1 hz2 rfl (by decide) (.slice (some ⟨w.heap.size, 0, none⟩) 0 0) 0 [] rfl hoe.out (some a) n c (sR curC zs) rfl (fun e => by cases e) hz2'.out (curs_ones zs) n (sR curC zs) (Nat.zero_add n) rfl ?c1 ?c2 hsz ?_; rotate_right; intro v' W5 hown5 hgrow; replace hown5 := Lib.hid hown5; replace hgrow := Lib.hid hgrow)
    case c1 => unfold maxLen; omega
    case c2 => omega
    go_ret
    exact ⟨_, rfl, hown5.out, gr_of_below (below_gr (gr_below ge.out) hgrow.out ge.out.size (by intro q hq; cases hq; exact Nat.le_refl _)) (Nat.le_refl _)⟩
theorem infoStD : (Tryd.prog.info? 27).map (·.size) = some 5 := by kernel_rfl
theorem there5 {W : World} {b : Nat} {cs : Array Value} {t : TypeId} (h : W.heap[b]? = some (.cells cs t (0, 0))) (h5 : cs.size = 5) : W.there b 0 5 := fun j hj => ⟨by
  have : cs[j]? = some cs[j] := Array.getElem?_eq_getElem (by omega)
  rw [Nat.zero_add, fcellD h this]
  rfl, fzeroD h _⟩
theorem out5 {W : World} {b : Nat} {v0 v1 v2 v3 v4 : Value} (h : W.there b 0 5) :
    (W.setCells b 0 [v0, v1, v2, v3, v4]).cell? ⟨b, 0, none⟩ = some v0 ∧ (W.setCells b 0 [v0, v1, v2, v3, v4]).cell? ⟨b, 1, none⟩ = some v1 ∧ (W.setCells b 0 [v0, v1, v2, v3, v4]).cell? ⟨b, 2, none⟩ = some v2 ∧ (W.setCells b 0 [v0, v1, v2, v3, v4]).cell? ⟨b, 3, none⟩ = some v3 ∧ (W.setCells b 0 [v0, v1, v2, v3, v4]).cell? ⟨b, 4, none⟩ = some v4 := by
  have hs := World.rangeAt_setCells_same W b 0 [v0, v1, v2, v3, v4] h
  exact ⟨hs 0 _ rfl, hs 1 _ rfl, hs 2 _ rfl, hs 3 _ rfl, hs 4 _ rfl⟩
/-- A block that is new since w may turn. -/
theorem gr_new {w V V' : World} {b : Nat} (h : Gr w V) (k : GrB b V V') (hb : w.heap.size ≤ b) : Gr w V' := gr_over h k hb
set_option maxHeartbeats 4000000 in
set_option maxRecDepth 100000 in
theorem down_any (nx now pts : Int) (seg : List UInt8) (A : Option Addr) (n c : Nat) (zs : List Cur) (w : World) (hn : n ≤ 1000000) (hA : A = none → n = 0 ∧ c = 0) (hz : Row w A n 5 (sR curC zs)) :
    Calls Tryd.prog 20 #[.agg #[.int .i64 nx, .int .i64 now, .slice A n c, .string (txt seg), .int .i64 pts]] w fun e w' => ∃ v, e = .returned (.agg #[.int .i64 nx, .int .i64 now, v, .string (txt seg), .int .i64 pts]) ∧ w'.ownsRow w.heap.size 30 5 v n (sR curC zs) ∧ Gr w w' := by
  have cC := fun W (g : Gr w W) => dclone_any A n c zs W (by omega) hA (row_gr hz g)
  replace cC := Lib.hid cC
  clear hz hA
  obtain ⟨W0, hW0⟩ : ∃ W0, W0 = (w.alloc (.cells #[.int .i64 nx, .int .i64 now, .slice A n c, .string (txt seg), .int .i64 pts] 27)).alloc (.cells #[.int .i64 0, .int .i64 0, .slice none 0 0, .string ⟨#[]⟩, .int .i64 0] 27) := ⟨_, rfl⟩
  have hz1 : (w.alloc (.cells #[.int .i64 nx, .int .i64 now, .slice A n c, .string (txt seg), .int .i64 pts] 27)).heap.size = w.heap.size + 1 := by simp
  have hS : W0.heap[w.heap.size]? = some (.cells #[.int .i64 nx, .int .i64 now, .slice A n c, .string (txt seg), .int .i64 pts] 27 (0, 0)) := by rw [hW0]; exact gr_blk (gr_alloc _ _ none) (blk_new w _) (by simp)
  have hR : W0.heap[w.heap.size + 1]? = some (.cells #[.int .i64 0, .int .i64 0, .slice none 0 0, .string ⟨#[]⟩, .int .i64 0] 27 (0, 0)) := by rw [hW0, ← hz1]; exact blk_new _ _
  have g0 : Gr w W0 := by rw [hW0]; exact gr_trans (gr_alloc _ _ _) (gr_alloc _ _ _)
  have s2 : W0.cell? ⟨w.heap.size, 2, none⟩ = some (.slice A n c) := fcellD hS rfl
  replace hS := Lib.hid hS
  replace hR := Lib.hid hR
  replace g0 := Lib.hid g0
  clear hz1
  go_enter Tryd.func20, Tryd.ntmps20
  go_upto_region 1 with fail
  rw [show (w.alloc (.cells #[.int .i64 nx, .int .i64 now, .slice A n c, .string (txt seg), .int .i64 pts] 27)).alloc (.cells #[.int .i64 0, .int .i64 0, .slice none 0 0, .string ⟨#[]⟩, .int .i64 0] 27) = W0 from hW0.symm]
  clear hW0
  go_wp2_with fail
  refine (cC.out W0 g0.out).mono ?_
  rintro e W2 ⟨v', rfl, hv, g2⟩
  obtain ⟨A', c', rfl, _⟩ := own_openS hv
  have hS2 := gr_blk g2 hS.out (by simp)
  have hR2 := gr_blk g2 hR.out (by simp)
  have hv0 := own_mono hv g0.out.size
  have f2 : W2.frozen? ⟨w.heap.size, 2, none⟩ = false := fzeroD hS2 2
  have t2 : W2.cell? ⟨w.heap.size, 2, none⟩ = some (.slice A n c) := fcellD hS2 rfl
  obtain ⟨W3, hW3⟩ : ∃ W3, W3 = W2.setCell ⟨w.heap.size, 2, none⟩ (.slice A' n c') := ⟨_, rfl⟩
  have g3 : GrB w.heap.size W2 W3 := by rw [hW3]; exact gr_set W2 ⟨w.heap.size, 2, none⟩ _
  have hS3 : W3.heap[w.heap.size]? = some (.cells #[.int .i64 nx, .int .i64 now, .slice A' n c', .string (txt seg), .int .i64 pts] 27 (0, 0)) := by rw [hW3]; exact blk_set hS2 2 _
  have hR3 := gr_blk g3 hR2 (by simp)
  have hv3 := own_farD hv0 hS2 (by decide) g3
  have hG3 := gr_over (gr_trans g0.out g2) g3 (Nat.le_refl _)
  have s0 : W3.cell? ⟨w.heap.size, 0, none⟩ = some (.int .i64 nx) := fcellD hS3 rfl
  have s1 : W3.cell? ⟨w.heap.size, 1, none⟩ = some (.int .i64 now) := fcellD hS3 rfl
  have s2 : W3.cell? ⟨w.heap.size, 2, none⟩ = some (.slice A' n c') := fcellD hS3 rfl
  have s3 : W3.cell? ⟨w.heap.size, 3, none⟩ = some (.string (txt seg)) := fcellD hS3 rfl
  have s4 : W3.cell? ⟨w.heap.size, 4, none⟩ = some (.int .i64 pts) := fcellD hS3 rfl
  have hth := there5 hR3 rfl
  obtain ⟨r0, r1, r2, r3, r4⟩ := out5 (v0 := .int .i64 nx) (v1 := .int .i64 now) (v2 := .slice A' n c') (v3 := .string (txt seg)) (v4 := .int .i64 pts) hth
  have g4 := gr_setCells W3 (w.heap.size + 1) 0 [.int .i64 nx, .int .i64 now, .slice A' n c', .string (txt seg), .int .i64 pts]
  have hv4 := own_farD hv3 hR3 (by decide) g4
  have hG4 := gr_over hG3 g4 (by omega)
  replace hv4 := Lib.hid hv4
  replace hG4 := Lib.hid hG4
  clear hv hv0 hv3 hG3 g3 g4 hS2 hR2 hS3 hR3 hS hR g0 g2 cC
  go_upto_region 2 with fail
  rw [← hW3]
  clear hW3 f2 t2
  go_wp2_with (refine wpList_store_mid (op := ⟨none, _, _, _, _, _⟩) rfl 27 _ _ rfl (w.heap.size + 1) 0 #[.int .i64 nx, .int .i64 now, .slice A' n c', .string (txt seg), .int .i64 pts] rfl rfl hth infoStD (by simp [Value.oneCell']) ?_)
  (try simp only [Exit.inBlock, Exit.then])
  refine bodyPost_ret (by simp [results, Tryd.results20, go_sem, r0, r1, r2, r3, r4]; try rfl) rfl ?_
  exact ⟨_, rfl, hv4.out, hG4.out⟩
theorem own_nilD {w : World} {base : Nat} {e : TypeId} {size n c : Nat} {A : Option Addr} {xs : List Value} (h : w.ownsRow base e size (.slice A n c) n xs) : A = none → n = 0 ∧ c = 0 := by
  rintro rfl
  rcases h.2 with ⟨hv, h0⟩ | ⟨g, cap, cur, hv, _⟩
  · injection hv with _ h2 h3
    exact ⟨h2, h3⟩
  · injection hv with h1
    cases h1
set_option maxHeartbeats 4000000 in
set_option maxRecDepth 100000 in
theorem dkin_newS {w wi : World} (hg : Gr w wi) (s : DkS) (A : Option Addr) (n c : Nat) (hn : n ≤ 1000000) (hA : A = none → n = 0 ∧ c = 0) (hz : Row wi A n 5 (sR curC s.op)) :
    Calls Tryd.prog 8 #[.agg #[.int .i64 s.nx, .int .i64 s.now, .slice A n c, .string (txt s.seg), .int .i64 s.pts]] wi fun e w' => ∃ D A' c', e = .returned (.pointer (some ⟨D, 0, none⟩)) ∧ DkIn w w' D s A' n c' ∧ wi.heap.size ≤ D ∧ Gr wi w' := by
  obtain ⟨nx, now, op, seg, pts⟩ := s
  simp only at hz ⊢
  have cO := fun W (g : Gr wi W) => down_any nx now pts seg A n c op W hn hA (row_gr hz g)
  replace cO := Lib.hid cO
  replace hg := Lib.hid hg
  clear hz hA
  go_enter Tryd.func8, Tryd.ntmps8
  go_wp2_with fail
  refine (cO.out _ (gr_alloc _ _ _)).mono ?_
  rintro e W2 ⟨v, rfl, hv, g2⟩
  obtain ⟨A', c', rfl, _⟩ := own_openS hv
  have G2 := gr_trans (gr_alloc wi (.cells #[.int .i64 nx, .int .i64 now, .slice A n c, .string (txt seg), .int .i64 pts] 27) none) g2
  have hv2 := own_mono hv (show w.heap.size ≤ _ from Nat.le_trans hg.out.size (gr_alloc wi (.cells #[.int .i64 nx, .int .i64 now, .slice A n c, .string (txt seg), .int .i64 pts] 27) none).size)
  have hv3 := hv2.kept (gr_alloc W2 (.cells #[.int .i64 nx, .int .i64 now, .slice A' n c', .string (txt seg), .int .i64 pts] 52) none) (Classical.em _)
  replace G2 := Lib.hid G2
  replace hv3 := Lib.hid hv3
  clear hv hv2 g2 cO
  go_wp2
  go_ret
  exact ⟨_, A', c', rfl, ⟨gr_trans (gr_trans hg.out G2.out) (gr_alloc _ _ _), ⟨blk_new W2 _, hv3.out⟩, Nat.le_trans hg.out.size G2.out.size⟩, G2.out.size, gr_trans G2.out (gr_alloc _ _ _)⟩
set_option maxHeartbeats 4000000 in
set_option maxRecDepth 100000 in
theorem dkin_state {w wi : World} {D : Nat} {s : DkS} {A : Option Addr} {n c : Nat} (h : DkIn w wi D s A n c) (hn : n ≤ 1000000) :
    Calls Tryd.prog 15 #[.pointer (some ⟨D, 0, none⟩)] wi fun e w' => ∃ A' c', e = .returned (.agg #[.int .i64 s.nx, .int .i64 s.now, .slice A' n c', .string (txt s.seg), .int .i64 s.pts]) ∧ w'.ownsRow wi.heap.size 30 5 (.slice A' n c') n (sR curC s.op) ∧ Gr wi w' := by
  obtain ⟨W0, hW0⟩ : ∃ W0, W0 = wi.alloc (.cells #[.int .i64 0, .int .i64 0, .slice none 0 0, .string ⟨#[]⟩, .int .i64 0] 27) := ⟨_, rfl⟩
  have g0 : Gr wi W0 := by rw [hW0]; exact gr_alloc _ _ _
  have hR : W0.heap[wi.heap.size]? = some (.cells #[.int .i64 0, .int .i64 0, .slice none 0 0, .string ⟨#[]⟩, .int .i64 0] 27 (0, 0)) := by rw [hW0]; exact blk_new wi _
  obtain ⟨c0, c1, c2, c3, c4⟩ := dkb_cells (dkIn_gr h g0).dk.blk
  have cO := fun W (g : Gr W0 W) => down_any s.nx s.now s.pts s.seg A n c s.op W hn (own_nilD h.dk.own) (row_gr (row_own h.dk.own) (gr_trans g0 g))
  obtain ⟨nx, now, op, seg, pts⟩ := s
  simp only at cO c0 c1 c2 c3 c4 ⊢
  replace cO := Lib.hid cO
  replace hR := Lib.hid hR
  replace g0 := Lib.hid g0
  clear h
  go_enter Tryd.func15, Tryd.ntmps15
  go_upto_region 1 with fail
  rw [← hW0]
  clear hW0
  go_wp2_with fail
  refine (cO.out _ (gr_refl _ _)).mono ?_
  rintro e W3 ⟨v, rfl, hv, g2⟩
  obtain ⟨A', c', rfl, _⟩ := own_openS hv
  have hR3 := gr_blk g2 hR.out (by simp)
  have hth := there5 hR3 rfl
  have hG3 := gr_trans g0.out g2
  obtain ⟨r0, r1, r2, r3, r4⟩ := out5 (v0 := .int .i64 nx) (v1 := .int .i64 now) (v2 := .slice A' n c') (v3 := .string (txt seg)) (v4 := .int .i64 pts) hth
  have g4 := gr_setCells W3 wi.heap.size 0 [.int .i64 nx, .int .i64 now, .slice A' n c', .string (txt seg), .int .i64 pts]
  have hv3 := own_mono hv g0.out.size
  have hv4 := own_farD hv3 hR3 (by decide) g4
  have hG4 := gr_over hG3 g4 (Nat.le_refl _)
  replace hv4 := Lib.hid hv4
  replace hG4 := Lib.hid hG4
  clear hv hv3 hG3 g4 hR3 hR g0 g2 cO c0 c1 c2 c3 c4
  go_wp2_with (refine wpList_store_mid (op := ⟨none, _, _, _, _, _⟩) rfl 27 _ _ rfl wi.heap.size 0 #[.int .i64 nx, .int .i64 now, .slice A' n c', .string (txt seg), .int .i64 pts] rfl rfl hth infoStD (by simp [Value.oneCell']) ?_)
  (try simp only [Exit.inBlock, Exit.then])
  refine bodyPost_ret (by simp [results, Tryd.results15, go_sem, r0, r1, r2, r3, r4]; try rfl) rfl ?_
  exact ⟨A', c', rfl, hv4.out, hG4.out⟩
end Go.Proofs.YtilbeoblppigeaaDoor
