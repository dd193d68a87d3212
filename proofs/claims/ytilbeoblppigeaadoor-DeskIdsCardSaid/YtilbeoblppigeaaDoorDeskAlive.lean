/-
  A desk of the law's own: what its calls keep; alive of the desk laws. No condition but bounds.
-/
import Derived.Test.YtilbeoblppigeaaDoorDeskNext
namespace Go.Proofs.YtilbeoblppigeaaDoor
open Go.RowKit

theorem gr_overS {S : Nat → Prop} {w V V' : World} (h : Gr w V) (k : GrS S V V') (hs : ∀ i, S i → w.heap.size ≤ i) : Gr w V' :=
  ⟨by rw [k.os, h.os], by rw [k.tape, h.tape], by rw [k.output, h.output], Nat.le_trans h.size k.size, fun i hi hn => by rw [k.block i (Nat.lt_of_lt_of_le hi h.size) (fun e => by have := hs i e; omega), h.block i hi hn]⟩
/-- Behind world w came a desk D, in that state. -/
structure DkIn (w wi : World) (D : Nat) (s : DkS) (A : Option Addr) (n c : Nat) : Prop where
  gr : Gr w wi
  dk : DkIs wi D w.heap.size s A n c
  le : w.heap.size ≤ D
theorem dkIn_gr {w wi w' : World} {D : Nat} {s : DkS} {A : Option Addr} {n c : Nat} (h : DkIn w wi D s A n c) (g : Gr wi w') : DkIn w w' D s A n c := ⟨gr_trans h.gr g, dkIs_gr h.dk g, h.le⟩
theorem dkIn_tn {w wi : World} {D : Nat} {s : DkS} {A : Option Addr} {n c : Nat} (h : DkIn w wi D s A n c) : ∀ i, TnD D (Value.slice A n c).ownBlock i → w.heap.size ≤ i := by
  intro i hi
  rcases hi with rfl | hi
  · exact h.le
  · exact (h.dk.own.lt i hi).1
theorem dkin_new (w wi : World) (hg : Gr w wi) : Calls Tryd.prog 8 #[.agg #[.int .i64 1, .int .i64 0, .slice none 0 0, .string (txt []), .int .i64 0]] wi fun e w' => ∃ D, e = .returned (.pointer (some ⟨D, 0, none⟩)) ∧ DkIn w w' D ⟨1, 0, [], [], 0⟩ none 0 0 := by
  refine (new0 1 0 0 [] wi).mono ?_
  rintro e w' ⟨⟨D, rfl, hD, hb⟩, g⟩
  exact ⟨D, rfl, gr_trans hg g, ⟨hb, World.ownsRow_nil _ _ _ _⟩, Nat.le_trans hg.size hD⟩
theorem dkin_open {w wi : World} {D : Nat} {s : DkS} {A : Option Addr} {n c : Nat} (h : DkIn w wi D s A n c) (hv : Vars w) (rows size ticks id : Nat) (hr : rows ≤ 2000) (hs : 1 ≤ size) (hs2 : size ≤ 100) (ht : ticks ≤ 100000) (hnow : 0 ≤ s.now ∧ s.now + ticks ≤ 1000000000) (hn : n < 20) (hid : s.nx = (id : Int)) (hid2 : 1 ≤ id ∧ id ≤ 1000000) :
    Calls Tryd.prog 10 #[.pointer (some ⟨D, 0, none⟩), .int .i64 rows, .int .i64 size, .int .i64 ticks] wi fun e w' => e = .returned (.tuple #[curV ⟨id, rows, size, s.now + ticks, runL id⟩, .int .i64 0]) ∧ (∃ A' c', DkIn w w' D ⟨id + 1, s.now, s.op ++ [⟨id, rows, size, s.now + ticks, runL id⟩], s.seg, s.pts⟩ A' (n + 1) c') ∧ GrS (TnD D (Value.slice A n c).ownBlock) wi w' := by
  refine (dopen_any D w.heap.size s A n c rows size ticks id wi h.dk (vars_gr hv h.gr) h.gr.size hr hs hs2 ht hnow hn hid hid2).mono ?_
  rintro e w' ⟨rfl, ⟨A', c', hd⟩, g⟩
  exact ⟨rfl, ⟨A', c', gr_overS h.gr g (dkIn_tn h), hd, h.le⟩, g⟩
theorem dkin_find {w wi : World} {D : Nat} {s : DkS} {A : Option Addr} {n c : Nat} (h : DkIn w wi D s A n c) (hv : Vars w) (hn : n ≤ 9223372036854775807) (hop : ∀ y ∈ s.op, PgOk y) (l : List UInt8) (hl : l.length ≤ 1000000) :
    Calls Tryd.prog 11 #[.pointer (some ⟨D, 0, none⟩), .string (txt l)] wi (FindPost s.nx s.op l wi) :=
  dfind_any D s A n c l wi h.dk.blk (row_own h.dk.own) hn (vars_gr hv h.gr) hl hop
/-! What Find answers at a slip of a desk of one cursor -/
theorem mem_pages {R S n : Nat} (h : (n : Int) ∈ pagesL S (pagesN R S)) : ∃ k, k < pagesN R S ∧ n = k * S := by
  unfold pagesL at h
  rw [List.mem_map] at h
  obtain ⟨k, hk, e⟩ := h
  exact ⟨k, List.mem_range.1 hk, by omega⟩
theorem pages_mem {R S k : Nat} (h : k < pagesN R S) : ((k * S : Nat) : Int) ∈ pagesL S (pagesN R S) := by
  unfold pagesL
  exact List.mem_map.2 ⟨k, List.mem_range.2 h, rfl⟩
theorem find_one {C x : Cur} {R S m n : Nat} {fr e : Int} (h : FindIs 2 [C] (slipL m n) x fr e) (hid : C.id = 1) (hR : C.rows = R) (hS : C.size = S) (hok : SlipOk m n) :
    (m = 1 ∧ (((n : Int) ∈ pagesL S (pagesN R S) ∧ x = C ∧ fr = n ∧ e = 0) ∨ ((n : Int) ∉ pagesL S (pagesN R S) ∧ x = cu0 ∧ fr = 0 ∧ e = 11))) ∨ (m ≠ 1 ∧ x = cu0 ∧ fr = 0 ∧ e = 11) := by
  rcases h with ⟨h, _⟩ | ⟨m', n', hok', hsl, h⟩
  · exact absurd rfl (h m n hok)
  · obtain ⟨rfl, rfl⟩ := slip_inj hsl
    rcases h with ⟨v, hat, hne, rfl, rfl⟩ | ⟨k, y, hm, hy, hyid, h⟩
    · rcases hat with ⟨h1, _, rfl⟩ | ⟨h1, h2, h3, _⟩ | ⟨_, _, h3, _⟩
      · right; have := hok.1; exact ⟨by omega, rfl, rfl, rfl⟩
      · exfalso; have := h3 C (by simp); omega
      · exact absurd h3 hne
    · obtain rfl : y = C := by simpa using List.mem_of_getElem? hy
      left
      rw [hR, hS] at h
      exact ⟨by omega, h⟩
theorem slip_1_20 : slipL 1 20 = [112, 49, 46, 50, 48] := by
  unfold slipL
  rw [Go.Lib.decDigits_one (show 1 < 10 by omega), Go.Lib.decDigits_two (show ¬ 20 < 10 by omega) (show 20 < 100 by omega)]
  rfl
theorem slip_1_5 : slipL 1 5 = [112, 49, 46, 53] := by
  unfold slipL
  rw [Go.Lib.decDigits_one (show 1 < 10 by omega), Go.Lib.decDigits_one (show 5 < 10 by omega)]
  rfl
theorem slip_2_0 : slipL 2 0 = [112, 50, 46, 48] := by
  unfold slipL
  rw [Go.Lib.decDigits_one (show 2 < 10 by omega), Go.Lib.decDigits_one (show 0 < 10 by omega)]
  rfl
theorem run_1 : runL 1 = [114, 117, 110, 45, 49] := by
  unfold runL
  rw [Go.Lib.decDigits_one (show 1 < 10 by omega)]
  rfl
set_option maxHeartbeats 8000000 in
set_option maxRecDepth 100000 in
theorem alive_any (w : World) (hv : Vars w) : Calls Tryd.prog 7 #[] w fun e w' => e = .returned (.bool true) ∧ Gr w w' := by
  have cF := fun W => fold0 W
  replace cF := Lib.hid cF
  replace hv := Lib.hid hv
  go_enter Tryd.func7, Tryd.ntmps7
  go_wp2_with fail
  refine (cF.out _).mono ?_
  rintro e w1 ⟨rfl, g1⟩
  go_wp2_with fail
  refine (dkin_new w w1 g1).mono ?_
  rintro e w2 ⟨D, rfl, h2⟩
  clear cF g1
  replace h2 := Lib.hid h2
  go_wp2_with fail
  refine (dkin_open (dkIn_gr h2.out (by first | exact gr_refl _ _ | exact gr_alloc _ _ _)) hv.out 25 10 5 1 (by omega) (by omega) (by omega) (by omega) (by simp only; omega) (by omega) rfl (by omega)).mono ?_
  rintro e w3 ⟨rfl, ⟨A, c, h3⟩, gS⟩
  have h3' : DkIn w w3 D ⟨2, 0, [⟨1, 25, 10, 5, runL 1⟩], [], 0⟩ A 1 c := h3
  have hop : ∀ y ∈ ([⟨1, 25, 10, 5, runL 1⟩] : List Cur), PgOk y := fun y hy => by
    rw [List.mem_singleton.1 hy]
    exact ⟨25, 10, rfl, rfl, by omega, by omega, by omega⟩
  have e20 : txt (slipL 1 20) = ⟨#[112, 49, 46, 50, 48]⟩ := by rw [slip_1_20]; rfl
  have e5 : txt (slipL 1 5) = ⟨#[112, 49, 46, 53]⟩ := by rw [slip_1_5]; rfl
  have e0 : txt (slipL 2 0) = ⟨#[112, 50, 46, 48]⟩ := by rw [slip_2_0]; rfl
  have er : txt (runL 1) = ⟨#[114, 117, 110, 45, 49]⟩ := by rw [run_1]; rfl
  have len : ∀ m n, SlipOk m n → (slipL m n).length ≤ 1000000 := fun m n h => by have := (slip_len h).1; omega
  have k1 : SlipOk 1 20 := by unfold SlipOk; omega
  have k2 : SlipOk 1 5 := by unfold SlipOk; omega
  have k3 : SlipOk 2 0 := by unfold SlipOk; omega
  have f1 := fun W (g : Gr w3 W) => dkin_find (dkIn_gr h3' g) hv.out (by omega) hop (slipL 1 20) (len _ _ k1)
  have f2 := fun W (g : Gr w3 W) => dkin_find (dkIn_gr h3' g) hv.out (by omega) hop (slipL 1 5) (len _ _ k2)
  have f3 := fun W (g : Gr w3 W) => dkin_find (dkIn_gr h3' g) hv.out (by omega) hop (slipL 2 0) (len _ _ k3)
  have n1 := fun W (g : Gr w3 W) => dnext_any D 1 25 10 5 (runL 1) 10 W (by omega) (by omega) (by omega) (by omega) (vars_gr hv.out (gr_trans h3'.gr g))
  have n2 := fun W (g : Gr w3 W) => dnext_any D 1 25 10 5 (runL 1) 20 W (by omega) (by omega) (by omega) (by omega) (vars_gr hv.out (gr_trans h3'.gr g))
  have gw := h3'.gr
  rw [e20] at f1
  rw [e5] at f2
  rw [e0] at f3
  unfold curV
  simp only [er] at n1 n2 ⊢
  clear h3 gS hop h2
  replace h3' := Lib.hid h3'
  replace f1 := Lib.hid f1
  replace f2 := Lib.hid f2
  replace f3 := Lib.hid f3
  replace n1 := Lib.hid n1
  replace n2 := Lib.hid n2
  replace gw := Lib.hid gw
  have hX := blk_new w3 (.cells #[.int .i64 1, .int .i64 25, .int .i64 10, .int .i64 5, .string ⟨#[114, 117, 110, 45, 49]⟩] 30)
  have gX := gr_alloc w3 (.cells #[.int .i64 1, .int .i64 25, .int .i64 10, .int .i64 5, .string ⟨#[114, 117, 110, 45, 49]⟩] 30) none
  replace hX := Lib.hid hX
  go_wp2_with fail
  refine (f1.out _ gX).mono ?_
  rintro e w4 ⟨x, fr, k, rfl, hf, g4⟩
  have hX4 := gr_blk g4 hX.out (by simp)
  replace g4 := gr_trans gX g4
  clear hX gX
  replace hX4 := Lib.hid hX4
  have cu : curV cu0 = .agg #[.int .i64 0, .int .i64 0, .int .i64 0, .int .i64 0, .string ⟨#[]⟩] := rfl
  obtain ⟨rfl, rfl, rfl⟩ : x = ⟨1, 25, 10, 5, runL 1⟩ ∧ fr = 20 ∧ k = 0 := by
    rcases find_one (R := 25) (S := 10) hf rfl rfl rfl k1 with ⟨_, ⟨_, e1, e2, e3⟩ | ⟨h, _⟩⟩ | ⟨h, _⟩
    · exact ⟨e1, e2, e3⟩
    · exact absurd (pages_mem (R := 25) (S := 10) (k := 2) (by decide)) h
    · exact absurd rfl h
  unfold curV
  simp only [er]
  clear hf
  go_wp2_with fail
  refine (f2.out _ (gr_trans g4 (gr_alloc _ _ _))).mono ?_
  rintro e w5 ⟨x, fr, k, rfl, hf, g5⟩
  obtain ⟨rfl, rfl, rfl⟩ : x = cu0 ∧ fr = 0 ∧ k = 11 := by
    rcases find_one (R := 25) (S := 10) hf rfl rfl rfl k2 with ⟨_, ⟨h, _⟩ | ⟨_, h⟩⟩ | ⟨h, _⟩
    · obtain ⟨q, _, hq⟩ := mem_pages h
      omega
    · exact h
    · exact absurd rfl h
  clear hf
  rw [cu]
  go_wp2_with fail
  refine (f3.out _ (gr_trans (gr_trans g4 (gr_alloc _ _ _)) (gr_trans g5 (gr_alloc _ _ _)))).mono ?_
  rintro e w6 ⟨x, fr, k, rfl, hf, g6⟩
  obtain ⟨rfl, rfl, rfl⟩ : x = cu0 ∧ fr = 0 ∧ k = 11 := by
    rcases find_one (R := 25) (S := 10) hf rfl rfl rfl k3 with ⟨h, _⟩ | ⟨_, h⟩
    · cases h
    · exact h
  clear hf
  rw [cu]
  have g36 := gr_trans (gr_trans (gr_trans g4 (gr_alloc w4 (.cells #[.int .i64 1, .int .i64 25, .int .i64 10, .int .i64 5, .string ⟨#[114, 117, 110, 45, 49]⟩] 30) none)) (gr_trans g5 (gr_alloc w5 (.cells #[.int .i64 0, .int .i64 0, .int .i64 0, .int .i64 0, .string ⟨#[]⟩] 30) none))) (gr_trans g6 (gr_alloc w6 (.cells #[.int .i64 0, .int .i64 0, .int .i64 0, .int .i64 0, .string ⟨#[]⟩] 30) none))
  have hX6 := gr_blk (gr_trans (gr_trans (gr_alloc w4 (.cells #[.int .i64 1, .int .i64 25, .int .i64 10, .int .i64 5, .string ⟨#[114, 117, 110, 45, 49]⟩] 30) none) (gr_trans g5 (gr_alloc w5 (.cells #[.int .i64 0, .int .i64 0, .int .i64 0, .int .i64 0, .string ⟨#[]⟩] 30) none))) (gr_trans g6 (gr_alloc w6 (.cells #[.int .i64 0, .int .i64 0, .int .i64 0, .int .i64 0, .string ⟨#[]⟩] 30) none))) hX4.out (by simp)
  clear g4 g5 g6 f1 f2 f3 hX4
  go_upto_region 8 with fail
  generalize w6.alloc (.cells #[.int .i64 0, .int .i64 0, .int .i64 0, .int .i64 0, .string ⟨#[]⟩] 30) = W6 at g36 hX6 ⊢
  have x0 : W6.cell? ⟨w3.heap.size, 0, none⟩ = some (.int .i64 1) := fcellD hX6 rfl
  have x1 : W6.cell? ⟨w3.heap.size, 1, none⟩ = some (.int .i64 25) := fcellD hX6 rfl
  have x2 : W6.cell? ⟨w3.heap.size, 2, none⟩ = some (.int .i64 10) := fcellD hX6 rfl
  have x3 : W6.cell? ⟨w3.heap.size, 3, none⟩ = some (.int .i64 5) := fcellD hX6 rfl
  have x4 : W6.cell? ⟨w3.heap.size, 4, none⟩ = some (.string ⟨#[114, 117, 110, 45, 49]⟩) := fcellD hX6 rfl
  replace hX6 := Lib.hid hX6
  go_wp2_with fail
  refine (n1.out _ (by first | exact g36 | exact gr_trans g36 (gr_drew _ _) | exact gr_trans g36 (gr_drewN _ _ _))).mono ?_
  rintro e w7 ⟨⟨l, rfl, hl⟩, g7⟩
  obtain rfl : l = slipL 1 20 := by
    rcases hl with ⟨q, hq, _, hl⟩ | ⟨h, _⟩
    · have : q = 1 := by omega
      subst this
      exact hl
    · exact absurd rfl (h 1 (by decide))
  rw [e20]
  clear hl
  have y0 := gr_cell g7 x0
  have y1 := gr_cell g7 x1
  have y2 := gr_cell g7 x2
  have y3 := gr_cell g7 x3
  have y4 := gr_cell g7 x4
  clear x0 x1 x2 x3 x4
  go_wp2_with fail
  refine (n2.out _ (by first | exact gr_trans g36 g7 | exact gr_trans g36 (gr_trans (gr_drew _ _) g7) | exact gr_trans g36 (gr_trans (gr_drewN _ _ _) g7))).mono ?_
  rintro e w8 ⟨⟨l, rfl, hl⟩, g8⟩
  obtain rfl : l = [] := by
    rcases hl with ⟨q, hq, h, _⟩ | ⟨_, h⟩
    · have : q = 2 := by omega
      subst this
      exact absurd h (by decide)
    · exact h
  clear hl
  go_wp2
  go_ret
  exact ⟨rfl, gr_trans gw.out (gr_trans g36 (gr_trans g7 g8))⟩
end Go.Proofs.YtilbeoblppigeaaDoor
