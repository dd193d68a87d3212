/-
  What the reader's class reads. No condition but that the reader reads these runes, and that they are few.
-/
import Derived.Test.YtccmekdmnkmhlaaGreatSqPatTree
import Derived.Handy
namespace Go.Proofs.YtccmekdmnkmhlaaGreat
open Go.RowKit

theorem infoPair : (Tryz.prog.info? 212).map (fun i => (i.zero, i.size, i.bytes)) = some (some (.agg #[.int .i32 0, .int .i32 0]), 2, 8) := by kernel_rfl
/-- How much is left to read. -/
def rdMeas (R : Nat) (w : World) : Nat := match w.cell? ⟨R, 0, none⟩ with | some (.slice _ n _) => n | _ => 0
theorem rd_meas {H R : Nat} {w : World} {l : Rs} {bad : Bool} (h : RdAt H w R l bad) : rdMeas R w = l.length := by
  obtain ⟨hlt, _, A, c, h1, _⟩ := h
  unfold rdMeas
  rw [blk_cell h1 (j := 0) (v := .slice A l.length c) rfl]
structure ClsAt (H R : Nat) (w : World) (B3 : Nat) (neg : Bool) (its : List (Int × Int)) (A : Option Addr) (c : Nat) (l1 : Rs) (bad1 : Bool) (wr : World) : Prop where
  rd : RdAt H wr R l1 bad1
  blk : wr.heap[B3]? = some (.cells #[.bool false, .bool neg, .slice A its.length c] 187 (0, 0))
  res : wr.heap[w.heap.size]? = some (.cells #[.bool false, .bool false, .slice none 0 0] 187 (0, 0))
  own : wr.ownsRow (B3 + 1) 212 2 (.slice A its.length c) its.length (ics its)
  gr : GrR R w wr
theorem cls_keep {H R : Nat} {w : World} {B3 : Nat} {neg : Bool} {its : List (Int × Int)} {A : Option Addr} {c : Nat} {l1 l2 : Rs} {bad1 bad2 : Bool} {wr w' : World} (hR : R < w.heap.size) (hB : w.heap.size < B3) (h : ClsAt H R w B3 neg its A c l1 bad1 wr) (g : GrR R wr w') (h2 : RdAt H w' R l2 bad2) : ClsAt H R w B3 neg its A c l2 bad2 w' :=
  ⟨h2, gr_blk g h.blk (fun e => by have := Option.some.inj e; omega), gr_blk g h.res (fun e => by have := Option.some.inj e; omega), h.own.kept g (by
    cases hb : (Value.slice A its.length c).ownBlock with
    | none => exact .inl rfl
    | some k => exact .inr fun e => by have := (h.own.lt k hb).1; have := Option.some.inj e; omega), gr_trans h.gr g⟩
theorem cls_gr {H R : Nat} {w : World} {B3 : Nat} {neg : Bool} {its : List (Int × Int)} {A : Option Addr} {c : Nat} {l1 : Rs} {bad1 : Bool} {wr w' : World} (hR : R < w.heap.size) (hB : w.heap.size < B3) (h : ClsAt H R w B3 neg its A c l1 bad1 wr) (g : Gr wr w') : ClsAt H R w B3 neg its A c l1 bad1 w' :=
  cls_keep hR hB h (gr_more _ g) (rd_gr h.rd g)
/-- A set, as one lies in memory. -/
def SetAt (w : World) (lo : Nat) (s : PSet) (A : Option Addr) : Prop := Row w A s.items.length 2 (ics s.items) ∧ (∀ B o, A = some ⟨B, o, none⟩ → s.items ≠ [] → lo ≤ B ∧ B < w.heap.size) ∧ s.items.length ≤ 1000000
def ClassPost (H R n : Nat) (l : Rs) (w : World) (e : Ending) (w' : World) : Prop :=
  ∃ s A c l' bad', e = .returned (setV s A s.items.length c) ∧ RdAt H w' R l' bad' ∧ l'.length ≤ l.length ∧ GrR R w w' ∧ SetAt w' w.heap.size s A ∧ ((bad' = false ∧ pClass n l = some (s, l')) ∨ (bad' = true ∧ pClass n l = none))
theorem class_take {H R n : Nat} {l : Rs} {w w' : World} {e : Ending} (hn : l.length < n) (h : RdAt H w R l false) (h2 : TakePost H R l false 94 w e w') : ∃ neg l0, e = .returned (.bool neg) ∧ RdAt H w' R l0 false ∧ GrR R w w' ∧ pClass n l = pItems n neg [] l0 ∧ l0.length ≤ l.length := by
  rcases h2 with ⟨t, rfl, rfl, hr, g⟩ | ⟨hno, rfl, rfl⟩
  · exact ⟨true, t, rfl, hr, g, by simp [pClass], by simp⟩
  · refine ⟨false, l, rfl, h, gr_refl _ _, ?_, Nat.le_refl _⟩
    cases l with
    | nil =>
      obtain ⟨m, rfl⟩ : ∃ m, n = m + 1 := ⟨n - 1, by omega⟩
      simp [pClass, pItems_eq]
    | cons c t =>
      have hc : c ≠ 94 := fun e => hno t (by rw [e])
      simp [pClass, hc]
/-- The end: the set is handed back. -/
theorem cls_end {H R n : Nat} {l : Rs} {w : World} {B3 : Nat} {neg : Bool} {its : List (Int × Int)} {A : Option Addr} {c : Nat} {l1 : Rs} {bad1 : Bool} {wr : World} (_hR : R < w.heap.size) (hB : w.heap.size < B3) (h : ClsAt H R w B3 neg its A c l1 bad1 wr) (hl : l1.length ≤ l.length) (hp : (bad1 = false ∧ pClass n l = some (⟨false, neg, its⟩, l1)) ∨ (bad1 = true ∧ pClass n l = none)) (w' : World) (g : wr.grownBy w' (some w.heap.size)) (hH : H ≤ w.heap.size) (hni : its.length ≤ 1000000) :
    ClassPost H R n l w (.returned (.agg #[.bool false, .bool neg, .slice A its.length c])) w' := by
  have hown := h.own.kept g (by
    cases hb : (Value.slice A its.length c).ownBlock with
    | none => exact .inl rfl
    | some k => exact .inr fun e => by have := (h.own.lt k hb).1; have := Option.some.inj e; omega)
  refine ⟨⟨false, neg, its⟩, A, c, l1, bad1, rfl, rd_keep h.rd g (fun k hk => by cases hk; exact hH), hl, ⟨g.os.trans h.gr.os, g.tape.trans h.gr.tape, g.output.trans h.gr.output, Nat.le_trans h.gr.size g.size, fun k hk hr => (g.block k (Nat.lt_of_lt_of_le hk h.gr.size) (fun e => by have := Option.some.inj e; omega)).trans (h.gr.block k hk hr)⟩, ⟨row_own hown, fun B o e _ => ?_, hni⟩, hp⟩
  have := hown.lt B (by rw [e]; rfl)
  omega
/-- A block of the round's own is written. -/
theorem cls_set {H R : Nat} {w : World} {B3 : Nat} {neg : Bool} {its : List (Int × Int)} {A : Option Addr} {c : Nat} {l1 : Rs} {bad1 : Bool} {wr : World} {k : Nat} {cs : Array Value} {fr : Nat × Nat} (_hR : R < w.heap.size) (hB : w.heap.size < B3) (hH : H ≤ w.heap.size) (h : ClsAt H R w B3 neg its A c l1 bad1 wr) (hk : B3 < k) (_hx : wr.heap[k]? = some (.cells cs 212 fr)) (i : Nat) (v : Value) (hown : (Value.slice A its.length c).ownBlock ≠ some k := by simp) : ClsAt H R w B3 neg its A c l1 bad1 (wr.setCell ⟨k, i, none⟩ v) := by
  have g : wr.grownBy (wr.setCell ⟨k, i, none⟩ v) (some k) := gr_set wr ⟨k, i, none⟩ v
  exact ⟨rd_keep h.rd g (fun q hq => by cases hq; omega), gr_blk g h.blk (fun e => by have := Option.some.inj e; omega), gr_blk g h.res (fun e => by have := Option.some.inj e; omega), h.own.kept g (by
    cases hb : (Value.slice A its.length c).ownBlock with
    | none => exact .inl rfl
    | some q => exact .inr fun e => hown (by rw [hb, e])), ⟨g.os.trans h.gr.os, g.tape.trans h.gr.tape, g.output.trans h.gr.output, Nat.le_trans h.gr.size g.size, fun q hq hr => (g.block q (Nat.lt_of_lt_of_le hq h.gr.size) (fun e => by have := Option.some.inj e; omega)).trans (h.gr.block q hq hr)⟩⟩
theorem two_new (w : World) (a b : Value) (t : TypeId) : ∀ (j : Nat) (u : Value), [a, b][j]? = some u → (w.alloc (.cells #[a, b] t)).cell? ((⟨w.heap.size, 0, none⟩ : Addr).add j) = some u := by
  intro j u hj
  have hb := blk_new w (.cells #[a, b] t)
  match j, hj with
  | 0, hj =>
    obtain rfl : a = u := by simpa using hj
    exact blk_cell hb rfl
  | 1, hj =>
    obtain rfl : b = u := by simpa using hj
    exact blk_cell hb rfl
  | j + 2, hj => simp at hj
/-- One more range. -/
theorem cls_push {H R : Nat} {w : World} {B3 : Nat} {neg : Bool} {its : List (Int × Int)} {A : Option Addr} {c : Nat} {l1 : Rs} {bad1 : Bool} {W9 W10 : World} {a b : Int} {o : Obj} {g cap : Nat} (_hR : R < w.heap.size) (hB : w.heap.size < B3) (hH : H ≤ w.heap.size) (h : ClsAt H R w B3 neg its A c l1 bad1 W9)
    (hown : W10.ownsRow (B3 + 1) 212 2 (.slice (some ⟨g, 0, none⟩) (its.length + 1) cap) (its.length + 1) (ics its ++ [.int .i32 a, .int .i32 b])) (hat : ((Value.slice A its.length c).ownBlock = some g ∧ (W9.alloc o).grownBy W10 (some g)) ∨ (g = (W9.alloc o).heap.size ∧ Gr (W9.alloc o) W10)) :
    W10.heap[B3]? = some (.cells #[.bool false, .bool neg, .slice A its.length c] 187 (0, 0)) ∧ ClsAt H R w B3 neg (its ++ [(a, b)]) (some ⟨g, 0, none⟩) cap l1 bad1 (W10.setCell ⟨B3, 2, none⟩ (.slice (some ⟨g, 0, none⟩) (its.length + 1) cap)) := by
  have hg3 : B3 + 1 ≤ g := (hown.lt g rfl).1
  have hall : ∃ r, (W9.alloc o).grownBy W10 r ∧ ∀ k, r = some k → B3 < k := by
    rcases hat with ⟨_, g1⟩ | ⟨_, g1⟩
    · exact ⟨_, g1, fun k hk => by cases hk; omega⟩
    · exact ⟨_, g1, fun k hk => by cases hk⟩
  obtain ⟨r, g1, hr⟩ := hall
  have g0 := gr_alloc W9 o none
  have hb10 := gr_blk g1 (gr_blk g0 h.blk (by simp)) (fun e => by have := hr _ e.symm; omega)
  have hs10 := gr_blk g1 (gr_blk g0 h.res (by simp)) (fun e => by have := hr _ e.symm; omega)
  have hrd10 := rd_keep (rd_gr h.rd g0) g1 (fun k hk => by have := hr _ hk; omega)
  have g2 : W10.grownBy (W10.setCell ⟨B3, 2, none⟩ (.slice (some ⟨g, 0, none⟩) (its.length + 1) cap)) (some B3) := gr_set W10 ⟨B3, 2, none⟩ _
  have hl : (its ++ [(a, b)]).length = its.length + 1 := by simp
  refine ⟨hb10, rd_keep hrd10 g2 (fun k hk => by cases hk; omega), ?_, gr_blk g2 hs10 (fun e => by have := Option.some.inj e; omega), ?_, ?_⟩
  · have hb := blk_set hb10 2 (.slice (some ⟨g, 0, none⟩) (its.length + 1) cap)
    rw [hl]
    exact hb
  · rw [hl, ics_append]
    exact hown.kept g2 (.inr fun e => by have : g = B3 := Option.some.inj e; omega)
  · have q1 := h.gr
    have q2 := gr_more (some R) g0
    exact ⟨g2.os.trans (g1.os.trans (g0.os.trans q1.os)), g2.tape.trans (g1.tape.trans (g0.tape.trans q1.tape)), g2.output.trans (g1.output.trans (g0.output.trans q1.output)), Nat.le_trans q1.size (Nat.le_trans g0.size (Nat.le_trans g1.size g2.size)), fun k hk hr2 =>
      (g2.block k (Nat.lt_of_lt_of_le hk (Nat.le_trans q1.size (Nat.le_trans g0.size g1.size))) (fun e => by have := Option.some.inj e; omega)).trans
        ((g1.block k (Nat.lt_of_lt_of_le hk (Nat.le_trans q1.size g0.size)) (fun e => by have := hr _ e.symm; omega)).trans
          ((g0.block k (Nat.lt_of_lt_of_le hk q1.size) (by simp)).trans (q1.block k hk hr2)))⟩
theorem set3 {w : World} {b : Nat} {x y z : Value} {t : TypeId} (h : w.heap[b]? = some (.cells #[x, y, z] t (0, 0))) (a c d : Value) : ∃ W', W' = ((w.setCell ⟨b, 0, none⟩ a).setCell ⟨b, 1, none⟩ c).setCell ⟨b, 2, none⟩ d ∧ W'.cell? ⟨b, 0, none⟩ = some a ∧ W'.cell? ⟨b, 1, none⟩ = some c ∧ W'.cell? ⟨b, 2, none⟩ = some d ∧ w.grownBy W' (some b) := by
  have h1 := blk_set h 0 a
  have h2 := blk_set h1 1 c
  have h3 := blk_set h2 2 d
  have h4 : (((w.setCell ⟨b, 0, none⟩ a).setCell ⟨b, 1, none⟩ c).setCell ⟨b, 2, none⟩ d).heap[b]? = some (.cells #[a, c, d] t (0, 0)) := h3
  exact ⟨_, rfl, blk_cell h4 rfl, blk_cell h4 rfl, blk_cell h4 rfl, gr_trans (gr_trans (gr_set w ⟨b, 0, none⟩ a) (gr_set _ ⟨b, 1, none⟩ c)) (gr_set _ ⟨b, 2, none⟩ d)⟩
set_option maxHeartbeats 16000000 in
set_option maxRecDepth 100000 in
theorem class_any (H R : Nat) (l : Rs) (w : World) (n : Nat) (hn : l.length < n) (hl : l.length ≤ 1000) (hH : H ≤ w.heap.size) (h : RdAt H w R l false) : Calls Tryz.prog 171 #[.pointer (some ⟨R, 0, none⟩)] w (ClassPost H R n l w) := by
  obtain ⟨ii, hi, hz0, hz1, hz2⟩ := info_parts infoPair
  have hR := h.lt
  have hRw : R < w.heap.size := by omega
  have ht := take_any H R l false 94 (w.alloc (.cells #[.bool false, .bool false, .slice none 0 0] 187)) (rd_gr h (gr_alloc w _ none))
  replace ht := Lib.hid ht
  replace h := Lib.hid h
  go_enter Tryz.func171, Tryz.ntmps171
  go_wp2_with fail
  refine ht.out.mono ?_
  intro e w1 hpost
  obtain ⟨neg, l0, rfl, hr, g1, hpc, hl0⟩ := class_take hn (rd_gr h.out (gr_alloc w _ none)) hpost
  have hres1 := gr_blk g1 (blk_new w (.cells #[.bool false, .bool false, .slice none 0 0] 187)) (fun e => by have := Option.some.inj e; omega)
  have hgw : GrR R w w1 := gr_trans (gr_alloc w _ _) g1
  have hs1 : w.heap.size < w1.heap.size := by have := g1.size; have h2 : (w.alloc (.cells #[.bool false, .bool false, .slice none 0 0] 187)).heap.size = w.heap.size + 1 := by simp
                                              omega
  have hcls : ClsAt H R w w1.heap.size neg [] none 0 l0 false (w1.alloc (.cells #[.bool false, .bool neg, .slice none 0 0] 187)) :=
    ⟨rd_gr hr (gr_alloc _ _ none), blk_new _ _, gr_blk (gr_alloc _ _ none) hres1 (by simp), World.ownsRow_nil _ _ _ _, gr_trans hgw (gr_alloc _ _ _)⟩
  have hB : w.heap.size < w1.heap.size := by omega
  replace hcls := Lib.hid hcls
  replace hpc := Lib.hid hpc
  replace hres1 := Lib.hid hres1
  clear ht hpost hr g1 hgw
  go_wp2
  go_loopw [] (fun wr => ∃ (n1 : Nat) (its : List (Int × Int)) (A : Option Addr) (c : Nat) (l1 : Rs) (bad1 : Bool), Hid (ClsAt H R w w1.heap.size neg its A c l1 bad1 wr) ∧ l1.length ≤ l.length ∧ its.length + l1.length ≤ l.length ∧ l1.length < n1 ∧ Hid (bad1 = false → pClass n l = pItems n1 neg its l1) ∧ Hid (bad1 = true → pClass n l = none)) (fun wr => rdMeas R wr)
  case atStart => exact ⟨n, [], none, 0, l0, false, hcls, hl0, by simpa using hl0, by omega, Lib.hid (fun _ => hpc.out), Lib.hid (fun e => by cases e)⟩
  case round =>
    obtain ⟨n1, its, A, c, l1, bad1, hc, hl1, hil, hln, hp0, hp1⟩ := hrel
    obtain ⟨k1, f1⟩ := rd_c1 hc.out.rd
    have kB0 : wr.cell? ⟨w1.heap.size, 0, none⟩ = some (.bool false) := blk_cell hc.out.blk rfl
    have kB1 : wr.cell? ⟨w1.heap.size, 1, none⟩ = some (.bool neg) := blk_cell hc.out.blk rfl
    have kB2 : wr.cell? ⟨w1.heap.size, 2, none⟩ = some (.slice A its.length c) := blk_cell hc.out.blk rfl
    have kr0 : wr.cell? ⟨w.heap.size, 0, none⟩ = some (.bool false) := blk_cell hc.out.res rfl
    have kr1 : wr.cell? ⟨w.heap.size, 1, none⟩ = some (.bool false) := blk_cell hc.out.res rfl
    have kr2 : wr.cell? ⟨w.heap.size, 2, none⟩ = some (.slice none 0 0) := blk_cell hc.out.res rfl
    have fr0 : wr.frozen? ⟨w.heap.size, 0, none⟩ = false := blk_free hc.out.res 0
    have fr1 : wr.frozen? ⟨w.heap.size, 1, none⟩ = false := blk_free hc.out.res 1
    have fr2 : wr.frozen? ⟨w.heap.size, 2, none⟩ = false := blk_free hc.out.res 2
    cases bad1 with
    | true =>
      have hend := fun w' g => cls_end hRw hB hc.out hl1 (.inr ⟨rfl, hp1.out rfl⟩) w' g hH (by omega)
      replace hend := Lib.hid hend
      go_wp2
      obtain ⟨W', hW', e0, e1, e2, gW⟩ := set3 hc.out.res (.bool false) (.bool neg) (.slice A its.length c)
      rw [← hW']
      refine bodyPost_ret (v := .agg #[.bool false, .bool neg, .slice A its.length c]) (by simp [results, Tryz.results171, go_sem, e0, e1, e2]) rfl ?_
      exact hend.out W' gW
    | false =>
      have hp := hp0.out rfl
      have hrdm := rd_meas hc.out.rd
      have hws : w1.heap.size < wr.heap.size := lt_of_blk hc.out.blk
      replace hrdm := Lib.hid hrdm
      clear hp0 hp1
      obtain ⟨m, rfl⟩ : ∃ m, n1 = m + 1 := ⟨n1 - 1, by omega⟩
      rw [pItems_eq] at hp
      by_cases hA : its ≠ [] ∧ ∃ t, l1 = 93 :: t
      · obtain ⟨hits, t, rfl⟩ := hA
        simp only [if_true, hits, if_false] at hp
        have hitn : (0 : Int) < (its.length : Int) := by
          have : its.length ≠ 0 := fun e => hits (List.eq_nil_of_length_eq_zero e)
          omega
        have ht := take_yes H R t false 93 wr hc.out.rd
        replace ht := Lib.hid ht
        replace hp := Lib.hid hp
        replace hits := Lib.hid hits
        clear kB0 kB1 kr0 kr1 kr2 fr0 fr1 fr2
        go_wp2_with fail
        refine ht.out.mono ?_
        rintro e w3 ⟨rfl, hr3, g3⟩
        have hc3 := cls_keep hRw hB hc.out g3 hr3
        have kB0 : w3.cell? ⟨w1.heap.size, 0, none⟩ = some (.bool false) := blk_cell hc3.blk rfl
        have kB1 : w3.cell? ⟨w1.heap.size, 1, none⟩ = some (.bool neg) := blk_cell hc3.blk rfl
        have kB2 : w3.cell? ⟨w1.heap.size, 2, none⟩ = some (.slice A its.length c) := blk_cell hc3.blk rfl
        have kr0 : w3.cell? ⟨w.heap.size, 0, none⟩ = some (.bool false) := blk_cell hc3.res rfl
        have kr1 : w3.cell? ⟨w.heap.size, 1, none⟩ = some (.bool false) := blk_cell hc3.res rfl
        have kr2 : w3.cell? ⟨w.heap.size, 2, none⟩ = some (.slice none 0 0) := blk_cell hc3.res rfl
        have fr0 : w3.frozen? ⟨w.heap.size, 0, none⟩ = false := blk_free hc3.res 0
        have fr1 : w3.frozen? ⟨w.heap.size, 1, none⟩ = false := blk_free hc3.res 1
        have fr2 : w3.frozen? ⟨w.heap.size, 2, none⟩ = false := blk_free hc3.res 2
        have hend := fun w' g => cls_end hRw hB hc3 (by simp at hl1; omega) (.inl ⟨rfl, hp.out⟩) w' g hH (by omega)
        replace hend := Lib.hid hend
        replace hc3 := Lib.hid hc3
        go_wp2
        obtain ⟨W', hW', e0, e1, e2, gW⟩ := set3 hc3.out.res (.bool false) (.bool neg) (.slice A its.length c)
        rw [← hW']
        refine bodyPost_ret (v := .agg #[.bool false, .bool neg, .slice A its.length c]) (by simp [results, Tryz.results171, go_sem, e0, e1, e2]) rfl ?_
        exact hend.out W' gW
      · go_upto_region 3 with fail
        go_cut [22] (fun s22 wx => s22 = .bool false ∧ wr = wx)
        case first =>
          by_cases hits : its = []
          · subst hits
            replace hp := Lib.hid hp
            clear hA
            go_wp2_with fail
            go_meet
            exact ⟨rfl, rfl⟩
          · have hno : ∀ t, l1 ≠ 93 :: t := fun t e => hA ⟨hits, t, e⟩
            have hitn : (0 : Int) < (its.length : Int) := by
              have : its.length ≠ 0 := fun e => hits (List.eq_nil_of_length_eq_zero e)
              omega
            have ht := take_no H R l1 false 93 wr hc.out.rd hno
            replace ht := Lib.hid ht
            replace hp := Lib.hid hp
            replace hits := Lib.hid hits
            clear hA hno
            go_wp2_with fail
            refine ht.out.mono ?_
            rintro e w3 ⟨rfl, rfl⟩
            go_wp2_with fail
            go_meet
            exact ⟨rfl, rfl⟩
        case rest =>
        obtain ⟨rfl, rfl⟩ := hcut
        have hnx := next_any H R l1 false wr hc.out.rd
        replace hnx := Lib.hid hnx
        have hbadw := rd_bad hc.out.rd true
        have hcb := cls_keep hRw hB hc.out hbadw.2 hbadw.1
        have hstop : pClass n l = none → ∀ w', (wr.setCell ⟨R, 1, none⟩ (.bool true)).grownBy w' (some w.heap.size) → ClassPost H R n l w (.returned (.agg #[.bool false, .bool neg, .slice A its.length c])) w' := fun hn w' g => cls_end hRw hB hcb hl1 (.inr ⟨rfl, hn⟩) w' g hH (by omega)
        cases l1 with
        | nil =>
          simp only at hp
          have hend := hstop hp
          obtain ⟨Wb, hWb⟩ : ∃ Wb, Wb = wr.setCell ⟨R, 1, none⟩ (.bool true) := ⟨_, rfl⟩
          rw [← hWb] at hcb hend
          clear kB0 kB1 kB2 kr0 kr1 kr2 fr0 fr1 fr2
          have kB0 : Wb.cell? ⟨w1.heap.size, 0, none⟩ = some (.bool false) := blk_cell hcb.blk rfl
          have kB1 : Wb.cell? ⟨w1.heap.size, 1, none⟩ = some (.bool neg) := blk_cell hcb.blk rfl
          have kB2 : Wb.cell? ⟨w1.heap.size, 2, none⟩ = some (.slice A its.length c) := blk_cell hcb.blk rfl
          have kr0 : Wb.cell? ⟨w.heap.size, 0, none⟩ = some (.bool false) := blk_cell hcb.res rfl
          have kr1 : Wb.cell? ⟨w.heap.size, 1, none⟩ = some (.bool false) := blk_cell hcb.res rfl
          have kr2 : Wb.cell? ⟨w.heap.size, 2, none⟩ = some (.slice none 0 0) := blk_cell hcb.res rfl
          have fr0 : Wb.frozen? ⟨w.heap.size, 0, none⟩ = false := blk_free hcb.res 0
          have fr1 : Wb.frozen? ⟨w.heap.size, 1, none⟩ = false := blk_free hcb.res 1
          have fr2 : Wb.frozen? ⟨w.heap.size, 2, none⟩ = false := blk_free hcb.res 2
          replace hend := Lib.hid hend
          replace hcb := Lib.hid hcb
          replace hp := Lib.hid hp
          replace hstop := Lib.hid hstop
          replace hbadw := Lib.hid hbadw
          replace hWb := Lib.hid hWb
          clear hA
          go_wp2_with fail
          refine hnx.out.mono ?_
          rintro e w3 ⟨rfl, rfl⟩
          simp only [nextV]
          go_upto_region 7 with fail
          go_cut [3] (fun s3 wx => s3 = .pointer (some ⟨w1.heap.size, 0, none⟩) ∧ Wb = wx)
          case first =>
            go_wp2
            go_meet
            exact ⟨rfl, hWb.out⟩
          case rest =>
          obtain ⟨rfl, rfl⟩ := hcut
          go_wp2
          obtain ⟨W', hW', e0, e1, e2, gW⟩ := set3 hcb.out.res (.bool false) (.bool neg) (.slice A its.length c)
          rw [← hW']
          refine bodyPost_ret (v := .agg #[.bool false, .bool neg, .slice A its.length c]) (by simp [results, Tryz.results171, go_sem, e0, e1, e2]) rfl ?_
          exact hend.out W' gW
        | cons x t =>
          by_cases hx : x = 93
          · subst hx
            obtain rfl : its = [] := by
              by_cases h0 : its = []
              · exact h0
              · exact absurd ⟨h0, t, rfl⟩ hA
            simp only [if_true] at hp
            have hend := hstop hp
            obtain ⟨Wb, hWb⟩ : ∃ Wb, Wb = wr.setCell ⟨R, 1, none⟩ (.bool true) := ⟨_, rfl⟩
            rw [← hWb] at hcb hend
            clear kB0 kB1 kB2 kr0 kr1 kr2 fr0 fr1 fr2
            have kB0 : Wb.cell? ⟨w1.heap.size, 0, none⟩ = some (.bool false) := blk_cell hcb.blk rfl
            have kB1 : Wb.cell? ⟨w1.heap.size, 1, none⟩ = some (.bool neg) := blk_cell hcb.blk rfl
            have kB2 : Wb.cell? ⟨w1.heap.size, 2, none⟩ = some (.slice A 0 c) := blk_cell hcb.blk rfl
            have kr0 : Wb.cell? ⟨w.heap.size, 0, none⟩ = some (.bool false) := blk_cell hcb.res rfl
            have kr1 : Wb.cell? ⟨w.heap.size, 1, none⟩ = some (.bool false) := blk_cell hcb.res rfl
            have kr2 : Wb.cell? ⟨w.heap.size, 2, none⟩ = some (.slice none 0 0) := blk_cell hcb.res rfl
            have fr0 : Wb.frozen? ⟨w.heap.size, 0, none⟩ = false := blk_free hcb.res 0
            have fr1 : Wb.frozen? ⟨w.heap.size, 1, none⟩ = false := blk_free hcb.res 1
            have fr2 : Wb.frozen? ⟨w.heap.size, 2, none⟩ = false := blk_free hcb.res 2
            replace hend := Lib.hid hend
            replace hcb := Lib.hid hcb
            replace hp := Lib.hid hp
            replace hstop := Lib.hid hstop
            replace hbadw := Lib.hid hbadw
            replace hWb := Lib.hid hWb
            clear hA
            go_wp2_with fail
            refine hnx.out.mono ?_
            rintro e w3 ⟨rfl, rfl⟩
            simp only [nextV]
            go_upto_region 7 with fail
            go_cut [3] (fun s3 wx => s3 = .pointer (some ⟨w1.heap.size, 0, none⟩) ∧ Wb = wx)
            case first =>
              go_wp2
              go_meet
              exact ⟨rfl, hWb.out⟩
            case rest =>
            obtain ⟨rfl, rfl⟩ := hcut
            go_wp2
            obtain ⟨W', hW', e0, e1, e2, gW⟩ := set3 hcb.out.res (.bool false) (.bool neg) (.slice A 0 c)
            rw [← hW']
            refine bodyPost_ret (v := .agg #[.bool false, .bool neg, .slice A 0 c]) (by simp [results, Tryz.results171, go_sem, e0, e1, e2]) rfl ?_
            exact hend.out W' gW
          · simp only [hx, if_false] at hp
            have hxF : (x == 93) = false := eqF hx
            have hmem := member_any H R (x :: t) false wr hc.out.rd
            replace hmem := Lib.hid hmem
            replace hp := Lib.hid hp
            replace hbadw := Lib.hid hbadw
            replace hcb := Lib.hid hcb
            clear hA hstop kB0 kB1 kB2 kr0 kr1 kr2 fr0 fr1 fr2
            go_wp2_with fail
            refine hnx.out.mono ?_
            rintro e w3 ⟨rfl, rfl⟩
            simp only [nextV]
            go_wp2_with fail
            refine hmem.out.mono ?_
            rintro e w5 ⟨a, l2, bad2, rfl, hr2, hl2, g5, hm⟩
            have hc5 := cls_keep hRw hB hc.out g5 hr2
            have hw5 : w1.heap.size < w5.heap.size := lt_of_blk hc5.blk
            have hownk : (Value.slice A its.length c).ownBlock ≠ some w5.heap.size := fun e => by have := (hc5.own.lt _ e).2; omega
            replace hownk := Lib.hid hownk
            have hc6 := cls_gr hRw hB hc5 (gr_alloc w5 (.cells #[.int .i32 a, .int .i32 a] 212) none)
            have hx6 := blk_new w5 (.cells #[.int .i32 a, .int .i32 a] 212)
            obtain ⟨W6, hW6⟩ : ∃ W6, W6 = w5.alloc (.cells #[.int .i32 a, .int .i32 a] 212) := ⟨_, rfl⟩
            rw [← hW6] at hc6 hx6
            have hl2' : l2.length < (x :: t).length := by
              rcases hm with ⟨_, _, h⟩ | ⟨_, _, rfl⟩
              · exact h
              · simp
            go_upto_region 11 with fail
            rw [← hW6]
            by_cases hto : ∃ d t2, l2 = 45 :: d :: t2 ∧ d ≠ 93
            · obtain ⟨d, t2, rfl, hd⟩ := hto
              have hto2 : pTo a (45 :: d :: t2) = pMember (d :: t2) := by simp [pTo, hd]
              have hdF : (d == 93) = false := eqF hd
              have hdT : (d != 93) = true := by simp [bne, hdF]
              obtain ⟨_, _, A6, c6, r1, r2, r3, r4⟩ := hc6.rd
              have k60 : W6.cell? ⟨R, 0, none⟩ = some (.slice A6 (t2.length + 2) c6) := blk_cell r1 (j := 0) rfl
              obtain ⟨B6, o6, rfl, hb6, k61⟩ := r2.2 0 (.int .i32 45) rfl
              obtain ⟨B7, o7, e7, hb7, k62⟩ := r2.2 1 (.int .i32 d) rfl
              have e8 := Option.some.inj e7
              injection e8 with e9 e10
              subst e9 e10
              rw [Nat.add_zero] at k61
              have hn2 : (1 : Int) < (t2.length : Int) + 2 := by omega
              have hn3 : (0 : Int) < (t2.length : Int) + 2 := by omega
              have hany := any_yes H R (d :: t2) bad2 45 W6 hc6.rd
              replace hany := Lib.hid hany
              replace hp := Lib.hid hp
              replace hm := Lib.hid hm
              replace hto2 := Lib.hid hto2
              have hl2s : (45 :: d :: t2).length = t2.length + 2 := rfl
              generalize hq : t2.length = q at k60 hn2 hn3 r1 r2 r3
              replace hq := Lib.hid hq
              replace r1 := Lib.hid r1
              replace r2 := Lib.hid r2
              replace r4 := Lib.hid r4
              clear e7
              replace hc6 := Lib.hid hc6
              replace hx6 := Lib.hid hx6
              replace hc5 := Lib.hid hc5
              replace hcb := Lib.hid hcb
              replace hW6 := Lib.hid hW6
              replace hr2 := Lib.hid hr2
              replace g5 := Lib.hid g5
              replace hl2s := Lib.hid hl2s
              go_wp2_with fail
              refine hany.out.mono ?_
              rintro e w7 ⟨rfl, hr7, g7⟩
              have hc7 := cls_keep hRw hB hc6.out g7 hr7
              have hx7 := gr_blk g7 hx6.out (fun e => by have := Option.some.inj e; omega)
              have hmem2 := member_any H R (d :: t2) bad2 w7 hr7
              replace hmem2 := Lib.hid hmem2
              replace hc7 := Lib.hid hc7
              replace hx7 := Lib.hid hx7
              go_wp2_with fail
              refine hmem2.out.mono ?_
              rintro e w8 ⟨b, l3, bad3, rfl, hr8, hl3, g8, hm2⟩
              have hc8 := cls_keep hRw hB hc7.out g8 hr8
              have hx8 := gr_blk g8 hx7.out (fun e => by have := Option.some.inj e; omega)
              have kx1 : w8.cell? ⟨w5.heap.size, 1, none⟩ = some (.int .i32 a) := blk_cell hx8 rfl
              have fx1 : w8.frozen? ⟨w5.heap.size, 1, none⟩ = false := blk_free hx8 1
              have hc8' := cls_set hRw hB hH hc8 (k := w5.heap.size) (by omega) hx8 1 (.int .i32 b) hownk.out
              have hx8' := blk_set hx8 1 (.int .i32 b)
              obtain ⟨W8, hW8⟩ : ∃ W8, W8 = w8.setCell ⟨w5.heap.size, 1, none⟩ (.int .i32 b) := ⟨_, rfl⟩
              rw [← hW8] at hc8' hx8'
              have hxT : W8.heap[w5.heap.size]? = some (.cells #[.int .i32 a, .int .i32 b] 212 (0, 0)) := hx8'
              have hpT : bad3 = false → pClass n l = if a ≤ b then pItems m neg (its ++ [(a, b)]) l3 else none := fun hb => by
                rcases hm2 with ⟨e1, e2, _⟩ | ⟨e1, _⟩
                · rw [hb] at e1
                  rcases hm.out with ⟨_, f2, _⟩ | ⟨f1, _⟩
                  · rw [hp.out, f2]
                    simp only [hto2.out, e2]
                  · rw [f1] at e1; cases e1
                · rw [e1] at hb; cases hb
              have hqT : bad3 = true → pClass n l = none := fun hb => by
                rcases hm.out with ⟨f1, f2, _⟩ | ⟨_, f2, _⟩
                · rcases hm2 with ⟨e1, _⟩ | ⟨_, e2, _⟩
                  · rw [hb, f1] at e1
                    cases e1
                  · rw [hp.out, f2]
                    simp only [hto2.out, e2]
                · rw [hp.out, f2]
              have hlen3 : l3.length < (x :: t).length := by
                simp only [List.length_cons] at hl3 hl2' ⊢
                omega
              replace hpT := Lib.hid hpT
              replace hqT := Lib.hid hqT
              replace hm2 := Lib.hid hm2
              replace hx8' := Lib.hid hx8'
              replace hx8 := Lib.hid hx8
              replace hc8 := Lib.hid hc8
              replace hr7 := Lib.hid hr7
              replace hr8 := Lib.hid hr8
              replace g7 := Lib.hid g7
              replace g8 := Lib.hid g8
              go_upto_region 14 with fail
              rw [← hW8]
              replace hW8 := Lib.hid hW8
              clear k60 k61 k62 kx1 fx1 hn2 hn3
              have hcT := Lib.hid hc8'
              obtain ⟨kT1, fT1⟩ := rd_c1 hcT.out.rd
              have kx0 : W8.cell? ⟨w5.heap.size, 0, none⟩ = some (.int .i32 a) := blk_cell hxT rfl
              have kx1 : W8.cell? ⟨w5.heap.size, 1, none⟩ = some (.int .i32 b) := blk_cell hxT rfl
              obtain ⟨bad4, hb4⟩ : ∃ bad4, bad4 = (bad3 || decide (b < a)) := ⟨_, rfl⟩
              obtain ⟨hr9, g9⟩ := rd_bad hcT.out.rd bad4
              have hc9 := cls_keep hRw hB hcT.out g9 hr9
              have hx9 := gr_blk g9 hxT (fun e => by have := Option.some.inj e; omega)
              obtain ⟨W9, hW9⟩ : ∃ W9, W9 = W8.setCell ⟨R, 1, none⟩ (.bool bad4) := ⟨_, rfl⟩
              rw [← hW9] at hc9 hx9 g9 hr9
              replace hb4 := Lib.hid hb4
              replace hxT := Lib.hid hxT
              go_upto_region 14 with fail
              go_cut [6] (fun s6 wx => s6 = .pointer (some ⟨w5.heap.size, 0, none⟩) ∧ W9 = wx)
              case first =>
                cases bad3 with
                | true =>
                  obtain rfl : bad4 = true := by rw [hb4.out]; rfl
                  replace hW9 := Lib.hid hW9
                  go_wp2
                  go_meet
                  exact ⟨rfl, hW9.out⟩
                | false =>
                  by_cases hab : b < a
                  · obtain rfl : bad4 = true := by rw [hb4.out]; simp [hab]
                    replace hW9 := Lib.hid hW9
                    go_wp2
                    go_meet
                    exact ⟨rfl, hW9.out⟩
                  · obtain rfl : bad4 = false := by rw [hb4.out]; simp [hab]
                    have habF : (b < a) = False := by simp; omega
                    replace hW9 := Lib.hid hW9
                    go_wp2
                    go_meet
                    exact ⟨rfl, hW9.out⟩
              case rest =>
              obtain ⟨rfl, rfl⟩ := hcut
              replace hW9 := Lib.hid hW9
              clear kx0 kx1 kT1 fT1
              have kx0 : W9.cell? ⟨w5.heap.size, 0, none⟩ = some (.int .i32 a) := blk_cell hx9 rfl
              have kx1 : W9.cell? ⟨w5.heap.size, 1, none⟩ = some (.int .i32 b) := blk_cell hx9 rfl
              have kB2' : W9.cell? ⟨w1.heap.size, 2, none⟩ = some (.slice A its.length c) := blk_cell hc9.blk rfl
              have hs9 : w1.heap.size + 1 ≤ W9.heap.size := lt_of_blk hc9.blk
              have hlit : its.length ≤ 1000 := by omega
              have hown9 := hc9.own.alloc (.cells #[.int .i32 a, .int .i32 b] 212)
              replace hx9 := Lib.hid hx9
              replace hc9 := Lib.hid hc9
              replace hr9 := Lib.hid hr9
              replace g9 := Lib.hid g9
              replace hown9 := Lib.hid hown9
              go_wp2_with (at_builtin; (refine wpList_append_strong (o := ⟨some 92, _, _, _, _, _⟩) _ rfl _ _ 185 rfl (w1.heap.size + 1) 212 ii (.agg #[.int .i32 0, .int .i32 0]) 2 8 Tryz.underlying185 hi hz0 hz1 hz2 rfl (by decide) (.slice A its.length c) its.length _ rfl hown9.out ⟨W9.heap.size, 0, none⟩ 1 1 [.int .i32 a, .int .i32 b] rfl rfl (two_new _ _ _ _) (by simp [Value.oneCell']) (by omega) (its.length + 1) rfl (by unfold maxLen; omega) (by omega) (by simp; omega) ?_; intro g cap W10 hown10 hat10; have hpush := cls_push (a := a) (b := b) hRw hB hH hc9.out hown10 hat10; have kB10 : W10.cell? ⟨w1.heap.size, 2, none⟩ = some (.slice A its.length c) := blk_cell hpush.1 rfl; have fB10 : W10.frozen? ⟨w1.heap.size, 2, none⟩ = false := blk_free hpush.1 2; replace hpush := Lib.hid hpush.2; clear hown10 hat10))
              go_roundw
              case rel => exact ⟨m, its ++ [(a, b)], some ⟨g, 0, none⟩, cap, l3, bad4, hpush, by omega, by simp; omega, by omega, Lib.hid (fun hbf => by
                obtain ⟨hb1, hb2⟩ : bad3 = false ∧ ¬ b < a := by
                  have := hb4.out
                  rw [hbf] at this
                  cases bad3 with
                  | true => simp at this
                  | false => exact ⟨rfl, by simpa using this⟩
                rw [hpT.out hb1, if_pos (by omega)]), Lib.hid (fun hbt => by
                cases bad3 with
                | true => exact hqT.out rfl
                | false =>
                  have hab : b < a := by
                    have := hb4.out
                    rw [hbt] at this
                    simpa using this
                  rw [hpT.out rfl, if_neg (by omega)])⟩
              case measure =>
                have e1 := rd_meas hpush.out.rd
                rw [e1, hrdm.out]
                omega
            · have hto2 : pTo a l2 = some (a, l2) := by
                unfold pTo
                match l2, hto with
                | [], _ => rfl
                | [_], _ => rfl
                | y :: d :: t2, hto =>
                  simp only
                  rw [if_neg]
                  rintro ⟨rfl, hd⟩
                  exact hto ⟨d, t2, rfl, hd⟩
              have hpT : bad2 = false → pClass n l = if a ≤ a then pItems m neg (its ++ [(a, a)]) l2 else none := fun hb => by
                rcases hm with ⟨_, f2, _⟩ | ⟨f1, _⟩
                · rw [hp.out, f2]
                  simp only [hto2]
                · rw [f1] at hb; cases hb
              have hqT : bad2 = true → pClass n l = none := fun hb => by
                rcases hm with ⟨f1, _⟩ | ⟨_, f2, _⟩
                · rw [hb] at f1; cases f1
                · rw [hp.out, f2]
              replace hpT := Lib.hid hpT
              replace hqT := Lib.hid hqT
              replace hm := Lib.hid hm
              replace hto2 := Lib.hid hto2
              replace hc5 := Lib.hid hc5
              replace hcb := Lib.hid hcb
              replace hW6 := Lib.hid hW6
              replace hr2 := Lib.hid hr2
              replace g5 := Lib.hid g5
              have hlen3 : l2.length < (x :: t).length := hl2'
              go_cut [6, 68] (fun s6 s68 wx => s6 = .pointer (some ⟨w5.heap.size, 0, none⟩) ∧ s68 = .bool false ∧ W6 = wx)
              case first =>
                obtain ⟨_, _, A6, c6, r1, r2, r3, r4⟩ := hc6.rd
                replace hc6 := Lib.hid hc6
                replace hx6 := Lib.hid hx6
                match l2, hto, r1, r2 with
                | [], _, r1, r2 =>
                  have k60 : W6.cell? ⟨R, 0, none⟩ = some (.slice A6 0 c6) := blk_cell r1 (j := 0) rfl
                  clear r1 r2
                  go_wp2
                  go_meet
                  exact ⟨rfl, rfl, rfl⟩
                | [_], _, r1, r2 =>
                  have k60 : W6.cell? ⟨R, 0, none⟩ = some (.slice A6 1 c6) := blk_cell r1 (j := 0) rfl
                  clear r1 r2
                  go_wp2
                  go_meet
                  exact ⟨rfl, rfl, rfl⟩
                | y :: d :: t2, hto, r1, r2 =>
                  have k60 : W6.cell? ⟨R, 0, none⟩ = some (.slice A6 (t2.length + 2) c6) := blk_cell r1 (j := 0) rfl
                  obtain ⟨B6, o6, rfl, hb6, k61⟩ := r2.2 0 (.int .i32 y) rfl
                  obtain ⟨B7, o7, e7, hb7, k62⟩ := r2.2 1 (.int .i32 d) rfl
                  have e8 := Option.some.inj e7
                  injection e8 with e9 e10
                  subst e9 e10
                  rw [Nat.add_zero] at k61
                  have hn2 : (1 : Int) < (t2.length : Int) + 2 := by omega
                  have hn3 : (0 : Int) < (t2.length : Int) + 2 := by omega
                  replace r1 := Lib.hid r1
                  replace r2 := Lib.hid r2
                  replace r3 := Lib.hid r3
                  clear e7
                  by_cases hy : y = 45
                  · subst hy
                    obtain rfl : d = 93 := by
                      by_cases hd : d = 93
                      · exact hd
                      · exact absurd ⟨d, t2, rfl, hd⟩ hto
                    clear hto
                    generalize t2.length = q at k60 hn2 hn3
                    go_wp2
                    go_meet
                    exact ⟨rfl, rfl, rfl⟩
                  · have hyF : (y == 45) = false := eqF hy
                    clear hto
                    generalize t2.length = q at k60 hn2 hn3
                    go_wp2
                    go_meet
                    exact ⟨rfl, rfl, rfl⟩
              case rest =>
              obtain ⟨rfl, rfl, rfl⟩ := hcut
              replace hto := Lib.hid hto
              obtain ⟨b, hba⟩ : ∃ b, b = a := ⟨_, rfl⟩
              have hx6' : W6.heap[w5.heap.size]? = some (.cells #[.int .i32 a, .int .i32 b] 212 (0, 0)) := by rw [hba]; exact hx6
              have hpT' : bad2 = false → pClass n l = if a ≤ b then pItems m neg (its ++ [(a, b)]) l2 else none := by rw [hba]; exact hpT.out
              replace hpT' := Lib.hid hpT'
              replace hba := Lib.hid hba
              replace hx6 := Lib.hid hx6
              go_upto_region 14 with fail
              have hcT := Lib.hid hc6
              obtain ⟨kT1, fT1⟩ := rd_c1 hcT.out.rd
              have kx0 : W6.cell? ⟨w5.heap.size, 0, none⟩ = some (.int .i32 a) := blk_cell hx6' rfl
              have kx1 : W6.cell? ⟨w5.heap.size, 1, none⟩ = some (.int .i32 b) := blk_cell hx6' rfl
              obtain ⟨bad4, hb4⟩ : ∃ bad4, bad4 = (bad2 || decide (b < a)) := ⟨_, rfl⟩
              obtain ⟨hr9, g9⟩ := rd_bad hcT.out.rd bad4
              have hc9 := cls_keep hRw hB hcT.out g9 hr9
              have hx9 := gr_blk g9 hx6' (fun e => by have := Option.some.inj e; omega)
              obtain ⟨W9, hW9⟩ : ∃ W9, W9 = W6.setCell ⟨R, 1, none⟩ (.bool bad4) := ⟨_, rfl⟩
              rw [← hW9] at hc9 hx9 g9 hr9
              replace hb4 := Lib.hid hb4
              replace hx6' := Lib.hid hx6'
              go_upto_region 14 with fail
              go_cut [6] (fun s6 wx => s6 = .pointer (some ⟨w5.heap.size, 0, none⟩) ∧ W9 = wx)
              case first =>
                cases bad2 with
                | true =>
                  obtain rfl : bad4 = true := by rw [hb4.out]; rfl
                  replace hW9 := Lib.hid hW9
                  go_wp2
                  go_meet
                  exact ⟨rfl, hW9.out⟩
                | false =>
                  by_cases hab : b < a
                  · obtain rfl : bad4 = true := by rw [hb4.out]; simp [hab]
                    replace hW9 := Lib.hid hW9
                    go_wp2
                    go_meet
                    exact ⟨rfl, hW9.out⟩
                  · obtain rfl : bad4 = false := by rw [hb4.out]; simp [hab]
                    have habF : (b < a) = False := by simp; omega
                    replace hW9 := Lib.hid hW9
                    go_wp2
                    go_meet
                    exact ⟨rfl, hW9.out⟩
              case rest =>
              obtain ⟨rfl, rfl⟩ := hcut
              replace hW9 := Lib.hid hW9
              clear kx0 kx1 kT1 fT1
              have kx0 : W9.cell? ⟨w5.heap.size, 0, none⟩ = some (.int .i32 a) := blk_cell hx9 rfl
              have kx1 : W9.cell? ⟨w5.heap.size, 1, none⟩ = some (.int .i32 b) := blk_cell hx9 rfl
              have kB2' : W9.cell? ⟨w1.heap.size, 2, none⟩ = some (.slice A its.length c) := blk_cell hc9.blk rfl
              have hs9 : w1.heap.size + 1 ≤ W9.heap.size := lt_of_blk hc9.blk
              have hlit : its.length ≤ 1000 := by omega
              have hown9 := hc9.own.alloc (.cells #[.int .i32 a, .int .i32 b] 212)
              replace hx9 := Lib.hid hx9
              replace hc9 := Lib.hid hc9
              replace hr9 := Lib.hid hr9
              replace g9 := Lib.hid g9
              replace hown9 := Lib.hid hown9
              go_wp2_with (at_builtin; (refine wpList_append_strong (o := ⟨some 92, _, _, _, _, _⟩) _ rfl _ _ 185 rfl (w1.heap.size + 1) 212 ii (.agg #[.int .i32 0, .int .i32 0]) 2 8 Tryz.underlying185 hi hz0 hz1 hz2 rfl (by decide) (.slice A its.length c) its.length _ rfl hown9.out ⟨W9.heap.size, 0, none⟩ 1 1 [.int .i32 a, .int .i32 b] rfl rfl (two_new _ _ _ _) (by simp [Value.oneCell']) (by omega) (its.length + 1) rfl (by unfold maxLen; omega) (by omega) (by simp; omega) ?_; intro g cap W10 hown10 hat10; have hpush := cls_push (a := a) (b := b) hRw hB hH hc9.out hown10 hat10; have kB10 : W10.cell? ⟨w1.heap.size, 2, none⟩ = some (.slice A its.length c) := blk_cell hpush.1 rfl; have fB10 : W10.frozen? ⟨w1.heap.size, 2, none⟩ = false := blk_free hpush.1 2; replace hpush := Lib.hid hpush.2; clear hown10 hat10))
              go_roundw
              case rel => exact ⟨m, its ++ [(a, b)], some ⟨g, 0, none⟩, cap, l2, bad4, hpush, by omega, by simp; omega, by omega, Lib.hid (fun hbf => by
                obtain ⟨hb1, hb2⟩ : bad2 = false ∧ ¬ b < a := by
                  have := hb4.out
                  rw [hbf] at this
                  cases bad2 with
                  | true => simp at this
                  | false => exact ⟨rfl, by simpa using this⟩
                rw [hpT'.out hb1, if_pos (by omega)]), Lib.hid (fun hbt => by
                cases bad2 with
                | true => exact hqT.out rfl
                | false =>
                  have hab : b < a := by
                    have := hb4.out
                    rw [hbt] at this
                    simpa using this
                  rw [hpT'.out rfl, if_neg (by omega)])⟩
              case measure =>
                have e1 := rd_meas hpush.out.rd
                rw [e1, hrdm.out]
                omega
end Go.Proofs.YtccmekdmnkmhlaaGreat
