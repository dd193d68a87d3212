/-
  What the reader's parts and alternatives read. No condition but that the reader reads these runes, and that they are few.
-/
import Derived.Test.YtccmekdmnkmhlaaGreatSqPatAtom
namespace Go.Proofs.YtccmekdmnkmhlaaGreat
open Go.RowKit

theorem infoAny : (Tryz.prog.info? 20).map (fun i => (i.zero, i.size, i.bytes)) = some (some .nilIface, 1, 16) := by kernel_rfl
/-- A list of trees that grows, in a block of type ty. -/
structure PrtAt (ty : TypeId) (H R : Nat) (w : World) (K : Nat) (l1 : Rs) (bad1 : Bool) (vs : List Value) (A : Option Addr) (c : Nat) (wr : World) : Prop where
  rd : RdAt H wr R l1 bad1
  blk : wr.heap[K]? = some (.cells #[.slice A vs.length c] ty (0, 0))
  own : wr.ownsRow w.heap.size 20 1 (.slice A vs.length c) vs.length vs
  gr : GrR R w wr
  ifs : ∀ v ∈ vs, IsIf v
def TvAll (lo K : Nat) (A : Option Addr) (c : Nat) (wr : World) (vs : List Value) (xs : List T) : Prop :=
  xs.length = vs.length ∧ ∀ (i : Nat) v x, vs[i]? = some v → xs[i]? = some x → Tv (fun k => lo ≤ k ∧ k ≠ K ∧ k < wr.heap.size ∧ (Value.slice A vs.length c).ownBlock ≠ some k) wr v x
theorem own_not_blk {w : World} {K base size n : Nat} {e' ty : TypeId} {v : Value} {xs : List Value} {cs : Array Value} {fr : Nat × Nat} (h : w.ownsRow base e' size v n xs) (hK : w.heap[K]? = some (.cells cs ty fr)) (he : e' ≠ ty) : v.ownBlock ≠ some K := by
  rcases h.2 with ⟨rfl, _⟩ | ⟨g, cap, cur, rfl, _, hg, _⟩
  · simp [Value.ownBlock]
  · intro e2
    have : g = K := by simpa [Value.ownBlock] using e2
    subst this
    rw [hK] at hg
    injection hg with h1
    injection h1 with _ h2
    exact he h2.symm
theorem prt_push {ty : TypeId} {H R K : Nat} {w : World} {l1 l5 : Rs} {bad1 bad5 : Bool} {vs : List Value} {A : Option Addr} {c g cap : Nat} {wr W5 W7 : World} {v : Value} {o : Obj} (hty : 20 ≠ ty) (hR : R < w.heap.size) (hK : w.heap.size ≤ K) (hH : H ≤ w.heap.size) (h : PrtAt ty H R w K l1 bad1 vs A c wr) (g5 : GrR R wr W5) (h5 : RdAt H W5 R l5 bad5) (hv : IsIf v)
    (hown : W7.ownsRow w.heap.size 20 1 (.slice (some ⟨g, 0, none⟩) (vs.length + 1) cap) (vs.length + 1) (vs ++ [v])) (hat : ((Value.slice A vs.length c).ownBlock = some g ∧ (W5.alloc o).grownBy W7 (some g)) ∨ (g = (W5.alloc o).heap.size ∧ Gr (W5.alloc o) W7)) :
    W7.heap[K]? = some (.cells #[.slice A vs.length c] ty (0, 0)) ∧
    PrtAt ty H R w K l5 bad5 (vs ++ [v]) (some ⟨g, 0, none⟩) cap (W7.setCell ⟨K, 0, none⟩ (.slice (some ⟨g, 0, none⟩) (vs.length + 1) cap)) ∧
    ∀ lo xs x, R < lo → lo ≤ w.heap.size → TvAll lo K A c wr vs xs → Tv (fun k => wr.heap.size ≤ k ∧ k < W5.heap.size) W5 v x → TvAll lo K (some ⟨g, 0, none⟩) cap (W7.setCell ⟨K, 0, none⟩ (.slice (some ⟨g, 0, none⟩) (vs.length + 1) cap)) (vs ++ [v]) (xs ++ [x]) := by
  have hg3 : w.heap.size ≤ g := (hown.lt g rfl).1
  have hg7 : g < W7.heap.size := (hown.lt g rfl).2
  have hKw : K < wr.heap.size := lt_of_blk h.blk
  have g0 := gr_alloc W5 o none
  have hso : (W5.alloc o).heap.size = W5.heap.size + 1 := by simp
  have hall : ∃ r, (W5.alloc o).grownBy W7 r ∧ (∀ k, r = some k → k = g) ∧ ((Value.slice A vs.length c).ownBlock = some g ∨ W5.heap.size < g) := by
    rcases hat with ⟨e, g1⟩ | ⟨e, g1⟩
    · exact ⟨_, g1, fun k hk => (Option.some.inj hk).symm, .inl e⟩
    · exact ⟨_, g1, fun k hk => by (cases hk), .inr (by omega)⟩
  obtain ⟨r, g1, hr, hgo⟩ := hall
  have hgK : g ≠ K := fun e => by
    rcases hgo with h' | h'
    · exact own_not_blk h.own h.blk hty (by rw [h', e])
    · have := g5.size; omega
  have g2 : W7.grownBy (W7.setCell ⟨K, 0, none⟩ (.slice (some ⟨g, 0, none⟩) (vs.length + 1) cap)) (some K) := gr_set W7 ⟨K, 0, none⟩ _
  have hb5 := gr_blk g5 h.blk (fun e => by have := Option.some.inj e; omega)
  have hb7 := gr_blk g1 (gr_blk g0 hb5 (by simp)) (fun e => by have := hr _ e.symm; omega)
  have hrd7 := rd_keep (rd_gr h5 g0) g1 (fun k hk => by have := hr _ hk; omega)
  have hl : (vs ++ [v]).length = vs.length + 1 := by simp
  have hs8 : W7.heap.size ≤ (W7.setCell ⟨K, 0, none⟩ (.slice (some ⟨g, 0, none⟩) (vs.length + 1) cap)).heap.size := g2.size
  refine ⟨hb7, ⟨rd_keep hrd7 g2 (fun k hk => by cases hk; omega), ?_, ?_, ?_, ?_⟩, ?_⟩
  · have hb := blk_set hb7 0 (.slice (some ⟨g, 0, none⟩) (vs.length + 1) cap)
    rw [hl]
    exact hb
  · rw [hl]
    exact hown.kept g2 (.inr fun e => hgK (Option.some.inj e))
  · have q1 : GrR R w W5 := gr_trans h.gr g5
    exact ⟨g2.os.trans (g1.os.trans (g0.os.trans q1.os)), g2.tape.trans (g1.tape.trans (g0.tape.trans q1.tape)), g2.output.trans (g1.output.trans (g0.output.trans q1.output)), Nat.le_trans q1.size (Nat.le_trans g0.size (Nat.le_trans g1.size g2.size)), fun k hk hr2 =>
      (g2.block k (Nat.lt_of_lt_of_le hk (Nat.le_trans q1.size (Nat.le_trans g0.size g1.size))) (fun e => by have := Option.some.inj e; omega)).trans
        ((g1.block k (Nat.lt_of_lt_of_le hk (Nat.le_trans q1.size g0.size)) (fun e => by have := hr _ e.symm; omega)).trans
          ((g0.block k (Nat.lt_of_lt_of_le hk q1.size) (by simp)).trans (q1.block k hk hr2)))⟩
  · intro u hu
    rcases List.mem_append.1 hu with hu | hu
    · exact h.ifs u hu
    · obtain rfl : u = v := by simpa using hu
      exact hv
  · intro lo xs x hRlo hlo ⟨hxl, hx⟩ hvx
    have hRno : ∀ k, lo ≤ k → k ≠ R := fun k hk => by omega
    have hs5 := g5.size
    have hs7 := g1.size
    refine ⟨by simp [hxl], fun i u y hu hy => ?_⟩
    rw [hl]
    rcases Nat.lt_trichotomy i vs.length with hi | hi | hi
    · rw [List.getElem?_append_left hi] at hu
      rw [List.getElem?_append_left (by omega)] at hy
      have t1 := tv_keep g5 (fun k hk e => hRno k hk.1 (Option.some.inj e)) (hx i u y hu hy)
      have t2 := tv_keep g0 (fun k hk e => by cases e) t1
      have t3 := tv_keep g1 (fun k hk e => by
        have := hr k e.symm
        subst this
        rcases hgo with h | h
        · exact hk.2.2.2 h
        · omega) t2
      have t4 := tv_keep g2 (fun k hk e => hk.2.1 (Option.some.inj e)) t3
      refine tv_sub (fun k hk => ⟨hk.1, hk.2.1, by omega, fun e => ?_⟩) t4
      have : g = k := Option.some.inj e
      subst this
      rcases hgo with h | h
      · exact hk.2.2.2 h
      · omega
    · subst hi
      rw [List.getElem?_append_right (Nat.le_refl _), Nat.sub_self] at hu
      rw [List.getElem?_append_right (by omega), hxl, Nat.sub_self] at hy
      obtain rfl : v = u := by simpa using hu
      obtain rfl : x = y := by simpa using hy
      have hno : ∀ k, wr.heap.size ≤ k ∧ k < W5.heap.size → k ≠ g := fun k hk e => by
        subst e
        rcases hgo with h' | h'
        · have := (h.own.lt k h').2; omega
        · omega
      have t2 := tv_keep g0 (fun k hk e => by cases e) hvx
      have t3 := tv_keep g1 (fun k hk e => hno k hk (hr k e.symm)) t2
      have t4 := tv_keep g2 (fun k hk e => by have := Option.some.inj e; omega) t3
      have hwr := h.gr.size
      exact tv_sub (fun k hk => ⟨by omega, by omega, by omega, fun e => hno k hk (Option.some.inj e).symm⟩) t4
    · rw [List.getElem?_eq_none (by simp; omega)] at hu
      cases hu
/-- All of them, handed back. -/
theorem all_row {ty : TypeId} {H R K : Nat} {w : World} {l1 : Rs} {bad1 : Bool} {vs : List Value} {A : Option Addr} {c : Nat} {wr : World} (_hK : w.heap.size ≤ K) (h : PrtAt ty H R w K l1 bad1 vs A c wr) : Row wr A vs.length 1 vs ∧ (∀ B o, A = some ⟨B, o, none⟩ → vs ≠ [] → w.heap.size ≤ B ∧ B < wr.heap.size) ∧ vs.length ≤ c := by
  refine ⟨row_own h.own, fun B o e _ => ?_, ?_⟩
  · have := h.own.lt B (by rw [e]; rfl)
    omega
  · rcases h.own.2 with ⟨hv, hn⟩ | ⟨g, cap, cur, hv, _, _, hn, _⟩
    · injection hv with _ _ h3
      omega
    · injection hv with _ _ h3
      omega
set_option maxHeartbeats 8000000 in
set_option maxRecDepth 100000 in
theorem parts_any (n0 : Nat) (ih : ∀ (m : Nat), m < n0 → ∀ (H R : Nat) (c : Int) (t : Rs) (w : World), 3 * (t.length + 1) + 1 ≤ m → t.length ≤ 999 → H ≤ w.heap.size → RdAt H w R (c :: t) false → Calls Tryz.prog 163 #[.pointer (some ⟨R, 0, none⟩)] w (TreePost H R t.length false (pAtom m (c :: t)) w))
    (H R : Nat) (l : Rs) (bad : Bool) (w : World) (hn : 3 * l.length + 2 ≤ n0) (hl : l.length ≤ 1000) (hH : H ≤ w.heap.size) (h : RdAt H w R l bad) :
    Calls Tryz.prog 146 #[.pointer (some ⟨R, 0, none⟩)] w (TreePost H R l.length bad (pRow n0 .row0 l) w) := by
  obtain ⟨ii, hi, hz0, hz1, hz2⟩ := info_parts infoAny
  have hR := h.lt
  have hRw : R < w.heap.size := by omega
  obtain ⟨o, ho⟩ : ∃ o, o = pRow n0 .row0 l := ⟨_, rfl⟩
  rw [← ho]
  have h0 : PrtAt 206 H R w w.heap.size l bad [] none 0 (w.alloc (.cells #[.slice none 0 0] 206)) :=
    ⟨rd_gr h (gr_alloc _ _ none), blk_new _ _, World.ownsRow_nil _ _ _ _, gr_alloc _ _ _, by simp⟩
  replace ho := Lib.hid ho
  replace h0 := Lib.hid h0
  replace h := Lib.hid h
  replace ih := Lib.hid ih
  go_enter Tryz.func146, Tryz.ntmps146
  go_wp2
  go_loopw [] (fun wr => ∃ (m : Nat) (l1 : Rs) (bad1 : Bool) (vs : List Value) (A : Option Addr) (c : Nat), Hid (PrtAt 206 H R w w.heap.size l1 bad1 vs A c wr) ∧ l1.length ≤ l.length ∧ vs.length + l1.length ≤ l.length ∧ 3 * l1.length + 2 ≤ m ∧ m ≤ n0 ∧ Hid (bad1 = false → bad = false ∧ ∃ xs, TvAll w.heap.size w.heap.size A c wr vs xs ∧ o = pRow m (xs.foldl .rowS .row0) l1) ∧ Hid (bad1 = true → bad = true ∨ o = none)) (fun wr => rdMeas R wr)
  case atStart => exact ⟨n0, l, bad, [], none, 0, h0, Nat.le_refl _, by simp, hn, Nat.le_refl _, Lib.hid (fun e => ⟨e, [], ⟨rfl, fun i v x hv => by simp at hv⟩, ho.out⟩), Lib.hid (fun e => .inl e)⟩
  case round =>
    obtain ⟨m, l1, bad1, vs, A, c, hp, hl1, hvl, hm, hmn, hgood, hbad⟩ := hrel
    obtain ⟨k1, f1⟩ := rd_c1 hp.out.rd
    have kK : wr.cell? ⟨w.heap.size, 0, none⟩ = some (.slice A vs.length c) := blk_cell hp.out.blk rfl
    have hws : w.heap.size < wr.heap.size := lt_of_blk hp.out.blk
    have hend : ∀ W', Gr wr W' → ((∃ xs, TvAll w.heap.size w.heap.size A c wr vs xs ∧ o = some (xs.foldl .rowS .row0, l1) ∧ bad = false ∧ bad1 = false) ∨ (bad1 = true ∧ (bad = true ∨ o = none))) → TreePost H R l.length bad o w (.returned (.iface 206 (.agg #[.slice A vs.length c]))) W' := fun W' gW hor => by
      obtain ⟨a1, a2, a3⟩ := all_row (Nat.le_refl _) hp.out
      refine ⟨_, l1, bad1, rfl, ⟨_, _, rfl⟩, rd_gr hp.out.rd gW, hl1, gr_trans hp.out.gr (gr_more _ gW), ?_⟩
      rcases hor with ⟨xs, hx, h1, h2, h3⟩ | hor
      · refine .inl ⟨h3, h2, _, h1, ?_⟩
        have hsz := gW.size
        refine Tv.row (row_gr a1 gW) (fun B o e ne => by have := a2 B o e ne; omega) hx.1.symm a3 (fun i v x hv hx' => ?_)
        exact tv_sub (fun k hk => ⟨hk.1, by have := hk.2.2.1; omega⟩) (tv_keep gW (fun k _ e => by cases e) (hx.2 i v x hv hx'))
      · exact .inr hor
    replace hend := Lib.hid hend
    cases bad1 with
    | true =>
      have hstop : ∀ W', Gr wr W' → TreePost H R l.length bad o w (.returned (.iface 206 (.agg #[.slice A vs.length c]))) W' := fun W' gW => hend.out W' gW (.inr ⟨rfl, hbad.out rfl⟩)
      replace hstop := Lib.hid hstop
      clear hend
      go_wp2
      go_ret
      exact hstop.out _ (gr_refl _ _)
    | false =>
      obtain ⟨hbf, xs, hxs, hox⟩ := hgood.out rfl
      subst hbf
      obtain ⟨m', rfl⟩ : ∃ m', m = m' + 1 := ⟨m - 1, by omega⟩
      rw [pRow_eq] at hox
      have hnx := next_any H R l1 false wr hp.out.rd
      have hrdm := rd_meas hp.out.rd
      replace hnx := Lib.hid hnx
      replace hrdm := Lib.hid hrdm
      replace hxs := Lib.hid hxs
      clear hgood hbad
      cases l1 with
      | nil =>
        simp only at hox
        have hstop : ∀ W', Gr wr W' → TreePost H R l.length false o w (.returned (.iface 206 (.agg #[.slice A vs.length c]))) W' := fun W' gW => hend.out W' gW (.inl ⟨xs, hxs.out, hox, rfl, rfl⟩)
        replace hstop := Lib.hid hstop
        replace hox := Lib.hid hox
        clear hend
        go_wp2_with fail
        refine hnx.out.mono ?_
        rintro e w3 ⟨rfl, rfl⟩
        simp only [nextV]
        go_wp2
        go_ret
        exact hstop.out _ (gr_refl _ _)
      | cons x t =>
        by_cases hx : x = 124 ∨ x = 41
        · simp only [hx, if_true] at hox
          replace hox := Lib.hid hox
          have hstop : ∀ W', Gr wr W' → TreePost H R l.length false o w (.returned (.iface 206 (.agg #[.slice A vs.length c]))) W' := fun W' gW => hend.out W' gW (.inl ⟨xs, hxs.out, hox.out, rfl, rfl⟩)
          replace hstop := Lib.hid hstop
          by_cases hx1 : x = 124
          · subst hx1
            clear hx
            go_wp2_with fail
            refine hnx.out.mono ?_
            rintro e w3 ⟨rfl, rfl⟩
            simp only [nextV]
            go_wp2
            go_ret
            exact hstop.out _ (gr_refl _ _)
          · obtain rfl : x = 41 := by rcases hx with h | h
                                      · exact absurd h hx1
                                      · exact h
            clear hx hx1
            go_wp2_with fail
            refine hnx.out.mono ?_
            rintro e w3 ⟨rfl, rfl⟩
            simp only [nextV]
            go_wp2
            go_ret
            exact hstop.out _ (gr_refl _ _)
        · simp only [hx, if_false] at hox
          have hx1F : (x == 124) = false := eqF (fun e => hx (.inl e))
          have hx2F : (x == 41) = false := eqF (fun e => hx (.inr e))
          have hlen : (x :: t).length = t.length + 1 := rfl
          have hat := ih.out m' (by omega) H R x t wr.drew (by rw [hlen] at hm; omega) (by rw [hlen] at hl1; omega) (by show H ≤ wr.heap.size; omega) (rd_gr hp.out.rd (gr_drew _ _))
          have kKd : wr.drew.cell? ⟨w.heap.size, 0, none⟩ = some (.slice A vs.length c) := gr_cell (gr_drew _ _) kK
          have hvl2 : vs.length ≤ 1000 := by omega
          replace hat := Lib.hid hat
          replace hox := Lib.hid hox
          replace hlen := Lib.hid hlen
          clear hx hend
          go_wp2_with fail
          refine hnx.out.mono ?_
          rintro e w3 ⟨rfl, rfl⟩
          simp only [nextV]
          go_wp2_with fail
          go_region_law (first
            | (go_simp; go_at_call 163; refine hat.out.mono ?_
               rintro e W5 ⟨v, l2, bad2, rfl, hif, hr5, hl5, g5, hor5⟩
               have k5 : W5.cell? ⟨w.heap.size, 0, none⟩ = some (.slice A vs.length c) := blk_cell (gr_blk g5 (gr_blk (gr_drew _ none) hp.out.blk (by simp)) (fun e => by have := Option.some.inj e; omega)) rfl
               have htm := times_any H R l2 bad2 v hif W5 hr5
               obtain ⟨vt, vu, hv2⟩ := times_one hif l2
               rw [hv2] at htm
               replace hv2 := Lib.hid hv2
               replace htm := Lib.hid htm
               have hyes : bad2 = false → ∃ y, pAtom m' (x :: t) = some (y, l2) ∧ Tv (fun k => wr.heap.size ≤ k ∧ k < W5.heap.size) W5 v y := fun hb => by
                 rcases hor5 with ⟨_, _, y, h1, h2⟩ | ⟨e1, _⟩
                 · exact ⟨y, h1, h2⟩
                 · rw [e1] at hb; cases hb
               have hnone : bad2 = true → pAtom m' (x :: t) = none := fun hb => by
                 rcases hor5 with ⟨e1, _⟩ | ⟨_, h1 | h1⟩
                 · rw [e1] at hb; cases hb
                 · cases h1
                 · exact h1
               replace hyes := Lib.hid hyes
               replace hnone := Lib.hid hnone
               clear hor5
               replace hr5 := Lib.hid hr5
               replace hif := Lib.hid hif
               replace g5 := Lib.hid g5)
            | (go_simp; go_at_call 162; refine htm.out.mono ?_
               rintro e W6 ⟨rfl, hr6, g6⟩
               have g56 : GrR R wr W6 := gr_trans (gr_trans (gr_drew wr _) g5.out) g6
               have k6 : W6.cell? ⟨w.heap.size, 0, none⟩ = some (.slice A vs.length c) := blk_cell (gr_blk g56 hp.out.blk (fun e => by have := Option.some.inj e; omega)) rfl
               have k6a : (W6.alloc (.cells #[.iface vt vu] 20)).cell? ⟨w.heap.size, 0, none⟩ = some (.slice A vs.length c) := gr_cell (gr_alloc _ _ _) k6
               have hown6 := (hp.out.own.kept g56 (by
                 cases hb : (Value.slice A vs.length c).ownBlock with
                 | none => exact .inl rfl
                 | some k => exact .inr fun e => by have := (hp.out.own.lt k hb).1; have := Option.some.inj e; omega)).alloc (.cells #[.iface vt vu] 20)
               have hs6 : w.heap.size < W6.heap.size := Nat.lt_of_lt_of_le hws g56.size
               replace hown6 := Lib.hid hown6
               replace hr6 := Lib.hid hr6
               replace g56 := Lib.hid g56
               replace g6 := Lib.hid g6)
            | (refine step_append_strong (o := ⟨some 33, _, _, _, _, _⟩) (by rfl) _ _ 200 (by rfl) w.heap.size 20 ii .nilIface 1 16 Tryz.underlying200 hi hz0 hz1 hz2 (by decide) (by decide) (.slice A vs.length c) vs.length _ (by rfl) hown6.out ⟨W6.heap.size, 0, none⟩ 1 1 [.iface vt vu] (by rfl) (by rfl) (cell_one_new _ _ _) (by simp [Value.oneCell']) (by omega) (vs.length + 1) (by rfl) (by unfold maxLen; omega) (by omega) (by simp; omega) ?_
               intro g cap W7 hown7 hat7
               have hpush := prt_push (by decide) hRw (Nat.le_refl _) hH hp.out g56.out hr6.out ⟨vt, vu, rfl⟩ hown7 hat7
               have k7 : W7.cell? ⟨w.heap.size, 0, none⟩ = some (.slice A vs.length c) := blk_cell hpush.1 rfl
               have f7 : W7.frozen? ⟨w.heap.size, 0, none⟩ = false := blk_free hpush.1 0
               replace hpush := Lib.hid hpush.2
               replace hown7 := Lib.hid hown7
               replace hat7 := Lib.hid hat7))
          all_goals
            have hyes2 : bad2 = false → false = false ∧ ∃ xs', TvAll w.heap.size w.heap.size (some ⟨g, 0, none⟩) cap (W7.setCell ⟨w.heap.size, 0, none⟩ (.slice (some ⟨g, 0, none⟩) (vs.length + 1) cap)) (vs ++ [.iface vt vu]) xs' ∧ o = pRow m' (xs'.foldl .rowS .row0) (timesL l2) := fun hb => by
              obtain ⟨y, hy1, hy2⟩ := hyes.out hb
              have h3 := times_tv hy2 l2
              rw [hv2.out] at h3
              have h4 := tv_grr h3 g6.out (by omega)
              refine ⟨rfl, xs ++ [(pTimes y l2).1], hpush.out.2 _ xs _ hRw (Nat.le_refl _) hxs.out h4, ?_⟩
              rw [hox.out, hy1, List.foldl_append]
              simp only [List.foldl_cons, List.foldl_nil, timesL_eq]
            have hno2 : bad2 = true → false = true ∨ o = none := fun hb => by
              right
              rw [hox.out, hnone.out hb]
            have hll : (timesL l2).length ≤ l2.length := timesL_len l2
            have hme := rd_meas hpush.out.1.rd
            replace hyes2 := Lib.hid hyes2
            replace hno2 := Lib.hid hno2
            replace hme := Lib.hid hme
            go_wp2
            go_roundw
            case rel => exact ⟨m', timesL l2, bad2, vs ++ [.iface vt vu], some ⟨g, 0, none⟩, cap, Lib.hid hpush.out.1, by simp only [List.length_cons] at hl1; omega, by simp only [List.length_append, List.length_cons, List.length_nil] at hvl ⊢; omega, by simp only [List.length_cons] at hm; omega, by omega, Lib.hid (fun hb => ⟨trivial, (hyes2.out hb).2⟩), Lib.hid (fun hb => by simpa using hno2.out hb)⟩
            case measure => rw [hme.out, hrdm.out]; simp only [List.length_cons]; omega
end Go.Proofs.YtccmekdmnkmhlaaGreat
