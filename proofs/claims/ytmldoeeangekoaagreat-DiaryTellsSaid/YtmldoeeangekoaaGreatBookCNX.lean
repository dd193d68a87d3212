/-
  Several facts, one behind the other; no condition but bounds: Lists of Notes that are lent with a mark behind them, and whether they stay. No condition but bounds. The book's Cursors: one more list is kept, with a copy. No condition but bounds. The book's Notes: one more list is kept, with a copy. No condition but bounds. (*Book).Apart, where lists of Cursors and of Notes are kept: it answers true. No condition but bounds. A book that keeps lists of cursors and of notes. No condition but bounds.
-/
import Derived.Test.YtmldoeeangekoaaGreatBookNotes
import Derived.Test.YtmldoeeangekoaaGreatBookCursors
namespace Go.Proofs.YtmldoeeangekoaaGreat.BkN
open Go.RowKit

def LentNotes (w : World) (A : Option Addr) (n c : Nat) (zs : List Nte) : Prop := LentS bkC 6 (⟨-77, ⟨0, 0, 0, 0, []⟩⟩ : Nte) w A n c zs
theorem lent_rowNotes {w : World} {A : Option Addr} {n c : Nat} {zs : List Nte} (h : LentNotes w A n c zs) : Row w A n 6 (bkR zs) := lentS_row bkC_len h
set_option maxRecDepth 100000 in
theorem staysNotes_any (A B : Option Addr) (n ca cb : Nat) (zs : List Nte) (w : World) (hn : n ≤ 100000) (hx : LentNotes w A n ca zs) (hy : Row w B n 6 (bkR zs)) :
    Calls Tryz.prog 23 #[.slice A n ca, .slice B n cb] w fun e w' => e = .returned (.bool true) ∧ Gr w w' := by
  have hs := fun W (g : Gr w W) => same_yes A B n ca cb zs W (by omega) (row_gr (lent_rowNotes hx) g) (row_gr hy g)
  obtain ⟨Bb, o, rfl, hc⟩ := lentS_mark bkC_len (by decide) hx
  have hc0 := hc 0 (by decide)
  have hcap : n + 1 ≤ ca := hx.1
  have hmx := hx.2.1
  unfold maxLen at hmx
  clear hx hy hc
  replace hs := Lib.hid hs
  go_enter Tryz.func23, Tryz.ntmps23
  go_wp2_with fail
  refine (hs.out _ (gr_refl _ _)).mono ?_
  rintro e w1 ⟨rfl, g1⟩
  have hc1 : w1.cell? ⟨Bb, o + n * 6, none⟩ = some (.int .i64 (-77)) := gr_cell g1 hc0
  clear hc0
  go_wp2
  go_ret
  exact ⟨rfl, g1⟩
set_option maxRecDepth 100000 in
theorem copy0Notes (A : Option Addr) (n c : Nat) (zs : List Nte) (w : World) (hn : n ≤ 100000) (hx : Row w A n 6 (bkR zs)) :
    Calls Tryz.prog 41 #[.slice A n c] w fun e w' => ∃ v, e = .returned v ∧ w'.ownsRow w.heap.size 30 6 v n (bkR zs) ∧ Gr w w' := by
  have hl : zs.length = n := by have := hx.1; rw [bkR_len] at this; omega
  rcases Nat.eq_zero_or_pos n with h0 | h0
  · subst h0
    obtain rfl : zs = [] := List.eq_nil_of_length_eq_zero hl
    clear hx
    go_enter Tryz.func41, Tryz.ntmps41
    cases A with
    | none =>
      go_wp2
      go_ret
      exact ⟨_, rfl, ⟨rfl, .inl ⟨rfl, rfl⟩⟩, gr_refl _ _⟩
    | some ad =>
      go_wp2
      go_ret
      exact ⟨_, rfl, ⟨rfl, .inl ⟨rfl, rfl⟩⟩, gr_refl _ _⟩
  · obtain ⟨_, B, o, _, rfl, _, _⟩ := rowS_elem bkC_len hx (by decide) h0
    exact (copy_any _ n c zs w (by omega) (by simp) hx).mono (by
      rintro e w' ⟨A', c', rfl, ho, g⟩
      exact ⟨_, rfl, ho, g⟩)
set_option maxRecDepth 100000 in
theorem lentNotes_new (A : Option Addr) (n c : Nat) (zs : List Nte) (w : World) (hn : n ≤ 100000) (hx : Row w A n 6 (bkR zs)) :
    Calls Tryz.prog 7 #[.slice A n c] w fun e w' => ∃ g c', e = .returned (.slice (some ⟨g, 0, none⟩) n c') ∧ LentNotes w' (some ⟨g, 0, none⟩) n c' zs ∧ Gr w w' ∧ w.heap.size ≤ g := by
  have hl : zs.length = n := by have := hx.1; rw [bkR_len] at this; omega
  have hcp := copy0Notes A n c zs w hn hx
  obtain ⟨ii, hi, hz0, hz1, hz2⟩ := info_parts infoE
  replace hcp := Lib.hid hcp
  replace hx := Lib.hid hx
  go_enter Tryz.func7, Tryz.ntmps7
  go_wp2_with fail
  refine hcp.out.mono ?_
  rintro e w1 ⟨v, rfl, hown, hg⟩
  have hs := hg.size
  replace hown := Lib.hid hown
  replace hg := Lib.hid hg
  go_wp2_with (at_builtin; refine wpList_append_own _ rfl _ _ 22 rfl w.heap.size 30 ii (.agg #[.int .i64 0, .int .i64 0, .int .i64 0, .int .i64 0, .int .i64 0, .string ⟨#[]⟩]) 6 56 Tryz.underlying22 hi hz0 hz1 hz2 rfl (by decide) v _ _ rfl (hown.out.alloc _) ⟨w1.heap.size, 0, none⟩ 1 1 (bkC (⟨-77, ⟨0, 0, 0, 0, []⟩⟩ : Nte)) rfl rfl ?c1 ?c2 ?c3 ?c4 ?c5 ?_; rotate_right; intro v' W4 hown4 hgrow _nl; clear _nl; have hb4 := Lib.hid (below_append hown.out hgrow hs); clear hgrow; obtain ⟨g, c', hv, hlent⟩ := own_lentS hown4 hl; subst hv; have hgb := (hown4.lt g rfl).1; clear hown4; have hcc : n + 1 ≤ c' := hlent.1; have hmx := hlent.2.1; unfold maxLen at hmx; replace hlent := Lib.hid hlent)
  case c1 =>
    intro j u hj
    have hjl := (List.getElem?_eq_some_iff.1 hj).1
    rw [bkC_len] at hjl
    rw [add_plain, Nat.zero_add, World.cell?_alloc_new]
    exact (show (bkC (⟨-77, ⟨0, 0, 0, 0, []⟩⟩ : Nte)).toArray[j]? = some u by rw [List.getElem?_toArray]; exact hj)
  case c2 => exact bkC_ones _
  case c3 => unfold maxLen; omega
  case c4 => omega
  case c5 => simp; omega
  go_ret
  exact ⟨_, _, rfl, hlent.out, gr_of_below ((gr_below hg.out).trans hb4.out) (Nat.le_refl _), hgb⟩
theorem lentNotes_any (A : Option Addr) (n c : Nat) (zs : List Nte) (w : World) (hn : n ≤ 100000) (hx : Row w A n 6 (bkR zs)) :
    Calls Tryz.prog 7 #[.slice A n c] w fun e w' => ∃ A' c', e = .returned (.slice A' n c') ∧ LentNotes w' A' n c' zs ∧ Gr w w' :=
  (lentNotes_new A n c zs w hn hx).mono fun _ _ ⟨g, c', h1, h2, h3, _⟩ => ⟨some ⟨g, 0, none⟩, c', h1, h2, h3⟩
end Go.Proofs.YtmldoeeangekoaaGreat.BkN
namespace Go.Proofs.YtmldoeeangekoaaGreat.PC
open Go.RowKit

def bkCells (P Q T V : Value) : Array Value := #[.slice none 0 0, .slice none 0 0, .slice none 0 0, .slice none 0 0, .slice none 0 0, .slice none 0 0, .slice none 0 0, .slice none 0 0, .slice none 0 0, .slice none 0 0, .slice none 0 0, .slice none 0 0, T, V, P, Q, .slice none 0 0, .slice none 0 0, .slice none 0 0, .slice none 0 0]
structure Kept (P Q : Value) (w : World) (K : Nat) (T V : Lst) (ls cs : List Lst) : Prop where
  blk : w.heap[K]? = some (.cells (bkCells P Q T.v V.v) 47 (0, 0))
  hT : w.ownsRow (K + 1) 52 1 T.v T.n (ls.map Lst.v)
  hV : w.ownsRow (K + 1) 52 1 V.v V.n (cs.map Lst.v)
  nT : T.n = ls.length
  nV : V.n = cs.length
  ne : ∀ k, T.v.ownBlock = some k → V.v.ownBlock = some k → False

def KeepPost (P Q : Value) (K : Nat) (ls cs : List Lst) (l : Lst) (zs : List Cur) (w : World) (e : Ending) (w' : World) : Prop :=
  e = .returned (.tuple #[]) ∧ ∃ T' V' c : Lst, Kept P Q w' K T' V' (ls ++ [l]) (cs ++ [c]) ∧ c.n = l.n ∧ w'.ownsRow w.heap.size 28 5 c.v c.n (bkR zs) ∧ Below K w w' ∧
    (∀ (base : Nat) (e' : TypeId) (size : Nat) (v : Value) (n : Nat) (xs : List Value), e' ≠ 52 → e' ≠ 47 → w.ownsRow base e' size v n xs → w'.ownsRow base e' size v n xs)
/-- The book's block is of the book's type: nothing else owns it. -/
theorem own_not_bk {w : World} {K base size n : Nat} {e' : TypeId} {v : Value} {xs : List Value} {cs : Array Value} {fr : Nat × Nat} (h : w.ownsRow base e' size v n xs) (hK : w.heap[K]? = some (.cells cs 47 fr)) (he : e' ≠ 47) : v.ownBlock = none ∨ v.ownBlock ≠ some K := by
  rcases h.2 with ⟨rfl, _⟩ | ⟨g, cap, cur, rfl, _, hg, _⟩
  · exact .inl rfl
  · right
    intro e2
    have : g = K := by simpa [Value.ownBlock] using e2
    subst this
    rw [hK] at hg
    injection hg with h1
    injection h1 with _ h2
    exact he h2.symm
theorem kept_hat {w w' : World} {base size n g : Nat} {e' : TypeId} {v u : Value} {xs : List Value} {p : Prop} (h : w.ownsRow base e' size v n xs) (hat : (u.ownBlock = some g ∧ w.grownBy w' (some g)) ∨ (p ∧ Gr w w')) (hne : v.ownBlock = none ∨ v.ownBlock ≠ u.ownBlock) : w'.ownsRow base e' size v n xs := by
  rcases hat with ⟨e, hg⟩ | ⟨_, hg⟩
  · exact h.kept hg (by rw [← e]; exact hne)
  · exact h.kept hg (by cases v.ownBlock <;> simp)
theorem below_hat {w w' : World} {K g : Nat} {u : Value} {p : Prop} (hu : ∀ k, u.ownBlock = some k → K + 1 ≤ k) (hK : K ≤ w.heap.size) (hat : (u.ownBlock = some g ∧ w.grownBy w' (some g)) ∨ (p ∧ Gr w w')) : Below K w w' := by
  rcases hat with ⟨e, hg⟩ | ⟨_, hg⟩
  · exact (Below.refl _ _).grown hg hK (fun k hk => by cases hk; have := hu _ e; omega)
  · exact (Below.refl _ _).grown hg hK (by simp)
theorem ne_none {v : Value} {K : Nat} (h : ∀ k, v.ownBlock = some k → K + 1 ≤ k) : v.ownBlock = none ∨ v.ownBlock ≠ some K := by
  cases hb : v.ownBlock with
  | none => exact .inl rfl
  | some k => exact .inr fun e => by have := h k hb; have := Option.some.inj e; omega
set_option maxHeartbeats 8000000 in
set_option maxRecDepth 100000 in
theorem keep_any (P Q : Value) (K : Nat) (T V : Lst) (ls cs : List Lst) (l : Lst) (zs : List Cur) (w : World) (hk : ls.length < 250) (hcs : cs.length = ls.length) (h : Kept P Q w K T V ls cs) (hln : l.n ≤ 150000) (hr : w.ownsRow 0 28 5 l.v l.n (bkR zs)) :
    Calls Tryz.prog 22 #[.pointer (some ⟨K, 0, none⟩), .slice l.A l.n l.c] w (KeepPost P Q K ls cs l zs w) := by
  obtain ⟨jj, hjj, jz0, jz1, jz2⟩ := info_parts infoL
  obtain ⟨TA, Tn, Tc⟩ := T
  obtain ⟨VA, Vn, Vc⟩ := V
  obtain ⟨lA, ln, lc⟩ := l
  obtain ⟨hblk, hT, hV, nT, nV, hne⟩ := h
  simp only [Lst.v] at hblk hT hV nT nV hne hln hr ⊢
  have hao : lA = none → lc = 0 := by
    rcases hr.2 with ⟨hv, _⟩ | ⟨g, c', cur, hv, _⟩
    · injection hv with _ _ h3; exact fun _ => h3
    · injection hv with h1 _ _; intro h2; rw [h1] at h2; cases h2
  have hKlt : K < w.heap.size := lt_of_blk hblk
  have hTb : ∀ k, (Value.slice TA Tn Tc).ownBlock = some k → K + 1 ≤ k := fun k hk => (hT.lt k hk).1
  have hVb : ∀ k, (Value.slice VA Vn Vc).ownBlock = some k → K + 1 ≤ k := fun k hk => (hV.lt k hk).1
  have c0 : w.cell? ⟨K, 12, none⟩ = some (.slice TA Tn Tc) := bk_cell hblk rfl
  have hTn : (Tn : Int) < 250 := by omega
  have hVn : Vn < 250 := by omega
  have hblk1 := gr_blk (gr_alloc w (.cells #[.slice lA ln lc] 52) none) hblk (by simp)
  have hT1 := hT.alloc (.cells #[.slice lA ln lc] 52)
  have hV1 := hV.alloc (.cells #[.slice lA ln lc] 52)
  replace hblk := Lib.hid hblk
  replace hblk1 := Lib.hid hblk1
  replace hT := Lib.hid hT
  replace hT1 := Lib.hid hT1
  replace hV := Lib.hid hV
  replace hV1 := Lib.hid hV1
  replace hne := Lib.hid hne
  replace hTb := Lib.hid hTb
  replace hVb := Lib.hid hVb
  replace hr := Lib.hid hr
  replace hao := Lib.hid hao
  replace nT := Lib.hid nT
  replace nV := Lib.hid nV
  go_enter Tryz.func22, Tryz.ntmps22
  go_wp2_with (at_builtin; first
    | (refine wpList_append_strong (o := ⟨some 17, _, _, _, _, _⟩) _ rfl _ _ 42 rfl (K + 1) 52 jj (.slice none 0 0) 1 24 Tryz.underlying42 hjj jz0 jz1 jz2 rfl (by decide) (.slice TA Tn Tc) Tn _ rfl hT1.out ⟨w.heap.size, 0, none⟩ 1 1 [.slice lA ln lc] rfl rfl (cell_one_new _ _ _) (by simp [Value.oneCell']) (by omega) (Tn + 1) rfl (by unfold maxLen; omega) (by omega) (by simp; omega) ?_
       intro g cap W2 hown2 hat2
       have hblk2 := bk_past hblk1.out hTb.out hat2
       have cF0 : W2.cell? ⟨K, 12, none⟩ = some (.slice TA Tn Tc) := bk_cell hblk2 rfl
       have fF0 : W2.frozen? ⟨K, 12, none⟩ = false := bk_free hblk2 _
       replace hblk2 := Lib.hid hblk2
       replace hown2 := Lib.hid hown2
       replace hat2 := Lib.hid hat2))
  obtain ⟨W3, hW3⟩ : ∃ W3, W3 = W2.setCell ⟨K, 12, none⟩ (.slice (some ⟨g, 0, none⟩) (Tn + 1) cap) := ⟨_, rfl⟩
  rw [← hW3]
  have hb2 := blk_set hblk2.out 12 (.slice (some ⟨g, 0, none⟩) (Tn + 1) cap)
  rw [← hW3] at hb2
  have hblk3 : W3.heap[K]? = some (.cells (bkCells P Q (.slice (some ⟨g, 0, none⟩) (Tn + 1) cap) (.slice VA Vn Vc)) 47 (0, 0)) := hb2
  have hgb : K + 1 ≤ g := (hown2.out.lt g rfl).1
  have hset : W2.grownBy W3 (some K) := by rw [hW3]; exact gr_set W2 ⟨K, 12, none⟩ _
  have typed3 : ∀ (base : Nat) (e' : TypeId) (size : Nat) (v : Value) (n : Nat) (xs : List Value), e' ≠ 52 → e' ≠ 47 → w.ownsRow base e' size v n xs → W3.ownsRow base e' size v n xs := fun base e' size v n xs h1 h2 ho =>
    (kept_hat (ho.alloc (.cells #[.slice lA ln lc] 52)) hat2.out (own_types (ho.alloc _) hT1.out h1)).kept hset (own_not_bk ho hblk.out h2)
  have hT3 : W3.ownsRow (K + 1) 52 1 (.slice (some ⟨g, 0, none⟩) (Tn + 1) cap) (Tn + 1) (ls.map Lst.v ++ [.slice lA ln lc]) := hown2.out.kept hset (ne_none fun k hk => (hown2.out.lt k hk).1)
  have hV3 : W3.ownsRow (K + 1) 52 1 (.slice VA Vn Vc) Vn (cs.map Lst.v) := (kept_hat hV1.out hat2.out (by
    cases hb : (Value.slice VA Vn Vc).ownBlock with
    | none => exact .inl rfl
    | some k => exact .inr fun e => hne.out k e.symm hb)).kept hset (ne_none hVb.out)
  have hneg : ∀ k, (Value.slice VA Vn Vc).ownBlock = some k → k ≠ g := by
    rintro k hk rfl
    rcases hat2.out with ⟨e, _⟩ | ⟨e, _⟩
    · exact hne.out k e hk
    · have := (hV1.out.lt k hk).2
      omega
  have hbel3 : Below K w W3 := ((Below.refl K w).alloc (Nat.le_of_lt hKlt) _).trans ((below_hat hTb.out (by simp; omega) hat2.out).trans ((Below.refl K W2).grown hset (by have := lt_of_blk hblk2.out; omega) (by intro k hk; cases hk; exact Nat.le_refl _)))
  have hlr : Row W3.drew lA ln 5 (bkR zs) := row_gr (row_own (typed3 0 28 5 _ _ _ (by decide) (by decide) hr.out)) (gr_drew _ _)
  have hcp := copy_any lA ln lc zs W3.drew hln hao.out hlr
  have c1 : W3.cell? ⟨K, 13, none⟩ = some (.slice VA Vn Vc) := bk_cell hblk3 rfl
  have hK3 : K + 1 ≤ W3.heap.size := lt_of_blk hblk3
  clear hW3 cF0 fF0 hb2
  replace hblk3 := Lib.hid hblk3
  replace typed3 := Lib.hid typed3
  replace hT3 := Lib.hid hT3
  replace hV3 := Lib.hid hV3
  replace hneg := Lib.hid hneg
  replace hbel3 := Lib.hid hbel3
  replace hcp := Lib.hid hcp
  replace hlr := Lib.hid hlr
  replace hset := Lib.hid hset
  go_region_law (first
    | (go_simp; go_at_call 56; refine hcp.out.mono ?_
       rintro e W5 ⟨cA, cc, rfl, hco, hg5⟩
       have c15 : W5.cell? ⟨K, 13, none⟩ = some (.slice VA Vn Vc) := gr_cell (gr_trans (gr_drew _ _) hg5) c1
       have c15b : (W5.alloc (.cells #[.slice cA ln cc] 52)).cell? ⟨K, 13, none⟩ = some (.slice VA Vn Vc) := gr_cell (gr_alloc _ _ _) c15
       have hV5 := hV3.out.kept (gr_trans (gr_drew W3 none) hg5) (by cases (Value.slice VA Vn Vc).ownBlock <;> simp)
       have hblk5 := gr_blk (gr_trans (gr_drew W3 none) hg5) hblk3.out (by simp)
       have hs5 : W3.heap.size ≤ W5.heap.size := hg5.size
       replace hV5 := Lib.hid hV5
       replace hblk5 := Lib.hid hblk5
       replace hco := Lib.hid hco
       replace hg5 := Lib.hid hg5)
    | (refine step_append_strong (o := ⟨some 28, _, _, _, _, _⟩) (by rfl) _ _ 42 (by rfl) (K + 1) 52 jj (.slice none 0 0) 1 24 Tryz.underlying42 hjj jz0 jz1 jz2 (by decide) (by decide) (.slice VA Vn Vc) Vn _ (by rfl) (hV5.out.alloc _) ⟨W5.heap.size, 0, none⟩ 1 1 [.slice cA ln cc] (by rfl) (by rfl) (cell_one_new _ _ _) (by simp [Value.oneCell']) (by omega) (Vn + 1) (by rfl) (by unfold maxLen; omega) (by omega) (by simp; omega) ?_
       intro g2 cap2 W6 hown6 hat6
       have hblk6 := bk_past (gr_blk (gr_alloc W5 (.cells #[.slice cA ln cc] 52) none) hblk5.out (by simp)) hVb.out hat6
       have cF1 : W6.cell? ⟨K, 13, none⟩ = some (.slice VA Vn Vc) := bk_cell hblk6 rfl
       have fF1 : W6.frozen? ⟨K, 13, none⟩ = false := bk_free hblk6 _
       replace hblk6 := Lib.hid hblk6
       replace hown6 := Lib.hid hown6
       replace hat6 := Lib.hid hat6))
  all_goals
    go_end0
    have hset7 := gr_set W6 ⟨K, 13, none⟩ (.slice (some ⟨g2, 0, none⟩) (Vn + 1) cap2)
    have hb7 := blk_set hblk6.out 13 (.slice (some ⟨g2, 0, none⟩) (Vn + 1) cap2)
    have g35 : Gr W3 W5 := gr_trans (gr_drew W3 none) hg5.out
    have hg2 : g ≠ g2 := by
      rcases hat6.out with ⟨e, _⟩ | ⟨e, _⟩
      · exact fun h => hneg.out g2 e h.symm
      · have h1 := (hT3.out.lt g rfl).2
        have h2 := g35.size
        have h3 : (W5.alloc (.cells #[.slice cA ln cc] 52)).heap.size = W5.heap.size + 1 := by simp
        omega
    have hT7 := ((kept_hat ((hT3.out.kept g35 (.inr (by simp [Value.ownBlock]))).alloc (.cells #[.slice cA ln cc] 52)) hat6.out (by
      right
      intro e
      exact hneg.out g e.symm rfl)).kept hset7 (ne_none fun k hk => (hT3.out.lt k hk).1))
    have hV7 := hown6.out.kept hset7 (ne_none fun k hk => (hown6.out.lt k hk).1)
    have hco5 := own_mono hco.out (show w.heap.size ≤ W3.drew.heap.size from hbel3.out.size)
    have hco7 := (kept_hat (hco5.alloc (.cells #[.slice cA ln cc] 52)) hat6.out (own_types hco5 hV5.out (by decide))).kept hset7 (own_not_bk hco5 hblk5.out (by decide))
    have hbel7 : Below K W3 (W6.setCell ⟨K, 13, none⟩ (.slice (some ⟨g2, 0, none⟩) (Vn + 1) cap2)) := (((Below.refl K W3).grown g35 (by omega) (by simp)).alloc (by have := g35.size; omega) _).trans ((below_hat hVb.out (by simp; have := g35.size; omega) hat6.out).trans ((Below.refl K W6).grown hset7 (by have := lt_of_blk hblk6.out; omega) (by intro k hk; cases hk; exact Nat.le_refl _)))
    refine ⟨rfl, ⟨some ⟨g, 0, none⟩, Tn + 1, cap⟩, ⟨some ⟨g2, 0, none⟩, Vn + 1, cap2⟩, ⟨cA, ln, cc⟩, ⟨hb7, ?_, ?_, ?_, ?_, ?_⟩, rfl, hco7, hbel3.out.trans hbel7, ?_⟩
    · rw [List.map_append]; exact hT7
    · rw [List.map_append]; exact hV7
    · rw [List.length_append, ← nT.out]; rfl
    · rw [List.length_append, ← nV.out]; rfl
    · intro k h1 h2
      have h3 : g = k := by simpa [Value.ownBlock] using h1
      have h4 : g2 = k := by simpa [Value.ownBlock] using h2
      exact hg2 (h3.trans h4.symm)
    · intro base e' size v n xs h1 h2 ho
      have ho5 := (typed3.out base e' size v n xs h1 h2 ho).kept g35 (by cases v.ownBlock <;> simp)
      exact (kept_hat (ho5.alloc (.cells #[.slice cA ln cc] 52)) hat6.out (own_types ho5 hV5.out h1)).kept hset7 (own_not_bk ho5 hblk5.out h2)
end Go.Proofs.YtmldoeeangekoaaGreat.PC
namespace Go.Proofs.YtmldoeeangekoaaGreat.BkN.PN
open Go.RowKit

def bkCells (P Q T V : Value) : Array Value := #[.slice none 0 0, .slice none 0 0, .slice none 0 0, .slice none 0 0, .slice none 0 0, .slice none 0 0, .slice none 0 0, .slice none 0 0, .slice none 0 0, .slice none 0 0, .slice none 0 0, .slice none 0 0, P, Q, T, V, .slice none 0 0, .slice none 0 0, .slice none 0 0, .slice none 0 0]
structure Kept (P Q : Value) (w : World) (K : Nat) (T V : Lst) (ls cs : List Lst) : Prop where
  blk : w.heap[K]? = some (.cells (bkCells P Q T.v V.v) 47 (0, 0))
  hT : w.ownsRow (K + 1) 22 1 T.v T.n (ls.map Lst.v)
  hV : w.ownsRow (K + 1) 22 1 V.v V.n (cs.map Lst.v)
  nT : T.n = ls.length
  nV : V.n = cs.length
  ne : ∀ k, T.v.ownBlock = some k → V.v.ownBlock = some k → False

def KeepPost (P Q : Value) (K : Nat) (ls cs : List Lst) (l : Lst) (zs : List Nte) (w : World) (e : Ending) (w' : World) : Prop :=
  e = .returned (.tuple #[]) ∧ ∃ T' V' c : Lst, Kept P Q w' K T' V' (ls ++ [l]) (cs ++ [c]) ∧ c.n = l.n ∧ w'.ownsRow w.heap.size 30 6 c.v c.n (bkR zs) ∧ Below K w w' ∧
    (∀ (base : Nat) (e' : TypeId) (size : Nat) (v : Value) (n : Nat) (xs : List Value), e' ≠ 22 → e' ≠ 47 → w.ownsRow base e' size v n xs → w'.ownsRow base e' size v n xs)
/-- The book's block is of the book's type: nothing else owns it. -/
theorem own_not_bk {w : World} {K base size n : Nat} {e' : TypeId} {v : Value} {xs : List Value} {cs : Array Value} {fr : Nat × Nat} (h : w.ownsRow base e' size v n xs) (hK : w.heap[K]? = some (.cells cs 47 fr)) (he : e' ≠ 47) : v.ownBlock = none ∨ v.ownBlock ≠ some K := by
  rcases h.2 with ⟨rfl, _⟩ | ⟨g, cap, cur, rfl, _, hg, _⟩
  · exact .inl rfl
  · right
    intro e2
    have : g = K := by simpa [Value.ownBlock] using e2
    subst this
    rw [hK] at hg
    injection hg with h1
    injection h1 with _ h2
    exact he h2.symm
theorem kept_hat {w w' : World} {base size n g : Nat} {e' : TypeId} {v u : Value} {xs : List Value} {p : Prop} (h : w.ownsRow base e' size v n xs) (hat : (u.ownBlock = some g ∧ w.grownBy w' (some g)) ∨ (p ∧ Gr w w')) (hne : v.ownBlock = none ∨ v.ownBlock ≠ u.ownBlock) : w'.ownsRow base e' size v n xs := by
  rcases hat with ⟨e, hg⟩ | ⟨_, hg⟩
  · exact h.kept hg (by rw [← e]; exact hne)
  · exact h.kept hg (by cases v.ownBlock <;> simp)
theorem below_hat {w w' : World} {K g : Nat} {u : Value} {p : Prop} (hu : ∀ k, u.ownBlock = some k → K + 1 ≤ k) (hK : K ≤ w.heap.size) (hat : (u.ownBlock = some g ∧ w.grownBy w' (some g)) ∨ (p ∧ Gr w w')) : Below K w w' := by
  rcases hat with ⟨e, hg⟩ | ⟨_, hg⟩
  · exact (Below.refl _ _).grown hg hK (fun k hk => by cases hk; have := hu _ e; omega)
  · exact (Below.refl _ _).grown hg hK (by simp)
theorem ne_none {v : Value} {K : Nat} (h : ∀ k, v.ownBlock = some k → K + 1 ≤ k) : v.ownBlock = none ∨ v.ownBlock ≠ some K := by
  cases hb : v.ownBlock with
  | none => exact .inl rfl
  | some k => exact .inr fun e => by have := h k hb; have := Option.some.inj e; omega
set_option maxHeartbeats 8000000 in
set_option maxRecDepth 100000 in
theorem keep_any (P Q : Value) (K : Nat) (T V : Lst) (ls cs : List Lst) (l : Lst) (zs : List Nte) (w : World) (hk : ls.length < 250) (hcs : cs.length = ls.length) (h : Kept P Q w K T V ls cs) (hln : l.n ≤ 150000) (hr : w.ownsRow 0 30 6 l.v l.n (bkR zs)) :
    Calls Tryz.prog 14 #[.pointer (some ⟨K, 0, none⟩), .slice l.A l.n l.c] w (KeepPost P Q K ls cs l zs w) := by
  obtain ⟨jj, hjj, jz0, jz1, jz2⟩ := info_parts infoL
  obtain ⟨TA, Tn, Tc⟩ := T
  obtain ⟨VA, Vn, Vc⟩ := V
  obtain ⟨lA, ln, lc⟩ := l
  obtain ⟨hblk, hT, hV, nT, nV, hne⟩ := h
  simp only [Lst.v] at hblk hT hV nT nV hne hln hr ⊢
  have hao : lA = none → lc = 0 := by
    rcases hr.2 with ⟨hv, _⟩ | ⟨g, c', cur, hv, _⟩
    · injection hv with _ _ h3; exact fun _ => h3
    · injection hv with h1 _ _; intro h2; rw [h1] at h2; cases h2
  have hKlt : K < w.heap.size := lt_of_blk hblk
  have hTb : ∀ k, (Value.slice TA Tn Tc).ownBlock = some k → K + 1 ≤ k := fun k hk => (hT.lt k hk).1
  have hVb : ∀ k, (Value.slice VA Vn Vc).ownBlock = some k → K + 1 ≤ k := fun k hk => (hV.lt k hk).1
  have c0 : w.cell? ⟨K, 14, none⟩ = some (.slice TA Tn Tc) := bk_cell hblk rfl
  have hTn : (Tn : Int) < 250 := by omega
  have hVn : Vn < 250 := by omega
  have hblk1 := gr_blk (gr_alloc w (.cells #[.slice lA ln lc] 22) none) hblk (by simp)
  have hT1 := hT.alloc (.cells #[.slice lA ln lc] 22)
  have hV1 := hV.alloc (.cells #[.slice lA ln lc] 22)
  replace hblk := Lib.hid hblk
  replace hblk1 := Lib.hid hblk1
  replace hT := Lib.hid hT
  replace hT1 := Lib.hid hT1
  replace hV := Lib.hid hV
  replace hV1 := Lib.hid hV1
  replace hne := Lib.hid hne
  replace hTb := Lib.hid hTb
  replace hVb := Lib.hid hVb
  replace hr := Lib.hid hr
  replace hao := Lib.hid hao
  replace nT := Lib.hid nT
  replace nV := Lib.hid nV
  go_enter Tryz.func14, Tryz.ntmps14
  go_wp2_with (at_builtin; first
    | (refine wpList_append_strong (o := ⟨some 17, _, _, _, _, _⟩) _ rfl _ _ 43 rfl (K + 1) 22 jj (.slice none 0 0) 1 24 Tryz.underlying43 hjj jz0 jz1 jz2 rfl (by decide) (.slice TA Tn Tc) Tn _ rfl hT1.out ⟨w.heap.size, 0, none⟩ 1 1 [.slice lA ln lc] rfl rfl (cell_one_new _ _ _) (by simp [Value.oneCell']) (by omega) (Tn + 1) rfl (by unfold maxLen; omega) (by omega) (by simp; omega) ?_
       intro g cap W2 hown2 hat2
       have hblk2 := bk_past hblk1.out hTb.out hat2
       have cF0 : W2.cell? ⟨K, 14, none⟩ = some (.slice TA Tn Tc) := bk_cell hblk2 rfl
       have fF0 : W2.frozen? ⟨K, 14, none⟩ = false := bk_free hblk2 _
       replace hblk2 := Lib.hid hblk2
       replace hown2 := Lib.hid hown2
       replace hat2 := Lib.hid hat2))
  obtain ⟨W3, hW3⟩ : ∃ W3, W3 = W2.setCell ⟨K, 14, none⟩ (.slice (some ⟨g, 0, none⟩) (Tn + 1) cap) := ⟨_, rfl⟩
  rw [← hW3]
  have hb2 := blk_set hblk2.out 14 (.slice (some ⟨g, 0, none⟩) (Tn + 1) cap)
  rw [← hW3] at hb2
  have hblk3 : W3.heap[K]? = some (.cells (bkCells P Q (.slice (some ⟨g, 0, none⟩) (Tn + 1) cap) (.slice VA Vn Vc)) 47 (0, 0)) := hb2
  have hgb : K + 1 ≤ g := (hown2.out.lt g rfl).1
  have hset : W2.grownBy W3 (some K) := by rw [hW3]; exact gr_set W2 ⟨K, 14, none⟩ _
  have typed3 : ∀ (base : Nat) (e' : TypeId) (size : Nat) (v : Value) (n : Nat) (xs : List Value), e' ≠ 22 → e' ≠ 47 → w.ownsRow base e' size v n xs → W3.ownsRow base e' size v n xs := fun base e' size v n xs h1 h2 ho =>
    (kept_hat (ho.alloc (.cells #[.slice lA ln lc] 22)) hat2.out (own_types (ho.alloc _) hT1.out h1)).kept hset (own_not_bk ho hblk.out h2)
  have hT3 : W3.ownsRow (K + 1) 22 1 (.slice (some ⟨g, 0, none⟩) (Tn + 1) cap) (Tn + 1) (ls.map Lst.v ++ [.slice lA ln lc]) := hown2.out.kept hset (ne_none fun k hk => (hown2.out.lt k hk).1)
  have hV3 : W3.ownsRow (K + 1) 22 1 (.slice VA Vn Vc) Vn (cs.map Lst.v) := (kept_hat hV1.out hat2.out (by
    cases hb : (Value.slice VA Vn Vc).ownBlock with
    | none => exact .inl rfl
    | some k => exact .inr fun e => hne.out k e.symm hb)).kept hset (ne_none hVb.out)
  have hneg : ∀ k, (Value.slice VA Vn Vc).ownBlock = some k → k ≠ g := by
    rintro k hk rfl
    rcases hat2.out with ⟨e, _⟩ | ⟨e, _⟩
    · exact hne.out k e hk
    · have := (hV1.out.lt k hk).2
      omega
  have hbel3 : Below K w W3 := ((Below.refl K w).alloc (Nat.le_of_lt hKlt) _).trans ((below_hat hTb.out (by simp; omega) hat2.out).trans ((Below.refl K W2).grown hset (by have := lt_of_blk hblk2.out; omega) (by intro k hk; cases hk; exact Nat.le_refl _)))
  have hlr : Row W3.drew lA ln 6 (bkR zs) := row_gr (row_own (typed3 0 30 6 _ _ _ (by decide) (by decide) hr.out)) (gr_drew _ _)
  have hcp := copy_any lA ln lc zs W3.drew hln hao.out hlr
  have c1 : W3.cell? ⟨K, 15, none⟩ = some (.slice VA Vn Vc) := bk_cell hblk3 rfl
  have hK3 : K + 1 ≤ W3.heap.size := lt_of_blk hblk3
  clear hW3 cF0 fF0 hb2
  replace hblk3 := Lib.hid hblk3
  replace typed3 := Lib.hid typed3
  replace hT3 := Lib.hid hT3
  replace hV3 := Lib.hid hV3
  replace hneg := Lib.hid hneg
  replace hbel3 := Lib.hid hbel3
  replace hcp := Lib.hid hcp
  replace hlr := Lib.hid hlr
  replace hset := Lib.hid hset
  go_region_law (first
    | (go_simp; go_at_call 41; refine hcp.out.mono ?_
       rintro e W5 ⟨cA, cc, rfl, hco, hg5⟩
       have c15 : W5.cell? ⟨K, 15, none⟩ = some (.slice VA Vn Vc) := gr_cell (gr_trans (gr_drew _ _) hg5) c1
       have c15b : (W5.alloc (.cells #[.slice cA ln cc] 22)).cell? ⟨K, 15, none⟩ = some (.slice VA Vn Vc) := gr_cell (gr_alloc _ _ _) c15
       have hV5 := hV3.out.kept (gr_trans (gr_drew W3 none) hg5) (by cases (Value.slice VA Vn Vc).ownBlock <;> simp)
       have hblk5 := gr_blk (gr_trans (gr_drew W3 none) hg5) hblk3.out (by simp)
       have hs5 : W3.heap.size ≤ W5.heap.size := hg5.size
       replace hV5 := Lib.hid hV5
       replace hblk5 := Lib.hid hblk5
       replace hco := Lib.hid hco
       replace hg5 := Lib.hid hg5)
    | (refine step_append_strong (o := ⟨some 28, _, _, _, _, _⟩) (by rfl) _ _ 43 (by rfl) (K + 1) 22 jj (.slice none 0 0) 1 24 Tryz.underlying43 hjj jz0 jz1 jz2 (by decide) (by decide) (.slice VA Vn Vc) Vn _ (by rfl) (hV5.out.alloc _) ⟨W5.heap.size, 0, none⟩ 1 1 [.slice cA ln cc] (by rfl) (by rfl) (cell_one_new _ _ _) (by simp [Value.oneCell']) (by omega) (Vn + 1) (by rfl) (by unfold maxLen; omega) (by omega) (by simp; omega) ?_
       intro g2 cap2 W6 hown6 hat6
       have hblk6 := bk_past (gr_blk (gr_alloc W5 (.cells #[.slice cA ln cc] 22) none) hblk5.out (by simp)) hVb.out hat6
       have cF1 : W6.cell? ⟨K, 15, none⟩ = some (.slice VA Vn Vc) := bk_cell hblk6 rfl
       have fF1 : W6.frozen? ⟨K, 15, none⟩ = false := bk_free hblk6 _
       replace hblk6 := Lib.hid hblk6
       replace hown6 := Lib.hid hown6
       replace hat6 := Lib.hid hat6))
  all_goals
    go_end0
    have hset7 := gr_set W6 ⟨K, 15, none⟩ (.slice (some ⟨g2, 0, none⟩) (Vn + 1) cap2)
    have hb7 := blk_set hblk6.out 15 (.slice (some ⟨g2, 0, none⟩) (Vn + 1) cap2)
    have g35 : Gr W3 W5 := gr_trans (gr_drew W3 none) hg5.out
    have hg2 : g ≠ g2 := by
      rcases hat6.out with ⟨e, _⟩ | ⟨e, _⟩
      · exact fun h => hneg.out g2 e h.symm
      · have h1 := (hT3.out.lt g rfl).2
        have h2 := g35.size
        have h3 : (W5.alloc (.cells #[.slice cA ln cc] 22)).heap.size = W5.heap.size + 1 := by simp
        omega
    have hT7 := ((kept_hat ((hT3.out.kept g35 (.inr (by simp [Value.ownBlock]))).alloc (.cells #[.slice cA ln cc] 22)) hat6.out (by
      right
      intro e
      exact hneg.out g e.symm rfl)).kept hset7 (ne_none fun k hk => (hT3.out.lt k hk).1))
    have hV7 := hown6.out.kept hset7 (ne_none fun k hk => (hown6.out.lt k hk).1)
    have hco5 := own_mono hco.out (show w.heap.size ≤ W3.drew.heap.size from hbel3.out.size)
    have hco7 := (kept_hat (hco5.alloc (.cells #[.slice cA ln cc] 22)) hat6.out (own_types hco5 hV5.out (by decide))).kept hset7 (own_not_bk hco5 hblk5.out (by decide))
    have hbel7 : Below K W3 (W6.setCell ⟨K, 15, none⟩ (.slice (some ⟨g2, 0, none⟩) (Vn + 1) cap2)) := (((Below.refl K W3).grown g35 (by omega) (by simp)).alloc (by have := g35.size; omega) _).trans ((below_hat hVb.out (by simp; have := g35.size; omega) hat6.out).trans ((Below.refl K W6).grown hset7 (by have := lt_of_blk hblk6.out; omega) (by intro k hk; cases hk; exact Nat.le_refl _)))
    refine ⟨rfl, ⟨some ⟨g, 0, none⟩, Tn + 1, cap⟩, ⟨some ⟨g2, 0, none⟩, Vn + 1, cap2⟩, ⟨cA, ln, cc⟩, ⟨hb7, ?_, ?_, ?_, ?_, ?_⟩, rfl, hco7, hbel3.out.trans hbel7, ?_⟩
    · rw [List.map_append]; exact hT7
    · rw [List.map_append]; exact hV7
    · rw [List.length_append, ← nT.out]; rfl
    · rw [List.length_append, ← nV.out]; rfl
    · intro k h1 h2
      have h3 : g = k := by simpa [Value.ownBlock] using h1
      have h4 : g2 = k := by simpa [Value.ownBlock] using h2
      exact hg2 (h3.trans h4.symm)
    · intro base e' size v n xs h1 h2 ho
      have ho5 := (typed3.out base e' size v n xs h1 h2 ho).kept g35 (by cases v.ownBlock <;> simp)
      exact (kept_hat (ho5.alloc (.cells #[.slice cA ln cc] 22)) hat6.out (own_types ho5 hV5.out h1)).kept hset7 (own_not_bk ho5 hblk5.out h2)
end Go.Proofs.YtmldoeeangekoaaGreat.BkN.PN
namespace Go.Proofs.YtmldoeeangekoaaGreat.CN
open Go.RowKit

theorem inl_ne {w : World} {ls : List Lst} {e e' : TypeId} {s s' b n : Nat} {v : Value} {xs : List Value} (hown : ∀ l ∈ ls, ∃ (ys : List Value) (m : Nat), w.ownsRow 0 e s l.v m ys) (h : w.ownsRow b e' s' v n xs) (he : e ≠ e') : ∀ k, v.ownBlock = some k → ¬ InL ls k := by
  rintro k hk ⟨l, hm, hb⟩
  obtain ⟨ys, m, ho⟩ := hown l hm
  rcases own_types ho h he with h1 | h1
  · rw [hb] at h1; cases h1
  · exact h1 (hb.trans hk.symm)
theorem inl_bk {w : World} {K s : Nat} {ls : List Lst} {e : TypeId} {cs : Array Value} {fr : Nat × Nat} (hown : ∀ l ∈ ls, ∃ (ys : List Value) (m : Nat), w.ownsRow 0 e s l.v m ys) (hK : w.heap[K]? = some (.cells cs 47 fr)) (he : e ≠ 47) : ¬ InL ls K := by
  rintro ⟨l, hm, hb⟩
  obtain ⟨ys, m, ho⟩ := hown l hm
  rcases PC.own_not_bk ho hK he with h1 | h1
  · rw [hb] at h1; cases h1
  · exact h1 hb
theorem inl_lt {w : World} {s : Nat} {ls : List Lst} {e : TypeId} (hown : ∀ l ∈ ls, ∃ (ys : List Value) (m : Nat), w.ownsRow 0 e s l.v m ys) : ∀ k, InL ls k → k < w.heap.size := by
  rintro k ⟨l, hm, hb⟩
  obtain ⟨ys, m, ho⟩ := hown l hm
  exact (ho.lt k hb).2

theorem stillTexts_no (K : Nat) (w : World) (c : w.cell? ⟨K, 0, none⟩ = some (.slice none 0 0)) : Calls Tryz.prog 57 #[.pointer (some ⟨K, 0, none⟩)] w fun e w' => e = .returned (.bool true) ∧ w = w' := by
  go_enter Tryz.func57, Tryz.ntmps57
  go_wp2
  go_loopw [3] (fun i wr => i = .int .i64 0 ∧ w = wr) (fun _ _ => 0)
  case atStart => exact ⟨rfl, rfl⟩
  case round =>
    obtain ⟨rfl, rfl⟩ := hrel
    go_wp2
    go_ret
    exact ⟨rfl, rfl⟩
theorem putTexts_no (K : Nat) (w : World) (c : w.cell? ⟨K, 0, none⟩ = some (.slice none 0 0)) : Calls Tryz.prog 69 #[.pointer (some ⟨K, 0, none⟩)] w fun e w' => e = .returned (.tuple #[]) ∧ w = w' := by
  go_enter Tryz.func69, Tryz.ntmps69
  go_wp2
  go_loopw [2] (fun i wr => i = .int .i64 0 ∧ w = wr) (fun _ _ => 0)
  case atStart => exact ⟨rfl, rfl⟩
  case round =>
    obtain ⟨rfl, rfl⟩ := hrel
    go_wp2
    go_end0
    exact ⟨rfl, rfl⟩
theorem growTexts_no (K : Nat) (w : World) (c : w.cell? ⟨K, 0, none⟩ = some (.slice none 0 0)) : Calls Tryz.prog 77 #[.pointer (some ⟨K, 0, none⟩)] w fun e w' => e = .returned (.slice none 0 0) ∧ w = w' := by
  go_enter Tryz.func77, Tryz.ntmps77
  go_wp2
  go_loopw [3, 4] (fun o i wr => o = .slice none 0 0 ∧ i = .int .i64 0 ∧ w = wr) (fun _ _ _ => 0)
  case atStart => exact ⟨rfl, rfl, rfl⟩
  case round =>
    obtain ⟨rfl, rfl, rfl⟩ := hrel
    go_wp2
    go_ret
    exact ⟨rfl, rfl⟩
theorem markedTexts_no (w : World) : Calls Tryz.prog 87 #[.slice none 0 0] w fun e w' => e = .returned (.bool true) ∧ w = w' := by
  go_enter Tryz.func87, Tryz.ntmps87
  go_wp2
  go_loopw [3] (fun i wr => i = .int .i64 0 ∧ w = wr) (fun _ _ => 0)
  case atStart => exact ⟨rfl, rfl⟩
  case round =>
    obtain ⟨rfl, rfl⟩ := hrel
    go_wp2
    go_ret
    exact ⟨rfl, rfl⟩

theorem stillInts_no (K : Nat) (w : World) (c : w.cell? ⟨K, 2, none⟩ = some (.slice none 0 0)) : Calls Tryz.prog 58 #[.pointer (some ⟨K, 0, none⟩)] w fun e w' => e = .returned (.bool true) ∧ w = w' := by
  go_enter Tryz.func58, Tryz.ntmps58
  go_wp2
  go_loopw [3] (fun i wr => i = .int .i64 0 ∧ w = wr) (fun _ _ => 0)
  case atStart => exact ⟨rfl, rfl⟩
  case round =>
    obtain ⟨rfl, rfl⟩ := hrel
    go_wp2
    go_ret
    exact ⟨rfl, rfl⟩
theorem putInts_no (K : Nat) (w : World) (c : w.cell? ⟨K, 2, none⟩ = some (.slice none 0 0)) : Calls Tryz.prog 70 #[.pointer (some ⟨K, 0, none⟩)] w fun e w' => e = .returned (.tuple #[]) ∧ w = w' := by
  go_enter Tryz.func70, Tryz.ntmps70
  go_wp2
  go_loopw [2] (fun i wr => i = .int .i64 0 ∧ w = wr) (fun _ _ => 0)
  case atStart => exact ⟨rfl, rfl⟩
  case round =>
    obtain ⟨rfl, rfl⟩ := hrel
    go_wp2
    go_end0
    exact ⟨rfl, rfl⟩
theorem growInts_no (K : Nat) (w : World) (c : w.cell? ⟨K, 2, none⟩ = some (.slice none 0 0)) : Calls Tryz.prog 78 #[.pointer (some ⟨K, 0, none⟩)] w fun e w' => e = .returned (.slice none 0 0) ∧ w = w' := by
  go_enter Tryz.func78, Tryz.ntmps78
  go_wp2
  go_loopw [3, 4] (fun o i wr => o = .slice none 0 0 ∧ i = .int .i64 0 ∧ w = wr) (fun _ _ _ => 0)
  case atStart => exact ⟨rfl, rfl, rfl⟩
  case round =>
    obtain ⟨rfl, rfl, rfl⟩ := hrel
    go_wp2
    go_ret
    exact ⟨rfl, rfl⟩
theorem markedInts_no (w : World) : Calls Tryz.prog 88 #[.slice none 0 0] w fun e w' => e = .returned (.bool true) ∧ w = w' := by
  go_enter Tryz.func88, Tryz.ntmps88
  go_wp2
  go_loopw [3] (fun i wr => i = .int .i64 0 ∧ w = wr) (fun _ _ => 0)
  case atStart => exact ⟨rfl, rfl⟩
  case round =>
    obtain ⟨rfl, rfl⟩ := hrel
    go_wp2
    go_ret
    exact ⟨rfl, rfl⟩

theorem stillRunes_no (K : Nat) (w : World) (c : w.cell? ⟨K, 4, none⟩ = some (.slice none 0 0)) : Calls Tryz.prog 59 #[.pointer (some ⟨K, 0, none⟩)] w fun e w' => e = .returned (.bool true) ∧ w = w' := by
  go_enter Tryz.func59, Tryz.ntmps59
  go_wp2
  go_loopw [3] (fun i wr => i = .int .i64 0 ∧ w = wr) (fun _ _ => 0)
  case atStart => exact ⟨rfl, rfl⟩
  case round =>
    obtain ⟨rfl, rfl⟩ := hrel
    go_wp2
    go_ret
    exact ⟨rfl, rfl⟩
theorem putRunes_no (K : Nat) (w : World) (c : w.cell? ⟨K, 4, none⟩ = some (.slice none 0 0)) : Calls Tryz.prog 71 #[.pointer (some ⟨K, 0, none⟩)] w fun e w' => e = .returned (.tuple #[]) ∧ w = w' := by
  go_enter Tryz.func71, Tryz.ntmps71
  go_wp2
  go_loopw [2] (fun i wr => i = .int .i64 0 ∧ w = wr) (fun _ _ => 0)
  case atStart => exact ⟨rfl, rfl⟩
  case round =>
    obtain ⟨rfl, rfl⟩ := hrel
    go_wp2
    go_end0
    exact ⟨rfl, rfl⟩
theorem growRunes_no (K : Nat) (w : World) (c : w.cell? ⟨K, 4, none⟩ = some (.slice none 0 0)) : Calls Tryz.prog 79 #[.pointer (some ⟨K, 0, none⟩)] w fun e w' => e = .returned (.slice none 0 0) ∧ w = w' := by
  go_enter Tryz.func79, Tryz.ntmps79
  go_wp2
  go_loopw [3, 4] (fun o i wr => o = .slice none 0 0 ∧ i = .int .i64 0 ∧ w = wr) (fun _ _ _ => 0)
  case atStart => exact ⟨rfl, rfl, rfl⟩
  case round =>
    obtain ⟨rfl, rfl, rfl⟩ := hrel
    go_wp2
    go_ret
    exact ⟨rfl, rfl⟩
theorem markedRunes_no (w : World) : Calls Tryz.prog 89 #[.slice none 0 0] w fun e w' => e = .returned (.bool true) ∧ w = w' := by
  go_enter Tryz.func89, Tryz.ntmps89
  go_wp2
  go_loopw [3] (fun i wr => i = .int .i64 0 ∧ w = wr) (fun _ _ => 0)
  case atStart => exact ⟨rfl, rfl⟩
  case round =>
    obtain ⟨rfl, rfl⟩ := hrel
    go_wp2
    go_ret
    exact ⟨rfl, rfl⟩

theorem stillLabels_no (K : Nat) (w : World) (c : w.cell? ⟨K, 6, none⟩ = some (.slice none 0 0)) : Calls Tryz.prog 60 #[.pointer (some ⟨K, 0, none⟩)] w fun e w' => e = .returned (.bool true) ∧ w = w' := by
  go_enter Tryz.func60, Tryz.ntmps60
  go_wp2
  go_loopw [3] (fun i wr => i = .int .i64 0 ∧ w = wr) (fun _ _ => 0)
  case atStart => exact ⟨rfl, rfl⟩
  case round =>
    obtain ⟨rfl, rfl⟩ := hrel
    go_wp2
    go_ret
    exact ⟨rfl, rfl⟩
theorem putLabels_no (K : Nat) (w : World) (c : w.cell? ⟨K, 6, none⟩ = some (.slice none 0 0)) : Calls Tryz.prog 72 #[.pointer (some ⟨K, 0, none⟩)] w fun e w' => e = .returned (.tuple #[]) ∧ w = w' := by
  go_enter Tryz.func72, Tryz.ntmps72
  go_wp2
  go_loopw [2] (fun i wr => i = .int .i64 0 ∧ w = wr) (fun _ _ => 0)
  case atStart => exact ⟨rfl, rfl⟩
  case round =>
    obtain ⟨rfl, rfl⟩ := hrel
    go_wp2
    go_end0
    exact ⟨rfl, rfl⟩
theorem growLabels_no (K : Nat) (w : World) (c : w.cell? ⟨K, 6, none⟩ = some (.slice none 0 0)) : Calls Tryz.prog 80 #[.pointer (some ⟨K, 0, none⟩)] w fun e w' => e = .returned (.slice none 0 0) ∧ w = w' := by
  go_enter Tryz.func80, Tryz.ntmps80
  go_wp2
  go_loopw [3, 4] (fun o i wr => o = .slice none 0 0 ∧ i = .int .i64 0 ∧ w = wr) (fun _ _ _ => 0)
  case atStart => exact ⟨rfl, rfl, rfl⟩
  case round =>
    obtain ⟨rfl, rfl, rfl⟩ := hrel
    go_wp2
    go_ret
    exact ⟨rfl, rfl⟩
theorem markedLabels_no (w : World) : Calls Tryz.prog 90 #[.slice none 0 0] w fun e w' => e = .returned (.bool true) ∧ w = w' := by
  go_enter Tryz.func90, Tryz.ntmps90
  go_wp2
  go_loopw [3] (fun i wr => i = .int .i64 0 ∧ w = wr) (fun _ _ => 0)
  case atStart => exact ⟨rfl, rfl⟩
  case round =>
    obtain ⟨rfl, rfl⟩ := hrel
    go_wp2
    go_ret
    exact ⟨rfl, rfl⟩

theorem stillPoints_no (K : Nat) (w : World) (c : w.cell? ⟨K, 8, none⟩ = some (.slice none 0 0)) : Calls Tryz.prog 61 #[.pointer (some ⟨K, 0, none⟩)] w fun e w' => e = .returned (.bool true) ∧ w = w' := by
  go_enter Tryz.func61, Tryz.ntmps61
  go_wp2
  go_loopw [3] (fun i wr => i = .int .i64 0 ∧ w = wr) (fun _ _ => 0)
  case atStart => exact ⟨rfl, rfl⟩
  case round =>
    obtain ⟨rfl, rfl⟩ := hrel
    go_wp2
    go_ret
    exact ⟨rfl, rfl⟩
theorem putPoints_no (K : Nat) (w : World) (c : w.cell? ⟨K, 8, none⟩ = some (.slice none 0 0)) : Calls Tryz.prog 73 #[.pointer (some ⟨K, 0, none⟩)] w fun e w' => e = .returned (.tuple #[]) ∧ w = w' := by
  go_enter Tryz.func73, Tryz.ntmps73
  go_wp2
  go_loopw [2] (fun i wr => i = .int .i64 0 ∧ w = wr) (fun _ _ => 0)
  case atStart => exact ⟨rfl, rfl⟩
  case round =>
    obtain ⟨rfl, rfl⟩ := hrel
    go_wp2
    go_end0
    exact ⟨rfl, rfl⟩
theorem growPoints_no (K : Nat) (w : World) (c : w.cell? ⟨K, 8, none⟩ = some (.slice none 0 0)) : Calls Tryz.prog 81 #[.pointer (some ⟨K, 0, none⟩)] w fun e w' => e = .returned (.slice none 0 0) ∧ w = w' := by
  go_enter Tryz.func81, Tryz.ntmps81
  go_wp2
  go_loopw [3, 4] (fun o i wr => o = .slice none 0 0 ∧ i = .int .i64 0 ∧ w = wr) (fun _ _ _ => 0)
  case atStart => exact ⟨rfl, rfl, rfl⟩
  case round =>
    obtain ⟨rfl, rfl, rfl⟩ := hrel
    go_wp2
    go_ret
    exact ⟨rfl, rfl⟩
theorem markedPoints_no (w : World) : Calls Tryz.prog 91 #[.slice none 0 0] w fun e w' => e = .returned (.bool true) ∧ w = w' := by
  go_enter Tryz.func91, Tryz.ntmps91
  go_wp2
  go_loopw [3] (fun i wr => i = .int .i64 0 ∧ w = wr) (fun _ _ => 0)
  case atStart => exact ⟨rfl, rfl⟩
  case round =>
    obtain ⟨rfl, rfl⟩ := hrel
    go_wp2
    go_ret
    exact ⟨rfl, rfl⟩

theorem stillTokens_no (K : Nat) (w : World) (c : w.cell? ⟨K, 10, none⟩ = some (.slice none 0 0)) : Calls Tryz.prog 62 #[.pointer (some ⟨K, 0, none⟩)] w fun e w' => e = .returned (.bool true) ∧ w = w' := by
  go_enter Tryz.func62, Tryz.ntmps62
  go_wp2
  go_loopw [3] (fun i wr => i = .int .i64 0 ∧ w = wr) (fun _ _ => 0)
  case atStart => exact ⟨rfl, rfl⟩
  case round =>
    obtain ⟨rfl, rfl⟩ := hrel
    go_wp2
    go_ret
    exact ⟨rfl, rfl⟩
theorem putTokens_no (K : Nat) (w : World) (c : w.cell? ⟨K, 10, none⟩ = some (.slice none 0 0)) : Calls Tryz.prog 74 #[.pointer (some ⟨K, 0, none⟩)] w fun e w' => e = .returned (.tuple #[]) ∧ w = w' := by
  go_enter Tryz.func74, Tryz.ntmps74
  go_wp2
  go_loopw [2] (fun i wr => i = .int .i64 0 ∧ w = wr) (fun _ _ => 0)
  case atStart => exact ⟨rfl, rfl⟩
  case round =>
    obtain ⟨rfl, rfl⟩ := hrel
    go_wp2
    go_end0
    exact ⟨rfl, rfl⟩
theorem growTokens_no (K : Nat) (w : World) (c : w.cell? ⟨K, 10, none⟩ = some (.slice none 0 0)) : Calls Tryz.prog 82 #[.pointer (some ⟨K, 0, none⟩)] w fun e w' => e = .returned (.slice none 0 0) ∧ w = w' := by
  go_enter Tryz.func82, Tryz.ntmps82
  go_wp2
  go_loopw [3, 4] (fun o i wr => o = .slice none 0 0 ∧ i = .int .i64 0 ∧ w = wr) (fun _ _ _ => 0)
  case atStart => exact ⟨rfl, rfl, rfl⟩
  case round =>
    obtain ⟨rfl, rfl, rfl⟩ := hrel
    go_wp2
    go_ret
    exact ⟨rfl, rfl⟩
theorem markedTokens_no (w : World) : Calls Tryz.prog 92 #[.slice none 0 0] w fun e w' => e = .returned (.bool true) ∧ w = w' := by
  go_enter Tryz.func92, Tryz.ntmps92
  go_wp2
  go_loopw [3] (fun i wr => i = .int .i64 0 ∧ w = wr) (fun _ _ => 0)
  case atStart => exact ⟨rfl, rfl⟩
  case round =>
    obtain ⟨rfl, rfl⟩ := hrel
    go_wp2
    go_ret
    exact ⟨rfl, rfl⟩

theorem stillRows_no (K : Nat) (w : World) (c : w.cell? ⟨K, 16, none⟩ = some (.slice none 0 0)) : Calls Tryz.prog 65 #[.pointer (some ⟨K, 0, none⟩)] w fun e w' => e = .returned (.bool true) ∧ w = w' := by
  go_enter Tryz.func65, Tryz.ntmps65
  go_wp2
  go_loopw [3] (fun i wr => i = .int .i64 0 ∧ w = wr) (fun _ _ => 0)
  case atStart => exact ⟨rfl, rfl⟩
  case round =>
    obtain ⟨rfl, rfl⟩ := hrel
    go_wp2
    go_ret
    exact ⟨rfl, rfl⟩
theorem putRows_no (K : Nat) (w : World) (c : w.cell? ⟨K, 16, none⟩ = some (.slice none 0 0)) : Calls Tryz.prog 67 #[.pointer (some ⟨K, 0, none⟩)] w fun e w' => e = .returned (.tuple #[]) ∧ w = w' := by
  go_enter Tryz.func67, Tryz.ntmps67
  go_wp2
  go_loopw [2] (fun i wr => i = .int .i64 0 ∧ w = wr) (fun _ _ => 0)
  case atStart => exact ⟨rfl, rfl⟩
  case round =>
    obtain ⟨rfl, rfl⟩ := hrel
    go_wp2
    go_end0
    exact ⟨rfl, rfl⟩
theorem growRows_no (K : Nat) (w : World) (c : w.cell? ⟨K, 16, none⟩ = some (.slice none 0 0)) : Calls Tryz.prog 85 #[.pointer (some ⟨K, 0, none⟩)] w fun e w' => e = .returned (.slice none 0 0) ∧ w = w' := by
  go_enter Tryz.func85, Tryz.ntmps85
  go_wp2
  go_loopw [3, 4] (fun o i wr => o = .slice none 0 0 ∧ i = .int .i64 0 ∧ w = wr) (fun _ _ _ => 0)
  case atStart => exact ⟨rfl, rfl, rfl⟩
  case round =>
    obtain ⟨rfl, rfl, rfl⟩ := hrel
    go_wp2
    go_ret
    exact ⟨rfl, rfl⟩
theorem markedRows_no (w : World) : Calls Tryz.prog 95 #[.slice none 0 0] w fun e w' => e = .returned (.bool true) ∧ w = w' := by
  go_enter Tryz.func95, Tryz.ntmps95
  go_wp2
  go_loopw [3] (fun i wr => i = .int .i64 0 ∧ w = wr) (fun _ _ => 0)
  case atStart => exact ⟨rfl, rfl⟩
  case round =>
    obtain ⟨rfl, rfl⟩ := hrel
    go_wp2
    go_ret
    exact ⟨rfl, rfl⟩

theorem stillSeries_no (K : Nat) (w : World) (c : w.cell? ⟨K, 18, none⟩ = some (.slice none 0 0)) : Calls Tryz.prog 66 #[.pointer (some ⟨K, 0, none⟩)] w fun e w' => e = .returned (.bool true) ∧ w = w' := by
  go_enter Tryz.func66, Tryz.ntmps66
  go_wp2
  go_loopw [3] (fun i wr => i = .int .i64 0 ∧ w = wr) (fun _ _ => 0)
  case atStart => exact ⟨rfl, rfl⟩
  case round =>
    obtain ⟨rfl, rfl⟩ := hrel
    go_wp2
    go_ret
    exact ⟨rfl, rfl⟩
theorem putSeries_no (K : Nat) (w : World) (c : w.cell? ⟨K, 18, none⟩ = some (.slice none 0 0)) : Calls Tryz.prog 68 #[.pointer (some ⟨K, 0, none⟩)] w fun e w' => e = .returned (.tuple #[]) ∧ w = w' := by
  go_enter Tryz.func68, Tryz.ntmps68
  go_wp2
  go_loopw [2] (fun i wr => i = .int .i64 0 ∧ w = wr) (fun _ _ => 0)
  case atStart => exact ⟨rfl, rfl⟩
  case round =>
    obtain ⟨rfl, rfl⟩ := hrel
    go_wp2
    go_end0
    exact ⟨rfl, rfl⟩
theorem growSeries_no (K : Nat) (w : World) (c : w.cell? ⟨K, 18, none⟩ = some (.slice none 0 0)) : Calls Tryz.prog 86 #[.pointer (some ⟨K, 0, none⟩)] w fun e w' => e = .returned (.slice none 0 0) ∧ w = w' := by
  go_enter Tryz.func86, Tryz.ntmps86
  go_wp2
  go_loopw [3, 4] (fun o i wr => o = .slice none 0 0 ∧ i = .int .i64 0 ∧ w = wr) (fun _ _ _ => 0)
  case atStart => exact ⟨rfl, rfl, rfl⟩
  case round =>
    obtain ⟨rfl, rfl, rfl⟩ := hrel
    go_wp2
    go_ret
    exact ⟨rfl, rfl⟩
theorem markedSeries_no (w : World) : Calls Tryz.prog 96 #[.slice none 0 0] w fun e w' => e = .returned (.bool true) ∧ w = w' := by
  go_enter Tryz.func96, Tryz.ntmps96
  go_wp2
  go_loopw [3] (fun i wr => i = .int .i64 0 ∧ w = wr) (fun _ _ => 0)
  case atStart => exact ⟨rfl, rfl⟩
  case round =>
    obtain ⟨rfl, rfl⟩ := hrel
    go_wp2
    go_ret
    exact ⟨rfl, rfl⟩


set_option maxHeartbeats 16000000 in
set_option maxRecDepth 100000 in
theorem apart_any (K : Nat) (TX VX TY VY : Lst) (lx cx ly cy : List Lst) (w : World) (hkx : lx.length ≤ 250) (hky : ly.length ≤ 250) (hcx : cx.length = lx.length) (hcy : cy.length = ly.length) (hX : PC.Kept TY.v VY.v w K TX VX lx cx) (hY : BkN.PN.Kept TX.v VX.v w K TY VY ly cy) (hpx : Parted lx) (hpy : Parted ly)
    (hownX : ∀ (j : Nat) (l c : Lst), lx[j]? = some l → cx[j]? = some c → l.n ≤ 100000 ∧ c.n = l.n ∧ ∃ zs : List Cur, w.ownsRow 0 28 5 l.v l.n (bkR zs) ∧ w.ownsRow 0 28 5 c.v c.n (bkR zs))
    (hownY : ∀ (j : Nat) (l c : Lst), ly[j]? = some l → cy[j]? = some c → l.n ≤ 100000 ∧ c.n = l.n ∧ ∃ zs : List Nte, w.ownsRow 0 30 6 l.v l.n (BkN.bkR zs) ∧ w.ownsRow 0 30 6 c.v c.n (BkN.bkR zs)) :
    Calls Tryz.prog 24 #[.pointer (some ⟨K, 0, none⟩)] w fun e w' => e = .returned (.bool true) ∧ GrS (fun k => InL lx k ∨ InL ly k) w w' := by
  obtain ⟨hblk, hTX, hVX, nTX, nVX, -⟩ := hX
  obtain ⟨-, hTY, hVY, nTY, nVY, -⟩ := hY
  have asX : ∀ (j : Nat) (l : Lst), lx[j]? = some l → ∃ c, cx[j]? = some c := fun j l hl => by
    have := (List.getElem?_eq_some_iff.1 hl).1
    exact ⟨_, List.getElem?_eq_getElem (by omega)⟩
  have oX : ∀ l ∈ lx, ∃ (ys : List Value) (m : Nat), w.ownsRow 0 28 5 l.v m ys := fun l hm => by
    obtain ⟨j, hj⟩ := List.getElem?_of_mem hm
    obtain ⟨c, hc⟩ := asX j l hj
    obtain ⟨_, _, zs, ho, _⟩ := hownX j l c hj hc
    exact ⟨_, _, ho⟩
  have zX : ∀ (j : Nat) (l : Lst), lx[j]? = some l → l.n ≤ 100000 ∧ ∃ zs : List Cur, w.ownsRow 0 28 5 l.v l.n (bkR zs) := fun j l hl => by
    obtain ⟨c, hc⟩ := asX j l hl
    obtain ⟨h1, _, zs, h3, _⟩ := hownX j l c hl hc
    exact ⟨h1, zs, h3⟩
  have rX : Row w TX.A lx.length 1 (lx.map Lst.v) := by rw [← nTX]; exact row_own hTX
  have rVX : Row w VX.A lx.length 1 (cx.map Lst.v) := by rw [← hcx, ← nVX]; exact row_own hVX
  have sX := fun (W : World) (g : Gr w W) => still_any K TX VX lx cx W hkx nTX (by omega) hcx (gr_cell g (bk_cell hblk (j := 12) rfl)) (gr_cell g (bk_cell hblk (j := 13) rfl)) (row_gr rX g) (row_gr rVX g) (fun i l c hl hc => by
    obtain ⟨h1, h2, zs, h3, h4⟩ := hownX i l c hl hc
    exact ⟨h2, h1, zs, row_gr (own_row h3 rfl) g, by have h5 := own_row h4 rfl; rw [h2] at h5; exact row_gr h5 g⟩)
  have kX : ¬ InL lx K := inl_bk oX hblk (by decide)
  have inX := inl_lt oX
  have asY : ∀ (j : Nat) (l : Lst), ly[j]? = some l → ∃ c, cy[j]? = some c := fun j l hl => by
    have := (List.getElem?_eq_some_iff.1 hl).1
    exact ⟨_, List.getElem?_eq_getElem (by omega)⟩
  have oY : ∀ l ∈ ly, ∃ (ys : List Value) (m : Nat), w.ownsRow 0 30 6 l.v m ys := fun l hm => by
    obtain ⟨j, hj⟩ := List.getElem?_of_mem hm
    obtain ⟨c, hc⟩ := asY j l hj
    obtain ⟨_, _, zs, ho, _⟩ := hownY j l c hj hc
    exact ⟨_, _, ho⟩
  have zY : ∀ (j : Nat) (l : Lst), ly[j]? = some l → l.n ≤ 100000 ∧ ∃ zs : List Nte, w.ownsRow 0 30 6 l.v l.n (BkN.bkR zs) := fun j l hl => by
    obtain ⟨c, hc⟩ := asY j l hl
    obtain ⟨h1, _, zs, h3, _⟩ := hownY j l c hl hc
    exact ⟨h1, zs, h3⟩
  have rY : Row w TY.A ly.length 1 (ly.map Lst.v) := by rw [← nTY]; exact row_own hTY
  have rVY : Row w VY.A ly.length 1 (cy.map Lst.v) := by rw [← hcy, ← nVY]; exact row_own hVY
  have sY := fun (W : World) (g : Gr w W) => BkN.still_any K TY VY ly cy W hky nTY (by omega) hcy (gr_cell g (BkN.bk_cell hblk (j := 14) rfl)) (gr_cell g (BkN.bk_cell hblk (j := 15) rfl)) (row_gr rY g) (row_gr rVY g) (fun i l c hl hc => by
    obtain ⟨h1, h2, zs, h3, h4⟩ := hownY i l c hl hc
    exact ⟨h2, h1, zs, row_gr (own_row h3 rfl) g, by have h5 := own_row h4 rfl; rw [h2] at h5; exact row_gr h5 g⟩)
  have kY : ¬ InL ly K := inl_bk oY hblk (by decide)
  have inY := inl_lt oY
  have tXX : ∀ a, TX.A = some a → ¬ InL lx a.block := fun a ha => inl_ne oX hTX (by decide) _ (own_blk ha)
  have tXY : ∀ a, TX.A = some a → ¬ InL ly a.block := fun a ha => inl_ne oY hTX (by decide) _ (own_blk ha)
  have tYX : ∀ a, TY.A = some a → ¬ InL lx a.block := fun a ha => inl_ne oX hTY (by decide) _ (own_blk ha)
  have tYY : ∀ a, TY.A = some a → ¬ InL ly a.block := fun a ha => inl_ne oY hTY (by decide) _ (own_blk ha)
  have xy : ∀ k, InL lx k → ¬ InL ly k := by
    rintro k ⟨l, hm, hb⟩
    obtain ⟨ys, m, ho⟩ := oX l hm
    exact inl_ne oY ho (by decide) k hb
  have dwTexts : w.cell? ⟨K, 0, none⟩ = some (.slice none 0 0) := bk_cell hblk rfl
  have dwInts : w.cell? ⟨K, 2, none⟩ = some (.slice none 0 0) := bk_cell hblk rfl
  have dwRunes : w.cell? ⟨K, 4, none⟩ = some (.slice none 0 0) := bk_cell hblk rfl
  have dwLabels : w.cell? ⟨K, 6, none⟩ = some (.slice none 0 0) := bk_cell hblk rfl
  have dwPoints : w.cell? ⟨K, 8, none⟩ = some (.slice none 0 0) := bk_cell hblk rfl
  have dwTokens : w.cell? ⟨K, 10, none⟩ = some (.slice none 0 0) := bk_cell hblk rfl
  have dwCursors : w.cell? ⟨K, 12, none⟩ = some (TX.v) := bk_cell hblk rfl
  have dwNotes : w.cell? ⟨K, 14, none⟩ = some (TY.v) := bk_cell hblk rfl
  have dwRows : w.cell? ⟨K, 16, none⟩ = some (.slice none 0 0) := bk_cell hblk rfl
  have dwSeries : w.cell? ⟨K, 18, none⟩ = some (.slice none 0 0) := bk_cell hblk rfl
  clear hownX hownY hVX hVY rVX rVY nVX nVY oX oY hTX hTY asX asY hcx hcy
  replace hblk := Lib.hid hblk
  replace sX := Lib.hid sX
  replace sY := Lib.hid sY
  replace zX := Lib.hid zX
  replace zY := Lib.hid zY
  replace rX := Lib.hid rX
  replace rY := Lib.hid rY
  replace kX := Lib.hid kX
  replace kY := Lib.hid kY
  replace inX := Lib.hid inX
  replace inY := Lib.hid inY
  replace tXX := Lib.hid tXX
  replace tXY := Lib.hid tXY
  replace tYX := Lib.hid tYX
  replace tYY := Lib.hid tYY
  replace xy := Lib.hid xy
  replace nTX := Lib.hid nTX
  replace nTY := Lib.hid nTY
  replace hpx := Lib.hid hpx
  replace hpy := Lib.hid hpy
  go_enter Tryz.func24, Tryz.ntmps24

  go_wp2_with fail
  refine (stillTexts_no K _ dwTexts).mono ?_
  rintro e w9 ⟨rfl, rfl⟩

  go_wp2_with fail
  refine (stillInts_no K _ dwInts).mono ?_
  rintro e w9 ⟨rfl, rfl⟩

  go_wp2_with fail
  refine (stillRunes_no K _ dwRunes).mono ?_
  rintro e w9 ⟨rfl, rfl⟩

  go_wp2_with fail
  refine (stillLabels_no K _ dwLabels).mono ?_
  rintro e w9 ⟨rfl, rfl⟩

  go_wp2_with fail
  refine (stillPoints_no K _ dwPoints).mono ?_
  rintro e w9 ⟨rfl, rfl⟩

  go_wp2_with fail
  refine (stillTokens_no K _ dwTokens).mono ?_
  rintro e w9 ⟨rfl, rfl⟩

  go_wp2_with fail
  refine (sX.out _ (gr_refl _ _)).mono ?_
  rintro e w1 ⟨rfl, g1⟩
  have hblk1 := gr_blk g1 hblk.out (by simp)
  have dw1Texts : w1.cell? ⟨K, 0, none⟩ = some (.slice none 0 0) := bk_cell hblk1 rfl
  have dw1Ints : w1.cell? ⟨K, 2, none⟩ = some (.slice none 0 0) := bk_cell hblk1 rfl
  have dw1Runes : w1.cell? ⟨K, 4, none⟩ = some (.slice none 0 0) := bk_cell hblk1 rfl
  have dw1Labels : w1.cell? ⟨K, 6, none⟩ = some (.slice none 0 0) := bk_cell hblk1 rfl
  have dw1Points : w1.cell? ⟨K, 8, none⟩ = some (.slice none 0 0) := bk_cell hblk1 rfl
  have dw1Tokens : w1.cell? ⟨K, 10, none⟩ = some (.slice none 0 0) := bk_cell hblk1 rfl
  have dw1Cursors : w1.cell? ⟨K, 12, none⟩ = some (TX.v) := bk_cell hblk1 rfl
  have dw1Notes : w1.cell? ⟨K, 14, none⟩ = some (TY.v) := bk_cell hblk1 rfl
  have dw1Rows : w1.cell? ⟨K, 16, none⟩ = some (.slice none 0 0) := bk_cell hblk1 rfl
  have dw1Series : w1.cell? ⟨K, 18, none⟩ = some (.slice none 0 0) := bk_cell hblk1 rfl
  clear dwTexts dwInts dwRunes dwLabels dwPoints dwTokens dwCursors dwNotes dwRows dwSeries
  replace hblk1 := Lib.hid hblk1
  replace g1 := Lib.hid g1

  go_wp2_with fail
  refine (sY.out _ g1.out).mono ?_
  rintro e w2 ⟨rfl, g2⟩
  have hblk2 := gr_blk g2 hblk1.out (by simp)
  have dw2Texts : w2.cell? ⟨K, 0, none⟩ = some (.slice none 0 0) := bk_cell hblk2 rfl
  have dw2Ints : w2.cell? ⟨K, 2, none⟩ = some (.slice none 0 0) := bk_cell hblk2 rfl
  have dw2Runes : w2.cell? ⟨K, 4, none⟩ = some (.slice none 0 0) := bk_cell hblk2 rfl
  have dw2Labels : w2.cell? ⟨K, 6, none⟩ = some (.slice none 0 0) := bk_cell hblk2 rfl
  have dw2Points : w2.cell? ⟨K, 8, none⟩ = some (.slice none 0 0) := bk_cell hblk2 rfl
  have dw2Tokens : w2.cell? ⟨K, 10, none⟩ = some (.slice none 0 0) := bk_cell hblk2 rfl
  have dw2Cursors : w2.cell? ⟨K, 12, none⟩ = some (TX.v) := bk_cell hblk2 rfl
  have dw2Notes : w2.cell? ⟨K, 14, none⟩ = some (TY.v) := bk_cell hblk2 rfl
  have dw2Rows : w2.cell? ⟨K, 16, none⟩ = some (.slice none 0 0) := bk_cell hblk2 rfl
  have dw2Series : w2.cell? ⟨K, 18, none⟩ = some (.slice none 0 0) := bk_cell hblk2 rfl
  have G2 := gr_trans g1.out g2
  have pX := put_any K TX lx w2 hkx nTX.out dw2Cursors (row_gr rX.out G2) kX.out tXX.out hpx.out (fun j l hl => by
    obtain ⟨h1, zs, h3⟩ := zX.out j l hl
    exact ⟨h1, zs, h3.kept G2 (Classical.em _)⟩)
  clear dw1Texts dw1Ints dw1Runes dw1Labels dw1Points dw1Tokens dw1Cursors dw1Notes dw1Rows dw1Series
  replace hblk2 := Lib.hid hblk2
  replace G2 := Lib.hid G2
  replace pX := Lib.hid pX
  clear g1 g2 sX sY hblk1

  go_wp2_with fail
  refine (stillRows_no K _ dw2Rows).mono ?_
  rintro e w9 ⟨rfl, rfl⟩

  go_wp2_with fail
  refine (stillSeries_no K _ dw2Series).mono ?_
  rintro e w9 ⟨rfl, rfl⟩

  go_wp2_with fail
  refine (putRows_no K _ dw2Rows).mono ?_
  rintro e w9 ⟨rfl, rfl⟩

  go_wp2_with fail
  refine (putSeries_no K _ dw2Series).mono ?_
  rintro e w9 ⟨rfl, rfl⟩

  go_wp2_with fail
  refine (putTexts_no K _ dw2Texts).mono ?_
  rintro e w9 ⟨rfl, rfl⟩

  go_wp2_with fail
  refine (putInts_no K _ dw2Ints).mono ?_
  rintro e w9 ⟨rfl, rfl⟩

  go_wp2_with fail
  refine (putRunes_no K _ dw2Runes).mono ?_
  rintro e w9 ⟨rfl, rfl⟩

  go_wp2_with fail
  refine (putLabels_no K _ dw2Labels).mono ?_
  rintro e w9 ⟨rfl, rfl⟩

  go_wp2_with fail
  refine (putPoints_no K _ dw2Points).mono ?_
  rintro e w9 ⟨rfl, rfl⟩

  go_wp2_with fail
  refine (putTokens_no K _ dw2Tokens).mono ?_
  rintro e w9 ⟨rfl, rfl⟩

  go_wp2_with fail
  refine pX.out.mono ?_
  rintro e w3 ⟨rfl, g3, own3⟩
  have hblk3 := grs_blk g3 hblk2.out kX.out
  have dw3Texts : w3.cell? ⟨K, 0, none⟩ = some (.slice none 0 0) := bk_cell hblk3 rfl
  have dw3Ints : w3.cell? ⟨K, 2, none⟩ = some (.slice none 0 0) := bk_cell hblk3 rfl
  have dw3Runes : w3.cell? ⟨K, 4, none⟩ = some (.slice none 0 0) := bk_cell hblk3 rfl
  have dw3Labels : w3.cell? ⟨K, 6, none⟩ = some (.slice none 0 0) := bk_cell hblk3 rfl
  have dw3Points : w3.cell? ⟨K, 8, none⟩ = some (.slice none 0 0) := bk_cell hblk3 rfl
  have dw3Tokens : w3.cell? ⟨K, 10, none⟩ = some (.slice none 0 0) := bk_cell hblk3 rfl
  have dw3Cursors : w3.cell? ⟨K, 12, none⟩ = some (TX.v) := bk_cell hblk3 rfl
  have dw3Notes : w3.cell? ⟨K, 14, none⟩ = some (TY.v) := bk_cell hblk3 rfl
  have dw3Rows : w3.cell? ⟨K, 16, none⟩ = some (.slice none 0 0) := bk_cell hblk3 rfl
  have dw3Series : w3.cell? ⟨K, 18, none⟩ = some (.slice none 0 0) := bk_cell hblk3 rfl
  have pY := BkN.put_any K TY ly w3 hky nTY.out dw3Notes (row_grs (row_gr rY.out G2.out) g3 tYX.out) kY.out tYY.out hpy.out (fun j l hl => by
    obtain ⟨h1, zs, h3⟩ := zY.out j l hl
    exact ⟨h1, zs, grs_own (h3.kept G2.out (Classical.em _)) g3 (fun k hk e => xy.out k hk (in_of hl e))⟩)
  clear dw2Texts dw2Ints dw2Runes dw2Labels dw2Points dw2Tokens dw2Cursors dw2Notes dw2Rows dw2Series
  replace hblk3 := Lib.hid hblk3
  replace g3 := Lib.hid g3
  replace own3 := Lib.hid own3
  replace pY := Lib.hid pY
  clear pX hblk2

  go_wp2_with fail
  refine pY.out.mono ?_
  rintro e w4 ⟨rfl, g4, own4⟩
  have hblk4 := grs_blk g4 hblk3.out kY.out
  have dw4Texts : w4.cell? ⟨K, 0, none⟩ = some (.slice none 0 0) := bk_cell hblk4 rfl
  have dw4Ints : w4.cell? ⟨K, 2, none⟩ = some (.slice none 0 0) := bk_cell hblk4 rfl
  have dw4Runes : w4.cell? ⟨K, 4, none⟩ = some (.slice none 0 0) := bk_cell hblk4 rfl
  have dw4Labels : w4.cell? ⟨K, 6, none⟩ = some (.slice none 0 0) := bk_cell hblk4 rfl
  have dw4Points : w4.cell? ⟨K, 8, none⟩ = some (.slice none 0 0) := bk_cell hblk4 rfl
  have dw4Tokens : w4.cell? ⟨K, 10, none⟩ = some (.slice none 0 0) := bk_cell hblk4 rfl
  have dw4Cursors : w4.cell? ⟨K, 12, none⟩ = some (TX.v) := bk_cell hblk4 rfl
  have dw4Notes : w4.cell? ⟨K, 14, none⟩ = some (TY.v) := bk_cell hblk4 rfl
  have dw4Rows : w4.cell? ⟨K, 16, none⟩ = some (.slice none 0 0) := bk_cell hblk4 rfl
  have dw4Series : w4.cell? ⟨K, 18, none⟩ = some (.slice none 0 0) := bk_cell hblk4 rfl
  have own3' : ∀ (j : Nat) (l : Lst), lx[j]? = some l → l.n ≤ 100000 ∧ w4.ownsRow 0 28 5 l.v l.n (bkR (marks j 0 l.n)) := fun j l hl => ⟨(zX.out j l hl).1, grs_own (own3.out j l hl) g4 (fun k hk e => xy.out k (in_of hl e) hk)⟩
  have rX4 := row_grs (row_grs (row_gr rX.out G2.out) g3.out tXX.out) g4 tXY.out
  have rY4 := row_grs (row_grs (row_gr rY.out G2.out) g3.out tYX.out) g4 tYY.out
  have qX := grow_any K TX lx w4 hkx nTX.out dw4Cursors rX4 kX.out tXX.out hpx.out own3'
  have hs4 : w.heap.size ≤ w4.heap.size := Nat.le_trans G2.out.size (Nat.le_trans g3.out.size g4.size)
  have G4 : GrS (fun k => InL lx k ∨ InL ly k) w w4 := grs_trans (grs_gr _ G2.out) (grs_trans (grs_sub g3.out fun _ _ h => .inl h) (grs_sub g4 fun _ _ h => .inr h))
  clear dw3Texts dw3Ints dw3Runes dw3Labels dw3Points dw3Tokens dw3Cursors dw3Notes dw3Rows dw3Series
  replace hblk4 := Lib.hid hblk4
  replace own4 := Lib.hid own4
  replace rX4 := Lib.hid rX4
  replace rY4 := Lib.hid rY4
  replace qX := Lib.hid qX
  replace hs4 := Lib.hid hs4
  replace G4 := Lib.hid G4
  clear pY hblk3 own3 own3' g3 g4 G2 rX rY

  go_wp2_with fail
  refine (growTexts_no K _ dw4Texts).mono ?_
  rintro e w9 ⟨rfl, rfl⟩

  go_wp2_with fail
  refine (growInts_no K _ dw4Ints).mono ?_
  rintro e w9 ⟨rfl, rfl⟩

  go_wp2_with fail
  refine (growRunes_no K _ dw4Runes).mono ?_
  rintro e w9 ⟨rfl, rfl⟩

  go_wp2_with fail
  refine (growLabels_no K _ dw4Labels).mono ?_
  rintro e w9 ⟨rfl, rfl⟩

  go_wp2_with fail
  refine (growPoints_no K _ dw4Points).mono ?_
  rintro e w9 ⟨rfl, rfl⟩

  go_wp2_with fail
  refine (growTokens_no K _ dw4Tokens).mono ?_
  rintro e w9 ⟨rfl, rfl⟩

  go_wp2_with fail
  refine qX.out.mono ?_
  rintro e w5 ⟨gA, gc, gs, rfl, hgl, hrG, hgg, hll, far, g5⟩
  have hblk5 := grs_blk g5 hblk4.out kX.out
  have dw5Texts : w5.cell? ⟨K, 0, none⟩ = some (.slice none 0 0) := bk_cell hblk5 rfl
  have dw5Ints : w5.cell? ⟨K, 2, none⟩ = some (.slice none 0 0) := bk_cell hblk5 rfl
  have dw5Runes : w5.cell? ⟨K, 4, none⟩ = some (.slice none 0 0) := bk_cell hblk5 rfl
  have dw5Labels : w5.cell? ⟨K, 6, none⟩ = some (.slice none 0 0) := bk_cell hblk5 rfl
  have dw5Points : w5.cell? ⟨K, 8, none⟩ = some (.slice none 0 0) := bk_cell hblk5 rfl
  have dw5Tokens : w5.cell? ⟨K, 10, none⟩ = some (.slice none 0 0) := bk_cell hblk5 rfl
  have dw5Cursors : w5.cell? ⟨K, 12, none⟩ = some (TX.v) := bk_cell hblk5 rfl
  have dw5Notes : w5.cell? ⟨K, 14, none⟩ = some (TY.v) := bk_cell hblk5 rfl
  have dw5Rows : w5.cell? ⟨K, 16, none⟩ = some (.slice none 0 0) := bk_cell hblk5 rfl
  have dw5Series : w5.cell? ⟨K, 18, none⟩ = some (.slice none 0 0) := bk_cell hblk5 rfl
  have own4' : ∀ (j : Nat) (l : Lst), ly[j]? = some l → l.n ≤ 100000 ∧ w5.ownsRow 0 30 6 l.v l.n (BkN.bkR (BkN.marks j 0 l.n)) := fun j l hl => ⟨(zY.out j l hl).1, grs_own (own4.out j l hl) g5 (fun k hk e => xy.out k hk (in_of hl e))⟩
  have rX5 := row_grs rX4.out g5 tXX.out
  have rY5 := row_grs rY4.out g5 tYX.out
  have qY := BkN.grow_any K TY ly w5 hky nTY.out dw5Notes rY5 kY.out tYY.out hpy.out own4'
  clear dw4Texts dw4Ints dw4Runes dw4Labels dw4Points dw4Tokens dw4Cursors dw4Notes dw4Rows dw4Series
  replace hblk5 := Lib.hid hblk5
  replace rX5 := Lib.hid rX5
  replace rY5 := Lib.hid rY5
  replace qY := Lib.hid qY
  replace g5 := Lib.hid g5
  replace far := Lib.hid far
  replace hgg := Lib.hid hgg
  replace hll := Lib.hid hll
  replace hrG := Lib.hid hrG
  replace hgl := Lib.hid hgl
  clear qX hblk4 own4 own4' rX4 rY4

  go_wp2_with fail
  refine qY.out.mono ?_
  rintro e w6 ⟨hA, hc, hs, rfl, hhl, hrH, hhg, hhll, -, g6⟩
  have hblk6 := grs_blk g6 hblk5.out kY.out
  have dw6Texts : w6.cell? ⟨K, 0, none⟩ = some (.slice none 0 0) := bk_cell hblk6 rfl
  have dw6Ints : w6.cell? ⟨K, 2, none⟩ = some (.slice none 0 0) := bk_cell hblk6 rfl
  have dw6Runes : w6.cell? ⟨K, 4, none⟩ = some (.slice none 0 0) := bk_cell hblk6 rfl
  have dw6Labels : w6.cell? ⟨K, 6, none⟩ = some (.slice none 0 0) := bk_cell hblk6 rfl
  have dw6Points : w6.cell? ⟨K, 8, none⟩ = some (.slice none 0 0) := bk_cell hblk6 rfl
  have dw6Tokens : w6.cell? ⟨K, 10, none⟩ = some (.slice none 0 0) := bk_cell hblk6 rfl
  have dw6Cursors : w6.cell? ⟨K, 12, none⟩ = some (TX.v) := bk_cell hblk6 rfl
  have dw6Notes : w6.cell? ⟨K, 14, none⟩ = some (TY.v) := bk_cell hblk6 rfl
  have dw6Rows : w6.cell? ⟨K, 16, none⟩ = some (.slice none 0 0) := bk_cell hblk6 rfl
  have dw6Series : w6.cell? ⟨K, 18, none⟩ = some (.slice none 0 0) := bk_cell hblk6 rfl
  have newY : ∀ a : Addr, w4.heap.size ≤ a.block → ¬ InL ly a.block := fun a ha hi => by
    have := inY.out _ hi
    have := hs4.out
    omega
  have rG6 := row_grs hrG.out g6 (fun a ha => newY a (far.out.1 a ha))
  have gg6 : ∀ (j : Nat) (l g : Lst), lx[j]? = some l → gs[j]? = some g → g.n = l.n + 72 ∧ Row w6 g.A g.n 5 (bkR (marks j 0 g.n)) := fun j l g hl hg => ⟨(hgg.out j l g hl hg).1, row_grs (hgg.out j l g hl hg).2 g6 (fun a ha => by
    rcases far.out.2 j l g hl hg a ha with h | h
    · exact xy.out _ h
    · exact newY a h)⟩
  have ll6 : ∀ (j : Nat) (l : Lst), lx[j]? = some l → Row w6 l.A l.n 5 (bkR (marks j 0 l.n)) := fun j l hl => row_grs (hll.out j l hl) g6 (fun a ha => xy.out _ (in_of hl (own_blk ha)))
  have rX6 := row_grs rX5.out g6 tXY.out
  have rY6 := row_grs rY5.out g6 tYY.out
  have G6 : GrS (fun k => InL lx k ∨ InL ly k) w w6 := grs_trans G4.out (grs_trans (grs_sub g5.out fun _ _ h => .inl h) (grs_sub g6 fun _ _ h => .inr h))
  have mG : ∀ w', Gr w6 w' → Calls Tryz.prog 93 #[.slice gA lx.length gc] w' fun e w'' => e = .returned (.bool true) ∧ Gr w' w'' := fun w' g => marked_any gA lx.length gc gs w' hgl.out hkx (row_gr rG6 g) (fun i m hm => by
    have hi := (List.getElem?_eq_some_iff.1 hm).1
    have hl : lx[i]? = some (lx[i]'(by have := hgl.out; omega)) := List.getElem?_eq_getElem (by have := hgl.out; omega)
    obtain ⟨h1, h2⟩ := gg6 i _ m hl hm
    have := (zX.out i _ hl).1
    exact ⟨by omega, row_gr h2 g⟩)
  have mT : ∀ w', Gr w6 w' → Calls Tryz.prog 93 #[TX.v] w' fun e w'' => e = .returned (.bool true) ∧ Gr w' w'' := fun w' g => by
    obtain ⟨TA, Tn, Tc⟩ := TX
    have hn : Tn = lx.length := nTX.out
    subst hn
    exact marked_any TA lx.length Tc lx w' rfl hkx (row_gr rX6 g) (fun i m hm => ⟨by have := (zX.out i m hm).1; omega, row_gr (ll6 i m hm) g⟩)
  have nG : ∀ w', Gr w6 w' → Calls Tryz.prog 94 #[.slice hA ly.length hc] w' fun e w'' => e = .returned (.bool true) ∧ Gr w' w'' := fun w' g => BkN.marked_any hA ly.length hc hs w' hhl hky (row_gr hrH g) (fun i m hm => by
    have hi := (List.getElem?_eq_some_iff.1 hm).1
    have hl : ly[i]? = some (ly[i]'(by omega)) := List.getElem?_eq_getElem (by omega)
    obtain ⟨h1, h2⟩ := hhg i _ m hl hm
    have := (zY.out i _ hl).1
    exact ⟨by omega, row_gr h2 g⟩)
  have nT : ∀ w', Gr w6 w' → Calls Tryz.prog 94 #[TY.v] w' fun e w'' => e = .returned (.bool true) ∧ Gr w' w'' := fun w' g => by
    obtain ⟨TA, Tn, Tc⟩ := TY
    have hn : Tn = ly.length := nTY.out
    subst hn
    exact BkN.marked_any TA ly.length Tc ly w' rfl hky (row_gr rY6 g) (fun i m hm => ⟨by have := (zY.out i m hm).1; omega, row_gr (hhll i m hm) g⟩)
  clear dw5Texts dw5Ints dw5Runes dw5Labels dw5Points dw5Tokens dw5Cursors dw5Notes dw5Rows dw5Series
  clear rG6 gg6 ll6 rX6 rY6 newY hhl hrH hhg hhll g6 hgg hll hrG hgl far g5 qY rX5 rY5 hblk5 G4
  replace hblk6 := Lib.hid hblk6
  replace G6 := Lib.hid G6
  replace mG := Lib.hid mG
  replace mT := Lib.hid mT
  replace nG := Lib.hid nG
  replace nT := Lib.hid nT
  obtain ⟨TA, Tn, Tc⟩ := TX
  obtain ⟨UA, Un, Uc⟩ := TY
  simp only [Lst.v] at dw6Cursors dw6Notes

  go_wp2_with fail
  refine (growRows_no K _ dw6Rows).mono ?_
  rintro e w9 ⟨rfl, rfl⟩

  go_wp2_with fail
  refine (growSeries_no K _ dw6Series).mono ?_
  rintro e w9 ⟨rfl, rfl⟩

  go_wp2_with fail
  refine (markedTexts_no _).mono ?_
  rintro e w9 ⟨rfl, rfl⟩

  go_wp2_with fail
  refine (markedTexts_no _).mono ?_
  rintro e w9 ⟨rfl, rfl⟩

  go_wp2_with fail
  refine (markedInts_no _).mono ?_
  rintro e w9 ⟨rfl, rfl⟩

  go_wp2_with fail
  refine (markedInts_no _).mono ?_
  rintro e w9 ⟨rfl, rfl⟩

  go_wp2_with fail
  refine (markedRunes_no _).mono ?_
  rintro e w9 ⟨rfl, rfl⟩

  go_wp2_with fail
  refine (markedRunes_no _).mono ?_
  rintro e w9 ⟨rfl, rfl⟩

  go_wp2_with fail
  refine (markedLabels_no _).mono ?_
  rintro e w9 ⟨rfl, rfl⟩

  go_wp2_with fail
  refine (markedLabels_no _).mono ?_
  rintro e w9 ⟨rfl, rfl⟩

  go_wp2_with fail
  refine (markedPoints_no _).mono ?_
  rintro e w9 ⟨rfl, rfl⟩

  go_wp2_with fail
  refine (markedPoints_no _).mono ?_
  rintro e w9 ⟨rfl, rfl⟩

  go_wp2_with fail
  refine (markedTokens_no _).mono ?_
  rintro e w9 ⟨rfl, rfl⟩

  go_wp2_with fail
  refine (markedTokens_no _).mono ?_
  rintro e w9 ⟨rfl, rfl⟩

  go_wp2_with fail
  refine (mG.out _ (gr_refl _ _)).mono ?_
  rintro e w7 ⟨rfl, g7⟩
  have dx := gr_cell g7 dw6Cursors
  go_wp2_with fail
  refine (mT.out _ g7).mono ?_
  rintro e w8 ⟨rfl, g8⟩
  have G8 := gr_trans g7 g8
  have dw8Texts := gr_cell G8 dw6Texts
  have dw8Ints := gr_cell G8 dw6Ints
  have dw8Runes := gr_cell G8 dw6Runes
  have dw8Labels := gr_cell G8 dw6Labels
  have dw8Points := gr_cell G8 dw6Points
  have dw8Tokens := gr_cell G8 dw6Tokens
  have dw8Cursors := gr_cell G8 dw6Cursors
  have dw8Notes := gr_cell G8 dw6Notes
  have dw8Rows := gr_cell G8 dw6Rows
  have dw8Series := gr_cell G8 dw6Series
  clear dw6Texts dw6Ints dw6Runes dw6Labels dw6Points dw6Tokens dw6Cursors dw6Notes dw6Rows dw6Series
  clear dx g7 g8
  replace G8 := Lib.hid G8

  go_wp2_with fail
  refine (nG.out _ G8.out).mono ?_
  rintro e w10 ⟨rfl, g10⟩
  have G10 := gr_trans G8.out g10
  have dy10 := gr_cell g10 dw8Notes
  have g10' := g10
  clear g10
  go_wp2_with fail
  refine (nT.out _ G10).mono ?_
  rintro e w11 ⟨rfl, g11⟩
  have G11 := gr_trans G10 g11
  have GF := grs_trans G6.out (grs_gr _ G11)
  have G811 := gr_trans (gr_trans (show Gr w8 w10 from g10') (gr_refl _ _)) g11
  have dw11Texts := gr_cell G811 dw8Texts
  have dw11Ints := gr_cell G811 dw8Ints
  have dw11Runes := gr_cell G811 dw8Runes
  have dw11Labels := gr_cell G811 dw8Labels
  have dw11Points := gr_cell G811 dw8Points
  have dw11Tokens := gr_cell G811 dw8Tokens
  have dw11Cursors := gr_cell G811 dw8Cursors
  have dw11Notes := gr_cell G811 dw8Notes
  have dw11Rows := gr_cell G811 dw8Rows
  have dw11Series := gr_cell G811 dw8Series
  clear dw8Texts dw8Ints dw8Runes dw8Labels dw8Points dw8Tokens dw8Cursors dw8Notes dw8Rows dw8Series
  clear g11 G10 G11 G8 dy10 G811 g10'
  replace GF := Lib.hid GF

  go_wp2_with fail
  refine (markedRows_no _).mono ?_
  rintro e w9 ⟨rfl, rfl⟩

  go_wp2_with fail
  refine (markedRows_no _).mono ?_
  rintro e w9 ⟨rfl, rfl⟩

  go_wp2_with fail
  refine (markedSeries_no _).mono ?_
  rintro e w9 ⟨rfl, rfl⟩

  go_wp2_with fail
  refine (markedSeries_no _).mono ?_
  rintro e w9 ⟨rfl, rfl⟩

  go_wp2
  go_ret
  exact ⟨rfl, GF.out⟩
end Go.Proofs.YtmldoeeangekoaaGreat.CN
namespace Go.Proofs.YtmldoeeangekoaaGreat.CN
open Go.RowKit

theorem parted_add {ls : List Lst} {x : Lst} (hp : Parted ls) (hx : ∀ k, x.v.ownBlock = some k → ¬ InL ls k) : Parted (ls ++ [x]) := by
  intro i j l m k hi hj hl hm
  have key : ∀ {i : Nat} {l : Lst}, (ls ++ [x])[i]? = some l → (ls[i]? = some l) ∨ (i = ls.length ∧ l = x) := fun {i l} h => by
    by_cases hlt : i < ls.length
    · rw [List.getElem?_append_left hlt] at h; exact .inl h
    · have h2 := (List.getElem?_eq_some_iff.1 h).1
      simp at h2
      have : i = ls.length := by omega
      subst this
      exact .inr ⟨rfl, by simpa using h.symm⟩
  rcases key hi with qi | ⟨rfl, rfl⟩ <;> rcases key hj with qj | ⟨rfl, rfl⟩
  · exact hp i j l m k qi qj hl hm
  · exact absurd (in_of qi hl) (hx k hm)
  · exact absurd (in_of qj hm) (hx k hl)
  · rfl
theorem snoc_at {ls : List Lst} {x l : Lst} {j : Nat} (h : (ls ++ [x])[j]? = some l) : ls[j]? = some l ∨ (j = ls.length ∧ l = x) := by
  by_cases hlt : j < ls.length
  · rw [List.getElem?_append_left hlt] at h; exact .inl h
  · have h2 := (List.getElem?_eq_some_iff.1 h).1
    simp at h2
    have : j = ls.length := by omega
    subst this
    exact .inr ⟨rfl, by simpa using h.symm⟩
/-- The book at K holds these lists of cursors and of notes, each with a copy. -/
def BCN (w : World) (K : Nat) (lx ly : List Lst) : Prop :=
  ∃ (TX VX TY VY : Lst) (cx cy : List Lst), cx.length = lx.length ∧ cy.length = ly.length ∧ PC.Kept TY.v VY.v w K TX VX lx cx ∧ BkN.PN.Kept TX.v VX.v w K TY VY ly cy ∧ Parted lx ∧ Parted ly ∧
    (∀ (j : Nat) (l c : Lst), lx[j]? = some l → cx[j]? = some c → l.n ≤ 100000 ∧ c.n = l.n ∧ ∃ zs : List Cur, w.ownsRow 0 28 5 l.v l.n (bkR zs) ∧ w.ownsRow 0 28 5 c.v c.n (bkR zs)) ∧
    (∀ (j : Nat) (l c : Lst), ly[j]? = some l → cy[j]? = some c → l.n ≤ 100000 ∧ c.n = l.n ∧ ∃ zs : List Nte, w.ownsRow 0 30 6 l.v l.n (BkN.bkR zs) ∧ w.ownsRow 0 30 6 c.v c.n (BkN.bkR zs))
def bk0 : Array Value := #[.slice none 0 0, .slice none 0 0, .slice none 0 0, .slice none 0 0, .slice none 0 0, .slice none 0 0, .slice none 0 0, .slice none 0 0, .slice none 0 0, .slice none 0 0, .slice none 0 0, .slice none 0 0, .slice none 0 0, .slice none 0 0, .slice none 0 0, .slice none 0 0, .slice none 0 0, .slice none 0 0, .slice none 0 0, .slice none 0 0]
theorem bcn_new (w : World) : BCN (w.alloc (.cells bk0 47)) w.heap.size [] [] :=
  ⟨⟨none, 0, 0⟩, ⟨none, 0, 0⟩, ⟨none, 0, 0⟩, ⟨none, 0, 0⟩, [], [], rfl, rfl, ⟨blk_new w _, World.ownsRow_nil _ _ _ _, World.ownsRow_nil _ _ _ _, rfl, rfl, fun k h => by simp [Lst.v, Value.ownBlock] at h⟩, ⟨blk_new w _, World.ownsRow_nil _ _ _ _, World.ownsRow_nil _ _ _ _, rfl, rfl, fun k h => by simp [Lst.v, Value.ownBlock] at h⟩, fun i j l m k hi => by simp at hi, fun i j l m k hi => by simp at hi, fun j l c hl => by simp at hl, fun j l c hl => by simp at hl⟩
theorem bcn_gr {w w' : World} {K : Nat} {lx ly : List Lst} (h : BCN w K lx ly) (g : Gr w w') : BCN w' K lx ly := by
  obtain ⟨TX, VX, TY, VY, cx, cy, hcx, hcy, hX, hY, px, py, oX, oY⟩ := h
  refine ⟨TX, VX, TY, VY, cx, cy, hcx, hcy, ⟨gr_blk g hX.blk (by simp), hX.hT.kept g (Classical.em _), hX.hV.kept g (Classical.em _), hX.nT, hX.nV, hX.ne⟩, ⟨gr_blk g hY.blk (by simp), hY.hT.kept g (Classical.em _), hY.hV.kept g (Classical.em _), hY.nT, hY.nV, hY.ne⟩, px, py, fun j l c hl hc => ?_, fun j l c hl hc => ?_⟩
  · obtain ⟨q1, q2, ys, q3, q4⟩ := oX j l c hl hc
    exact ⟨q1, q2, ys, q3.kept g (Classical.em _), q4.kept g (Classical.em _)⟩
  · obtain ⟨q1, q2, ys, q3, q4⟩ := oY j l c hl hc
    exact ⟨q1, q2, ys, q3.kept g (Classical.em _), q4.kept g (Classical.em _)⟩
theorem bcn_lt {w : World} {K : Nat} {lx ly : List Lst} (h : BCN w K lx ly) : (∀ k, InL lx k → k < w.heap.size) ∧ (∀ k, InL ly k → k < w.heap.size) := by
  obtain ⟨TX, VX, TY, VY, cx, cy, hcx, hcy, hX, hY, px, py, oX, oY⟩ := h
  constructor
  · rintro k ⟨l, hm, hb⟩
    obtain ⟨j, hj⟩ := List.getElem?_of_mem hm
    have hlt := (List.getElem?_eq_some_iff.1 hj).1
    obtain ⟨_, _, ys, q3, _⟩ := oX j l (cx[j]'(by omega)) hj (List.getElem?_eq_getElem (by omega))
    exact (q3.lt k hb).2
  · rintro k ⟨l, hm, hb⟩
    obtain ⟨j, hj⟩ := List.getElem?_of_mem hm
    have hlt := (List.getElem?_eq_some_iff.1 hj).1
    obtain ⟨_, _, ys, q3, _⟩ := oY j l (cy[j]'(by omega)) hj (List.getElem?_eq_getElem (by omega))
    exact (q3.lt k hb).2
theorem bcn_blk {w : World} {K : Nat} {lx ly : List Lst} (h : BCN w K lx ly) : ∃ cs, w.heap[K]? = some (.cells cs 47 (0, 0)) := by
  obtain ⟨TX, VX, TY, VY, cx, cy, hcx, hcy, hX, hY, px, py, oX, oY⟩ := h
  exact ⟨_, hX.blk⟩
theorem bcn_cursors {w : World} {K : Nat} {lx ly : List Lst} (h : BCN w K lx ly) (l : Lst) (zs : List Cur) (hk : lx.length < 250) (hln : l.n ≤ 100000) (hr : w.ownsRow 0 28 5 l.v l.n (bkR zs)) (hnew : ∀ k, l.v.ownBlock = some k → ¬ InL lx k) :
    Calls Tryz.prog 22 #[.pointer (some ⟨K, 0, none⟩), .slice l.A l.n l.c] w fun e w' => e = .returned (.tuple #[]) ∧ BCN w' K (lx ++ [l]) ly ∧ Below K w w' ∧ (∀ (base : Nat) (e' : TypeId) (size : Nat) (v : Value) (n : Nat) (xs : List Value), e' ≠ 52 → e' ≠ 47 → w.ownsRow base e' size v n xs → w'.ownsRow base e' size v n xs) := by
  obtain ⟨TX, VX, TY, VY, cx, cy, hcx, hcy, hX, hY, px, py, oX, oY⟩ := h
  refine (PC.keep_any TY.v VY.v K TX VX lx cx l zs w hk hcx hX (by omega) hr).mono ?_
  rintro e w' ⟨rfl, T', V', c, hX', hcn, hco, hb, hty⟩
  refine ⟨rfl, ⟨T', V', TY, VY, cx ++ [c], cy, by simp [hcx], hcy, hX', ⟨hX'.blk, hty _ _ _ _ _ _ (by decide) (by decide) hY.hT, hty _ _ _ _ _ _ (by decide) (by decide) hY.hV, hY.nT, hY.nV, hY.ne⟩, parted_add px hnew, py, fun j l' c' hl hc => by
    rcases snoc_at hl with hl | ⟨rfl, rfl⟩
    · have hj := (List.getElem?_eq_some_iff.1 hl).1
      rw [List.getElem?_append_left (by omega)] at hc
      obtain ⟨q1, q2, ys, q3, q4⟩ := oX j l' c' hl hc
      exact ⟨q1, q2, ys, hty _ _ _ _ _ _ (by decide) (by decide) q3, hty _ _ _ _ _ _ (by decide) (by decide) q4⟩
    · rw [List.getElem?_append_right (by omega), hcx, Nat.sub_self] at hc
      obtain rfl := Option.some.inj hc
      exact ⟨hln, hcn, zs, hty _ _ _ _ _ _ (by decide) (by decide) hr, own_mono hco (Nat.zero_le _)⟩, fun j l' c' hl hc => by
    obtain ⟨q1, q2, ys, q3, q4⟩ := oY j l' c' hl hc
    exact ⟨q1, q2, ys, hty _ _ _ _ _ _ (by decide) (by decide) q3, hty _ _ _ _ _ _ (by decide) (by decide) q4⟩⟩, hb, hty⟩
theorem bcn_notes {w : World} {K : Nat} {lx ly : List Lst} (h : BCN w K lx ly) (l : Lst) (zs : List Nte) (hk : ly.length < 250) (hln : l.n ≤ 100000) (hr : w.ownsRow 0 30 6 l.v l.n (BkN.bkR zs)) (hnew : ∀ k, l.v.ownBlock = some k → ¬ InL ly k) :
    Calls Tryz.prog 14 #[.pointer (some ⟨K, 0, none⟩), .slice l.A l.n l.c] w fun e w' => e = .returned (.tuple #[]) ∧ BCN w' K lx (ly ++ [l]) ∧ Below K w w' ∧ (∀ (base : Nat) (e' : TypeId) (size : Nat) (v : Value) (n : Nat) (xs : List Value), e' ≠ 22 → e' ≠ 47 → w.ownsRow base e' size v n xs → w'.ownsRow base e' size v n xs) := by
  obtain ⟨TX, VX, TY, VY, cx, cy, hcx, hcy, hX, hY, px, py, oX, oY⟩ := h
  refine (BkN.PN.keep_any TX.v VX.v K TY VY ly cy l zs w hk hcy hY (by omega) hr).mono ?_
  rintro e w' ⟨rfl, T', V', c, hY', hcn, hco, hb, hty⟩
  refine ⟨rfl, ⟨TX, VX, T', V', cx, cy ++ [c], hcx, by simp [hcy], ⟨hY'.blk, hty _ _ _ _ _ _ (by decide) (by decide) hX.hT, hty _ _ _ _ _ _ (by decide) (by decide) hX.hV, hX.nT, hX.nV, hX.ne⟩, hY', px, parted_add py hnew, fun j l' c' hl hc => by
    obtain ⟨q1, q2, ys, q3, q4⟩ := oX j l' c' hl hc
    exact ⟨q1, q2, ys, hty _ _ _ _ _ _ (by decide) (by decide) q3, hty _ _ _ _ _ _ (by decide) (by decide) q4⟩, fun j l' c' hl hc => by
    rcases snoc_at hl with hl | ⟨rfl, rfl⟩
    · have hj := (List.getElem?_eq_some_iff.1 hl).1
      rw [List.getElem?_append_left (by omega)] at hc
      obtain ⟨q1, q2, ys, q3, q4⟩ := oY j l' c' hl hc
      exact ⟨q1, q2, ys, hty _ _ _ _ _ _ (by decide) (by decide) q3, hty _ _ _ _ _ _ (by decide) (by decide) q4⟩
    · rw [List.getElem?_append_right (by omega), hcy, Nat.sub_self] at hc
      obtain rfl := Option.some.inj hc
      exact ⟨hln, hcn, zs, hty _ _ _ _ _ _ (by decide) (by decide) hr, own_mono hco (Nat.zero_le _)⟩⟩, hb, hty⟩
theorem bcn_apart {w : World} {K : Nat} {lx ly : List Lst} (h : BCN w K lx ly) (hx : lx.length ≤ 250) (hy : ly.length ≤ 250) :
    Calls Tryz.prog 24 #[.pointer (some ⟨K, 0, none⟩)] w fun e w' => e = .returned (.bool true) ∧ GrS (fun k => InL lx k ∨ InL ly k) w w' := by
  obtain ⟨TX, VX, TY, VY, cx, cy, hcx, hcy, hX, hY, px, py, oX, oY⟩ := h
  exact apart_any K TX VX TY VY lx cx ly cy w hx hy hcx hcy hX hY px py oX oY
end Go.Proofs.YtmldoeeangekoaaGreat.CN
