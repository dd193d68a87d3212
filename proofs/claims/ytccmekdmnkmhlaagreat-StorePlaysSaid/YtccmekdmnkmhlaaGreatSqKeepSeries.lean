/-
  The book's Series: one more list is kept, with a copy. No condition but bounds.
-/
import Derived.Test.YtccmekdmnkmhlaaGreatSqBookSeries
namespace Go.Proofs.YtccmekdmnkmhlaaGreat.BkZ
open Go.RowKit

/-- The book's own blocks. -/
def BkBlk (K : Nat) (T V : Lst) (k : Nat) : Prop := k = K ∨ T.v.ownBlock = some k ∨ V.v.ownBlock = some k
def KeepPost (K : Nat) (T V : Lst) (ls cs : List Lst) (l : Lst) (ss : List Ser) (w : World) (e : Ending) (w' : World) : Prop :=
  e = .returned (.tuple #[]) ∧ ∃ T' V' c : Lst, (GrS (BkBlk K T V) w w' ∧ ∀ b, BkBlk K T' V' b → BkBlk K T V b ∨ w.heap.size ≤ b) ∧ Kept w' K T' V' (ls ++ [l]) (cs ++ [c]) ∧ c.n = l.n ∧ OwnSs w' w.heap.size c ss ∧ Below K w w' ∧
    (∀ (base : Nat) (e' : TypeId) (size : Nat) (v : Value) (n : Nat) (xs : List Value), e' ≠ 29 → e' ≠ 45 → w.ownsRow base e' size v n xs → w'.ownsRow base e' size v n xs)
/-- The book's block is of the book's type: nothing else owns it. -/
theorem own_not_bk {w : World} {K base size n : Nat} {e' : TypeId} {v : Value} {xs : List Value} {cs : Array Value} {fr : Nat × Nat} (h : w.ownsRow base e' size v n xs) (hK : w.heap[K]? = some (.cells cs 45 fr)) (he : e' ≠ 45) : v.ownBlock = none ∨ v.ownBlock ≠ some K := by
  rcases h.2 with ⟨rfl, _⟩ | ⟨g, cap, cur, rfl, _, hg, _⟩
  · exact .inl rfl
  · right
    intro e2
    have : g = K := by simpa [Value.ownBlock] using e2
    subst this
    rw [hK] at hg
    injection hg with h1
    injection h1 with _ h2
    exact he h2.symm
theorem kept_hat {w w' : World} {base size n g : Nat} {e' : TypeId} {v u : Value} {xs : List Value} {p : Prop} (h : w.ownsRow base e' size v n xs) (hat : (u.ownBlock = some g ∧ w.grownBy w' (some g)) ∨ (p ∧ Gr w w')) (hne : v.ownBlock = none ∨ v.ownBlock ≠ u.ownBlock) : w'.ownsRow base e' size v n xs := by
  rcases hat with ⟨e, hg⟩ | ⟨_, hg⟩
  · exact h.kept hg (by rw [← e]; exact hne)
  · exact h.kept hg (by cases v.ownBlock <;> simp)
theorem below_hat {w w' : World} {K g : Nat} {u : Value} {p : Prop} (hu : ∀ k, u.ownBlock = some k → K + 1 ≤ k) (hK : K ≤ w.heap.size) (hat : (u.ownBlock = some g ∧ w.grownBy w' (some g)) ∨ (p ∧ Gr w w')) : Below K w w' := by
  rcases hat with ⟨e, hg⟩ | ⟨_, hg⟩
  · exact (Below.refl _ _).grown hg hK (fun k hk => by cases hk; have := hu _ e; omega)
  · exact (Below.refl _ _).grown hg hK (by simp)
theorem ne_none {v : Value} {K : Nat} (h : ∀ k, v.ownBlock = some k → K + 1 ≤ k) : v.ownBlock = none ∨ v.ownBlock ≠ some K := by
  cases hb : v.ownBlock with
  | none => exact .inl rfl
  | some k => exact .inr fun e => by have := h k hb; have := Option.some.inj e; omega
/-- What is no list of the book's stays; so do series. -/
theorem ownSs_typed {w w' : World} {base : Nat} {l : Lst} {ss : List Ser} (ht : ∀ (base : Nat) (e' : TypeId) (size : Nat) (v : Value) (n : Nat) (xs : List Value), e' ≠ 29 → e' ≠ 45 → w.ownsRow base e' size v n xs → w'.ownsRow base e' size v n xs) (h : OwnSs w base l ss) : OwnSs w' base l ss := by
  obtain ⟨hs, h1, h2, h3, h4⟩ := h
  exact ⟨hs, h1, h2, ht _ _ _ _ _ _ (by decide) (by decide) h3, fun i x s hx hs => ⟨ht _ _ _ _ _ _ (by decide) (by decide) (h4 i x s hx hs).1, ht _ _ _ _ _ _ (by decide) (by decide) (h4 i x s hx hs).2⟩⟩
set_option maxHeartbeats 8000000 in
set_option maxRecDepth 100000 in
theorem keep_any (K : Nat) (T V : Lst) (ls cs : List Lst) (l : Lst) (ss : List Ser) (w : World) (hk : ls.length < 250) (hcs : cs.length = ls.length) (h : Kept w K T V ls cs) (hln : l.n ≤ 150000) (hr : OwnSs w 0 l ss) (hr9 : ∀ s ∈ ss, s.l.length ≤ 100000 ∧ s.p.length ≤ 100000) :
    Calls Tryz.prog 13 #[.pointer (some ⟨K, 0, none⟩), .slice l.A l.n l.c] w (KeepPost K T V ls cs l ss w) := by
  obtain ⟨jj, hjj, jz0, jz1, jz2⟩ := info_parts infoL
  obtain ⟨TA, Tn, Tc⟩ := T
  obtain ⟨VA, Vn, Vc⟩ := V
  obtain ⟨lA, ln, lc⟩ := l
  obtain ⟨hblk, hT, hV, nT, nV, hne⟩ := h
  simp only [Lst.v] at hblk hT hV nT nV hne hln ⊢
  have ho0 := hr.choose_spec.2.2.1
  simp only [Lst.v] at ho0
  have hao : lA = none → lc = 0 := by
    rcases ho0.2 with ⟨hv, _⟩ | ⟨g, c', cur, hv, _⟩
    · injection hv with _ _ h3; exact fun _ => h3
    · injection hv with h1 _ _; intro h2; rw [h1] at h2; cases h2
  have hKlt : K < w.heap.size := lt_of_blk hblk
  have hTb : ∀ k, (Value.slice TA Tn Tc).ownBlock = some k → K + 1 ≤ k := fun k hk => (hT.lt k hk).1
  have hVb : ∀ k, (Value.slice VA Vn Vc).ownBlock = some k → K + 1 ≤ k := fun k hk => (hV.lt k hk).1
  have c0 : w.cell? ⟨K, 18, none⟩ = some (.slice TA Tn Tc) := bk_cell hblk rfl
  have hTn : (Tn : Int) < 250 := by omega
  have hVn : Vn < 250 := by omega
  have hblk1 := gr_blk (gr_alloc w (.cells #[.slice lA ln lc] 29) none) hblk (by simp)
  have hT1 := hT.alloc (.cells #[.slice lA ln lc] 29)
  have hV1 := hV.alloc (.cells #[.slice lA ln lc] 29)
  replace hblk := Lib.hid hblk
  replace hblk1 := Lib.hid hblk1
  replace hT := Lib.hid hT
  replace hT1 := Lib.hid hT1
  replace hV := Lib.hid hV
  replace hV1 := Lib.hid hV1
  replace hne := Lib.hid hne
  replace hTb := Lib.hid hTb
  replace hVb := Lib.hid hVb
  clear ho0
  replace hr := Lib.hid hr
  replace hr9 := Lib.hid hr9
  replace hao := Lib.hid hao
  replace nT := Lib.hid nT
  replace nV := Lib.hid nV
  go_enter Tryz.func13, Tryz.ntmps13
  go_wp2_with (at_builtin; first
    | (refine wpList_append_strong (o := ⟨some 17, _, _, _, _, _⟩) _ rfl _ _ 43 rfl (K + 1) 29 jj (.slice none 0 0) 1 24 Tryz.underlying43 hjj jz0 jz1 jz2 rfl (by decide) (.slice TA Tn Tc) Tn _ rfl hT1.out ⟨w.heap.size, 0, none⟩ 1 1 [.slice lA ln lc] rfl rfl (cell_one_new _ _ _) (by simp [Value.oneCell']) (by omega) (Tn + 1) rfl (by unfold maxLen; omega) (by omega) (by simp; omega) ?_
       intro g cap W2 hown2 hat2
       have hblk2 := bk_past hblk1.out hTb.out hat2
       have cF0 : W2.cell? ⟨K, 18, none⟩ = some (.slice TA Tn Tc) := bk_cell hblk2 rfl
       have fF0 : W2.frozen? ⟨K, 18, none⟩ = false := bk_free hblk2 _
       replace hblk2 := Lib.hid hblk2
       replace hown2 := Lib.hid hown2
       replace hat2 := Lib.hid hat2))
  obtain ⟨W3, hW3⟩ : ∃ W3, W3 = W2.setCell ⟨K, 18, none⟩ (.slice (some ⟨g, 0, none⟩) (Tn + 1) cap) := ⟨_, rfl⟩
  rw [← hW3]
  have hb2 := blk_set hblk2.out 18 (.slice (some ⟨g, 0, none⟩) (Tn + 1) cap)
  rw [← hW3] at hb2
  have hblk3 : W3.heap[K]? = some (.cells (bkCells (.slice (some ⟨g, 0, none⟩) (Tn + 1) cap) (.slice VA Vn Vc)) 45 (0, 0)) := hb2
  have hgb : K + 1 ≤ g := (hown2.out.lt g rfl).1
  have hset : W2.grownBy W3 (some K) := by rw [hW3]; exact gr_set W2 ⟨K, 18, none⟩ _
  have typed3 : ∀ (base : Nat) (e' : TypeId) (size : Nat) (v : Value) (n : Nat) (xs : List Value), e' ≠ 29 → e' ≠ 45 → w.ownsRow base e' size v n xs → W3.ownsRow base e' size v n xs := fun base e' size v n xs h1 h2 ho =>
    (kept_hat (ho.alloc (.cells #[.slice lA ln lc] 29)) hat2.out (own_types (ho.alloc _) hT1.out h1)).kept hset (own_not_bk ho hblk.out h2)
  have hT3 : W3.ownsRow (K + 1) 29 1 (.slice (some ⟨g, 0, none⟩) (Tn + 1) cap) (Tn + 1) (ls.map Lst.v ++ [.slice lA ln lc]) := hown2.out.kept hset (ne_none fun k hk => (hown2.out.lt k hk).1)
  have hV3 : W3.ownsRow (K + 1) 29 1 (.slice VA Vn Vc) Vn (cs.map Lst.v) := (kept_hat hV1.out hat2.out (by
    cases hb : (Value.slice VA Vn Vc).ownBlock with
    | none => exact .inl rfl
    | some k => exact .inr fun e => hne.out k e.symm hb)).kept hset (ne_none hVb.out)
  have hneg : ∀ k, (Value.slice VA Vn Vc).ownBlock = some k → k ≠ g := by
    rintro k hk rfl
    rcases hat2.out with ⟨e, _⟩ | ⟨e, _⟩
    · exact hne.out k e hk
    · have := (hV1.out.lt k hk).2
      omega
  have hbel3 : Below K w W3 := ((Below.refl K w).alloc (Nat.le_of_lt hKlt) _).trans ((below_hat hTb.out (by simp; omega) hat2.out).trans ((Below.refl K W2).grown hset (by have := lt_of_blk hblk2.out; omega) (by intro k hk; cases hk; exact Nat.le_refl _)))
  obtain ⟨hs3, hlr0, hnil3⟩ := ownSs_rd (ownSs_typed typed3 hr.out)
  have hlr : SersOf W3.drew lA ln hs3 ss := sersOf_gr hlr0 (gr_drew _ _)
  clear hlr0
  have hcp := cser_any lA ln lc hs3 ss W3.drew hln hao.out hlr hnil3 hr9.out
  have c1 : W3.cell? ⟨K, 19, none⟩ = some (.slice VA Vn Vc) := bk_cell hblk3 rfl
  have hK3 : K + 1 ≤ W3.heap.size := lt_of_blk hblk3
  clear hW3 cF0 fF0 hb2
  replace hblk3 := Lib.hid hblk3
  replace typed3 := Lib.hid typed3
  replace hT3 := Lib.hid hT3
  replace hV3 := Lib.hid hV3
  replace hneg := Lib.hid hneg
  replace hbel3 := Lib.hid hbel3
  replace hcp := Lib.hid hcp
  replace hlr := Lib.hid hlr
  replace hset := Lib.hid hset
  go_region_law (first
    | (go_simp; go_at_call 35; refine hcp.out.mono ?_
       rintro e W5 ⟨cA, cc, rfl, hco, hg5⟩
       have c15 : W5.cell? ⟨K, 19, none⟩ = some (.slice VA Vn Vc) := gr_cell (gr_trans (gr_drew _ _) hg5) c1
       have c15b : (W5.alloc (.cells #[.slice cA ln cc] 29)).cell? ⟨K, 19, none⟩ = some (.slice VA Vn Vc) := gr_cell (gr_alloc _ _ _) c15
       have hV5 := hV3.out.kept (gr_trans (gr_drew W3 none) hg5) (by cases (Value.slice VA Vn Vc).ownBlock <;> simp)
       have hblk5 := gr_blk (gr_trans (gr_drew W3 none) hg5) hblk3.out (by simp)
       have hs5 : W3.heap.size ≤ W5.heap.size := hg5.size
       replace hV5 := Lib.hid hV5
       replace hblk5 := Lib.hid hblk5
       replace hco := Lib.hid hco
       replace hg5 := Lib.hid hg5)
    | (refine step_append_strong (o := ⟨some 28, _, _, _, _, _⟩) (by rfl) _ _ 43 (by rfl) (K + 1) 29 jj (.slice none 0 0) 1 24 Tryz.underlying43 hjj jz0 jz1 jz2 (by decide) (by decide) (.slice VA Vn Vc) Vn _ (by rfl) (hV5.out.alloc _) ⟨W5.heap.size, 0, none⟩ 1 1 [.slice cA ln cc] (by rfl) (by rfl) (cell_one_new _ _ _) (by simp [Value.oneCell']) (by omega) (Vn + 1) (by rfl) (by unfold maxLen; omega) (by omega) (by simp; omega) ?_
       intro g2 cap2 W6 hown6 hat6
       have hblk6 := bk_past (gr_blk (gr_alloc W5 (.cells #[.slice cA ln cc] 29) none) hblk5.out (by simp)) hVb.out hat6
       have cF1 : W6.cell? ⟨K, 19, none⟩ = some (.slice VA Vn Vc) := bk_cell hblk6 rfl
       have fF1 : W6.frozen? ⟨K, 19, none⟩ = false := bk_free hblk6 _
       replace hblk6 := Lib.hid hblk6
       replace hown6 := Lib.hid hown6
       replace hat6 := Lib.hid hat6))
  all_goals
    go_end0
    have hset7 := gr_set W6 ⟨K, 19, none⟩ (.slice (some ⟨g2, 0, none⟩) (Vn + 1) cap2)
    have hb7 := blk_set hblk6.out 19 (.slice (some ⟨g2, 0, none⟩) (Vn + 1) cap2)
    have g35 : Gr W3 W5 := gr_trans (gr_drew W3 none) hg5.out
    have hg2 : g ≠ g2 := by
      rcases hat6.out with ⟨e, _⟩ | ⟨e, _⟩
      · exact fun h => hneg.out g2 e h.symm
      · have h1 := (hT3.out.lt g rfl).2
        have h2 := g35.size
        have h3 : (W5.alloc (.cells #[.slice cA ln cc] 29)).heap.size = W5.heap.size + 1 := by simp
        omega
    have hT7 := ((kept_hat ((hT3.out.kept g35 (.inr (by simp [Value.ownBlock]))).alloc (.cells #[.slice cA ln cc] 29)) hat6.out (by
      right
      intro e
      exact hneg.out g e.symm rfl)).kept hset7 (ne_none fun k hk => (hT3.out.lt k hk).1))
    have hV7 := hown6.out.kept hset7 (ne_none fun k hk => (hown6.out.lt k hk).1)
    have hco5 := ownSs_base hco.out (show w.heap.size ≤ W3.drew.heap.size from hbel3.out.size)
    have hco7 := ownSs_typed (fun base e' size v n xs h1 h2 ho => (kept_hat (ho.alloc (.cells #[.slice cA ln cc] 29)) hat6.out (own_types ho hV5.out h1)).kept hset7 (own_not_bk ho hblk5.out h2)) hco5
    have hbel7 : Below K W3 (W6.setCell ⟨K, 19, none⟩ (.slice (some ⟨g2, 0, none⟩) (Vn + 1) cap2)) := (((Below.refl K W3).grown g35 (by omega) (by simp)).alloc (by have := g35.size; omega) _).trans ((below_hat hVb.out (by simp; have := g35.size; omega) hat6.out).trans ((Below.refl K W6).grown hset7 (by have := lt_of_blk hblk6.out; omega) (by intro k hk; cases hk; exact Nat.le_refl _)))
    have gS2 : GrS (BkBlk K ⟨TA, Tn, Tc⟩ ⟨VA, Vn, Vc⟩) w W2 := by
      have gS1 := grs_gr (BkBlk K ⟨TA, Tn, Tc⟩ ⟨VA, Vn, Vc⟩) (gr_alloc w (.cells #[.slice lA ln lc] 29) none)
      rcases hat2.out with ⟨e, q⟩ | ⟨_, q⟩
      · exact grs_then gS1 q (fun k hk _ => .inr (.inl (e.trans hk)))
      · exact grs_then gS1 q (by simp)
    have gS7 : GrS (BkBlk K ⟨TA, Tn, Tc⟩ ⟨VA, Vn, Vc⟩) w (W6.setCell ⟨K, 19, none⟩ (.slice (some ⟨g2, 0, none⟩) (Vn + 1) cap2)) := by
      have gS3 := grs_then gS2 hset.out (fun k hk _ => .inl (Option.some.inj hk).symm)
      have gS6 := grs_then (grs_then gS3 g35 (by simp)) (gr_alloc W5 (.cells #[.slice cA ln cc] 29) none) (by simp)
      refine grs_then (w1 := W6) ?_ hset7 (fun k hk _ => .inl (Option.some.inj hk).symm)
      rcases hat6.out with ⟨e, q⟩ | ⟨_, q⟩
      · exact grs_then gS6 q (fun k hk _ => .inr (.inr (e.trans hk)))
      · exact grs_then gS6 q (by simp)
    have gN : ∀ b, BkBlk K ⟨some ⟨g, 0, none⟩, Tn + 1, cap⟩ ⟨some ⟨g2, 0, none⟩, Vn + 1, cap2⟩ b → BkBlk K ⟨TA, Tn, Tc⟩ ⟨VA, Vn, Vc⟩ b ∨ w.heap.size ≤ b := by
      rintro b (rfl | hb | hb)
      · exact .inl (.inl rfl)
      · cases hb
        rcases hat2.out with ⟨e, _⟩ | ⟨e, _⟩
        · exact .inl (.inr (.inl e))
        · right; rw [e]; simp
      · cases hb
        rcases hat6.out with ⟨e, _⟩ | ⟨e, _⟩
        · exact .inl (.inr (.inr e))
        · right; rw [e]; have := gS2.size; have := hset.out.size; have := g35.size; simp; omega
    refine ⟨rfl, ⟨some ⟨g, 0, none⟩, Tn + 1, cap⟩, ⟨some ⟨g2, 0, none⟩, Vn + 1, cap2⟩, ⟨cA, ln, cc⟩, ⟨gS7, gN⟩, ⟨hb7, ?_, ?_, ?_, ?_, ?_⟩, rfl, hco7, hbel3.out.trans hbel7, ?_⟩
    · rw [List.map_append]; exact hT7
    · rw [List.map_append]; exact hV7
    · rw [List.length_append, ← nT.out]; rfl
    · rw [List.length_append, ← nV.out]; rfl
    · intro k h1 h2
      have h3 : g = k := by simpa [Value.ownBlock] using h1
      have h4 : g2 = k := by simpa [Value.ownBlock] using h2
      exact hg2 (h3.trans h4.symm)
    · intro base e' size v n xs h1 h2 ho
      have ho5 := (typed3.out base e' size v n xs h1 h2 ho).kept g35 (by cases v.ownBlock <;> simp)
      exact (kept_hat (ho5.alloc (.cells #[.slice cA ln cc] 29)) hat6.out (own_types ho5 hV5.out h1)).kept hset7 (own_not_bk ho5 hblk5.out h2)
end Go.Proofs.YtccmekdmnkmhlaaGreat.BkZ
