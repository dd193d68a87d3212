/-
  Several facts, one behind the other; no condition but bounds: The book's Rows: one more list is kept, with a copy. No condition but bounds. (*Book).Apart, where lists of Rows alone are kept: it answers true. No condition but bounds.
-/
import Derived.Test.YtbnacoakjhhndaaGreatRpD
namespace Go.Proofs.YtbnacoakjhhndaaGreat.BkW
open Go.RowKit

def KeepPost (K : Nat) (ls cs : List Lst) (l : Lst) (rs : List Rw) (w : World) (e : Ending) (w' : World) : Prop :=
  e = .returned (.tuple #[]) ∧ ∃ T' V' c : Lst, Kept w' K T' V' (ls ++ [l]) (cs ++ [c]) ∧ c.n = l.n ∧ OwnRs w' w.heap.size c.v rs ∧ Below K w w' ∧
    (∀ (base : Nat) (e' : TypeId) (size : Nat) (v : Value) (n : Nat) (xs : List Value), e' ≠ 23 → e' ≠ 47 → w.ownsRow base e' size v n xs → w'.ownsRow base e' size v n xs)
/-- The book's block is of the book's type: nothing else owns it. -/
theorem own_not_bk {w : World} {K base size n : Nat} {e' : TypeId} {v : Value} {xs : List Value} {cs : Array Value} {fr : Nat × Nat} (h : w.ownsRow base e' size v n xs) (hK : w.heap[K]? = some (.cells cs 47 fr)) (he : e' ≠ 47) : v.ownBlock = none ∨ v.ownBlock ≠ some K := by
  rcases h.2 with ⟨rfl, _⟩ | ⟨g, cap, cur, rfl, _, hg, _⟩
  · exact .inl rfl
  · right
    intro e2
    have : g = K := by simpa [Value.ownBlock] using e2
    subst this
    rw [hK] at hg
    injection hg with h1
    injection h1 with _ h2
    exact he h2.symm
theorem kept_hat {w w' : World} {base size n g : Nat} {e' : TypeId} {v u : Value} {xs : List Value} {p : Prop} (h : w.ownsRow base e' size v n xs) (hat : (u.ownBlock = some g ∧ w.grownBy w' (some g)) ∨ (p ∧ Gr w w')) (hne : v.ownBlock = none ∨ v.ownBlock ≠ u.ownBlock) : w'.ownsRow base e' size v n xs := by
  rcases hat with ⟨e, hg⟩ | ⟨_, hg⟩
  · exact h.kept hg (by rw [← e]; exact hne)
  · exact h.kept hg (by cases v.ownBlock <;> simp)
theorem below_hat {w w' : World} {K g : Nat} {u : Value} {p : Prop} (hu : ∀ k, u.ownBlock = some k → K + 1 ≤ k) (hK : K ≤ w.heap.size) (hat : (u.ownBlock = some g ∧ w.grownBy w' (some g)) ∨ (p ∧ Gr w w')) : Below K w w' := by
  rcases hat with ⟨e, hg⟩ | ⟨_, hg⟩
  · exact (Below.refl _ _).grown hg hK (fun k hk => by cases hk; have := hu _ e; omega)
  · exact (Below.refl _ _).grown hg hK (by simp)
theorem ne_none {v : Value} {K : Nat} (h : ∀ k, v.ownBlock = some k → K + 1 ≤ k) : v.ownBlock = none ∨ v.ownBlock ≠ some K := by
  cases hb : v.ownBlock with
  | none => exact .inl rfl
  | some k => exact .inr fun e => by have := h k hb; have := Option.some.inj e; omega
/-- What is no list of the book's stays; so do rows. -/
theorem ownRs_typed {w w' : World} {base : Nat} {v : Value} {rs : List Rw} (ht : ∀ (base : Nat) (e' : TypeId) (size : Nat) (v : Value) (n : Nat) (xs : List Value), e' ≠ 23 → e' ≠ 47 → w.ownsRow base e' size v n xs → w'.ownsRow base e' size v n xs) (h : OwnRs w base v rs) : OwnRs w' base v rs := by
  obtain ⟨hs, h1, h2⟩ := h
  exact ⟨hs, ⟨h1.1, fun i r hr => by obtain ⟨k, e, k1, k2, k3⟩ := h1.2 i r hr; exact ⟨k, e, k1, k2, ht _ _ _ _ _ _ (by decide) (by decide) k3⟩⟩, ht _ _ _ _ _ _ (by decide) (by decide) h2⟩
set_option maxHeartbeats 8000000 in
set_option maxRecDepth 100000 in
theorem keep_any (K : Nat) (T V : Lst) (ls cs : List Lst) (l : Lst) (rs : List Rw) (w : World) (hk : ls.length < 250) (hcs : cs.length = ls.length) (h : Kept w K T V ls cs) (hln : l.n ≤ 150000) (hr : OwnRs w 0 l.v rs) (hrl : rs.length = l.n) (hr9 : ∀ r ∈ rs, r.l.length ≤ 100000) :
    Calls Tryz.prog 11 #[.pointer (some ⟨K, 0, none⟩), .slice l.A l.n l.c] w (KeepPost K ls cs l rs w) := by
  obtain ⟨jj, hjj, jz0, jz1, jz2⟩ := info_parts infoL
  obtain ⟨TA, Tn, Tc⟩ := T
  obtain ⟨VA, Vn, Vc⟩ := V
  obtain ⟨lA, ln, lc⟩ := l
  obtain ⟨hblk, hT, hV, nT, nV, hne⟩ := h
  simp only [Lst.v] at hblk hT hV nT nV hne hln hr hrl ⊢
  obtain ⟨hs0, hor0, ho0⟩ := hr
  have hr : OwnRs w 0 (.slice lA ln lc) rs := ⟨hs0, hor0, ho0⟩
  have hao : lA = none → lc = 0 := by
    rcases ho0.2 with ⟨hv, _⟩ | ⟨g, c', cur, hv, _⟩
    · injection hv with _ _ h3; exact fun _ => h3
    · injection hv with h1 _ _; intro h2; rw [h1] at h2; cases h2
  have hKlt : K < w.heap.size := lt_of_blk hblk
  have hTb : ∀ k, (Value.slice TA Tn Tc).ownBlock = some k → K + 1 ≤ k := fun k hk => (hT.lt k hk).1
  have hVb : ∀ k, (Value.slice VA Vn Vc).ownBlock = some k → K + 1 ≤ k := fun k hk => (hV.lt k hk).1
  have c0 : w.cell? ⟨K, 16, none⟩ = some (.slice TA Tn Tc) := bk_cell hblk rfl
  have hTn : (Tn : Int) < 250 := by omega
  have hVn : Vn < 250 := by omega
  have hblk1 := gr_blk (gr_alloc w (.cells #[.slice lA ln lc] 23) none) hblk (by simp)
  have hT1 := hT.alloc (.cells #[.slice lA ln lc] 23)
  have hV1 := hV.alloc (.cells #[.slice lA ln lc] 23)
  replace hblk := Lib.hid hblk
  replace hblk1 := Lib.hid hblk1
  replace hT := Lib.hid hT
  replace hT1 := Lib.hid hT1
  replace hV := Lib.hid hV
  replace hV1 := Lib.hid hV1
  replace hne := Lib.hid hne
  replace hTb := Lib.hid hTb
  replace hVb := Lib.hid hVb
  clear hor0 ho0
  replace hr := Lib.hid hr
  replace hrl := Lib.hid hrl
  replace hr9 := Lib.hid hr9
  replace hao := Lib.hid hao
  replace nT := Lib.hid nT
  replace nV := Lib.hid nV
  go_enter Tryz.func11, Tryz.ntmps11
  go_wp2_with (at_builtin; first
    | (refine wpList_append_strong (o := ⟨some 17, _, _, _, _, _⟩) _ rfl _ _ 44 rfl (K + 1) 23 jj (.slice none 0 0) 1 24 Tryz.underlying44 hjj jz0 jz1 jz2 rfl (by decide) (.slice TA Tn Tc) Tn _ rfl hT1.out ⟨w.heap.size, 0, none⟩ 1 1 [.slice lA ln lc] rfl rfl (cell_one_new _ _ _) (by simp [Value.oneCell']) (by omega) (Tn + 1) rfl (by unfold maxLen; omega) (by omega) (by simp; omega) ?_
       intro g cap W2 hown2 hat2
       have hblk2 := bk_past hblk1.out hTb.out hat2
       have cF0 : W2.cell? ⟨K, 16, none⟩ = some (.slice TA Tn Tc) := bk_cell hblk2 rfl
       have fF0 : W2.frozen? ⟨K, 16, none⟩ = false := bk_free hblk2 _
       replace hblk2 := Lib.hid hblk2
       replace hown2 := Lib.hid hown2
       replace hat2 := Lib.hid hat2))
  obtain ⟨W3, hW3⟩ : ∃ W3, W3 = W2.setCell ⟨K, 16, none⟩ (.slice (some ⟨g, 0, none⟩) (Tn + 1) cap) := ⟨_, rfl⟩
  rw [← hW3]
  have hb2 := blk_set hblk2.out 16 (.slice (some ⟨g, 0, none⟩) (Tn + 1) cap)
  rw [← hW3] at hb2
  have hblk3 : W3.heap[K]? = some (.cells (bkCells (.slice (some ⟨g, 0, none⟩) (Tn + 1) cap) (.slice VA Vn Vc)) 47 (0, 0)) := hb2
  have hgb : K + 1 ≤ g := (hown2.out.lt g rfl).1
  have hset : W2.grownBy W3 (some K) := by rw [hW3]; exact gr_set W2 ⟨K, 16, none⟩ _
  have typed3 : ∀ (base : Nat) (e' : TypeId) (size : Nat) (v : Value) (n : Nat) (xs : List Value), e' ≠ 23 → e' ≠ 47 → w.ownsRow base e' size v n xs → W3.ownsRow base e' size v n xs := fun base e' size v n xs h1 h2 ho =>
    (kept_hat (ho.alloc (.cells #[.slice lA ln lc] 23)) hat2.out (own_types (ho.alloc _) hT1.out h1)).kept hset (own_not_bk ho hblk.out h2)
  have hT3 : W3.ownsRow (K + 1) 23 1 (.slice (some ⟨g, 0, none⟩) (Tn + 1) cap) (Tn + 1) (ls.map Lst.v ++ [.slice lA ln lc]) := hown2.out.kept hset (ne_none fun k hk => (hown2.out.lt k hk).1)
  have hV3 : W3.ownsRow (K + 1) 23 1 (.slice VA Vn Vc) Vn (cs.map Lst.v) := (kept_hat hV1.out hat2.out (by
    cases hb : (Value.slice VA Vn Vc).ownBlock with
    | none => exact .inl rfl
    | some k => exact .inr fun e => hne.out k e.symm hb)).kept hset (ne_none hVb.out)
  have hneg : ∀ k, (Value.slice VA Vn Vc).ownBlock = some k → k ≠ g := by
    rintro k hk rfl
    rcases hat2.out with ⟨e, _⟩ | ⟨e, _⟩
    · exact hne.out k e hk
    · have := (hV1.out.lt k hk).2
      omega
  have hbel3 : Below K w W3 := ((Below.refl K w).alloc (Nat.le_of_lt hKlt) _).trans ((below_hat hTb.out (by simp; omega) hat2.out).trans ((Below.refl K W2).grown hset (by have := lt_of_blk hblk2.out; omega) (by intro k hk; cases hk; exact Nat.le_refl _)))
  have hlr : Rows W3.drew lA ln rs := rows_gr (ownRs_rows (ownRs_typed typed3 hr.out) hrl.out) (gr_drew _ _)
  have hcp := crows_any lA ln lc rs W3.drew hln hao.out hlr hr9.out
  have c1 : W3.cell? ⟨K, 17, none⟩ = some (.slice VA Vn Vc) := bk_cell hblk3 rfl
  have hK3 : K + 1 ≤ W3.heap.size := lt_of_blk hblk3
  clear hW3 cF0 fF0 hb2
  replace hblk3 := Lib.hid hblk3
  replace typed3 := Lib.hid typed3
  replace hT3 := Lib.hid hT3
  replace hV3 := Lib.hid hV3
  replace hneg := Lib.hid hneg
  replace hbel3 := Lib.hid hbel3
  replace hcp := Lib.hid hcp
  replace hlr := Lib.hid hlr
  replace hset := Lib.hid hset
  go_region_law (first
    | (go_simp; go_at_call 31; refine hcp.out.mono ?_
       rintro e W5 ⟨cA, cc, rfl, hco, hg5⟩
       have c15 : W5.cell? ⟨K, 17, none⟩ = some (.slice VA Vn Vc) := gr_cell (gr_trans (gr_drew _ _) hg5) c1
       have c15b : (W5.alloc (.cells #[.slice cA ln cc] 23)).cell? ⟨K, 17, none⟩ = some (.slice VA Vn Vc) := gr_cell (gr_alloc _ _ _) c15
       have hV5 := hV3.out.kept (gr_trans (gr_drew W3 none) hg5) (by cases (Value.slice VA Vn Vc).ownBlock <;> simp)
       have hblk5 := gr_blk (gr_trans (gr_drew W3 none) hg5) hblk3.out (by simp)
       have hs5 : W3.heap.size ≤ W5.heap.size := hg5.size
       replace hV5 := Lib.hid hV5
       replace hblk5 := Lib.hid hblk5
       replace hco := Lib.hid hco
       replace hg5 := Lib.hid hg5)
    | (refine step_append_strong (o := ⟨some 28, _, _, _, _, _⟩) (by rfl) _ _ 44 (by rfl) (K + 1) 23 jj (.slice none 0 0) 1 24 Tryz.underlying44 hjj jz0 jz1 jz2 (by decide) (by decide) (.slice VA Vn Vc) Vn _ (by rfl) (hV5.out.alloc _) ⟨W5.heap.size, 0, none⟩ 1 1 [.slice cA ln cc] (by rfl) (by rfl) (cell_one_new _ _ _) (by simp [Value.oneCell']) (by omega) (Vn + 1) (by rfl) (by unfold maxLen; omega) (by omega) (by simp; omega) ?_
       intro g2 cap2 W6 hown6 hat6
       have hblk6 := bk_past (gr_blk (gr_alloc W5 (.cells #[.slice cA ln cc] 23) none) hblk5.out (by simp)) hVb.out hat6
       have cF1 : W6.cell? ⟨K, 17, none⟩ = some (.slice VA Vn Vc) := bk_cell hblk6 rfl
       have fF1 : W6.frozen? ⟨K, 17, none⟩ = false := bk_free hblk6 _
       replace hblk6 := Lib.hid hblk6
       replace hown6 := Lib.hid hown6
       replace hat6 := Lib.hid hat6))
  all_goals
    go_end0
    have hset7 := gr_set W6 ⟨K, 17, none⟩ (.slice (some ⟨g2, 0, none⟩) (Vn + 1) cap2)
    have hb7 := blk_set hblk6.out 17 (.slice (some ⟨g2, 0, none⟩) (Vn + 1) cap2)
    have g35 : Gr W3 W5 := gr_trans (gr_drew W3 none) hg5.out
    have hg2 : g ≠ g2 := by
      rcases hat6.out with ⟨e, _⟩ | ⟨e, _⟩
      · exact fun h => hneg.out g2 e h.symm
      · have h1 := (hT3.out.lt g rfl).2
        have h2 := g35.size
        have h3 : (W5.alloc (.cells #[.slice cA ln cc] 23)).heap.size = W5.heap.size + 1 := by simp
        omega
    have hT7 := ((kept_hat ((hT3.out.kept g35 (.inr (by simp [Value.ownBlock]))).alloc (.cells #[.slice cA ln cc] 23)) hat6.out (by
      right
      intro e
      exact hneg.out g e.symm rfl)).kept hset7 (ne_none fun k hk => (hT3.out.lt k hk).1))
    have hV7 := hown6.out.kept hset7 (ne_none fun k hk => (hown6.out.lt k hk).1)
    have hco5 := ownRs_base hco.out (show w.heap.size ≤ W3.drew.heap.size from hbel3.out.size)
    have hco7 := ownRs_typed (fun base e' size v n xs h1 h2 ho => (kept_hat (ho.alloc (.cells #[.slice cA ln cc] 23)) hat6.out (own_types ho hV5.out h1)).kept hset7 (own_not_bk ho hblk5.out h2)) hco5
    have hbel7 : Below K W3 (W6.setCell ⟨K, 17, none⟩ (.slice (some ⟨g2, 0, none⟩) (Vn + 1) cap2)) := (((Below.refl K W3).grown g35 (by omega) (by simp)).alloc (by have := g35.size; omega) _).trans ((below_hat hVb.out (by simp; have := g35.size; omega) hat6.out).trans ((Below.refl K W6).grown hset7 (by have := lt_of_blk hblk6.out; omega) (by intro k hk; cases hk; exact Nat.le_refl _)))
    refine ⟨rfl, ⟨some ⟨g, 0, none⟩, Tn + 1, cap⟩, ⟨some ⟨g2, 0, none⟩, Vn + 1, cap2⟩, ⟨cA, ln, cc⟩, ⟨hb7, ?_, ?_, ?_, ?_, ?_⟩, rfl, hco7, hbel3.out.trans hbel7, ?_⟩
    · rw [List.map_append]; exact hT7
    · rw [List.map_append]; exact hV7
    · rw [List.length_append, ← nT.out]; rfl
    · rw [List.length_append, ← nV.out]; rfl
    · intro k h1 h2
      have h3 : g = k := by simpa [Value.ownBlock] using h1
      have h4 : g2 = k := by simpa [Value.ownBlock] using h2
      exact hg2 (h3.trans h4.symm)
    · intro base e' size v n xs h1 h2 ho
      have ho5 := (typed3.out base e' size v n xs h1 h2 ho).kept g35 (by cases v.ownBlock <;> simp)
      exact (kept_hat (ho5.alloc (.cells #[.slice cA ln cc] 23)) hat6.out (own_types ho5 hV5.out h1)).kept hset7 (own_not_bk ho5 hblk5.out h2)
end Go.Proofs.YtbnacoakjhhndaaGreat.BkW
namespace Go.Proofs.YtbnacoakjhhndaaGreat.BkW
open Go.RowKit

theorem stillTexts_no (K : Nat) (w : World) (c : w.cell? ⟨K, 0, none⟩ = some (.slice none 0 0)) : Calls Tryz.prog 34 #[.pointer (some ⟨K, 0, none⟩)] w fun e w' => e = .returned (.bool true) ∧ w = w' := by
  go_enter Tryz.func34, Tryz.ntmps34
  go_wp2
  go_loopw [3] (fun i wr => i = .int .i64 0 ∧ w = wr) (fun _ _ => 0)
  case atStart => exact ⟨rfl, rfl⟩
  case round =>
    obtain ⟨rfl, rfl⟩ := hrel
    go_wp2
    go_ret
    exact ⟨rfl, rfl⟩
theorem putTexts_no (K : Nat) (w : World) (c : w.cell? ⟨K, 0, none⟩ = some (.slice none 0 0)) : Calls Tryz.prog 46 #[.pointer (some ⟨K, 0, none⟩)] w fun e w' => e = .returned (.tuple #[]) ∧ w = w' := by
  go_enter Tryz.func46, Tryz.ntmps46
  go_wp2
  go_loopw [2] (fun i wr => i = .int .i64 0 ∧ w = wr) (fun _ _ => 0)
  case atStart => exact ⟨rfl, rfl⟩
  case round =>
    obtain ⟨rfl, rfl⟩ := hrel
    go_wp2
    go_end0
    exact ⟨rfl, rfl⟩
theorem growTexts_no (K : Nat) (w : World) (c : w.cell? ⟨K, 0, none⟩ = some (.slice none 0 0)) : Calls Tryz.prog 54 #[.pointer (some ⟨K, 0, none⟩)] w fun e w' => e = .returned (.slice none 0 0) ∧ w = w' := by
  go_enter Tryz.func54, Tryz.ntmps54
  go_wp2
  go_loopw [3, 4] (fun o i wr => o = .slice none 0 0 ∧ i = .int .i64 0 ∧ w = wr) (fun _ _ _ => 0)
  case atStart => exact ⟨rfl, rfl, rfl⟩
  case round =>
    obtain ⟨rfl, rfl, rfl⟩ := hrel
    go_wp2
    go_ret
    exact ⟨rfl, rfl⟩
theorem markedTexts_no (w : World) : Calls Tryz.prog 64 #[.slice none 0 0] w fun e w' => e = .returned (.bool true) ∧ w = w' := by
  go_enter Tryz.func64, Tryz.ntmps64
  go_wp2
  go_loopw [3] (fun i wr => i = .int .i64 0 ∧ w = wr) (fun _ _ => 0)
  case atStart => exact ⟨rfl, rfl⟩
  case round =>
    obtain ⟨rfl, rfl⟩ := hrel
    go_wp2
    go_ret
    exact ⟨rfl, rfl⟩

theorem stillInts_no (K : Nat) (w : World) (c : w.cell? ⟨K, 2, none⟩ = some (.slice none 0 0)) : Calls Tryz.prog 35 #[.pointer (some ⟨K, 0, none⟩)] w fun e w' => e = .returned (.bool true) ∧ w = w' := by
  go_enter Tryz.func35, Tryz.ntmps35
  go_wp2
  go_loopw [3] (fun i wr => i = .int .i64 0 ∧ w = wr) (fun _ _ => 0)
  case atStart => exact ⟨rfl, rfl⟩
  case round =>
    obtain ⟨rfl, rfl⟩ := hrel
    go_wp2
    go_ret
    exact ⟨rfl, rfl⟩
theorem putInts_no (K : Nat) (w : World) (c : w.cell? ⟨K, 2, none⟩ = some (.slice none 0 0)) : Calls Tryz.prog 47 #[.pointer (some ⟨K, 0, none⟩)] w fun e w' => e = .returned (.tuple #[]) ∧ w = w' := by
  go_enter Tryz.func47, Tryz.ntmps47
  go_wp2
  go_loopw [2] (fun i wr => i = .int .i64 0 ∧ w = wr) (fun _ _ => 0)
  case atStart => exact ⟨rfl, rfl⟩
  case round =>
    obtain ⟨rfl, rfl⟩ := hrel
    go_wp2
    go_end0
    exact ⟨rfl, rfl⟩
theorem growInts_no (K : Nat) (w : World) (c : w.cell? ⟨K, 2, none⟩ = some (.slice none 0 0)) : Calls Tryz.prog 55 #[.pointer (some ⟨K, 0, none⟩)] w fun e w' => e = .returned (.slice none 0 0) ∧ w = w' := by
  go_enter Tryz.func55, Tryz.ntmps55
  go_wp2
  go_loopw [3, 4] (fun o i wr => o = .slice none 0 0 ∧ i = .int .i64 0 ∧ w = wr) (fun _ _ _ => 0)
  case atStart => exact ⟨rfl, rfl, rfl⟩
  case round =>
    obtain ⟨rfl, rfl, rfl⟩ := hrel
    go_wp2
    go_ret
    exact ⟨rfl, rfl⟩
theorem markedInts_no (w : World) : Calls Tryz.prog 65 #[.slice none 0 0] w fun e w' => e = .returned (.bool true) ∧ w = w' := by
  go_enter Tryz.func65, Tryz.ntmps65
  go_wp2
  go_loopw [3] (fun i wr => i = .int .i64 0 ∧ w = wr) (fun _ _ => 0)
  case atStart => exact ⟨rfl, rfl⟩
  case round =>
    obtain ⟨rfl, rfl⟩ := hrel
    go_wp2
    go_ret
    exact ⟨rfl, rfl⟩

theorem stillRunes_no (K : Nat) (w : World) (c : w.cell? ⟨K, 4, none⟩ = some (.slice none 0 0)) : Calls Tryz.prog 36 #[.pointer (some ⟨K, 0, none⟩)] w fun e w' => e = .returned (.bool true) ∧ w = w' := by
  go_enter Tryz.func36, Tryz.ntmps36
  go_wp2
  go_loopw [3] (fun i wr => i = .int .i64 0 ∧ w = wr) (fun _ _ => 0)
  case atStart => exact ⟨rfl, rfl⟩
  case round =>
    obtain ⟨rfl, rfl⟩ := hrel
    go_wp2
    go_ret
    exact ⟨rfl, rfl⟩
theorem putRunes_no (K : Nat) (w : World) (c : w.cell? ⟨K, 4, none⟩ = some (.slice none 0 0)) : Calls Tryz.prog 48 #[.pointer (some ⟨K, 0, none⟩)] w fun e w' => e = .returned (.tuple #[]) ∧ w = w' := by
  go_enter Tryz.func48, Tryz.ntmps48
  go_wp2
  go_loopw [2] (fun i wr => i = .int .i64 0 ∧ w = wr) (fun _ _ => 0)
  case atStart => exact ⟨rfl, rfl⟩
  case round =>
    obtain ⟨rfl, rfl⟩ := hrel
    go_wp2
    go_end0
    exact ⟨rfl, rfl⟩
theorem growRunes_no (K : Nat) (w : World) (c : w.cell? ⟨K, 4, none⟩ = some (.slice none 0 0)) : Calls Tryz.prog 56 #[.pointer (some ⟨K, 0, none⟩)] w fun e w' => e = .returned (.slice none 0 0) ∧ w = w' := by
  go_enter Tryz.func56, Tryz.ntmps56
  go_wp2
  go_loopw [3, 4] (fun o i wr => o = .slice none 0 0 ∧ i = .int .i64 0 ∧ w = wr) (fun _ _ _ => 0)
  case atStart => exact ⟨rfl, rfl, rfl⟩
  case round =>
    obtain ⟨rfl, rfl, rfl⟩ := hrel
    go_wp2
    go_ret
    exact ⟨rfl, rfl⟩
theorem markedRunes_no (w : World) : Calls Tryz.prog 66 #[.slice none 0 0] w fun e w' => e = .returned (.bool true) ∧ w = w' := by
  go_enter Tryz.func66, Tryz.ntmps66
  go_wp2
  go_loopw [3] (fun i wr => i = .int .i64 0 ∧ w = wr) (fun _ _ => 0)
  case atStart => exact ⟨rfl, rfl⟩
  case round =>
    obtain ⟨rfl, rfl⟩ := hrel
    go_wp2
    go_ret
    exact ⟨rfl, rfl⟩

theorem stillLabels_no (K : Nat) (w : World) (c : w.cell? ⟨K, 6, none⟩ = some (.slice none 0 0)) : Calls Tryz.prog 37 #[.pointer (some ⟨K, 0, none⟩)] w fun e w' => e = .returned (.bool true) ∧ w = w' := by
  go_enter Tryz.func37, Tryz.ntmps37
  go_wp2
  go_loopw [3] (fun i wr => i = .int .i64 0 ∧ w = wr) (fun _ _ => 0)
  case atStart => exact ⟨rfl, rfl⟩
  case round =>
    obtain ⟨rfl, rfl⟩ := hrel
    go_wp2
    go_ret
    exact ⟨rfl, rfl⟩
theorem putLabels_no (K : Nat) (w : World) (c : w.cell? ⟨K, 6, none⟩ = some (.slice none 0 0)) : Calls Tryz.prog 49 #[.pointer (some ⟨K, 0, none⟩)] w fun e w' => e = .returned (.tuple #[]) ∧ w = w' := by
  go_enter Tryz.func49, Tryz.ntmps49
  go_wp2
  go_loopw [2] (fun i wr => i = .int .i64 0 ∧ w = wr) (fun _ _ => 0)
  case atStart => exact ⟨rfl, rfl⟩
  case round =>
    obtain ⟨rfl, rfl⟩ := hrel
    go_wp2
    go_end0
    exact ⟨rfl, rfl⟩
theorem growLabels_no (K : Nat) (w : World) (c : w.cell? ⟨K, 6, none⟩ = some (.slice none 0 0)) : Calls Tryz.prog 57 #[.pointer (some ⟨K, 0, none⟩)] w fun e w' => e = .returned (.slice none 0 0) ∧ w = w' := by
  go_enter Tryz.func57, Tryz.ntmps57
  go_wp2
  go_loopw [3, 4] (fun o i wr => o = .slice none 0 0 ∧ i = .int .i64 0 ∧ w = wr) (fun _ _ _ => 0)
  case atStart => exact ⟨rfl, rfl, rfl⟩
  case round =>
    obtain ⟨rfl, rfl, rfl⟩ := hrel
    go_wp2
    go_ret
    exact ⟨rfl, rfl⟩
theorem markedLabels_no (w : World) : Calls Tryz.prog 67 #[.slice none 0 0] w fun e w' => e = .returned (.bool true) ∧ w = w' := by
  go_enter Tryz.func67, Tryz.ntmps67
  go_wp2
  go_loopw [3] (fun i wr => i = .int .i64 0 ∧ w = wr) (fun _ _ => 0)
  case atStart => exact ⟨rfl, rfl⟩
  case round =>
    obtain ⟨rfl, rfl⟩ := hrel
    go_wp2
    go_ret
    exact ⟨rfl, rfl⟩

theorem stillPoints_no (K : Nat) (w : World) (c : w.cell? ⟨K, 8, none⟩ = some (.slice none 0 0)) : Calls Tryz.prog 38 #[.pointer (some ⟨K, 0, none⟩)] w fun e w' => e = .returned (.bool true) ∧ w = w' := by
  go_enter Tryz.func38, Tryz.ntmps38
  go_wp2
  go_loopw [3] (fun i wr => i = .int .i64 0 ∧ w = wr) (fun _ _ => 0)
  case atStart => exact ⟨rfl, rfl⟩
  case round =>
    obtain ⟨rfl, rfl⟩ := hrel
    go_wp2
    go_ret
    exact ⟨rfl, rfl⟩
theorem putPoints_no (K : Nat) (w : World) (c : w.cell? ⟨K, 8, none⟩ = some (.slice none 0 0)) : Calls Tryz.prog 50 #[.pointer (some ⟨K, 0, none⟩)] w fun e w' => e = .returned (.tuple #[]) ∧ w = w' := by
  go_enter Tryz.func50, Tryz.ntmps50
  go_wp2
  go_loopw [2] (fun i wr => i = .int .i64 0 ∧ w = wr) (fun _ _ => 0)
  case atStart => exact ⟨rfl, rfl⟩
  case round =>
    obtain ⟨rfl, rfl⟩ := hrel
    go_wp2
    go_end0
    exact ⟨rfl, rfl⟩
theorem growPoints_no (K : Nat) (w : World) (c : w.cell? ⟨K, 8, none⟩ = some (.slice none 0 0)) : Calls Tryz.prog 58 #[.pointer (some ⟨K, 0, none⟩)] w fun e w' => e = .returned (.slice none 0 0) ∧ w = w' := by
  go_enter Tryz.func58, Tryz.ntmps58
  go_wp2
  go_loopw [3, 4] (fun o i wr => o = .slice none 0 0 ∧ i = .int .i64 0 ∧ w = wr) (fun _ _ _ => 0)
  case atStart => exact ⟨rfl, rfl, rfl⟩
  case round =>
    obtain ⟨rfl, rfl, rfl⟩ := hrel
    go_wp2
    go_ret
    exact ⟨rfl, rfl⟩
theorem markedPoints_no (w : World) : Calls Tryz.prog 68 #[.slice none 0 0] w fun e w' => e = .returned (.bool true) ∧ w = w' := by
  go_enter Tryz.func68, Tryz.ntmps68
  go_wp2
  go_loopw [3] (fun i wr => i = .int .i64 0 ∧ w = wr) (fun _ _ => 0)
  case atStart => exact ⟨rfl, rfl⟩
  case round =>
    obtain ⟨rfl, rfl⟩ := hrel
    go_wp2
    go_ret
    exact ⟨rfl, rfl⟩

theorem stillTokens_no (K : Nat) (w : World) (c : w.cell? ⟨K, 10, none⟩ = some (.slice none 0 0)) : Calls Tryz.prog 39 #[.pointer (some ⟨K, 0, none⟩)] w fun e w' => e = .returned (.bool true) ∧ w = w' := by
  go_enter Tryz.func39, Tryz.ntmps39
  go_wp2
  go_loopw [3] (fun i wr => i = .int .i64 0 ∧ w = wr) (fun _ _ => 0)
  case atStart => exact ⟨rfl, rfl⟩
  case round =>
    obtain ⟨rfl, rfl⟩ := hrel
    go_wp2
    go_ret
    exact ⟨rfl, rfl⟩
theorem putTokens_no (K : Nat) (w : World) (c : w.cell? ⟨K, 10, none⟩ = some (.slice none 0 0)) : Calls Tryz.prog 51 #[.pointer (some ⟨K, 0, none⟩)] w fun e w' => e = .returned (.tuple #[]) ∧ w = w' := by
  go_enter Tryz.func51, Tryz.ntmps51
  go_wp2
  go_loopw [2] (fun i wr => i = .int .i64 0 ∧ w = wr) (fun _ _ => 0)
  case atStart => exact ⟨rfl, rfl⟩
  case round =>
    obtain ⟨rfl, rfl⟩ := hrel
    go_wp2
    go_end0
    exact ⟨rfl, rfl⟩
theorem growTokens_no (K : Nat) (w : World) (c : w.cell? ⟨K, 10, none⟩ = some (.slice none 0 0)) : Calls Tryz.prog 59 #[.pointer (some ⟨K, 0, none⟩)] w fun e w' => e = .returned (.slice none 0 0) ∧ w = w' := by
  go_enter Tryz.func59, Tryz.ntmps59
  go_wp2
  go_loopw [3, 4] (fun o i wr => o = .slice none 0 0 ∧ i = .int .i64 0 ∧ w = wr) (fun _ _ _ => 0)
  case atStart => exact ⟨rfl, rfl, rfl⟩
  case round =>
    obtain ⟨rfl, rfl, rfl⟩ := hrel
    go_wp2
    go_ret
    exact ⟨rfl, rfl⟩
theorem markedTokens_no (w : World) : Calls Tryz.prog 69 #[.slice none 0 0] w fun e w' => e = .returned (.bool true) ∧ w = w' := by
  go_enter Tryz.func69, Tryz.ntmps69
  go_wp2
  go_loopw [3] (fun i wr => i = .int .i64 0 ∧ w = wr) (fun _ _ => 0)
  case atStart => exact ⟨rfl, rfl⟩
  case round =>
    obtain ⟨rfl, rfl⟩ := hrel
    go_wp2
    go_ret
    exact ⟨rfl, rfl⟩

theorem stillCursors_no (K : Nat) (w : World) (c : w.cell? ⟨K, 12, none⟩ = some (.slice none 0 0)) : Calls Tryz.prog 40 #[.pointer (some ⟨K, 0, none⟩)] w fun e w' => e = .returned (.bool true) ∧ w = w' := by
  go_enter Tryz.func40, Tryz.ntmps40
  go_wp2
  go_loopw [3] (fun i wr => i = .int .i64 0 ∧ w = wr) (fun _ _ => 0)
  case atStart => exact ⟨rfl, rfl⟩
  case round =>
    obtain ⟨rfl, rfl⟩ := hrel
    go_wp2
    go_ret
    exact ⟨rfl, rfl⟩
theorem putCursors_no (K : Nat) (w : World) (c : w.cell? ⟨K, 12, none⟩ = some (.slice none 0 0)) : Calls Tryz.prog 52 #[.pointer (some ⟨K, 0, none⟩)] w fun e w' => e = .returned (.tuple #[]) ∧ w = w' := by
  go_enter Tryz.func52, Tryz.ntmps52
  go_wp2
  go_loopw [2] (fun i wr => i = .int .i64 0 ∧ w = wr) (fun _ _ => 0)
  case atStart => exact ⟨rfl, rfl⟩
  case round =>
    obtain ⟨rfl, rfl⟩ := hrel
    go_wp2
    go_end0
    exact ⟨rfl, rfl⟩
theorem growCursors_no (K : Nat) (w : World) (c : w.cell? ⟨K, 12, none⟩ = some (.slice none 0 0)) : Calls Tryz.prog 60 #[.pointer (some ⟨K, 0, none⟩)] w fun e w' => e = .returned (.slice none 0 0) ∧ w = w' := by
  go_enter Tryz.func60, Tryz.ntmps60
  go_wp2
  go_loopw [3, 4] (fun o i wr => o = .slice none 0 0 ∧ i = .int .i64 0 ∧ w = wr) (fun _ _ _ => 0)
  case atStart => exact ⟨rfl, rfl, rfl⟩
  case round =>
    obtain ⟨rfl, rfl, rfl⟩ := hrel
    go_wp2
    go_ret
    exact ⟨rfl, rfl⟩
theorem markedCursors_no (w : World) : Calls Tryz.prog 70 #[.slice none 0 0] w fun e w' => e = .returned (.bool true) ∧ w = w' := by
  go_enter Tryz.func70, Tryz.ntmps70
  go_wp2
  go_loopw [3] (fun i wr => i = .int .i64 0 ∧ w = wr) (fun _ _ => 0)
  case atStart => exact ⟨rfl, rfl⟩
  case round =>
    obtain ⟨rfl, rfl⟩ := hrel
    go_wp2
    go_ret
    exact ⟨rfl, rfl⟩

theorem stillNotes_no (K : Nat) (w : World) (c : w.cell? ⟨K, 14, none⟩ = some (.slice none 0 0)) : Calls Tryz.prog 41 #[.pointer (some ⟨K, 0, none⟩)] w fun e w' => e = .returned (.bool true) ∧ w = w' := by
  go_enter Tryz.func41, Tryz.ntmps41
  go_wp2
  go_loopw [3] (fun i wr => i = .int .i64 0 ∧ w = wr) (fun _ _ => 0)
  case atStart => exact ⟨rfl, rfl⟩
  case round =>
    obtain ⟨rfl, rfl⟩ := hrel
    go_wp2
    go_ret
    exact ⟨rfl, rfl⟩
theorem putNotes_no (K : Nat) (w : World) (c : w.cell? ⟨K, 14, none⟩ = some (.slice none 0 0)) : Calls Tryz.prog 53 #[.pointer (some ⟨K, 0, none⟩)] w fun e w' => e = .returned (.tuple #[]) ∧ w = w' := by
  go_enter Tryz.func53, Tryz.ntmps53
  go_wp2
  go_loopw [2] (fun i wr => i = .int .i64 0 ∧ w = wr) (fun _ _ => 0)
  case atStart => exact ⟨rfl, rfl⟩
  case round =>
    obtain ⟨rfl, rfl⟩ := hrel
    go_wp2
    go_end0
    exact ⟨rfl, rfl⟩
theorem growNotes_no (K : Nat) (w : World) (c : w.cell? ⟨K, 14, none⟩ = some (.slice none 0 0)) : Calls Tryz.prog 61 #[.pointer (some ⟨K, 0, none⟩)] w fun e w' => e = .returned (.slice none 0 0) ∧ w = w' := by
  go_enter Tryz.func61, Tryz.ntmps61
  go_wp2
  go_loopw [3, 4] (fun o i wr => o = .slice none 0 0 ∧ i = .int .i64 0 ∧ w = wr) (fun _ _ _ => 0)
  case atStart => exact ⟨rfl, rfl, rfl⟩
  case round =>
    obtain ⟨rfl, rfl, rfl⟩ := hrel
    go_wp2
    go_ret
    exact ⟨rfl, rfl⟩
theorem markedNotes_no (w : World) : Calls Tryz.prog 71 #[.slice none 0 0] w fun e w' => e = .returned (.bool true) ∧ w = w' := by
  go_enter Tryz.func71, Tryz.ntmps71
  go_wp2
  go_loopw [3] (fun i wr => i = .int .i64 0 ∧ w = wr) (fun _ _ => 0)
  case atStart => exact ⟨rfl, rfl⟩
  case round =>
    obtain ⟨rfl, rfl⟩ := hrel
    go_wp2
    go_ret
    exact ⟨rfl, rfl⟩

theorem stillSeries_no (K : Nat) (w : World) (c : w.cell? ⟨K, 18, none⟩ = some (.slice none 0 0)) : Calls Tryz.prog 43 #[.pointer (some ⟨K, 0, none⟩)] w fun e w' => e = .returned (.bool true) ∧ w = w' := by
  go_enter Tryz.func43, Tryz.ntmps43
  go_wp2
  go_loopw [3] (fun i wr => i = .int .i64 0 ∧ w = wr) (fun _ _ => 0)
  case atStart => exact ⟨rfl, rfl⟩
  case round =>
    obtain ⟨rfl, rfl⟩ := hrel
    go_wp2
    go_ret
    exact ⟨rfl, rfl⟩
theorem putSeries_no (K : Nat) (w : World) (c : w.cell? ⟨K, 18, none⟩ = some (.slice none 0 0)) : Calls Tryz.prog 45 #[.pointer (some ⟨K, 0, none⟩)] w fun e w' => e = .returned (.tuple #[]) ∧ w = w' := by
  go_enter Tryz.func45, Tryz.ntmps45
  go_wp2
  go_loopw [2] (fun i wr => i = .int .i64 0 ∧ w = wr) (fun _ _ => 0)
  case atStart => exact ⟨rfl, rfl⟩
  case round =>
    obtain ⟨rfl, rfl⟩ := hrel
    go_wp2
    go_end0
    exact ⟨rfl, rfl⟩
theorem growSeries_no (K : Nat) (w : World) (c : w.cell? ⟨K, 18, none⟩ = some (.slice none 0 0)) : Calls Tryz.prog 63 #[.pointer (some ⟨K, 0, none⟩)] w fun e w' => e = .returned (.slice none 0 0) ∧ w = w' := by
  go_enter Tryz.func63, Tryz.ntmps63
  go_wp2
  go_loopw [3, 4] (fun o i wr => o = .slice none 0 0 ∧ i = .int .i64 0 ∧ w = wr) (fun _ _ _ => 0)
  case atStart => exact ⟨rfl, rfl, rfl⟩
  case round =>
    obtain ⟨rfl, rfl, rfl⟩ := hrel
    go_wp2
    go_ret
    exact ⟨rfl, rfl⟩
theorem markedSeries_no (w : World) : Calls Tryz.prog 73 #[.slice none 0 0] w fun e w' => e = .returned (.bool true) ∧ w = w' := by
  go_enter Tryz.func73, Tryz.ntmps73
  go_wp2
  go_loopw [3] (fun i wr => i = .int .i64 0 ∧ w = wr) (fun _ _ => 0)
  case atStart => exact ⟨rfl, rfl⟩
  case round =>
    obtain ⟨rfl, rfl⟩ := hrel
    go_wp2
    go_ret
    exact ⟨rfl, rfl⟩


set_option maxHeartbeats 16000000 in
set_option maxRecDepth 100000 in
theorem apart_any (K : Nat) (T V : Lst) (ls cs : List Lst) (w : World) (hk : ls.length ≤ 250) (hcs : cs.length = ls.length) (h : Kept w K T V ls cs) (hp : Parted ls)
    (hown : ∀ (j : Nat) (l c : Lst), ls[j]? = some l → cs[j]? = some c → l.n ≤ 100000 ∧ c.n = l.n ∧ ∃ (rs : List Rw) (zs zc : List Hd), w.ownsRow 0 34 2 l.v l.n (bkR zs) ∧ w.ownsRow 0 34 2 c.v c.n (bkR zc) ∧ Rows w l.A l.n rs ∧ Rows w c.A l.n rs ∧ ∀ r ∈ rs, r.l.length ≤ 1000000) :
    Calls Tryz.prog 14 #[.pointer (some ⟨K, 0, none⟩)] w fun e w' => e = .returned (.bool true) ∧ GrS (InL ls) w w' := by
  obtain ⟨hblk, hT, hV, nT, nV, hne⟩ := h
  have has : ∀ (j : Nat) (l : Lst), ls[j]? = some l → ∃ c, cs[j]? = some c := fun j l hl => by
    have := (List.getElem?_eq_some_iff.1 hl).1
    exact ⟨_, List.getElem?_eq_getElem (by omega)⟩
  have hKn : ¬ InL ls K := by
    rintro ⟨l, hm, hb⟩
    obtain ⟨j, hj⟩ := List.getElem?_of_mem hm
    obtain ⟨c, hc⟩ := has j l hj
    obtain ⟨_, _, rs, zs, zc, ho, _⟩ := hown j l c hj hc
    rcases own_not_bk ho hblk (by decide) with h1 | h1
    · rw [hb] at h1; cases h1
    · exact h1 hb
  have hTn : ∀ a, T.A = some a → ¬ InL ls a.block := by
    rintro a ha ⟨l, hm, hb⟩
    obtain ⟨j, hj⟩ := List.getElem?_of_mem hm
    obtain ⟨c, hc⟩ := has j l hj
    obtain ⟨_, _, rs, zs, zc, ho, _⟩ := hown j l c hj hc
    rcases own_types ho hT (by decide) with h1 | h1
    · rw [hb] at h1; cases h1
    · exact h1 (hb.trans (own_blk ha).symm)
  have hrT : Row w T.A ls.length 1 (ls.map Lst.v) := by rw [← nT]; exact row_own hT
  have hrV : Row w V.A ls.length 1 (cs.map Lst.v) := by rw [← hcs, ← nV]; exact row_own hV
  have hs1 := still_any K T V ls cs w hk nT (by omega) hcs (bk_cell hblk rfl) (bk_cell hblk rfl) hrT hrV (fun i l c hl hc => by
    obtain ⟨h1, h2, rs, zs, zc, _, _, h5, h6, h7⟩ := hown i l c hl hc
    exact ⟨h2, h1, rs, h5, h6, h7⟩)
  have hown1 : ∀ (j : Nat) (l : Lst), ls[j]? = some l → l.n ≤ 100000 ∧ ∃ zs : List Hd, w.ownsRow 0 34 2 l.v l.n (bkR zs) := fun j l hl => by
    obtain ⟨c, hc⟩ := has j l hl
    obtain ⟨h1, _, rs, zs, zc, h3, _⟩ := hown j l c hl hc
    exact ⟨h1, zs, h3⟩
  have dwTexts : w.cell? ⟨K, 0, none⟩ = some (.slice none 0 0) := bk_cell hblk rfl
  have dwInts : w.cell? ⟨K, 2, none⟩ = some (.slice none 0 0) := bk_cell hblk rfl
  have dwRunes : w.cell? ⟨K, 4, none⟩ = some (.slice none 0 0) := bk_cell hblk rfl
  have dwLabels : w.cell? ⟨K, 6, none⟩ = some (.slice none 0 0) := bk_cell hblk rfl
  have dwPoints : w.cell? ⟨K, 8, none⟩ = some (.slice none 0 0) := bk_cell hblk rfl
  have dwTokens : w.cell? ⟨K, 10, none⟩ = some (.slice none 0 0) := bk_cell hblk rfl
  have dwCursors : w.cell? ⟨K, 12, none⟩ = some (.slice none 0 0) := bk_cell hblk rfl
  have dwNotes : w.cell? ⟨K, 14, none⟩ = some (.slice none 0 0) := bk_cell hblk rfl
  have dwRows : w.cell? ⟨K, 16, none⟩ = some (T.v) := bk_cell hblk rfl
  have dwSeries : w.cell? ⟨K, 18, none⟩ = some (.slice none 0 0) := bk_cell hblk rfl
  clear hown hV hrV nV hne
  replace hblk := Lib.hid hblk
  replace hKn := Lib.hid hKn
  replace hTn := Lib.hid hTn
  replace hrT := Lib.hid hrT
  replace hs1 := Lib.hid hs1
  replace hown1 := Lib.hid hown1
  replace hp := Lib.hid hp
  replace has := Lib.hid has
  replace hT := Lib.hid hT
  replace nT := Lib.hid nT
  go_enter Tryz.func14, Tryz.ntmps14

  go_wp2_with fail
  refine (stillTexts_no K _ dwTexts).mono ?_
  rintro e w9 ⟨rfl, rfl⟩

  go_wp2_with fail
  refine (stillInts_no K _ dwInts).mono ?_
  rintro e w9 ⟨rfl, rfl⟩

  go_wp2_with fail
  refine (stillRunes_no K _ dwRunes).mono ?_
  rintro e w9 ⟨rfl, rfl⟩

  go_wp2_with fail
  refine (stillLabels_no K _ dwLabels).mono ?_
  rintro e w9 ⟨rfl, rfl⟩

  go_wp2_with fail
  refine (stillPoints_no K _ dwPoints).mono ?_
  rintro e w9 ⟨rfl, rfl⟩

  go_wp2_with fail
  refine (stillTokens_no K _ dwTokens).mono ?_
  rintro e w9 ⟨rfl, rfl⟩

  go_wp2_with fail
  refine (stillCursors_no K _ dwCursors).mono ?_
  rintro e w9 ⟨rfl, rfl⟩

  go_wp2_with fail
  refine (stillNotes_no K _ dwNotes).mono ?_
  rintro e w9 ⟨rfl, rfl⟩

  go_wp2_with fail
  refine hs1.out.mono ?_
  rintro e w1 ⟨rfl, g1⟩
  have hblk1 := gr_blk g1 hblk.out (by simp)
  have dw1Texts : w1.cell? ⟨K, 0, none⟩ = some (.slice none 0 0) := bk_cell hblk1 rfl
  have dw1Ints : w1.cell? ⟨K, 2, none⟩ = some (.slice none 0 0) := bk_cell hblk1 rfl
  have dw1Runes : w1.cell? ⟨K, 4, none⟩ = some (.slice none 0 0) := bk_cell hblk1 rfl
  have dw1Labels : w1.cell? ⟨K, 6, none⟩ = some (.slice none 0 0) := bk_cell hblk1 rfl
  have dw1Points : w1.cell? ⟨K, 8, none⟩ = some (.slice none 0 0) := bk_cell hblk1 rfl
  have dw1Tokens : w1.cell? ⟨K, 10, none⟩ = some (.slice none 0 0) := bk_cell hblk1 rfl
  have dw1Cursors : w1.cell? ⟨K, 12, none⟩ = some (.slice none 0 0) := bk_cell hblk1 rfl
  have dw1Notes : w1.cell? ⟨K, 14, none⟩ = some (.slice none 0 0) := bk_cell hblk1 rfl
  have dw1Rows : w1.cell? ⟨K, 16, none⟩ = some (T.v) := bk_cell hblk1 rfl
  have dw1Series : w1.cell? ⟨K, 18, none⟩ = some (.slice none 0 0) := bk_cell hblk1 rfl
  have hrT1 := row_gr hrT.out g1
  have hpt := put_any K T ls w1 hk nT.out dw1Rows hrT1 hKn.out hTn.out hp.out (fun j l hl => by
    obtain ⟨h1, zs, h3⟩ := hown1.out j l hl
    exact ⟨h1, zs, h3.kept g1 (by cases l.v.ownBlock <;> simp)⟩)
  clear dwTexts dwInts dwRunes dwLabels dwPoints dwTokens dwCursors dwNotes dwRows dwSeries
  replace hblk1 := Lib.hid hblk1
  replace hrT1 := Lib.hid hrT1
  replace hpt := Lib.hid hpt
  replace g1 := Lib.hid g1

  go_wp2_with fail
  refine (stillSeries_no K _ dw1Series).mono ?_
  rintro e w9 ⟨rfl, rfl⟩

  go_wp2_with fail
  refine hpt.out.mono ?_
  rintro e w2 ⟨rfl, g2, hown2⟩
  have hblk2 := grs_blk g2 hblk1.out hKn.out
  have dw2Texts : w2.cell? ⟨K, 0, none⟩ = some (.slice none 0 0) := bk_cell hblk2 rfl
  have dw2Ints : w2.cell? ⟨K, 2, none⟩ = some (.slice none 0 0) := bk_cell hblk2 rfl
  have dw2Runes : w2.cell? ⟨K, 4, none⟩ = some (.slice none 0 0) := bk_cell hblk2 rfl
  have dw2Labels : w2.cell? ⟨K, 6, none⟩ = some (.slice none 0 0) := bk_cell hblk2 rfl
  have dw2Points : w2.cell? ⟨K, 8, none⟩ = some (.slice none 0 0) := bk_cell hblk2 rfl
  have dw2Tokens : w2.cell? ⟨K, 10, none⟩ = some (.slice none 0 0) := bk_cell hblk2 rfl
  have dw2Cursors : w2.cell? ⟨K, 12, none⟩ = some (.slice none 0 0) := bk_cell hblk2 rfl
  have dw2Notes : w2.cell? ⟨K, 14, none⟩ = some (.slice none 0 0) := bk_cell hblk2 rfl
  have dw2Rows : w2.cell? ⟨K, 16, none⟩ = some (T.v) := bk_cell hblk2 rfl
  have dw2Series : w2.cell? ⟨K, 18, none⟩ = some (.slice none 0 0) := bk_cell hblk2 rfl
  have hrT2 := row_grs hrT1.out g2 hTn.out
  have hgt := grow_any K T ls w2 hk nT.out dw2Rows hrT2 hKn.out hTn.out hp.out (fun j l hl => ⟨(hown1.out j l hl).1, hown2 j l hl⟩)
  clear dw1Texts dw1Ints dw1Runes dw1Labels dw1Points dw1Tokens dw1Cursors dw1Notes dw1Rows dw1Series
  replace hblk2 := Lib.hid hblk2
  replace hrT2 := Lib.hid hrT2
  replace hgt := Lib.hid hgt
  replace g2 := Lib.hid g2
  replace hown2 := Lib.hid hown2

  go_wp2_with fail
  refine (putSeries_no K _ dw2Series).mono ?_
  rintro e w9 ⟨rfl, rfl⟩

  go_wp2_with fail
  refine (putTexts_no K _ dw2Texts).mono ?_
  rintro e w9 ⟨rfl, rfl⟩

  go_wp2_with fail
  refine (putInts_no K _ dw2Ints).mono ?_
  rintro e w9 ⟨rfl, rfl⟩

  go_wp2_with fail
  refine (putRunes_no K _ dw2Runes).mono ?_
  rintro e w9 ⟨rfl, rfl⟩

  go_wp2_with fail
  refine (putLabels_no K _ dw2Labels).mono ?_
  rintro e w9 ⟨rfl, rfl⟩

  go_wp2_with fail
  refine (putPoints_no K _ dw2Points).mono ?_
  rintro e w9 ⟨rfl, rfl⟩

  go_wp2_with fail
  refine (putTokens_no K _ dw2Tokens).mono ?_
  rintro e w9 ⟨rfl, rfl⟩

  go_wp2_with fail
  refine (putCursors_no K _ dw2Cursors).mono ?_
  rintro e w9 ⟨rfl, rfl⟩

  go_wp2_with fail
  refine (putNotes_no K _ dw2Notes).mono ?_
  rintro e w9 ⟨rfl, rfl⟩

  go_wp2_with fail
  refine (growTexts_no K _ dw2Texts).mono ?_
  rintro e w9 ⟨rfl, rfl⟩

  go_wp2_with fail
  refine (growInts_no K _ dw2Ints).mono ?_
  rintro e w9 ⟨rfl, rfl⟩

  go_wp2_with fail
  refine (growRunes_no K _ dw2Runes).mono ?_
  rintro e w9 ⟨rfl, rfl⟩

  go_wp2_with fail
  refine (growLabels_no K _ dw2Labels).mono ?_
  rintro e w9 ⟨rfl, rfl⟩

  go_wp2_with fail
  refine (growPoints_no K _ dw2Points).mono ?_
  rintro e w9 ⟨rfl, rfl⟩

  go_wp2_with fail
  refine (growTokens_no K _ dw2Tokens).mono ?_
  rintro e w9 ⟨rfl, rfl⟩

  go_wp2_with fail
  refine (growCursors_no K _ dw2Cursors).mono ?_
  rintro e w9 ⟨rfl, rfl⟩

  go_wp2_with fail
  refine (growNotes_no K _ dw2Notes).mono ?_
  rintro e w9 ⟨rfl, rfl⟩

  go_wp2_with fail
  refine hgt.out.mono ?_
  rintro e w3 ⟨gA, gc, gs, rfl, hgl, hrG, hgg, hll, g3⟩
  have hblk3 := grs_blk g3 hblk2.out hKn.out
  have dw3Texts : w3.cell? ⟨K, 0, none⟩ = some (.slice none 0 0) := bk_cell hblk3 rfl
  have dw3Ints : w3.cell? ⟨K, 2, none⟩ = some (.slice none 0 0) := bk_cell hblk3 rfl
  have dw3Runes : w3.cell? ⟨K, 4, none⟩ = some (.slice none 0 0) := bk_cell hblk3 rfl
  have dw3Labels : w3.cell? ⟨K, 6, none⟩ = some (.slice none 0 0) := bk_cell hblk3 rfl
  have dw3Points : w3.cell? ⟨K, 8, none⟩ = some (.slice none 0 0) := bk_cell hblk3 rfl
  have dw3Tokens : w3.cell? ⟨K, 10, none⟩ = some (.slice none 0 0) := bk_cell hblk3 rfl
  have dw3Cursors : w3.cell? ⟨K, 12, none⟩ = some (.slice none 0 0) := bk_cell hblk3 rfl
  have dw3Notes : w3.cell? ⟨K, 14, none⟩ = some (.slice none 0 0) := bk_cell hblk3 rfl
  have dw3Rows : w3.cell? ⟨K, 16, none⟩ = some (T.v) := bk_cell hblk3 rfl
  have dw3Series : w3.cell? ⟨K, 18, none⟩ = some (.slice none 0 0) := bk_cell hblk3 rfl
  have hrT3 := row_grs hrT2.out g3 hTn.out
  have hmG : ∀ w', Gr w3 w' → Calls Tryz.prog 72 #[.slice gA ls.length gc] w' fun e w'' => e = .returned (.bool true) ∧ Gr w' w'' := fun w' g => marked_any gA ls.length gc gs w' hgl hk (row_gr hrG g) (fun i m hm => by
    have hi := (List.getElem?_eq_some_iff.1 hm).1
    have hl : ls[i]? = some (ls[i]'(by omega)) := List.getElem?_eq_getElem (by omega)
    obtain ⟨h1, h2⟩ := hgg i _ m hl hm
    have := (hown1.out i _ hl).1
    exact ⟨by omega, row_gr h2 g⟩)
  have hmT : ∀ w', Gr w3 w' → Calls Tryz.prog 72 #[T.v] w' fun e w'' => e = .returned (.bool true) ∧ Gr w' w'' := fun w' g => by
    obtain ⟨TA, Tn, Tc⟩ := T
    have hn : Tn = ls.length := nT.out
    subst hn
    exact marked_any TA ls.length Tc ls w' rfl hk (row_gr hrT3 g) (fun i m hm => ⟨by have := (hown1.out i m hm).1; omega, row_gr (hll i m hm) g⟩)
  clear dw2Texts dw2Ints dw2Runes dw2Labels dw2Points dw2Tokens dw2Cursors dw2Notes dw2Rows dw2Series
  clear hgg hll hrG hrT3 hgl
  replace hmG := Lib.hid hmG
  replace hmT := Lib.hid hmT
  replace hblk3 := Lib.hid hblk3
  replace g3 := Lib.hid g3
  have hT3 : Hid (T.n = ls.length) := nT
  obtain ⟨TA, Tn, Tc⟩ := T
  simp only [Lst.v] at dw3Rows

  go_wp2_with fail
  refine (growSeries_no K _ dw3Series).mono ?_
  rintro e w9 ⟨rfl, rfl⟩

  go_wp2_with fail
  refine (markedTexts_no _).mono ?_
  rintro e w9 ⟨rfl, rfl⟩

  go_wp2_with fail
  refine (markedTexts_no _).mono ?_
  rintro e w9 ⟨rfl, rfl⟩

  go_wp2_with fail
  refine (markedInts_no _).mono ?_
  rintro e w9 ⟨rfl, rfl⟩

  go_wp2_with fail
  refine (markedInts_no _).mono ?_
  rintro e w9 ⟨rfl, rfl⟩

  go_wp2_with fail
  refine (markedRunes_no _).mono ?_
  rintro e w9 ⟨rfl, rfl⟩

  go_wp2_with fail
  refine (markedRunes_no _).mono ?_
  rintro e w9 ⟨rfl, rfl⟩

  go_wp2_with fail
  refine (markedLabels_no _).mono ?_
  rintro e w9 ⟨rfl, rfl⟩

  go_wp2_with fail
  refine (markedLabels_no _).mono ?_
  rintro e w9 ⟨rfl, rfl⟩

  go_wp2_with fail
  refine (markedPoints_no _).mono ?_
  rintro e w9 ⟨rfl, rfl⟩

  go_wp2_with fail
  refine (markedPoints_no _).mono ?_
  rintro e w9 ⟨rfl, rfl⟩

  go_wp2_with fail
  refine (markedTokens_no _).mono ?_
  rintro e w9 ⟨rfl, rfl⟩

  go_wp2_with fail
  refine (markedTokens_no _).mono ?_
  rintro e w9 ⟨rfl, rfl⟩

  go_wp2_with fail
  refine (markedCursors_no _).mono ?_
  rintro e w9 ⟨rfl, rfl⟩

  go_wp2_with fail
  refine (markedCursors_no _).mono ?_
  rintro e w9 ⟨rfl, rfl⟩

  go_wp2_with fail
  refine (markedNotes_no _).mono ?_
  rintro e w9 ⟨rfl, rfl⟩

  go_wp2_with fail
  refine (markedNotes_no _).mono ?_
  rintro e w9 ⟨rfl, rfl⟩

  go_wp2_with fail
  refine (hmG.out _ (gr_refl _ _)).mono ?_
  rintro e w4 ⟨rfl, g4⟩

  have dx := gr_cell g4 dw3Rows

  go_wp2_with fail
  refine (hmT.out _ (g4)).mono ?_
  rintro e w5 ⟨rfl, g5⟩

  have gg : Gr w3 w5 := gr_trans g4 g5

  have dw5Texts := gr_cell gg dw3Texts
  have dw5Ints := gr_cell gg dw3Ints
  have dw5Runes := gr_cell gg dw3Runes
  have dw5Labels := gr_cell gg dw3Labels
  have dw5Points := gr_cell gg dw3Points
  have dw5Tokens := gr_cell gg dw3Tokens
  have dw5Cursors := gr_cell gg dw3Cursors
  have dw5Notes := gr_cell gg dw3Notes
  have dw5Rows := gr_cell gg dw3Rows
  have dw5Series := gr_cell gg dw3Series

  clear dw3Texts dw3Ints dw3Runes dw3Labels dw3Points dw3Tokens dw3Cursors dw3Notes dw3Rows dw3Series
  replace gg := Lib.hid gg

  go_wp2_with fail
  refine (markedSeries_no _).mono ?_
  rintro e w9 ⟨rfl, rfl⟩

  go_wp2_with fail
  refine (markedSeries_no _).mono ?_
  rintro e w9 ⟨rfl, rfl⟩

  go_wp2
  go_ret
  exact ⟨rfl, grs_trans (grs_trans (grs_gr _ g1.out) (grs_trans g2.out g3.out)) (grs_gr _ gg.out)⟩
end Go.Proofs.YtbnacoakjhhndaaGreat.BkW
