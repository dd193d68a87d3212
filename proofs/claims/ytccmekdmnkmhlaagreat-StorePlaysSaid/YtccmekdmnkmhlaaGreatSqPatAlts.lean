/-
  What the reader's alternatives read: a whole pattern. No condition but that the reader reads these runes, and that they are few.
-/
import Derived.Test.YtccmekdmnkmhlaaGreatSqPatRow
namespace Go.Proofs.YtccmekdmnkmhlaaGreat
open Go.RowKit

set_option maxHeartbeats 8000000 in
set_option maxRecDepth 100000 in
theorem alts_any (n : Nat) (ih : ∀ (m : Nat), m ≤ n → ∀ (H R : Nat) (l : Rs) (bad : Bool) (w : World), 3 * l.length + 2 ≤ m → l.length ≤ 1000 → H ≤ w.heap.size → RdAt H w R l bad → Calls Tryz.prog 146 #[.pointer (some ⟨R, 0, none⟩)] w (TreePost H R l.length bad (pRow m .row0 l) w))
    (H R : Nat) (l : Rs) (w : World) (hn : 3 * l.length + 3 ≤ n + 1) (hl : l.length ≤ 1000) (hH : H ≤ w.heap.size) (h : RdAt H w R l false) :
    Calls Tryz.prog 134 #[.pointer (some ⟨R, 0, none⟩)] w (TreePost H R l.length false (pAlt (n + 1) l) w) := by
  obtain ⟨ii, hi, hz0, hz1, hz2⟩ := info_parts infoAny
  have hR := h.lt
  have hRw : R < w.heap.size := by omega
  have ho : pAlt (n + 1) l = match pRow n .row0 l with | none => none | some (x, l1) => pAlts n (.alt1 x) l1 := by rw [pAlt]; rfl
  obtain ⟨o, hoe⟩ : ∃ o, o = pAlt (n + 1) l := ⟨_, rfl⟩
  rw [← hoe] at ho ⊢
  have hP := ih n (Nat.le_refl _) H R l false w (by omega) hl hH h
  replace hoe := Lib.hid hoe
  replace ho := Lib.hid ho
  replace hP := Lib.hid hP
  replace h := Lib.hid h
  replace ih := Lib.hid ih
  go_enter Tryz.func134, Tryz.ntmps134
  go_wp2_with fail
  refine hP.out.mono ?_
  rintro e W1 ⟨v, l1, bad1, rfl, ⟨vt, vu, rfl⟩, hr1, hl1, g1, hor⟩
  have hw1 : w.heap.size ≤ W1.heap.size := g1.size
  have hlit := World.ownsRow_lit (e := 20) (size := 1) W1 #[.iface vt vu] 1 (Nat.le_refl _) (by unfold maxLen; omega) rfl
  have hsa : (W1.alloc (.cells #[.iface vt vu] 20)).heap.size = W1.heap.size + 1 := by simp
  have h0 : PrtAt 202 H R w (W1.heap.size + 1) l1 bad1 [.iface vt vu] (some ⟨W1.heap.size, 0, none⟩) 1 ((W1.alloc (.cells #[.iface vt vu] 20)).alloc (.cells #[.slice (some ⟨W1.heap.size, 0, none⟩) 1 1] 202)) :=
    ⟨rd_gr (rd_gr hr1 (gr_alloc _ _ none)) (gr_alloc _ _ none), by rw [← hsa]; exact blk_new _ _, own_mono (hlit.alloc _) hw1, gr_trans (gr_trans g1 (gr_alloc _ _ _)) (gr_alloc _ _ _), by simp [IsIf]⟩
  have hyes0 : bad1 = false → ∃ x0 xs, TvAll w.heap.size (W1.heap.size + 1) (some ⟨W1.heap.size, 0, none⟩) 1 ((W1.alloc (.cells #[.iface vt vu] 20)).alloc (.cells #[.slice (some ⟨W1.heap.size, 0, none⟩) 1 1] 202)) [.iface vt vu] (x0 :: xs) ∧ o = pAlts n (xs.foldl .altS (.alt1 x0)) l1 := fun hb => by
    rcases hor with ⟨_, _, x, h1, h2⟩ | ⟨e1, _⟩
    · refine ⟨x, [], ⟨rfl, fun i u y hu hy => ?_⟩, by rw [ho.out, h1]; rfl⟩
      cases i with
      | zero =>
        obtain rfl : Value.iface vt vu = u := by simpa using hu
        obtain rfl : x = y := by simpa using hy
        refine tv_sub (fun k hk => ⟨hk.1, ?_, ?_, fun e => ?_⟩) (tv_keep (gr_trans (gr_alloc _ _ none) (gr_alloc _ _ none)) (fun k _ e => by cases e) h2)
        · omega
        · simp; omega
        · have : W1.heap.size = k := Option.some.inj e
          omega
      | succ i => simp at hu
    · rw [e1] at hb; cases hb
  have hno0 : bad1 = true → o = none := fun hb => by
    rcases hor with ⟨e1, _⟩ | ⟨_, h1 | h1⟩
    · rw [e1] at hb; cases hb
    · cases h1
    · rw [ho.out, h1]
  have hK : w.heap.size ≤ (W1.heap.size + 1) := by omega
  replace h0 := Lib.hid h0
  replace hyes0 := Lib.hid hyes0
  replace hno0 := Lib.hid hno0
  replace hr1 := Lib.hid hr1
  clear hor hlit
  go_wp2
  go_loopw [] (fun wr => ∃ (m : Nat) (l1 : Rs) (bad1 : Bool) (vs : List Value) (A : Option Addr) (c : Nat), Hid (PrtAt 202 H R w (W1.heap.size + 1) l1 bad1 vs A c wr) ∧ l1.length ≤ l.length ∧ vs.length + l1.length ≤ l.length + 1 ∧ 3 * l1.length + 2 ≤ m ∧ m ≤ n ∧ Hid (bad1 = false → ∃ x0 xs, TvAll w.heap.size (W1.heap.size + 1) A c wr vs (x0 :: xs) ∧ o = pAlts m (xs.foldl .altS (.alt1 x0)) l1) ∧ Hid (bad1 = true → o = none)) (fun wr => rdMeas R wr)
  case atStart => exact ⟨n, l1, bad1, _, _, _, h0, hl1, by simp; omega, by omega, Nat.le_refl _, hyes0, hno0⟩
  case round =>
    obtain ⟨m, l1, bad1, vs, A, c, hp, hl1, hvl, hm, hmn, hgood, hbad⟩ := hrel
    have kK : wr.cell? ⟨W1.heap.size + 1, 0, none⟩ = some (.slice A vs.length c) := blk_cell hp.out.blk rfl
    have hws : W1.heap.size + 1 < wr.heap.size := lt_of_blk hp.out.blk
    obtain ⟨m', rfl⟩ : ∃ m', m = m' + 1 := ⟨m - 1, by omega⟩
    have htk := take_any H R l1 bad1 124 wr hp.out.rd
    have hrdm := rd_meas hp.out.rd
    replace htk := Lib.hid htk
    replace hrdm := Lib.hid hrdm
    have hstop : (∀ t, l1 ≠ 124 :: t) → ∀ W', Gr wr W' → TreePost H R l.length false o w (.returned (.iface 202 (.agg #[.slice A vs.length c]))) W' := fun hno W' gW => by
      obtain ⟨a1, a2, a3⟩ := all_row hK hp.out
      refine ⟨_, l1, bad1, rfl, ⟨_, _, rfl⟩, rd_gr hp.out.rd gW, hl1, gr_trans hp.out.gr (gr_more _ gW), ?_⟩
      cases bad1 with
      | true => exact .inr ⟨rfl, .inr (hbad.out rfl)⟩
      | false =>
        obtain ⟨x0, xs, hx, hox⟩ := hgood.out rfl
        refine .inl ⟨rfl, rfl, xs.foldl .altS (.alt1 x0), ?_, ?_⟩
        · rw [hox, pAlts_eq]
          cases l1 with
          | nil => rfl
          | cons c t =>
            simp only
            rw [if_neg (fun e => hno t (by rw [e]))]
        · have hsz := gW.size
          refine Tv.alt (row_gr a1 gW) (fun B o e ne => by have := a2 B o e ne; omega) hx.1.symm a3 (fun i v x hv hx' => ?_)
          exact tv_sub (fun k hk => ⟨hk.1, by have := hk.2.2.1; omega⟩) (tv_keep gW (fun k _ e => by cases e) (hx.2 i v x hv hx'))
    replace hstop := Lib.hid hstop
    go_wp2_with fail
    refine htk.out.mono ?_
    rintro e w3 (⟨t, rfl, rfl, hr3, g3⟩ | ⟨hno, rfl, rfl⟩)
    · have hp3 : PrtAt 202 H R w (W1.heap.size + 1) t bad1 vs A c w3 := ⟨hr3, gr_blk g3 hp.out.blk (fun e => by have := Option.some.inj e; omega), hp.out.own.kept g3 (by
        cases hb : (Value.slice A vs.length c).ownBlock with
        | none => exact .inl rfl
        | some k => exact .inr fun e => by have := (hp.out.own.lt k hb).1; have := Option.some.inj e; omega), gr_trans hp.out.gr g3, hp.out.ifs⟩
      have hxs3 : ∀ xs, TvAll w.heap.size (W1.heap.size + 1) A c wr vs xs → TvAll w.heap.size (W1.heap.size + 1) A c w3 vs xs := fun xs hx => ⟨hx.1, fun i v x hv hx' => tv_sub (fun k hk => ⟨hk.1, hk.2.1, Nat.lt_of_lt_of_le hk.2.2.1 g3.size, hk.2.2.2⟩) (tv_keep g3 (fun k hk e => by have := Option.some.inj e; omega) (hx.2 i v x hv hx'))⟩
      have hlen : (124 :: t : Rs).length = t.length + 1 := rfl
      have hpt := ih.out m' (by omega) H R t bad1 w3.drew (by rw [hlen] at hm; omega) (by rw [hlen] at hl1; omega) (by show H ≤ w3.heap.size; have := hp3.gr.size; omega) (rd_gr hr3 (gr_drew _ _))
      have kK3 : w3.cell? ⟨W1.heap.size + 1, 0, none⟩ = some (.slice A vs.length c) := blk_cell hp3.blk rfl
      have kKd : w3.drew.cell? ⟨W1.heap.size + 1, 0, none⟩ = some (.slice A vs.length c) := gr_cell (gr_drew _ _) kK3
      have hw3s : W1.heap.size + 1 < w3.heap.size := lt_of_blk hp3.blk
      have hvl2 : vs.length ≤ 1001 := by omega
      have hgood3 : bad1 = false → ∃ x0 xs, TvAll w.heap.size (W1.heap.size + 1) A c w3 vs (x0 :: xs) ∧ o = (match pRow m' .row0 t with | none => none | some (y, l1) => pAlts m' (.altS (xs.foldl .altS (.alt1 x0)) y) l1) := fun hb => by
        obtain ⟨x0, xs, hx, hox⟩ := hgood.out hb
        refine ⟨x0, xs, hxs3 _ hx, ?_⟩
        rw [hox, pAlts_eq]
        rfl
      replace hpt := Lib.hid hpt
      replace hlen := Lib.hid hlen
      replace hp3 := Lib.hid hp3
      replace hgood3 := Lib.hid hgood3
      replace hr3 := Lib.hid hr3
      replace g3 := Lib.hid g3
      clear hxs3 hstop
      go_wp2_with fail
      go_region_law (first
        | (go_simp; go_at_call 146; refine hpt.out.mono ?_
           rintro e W6 ⟨v2, l2, bad2, rfl, ⟨vt2, vu2, rfl⟩, hr6, hl6, g6, hor6⟩
           have g56 : GrR R w3 W6 := gr_trans (gr_drew w3 _) g6
           have k6 : W6.cell? ⟨W1.heap.size + 1, 0, none⟩ = some (.slice A vs.length c) := blk_cell (gr_blk g56 hp3.out.blk (fun e => by have := Option.some.inj e; omega)) rfl
           have k6a : (W6.alloc (.cells #[.iface vt2 vu2] 20)).cell? ⟨W1.heap.size + 1, 0, none⟩ = some (.slice A vs.length c) := gr_cell (gr_alloc _ _ _) k6
           have hown6 := (hp3.out.own.kept g56 (by
             cases hb : (Value.slice A vs.length c).ownBlock with
             | none => exact .inl rfl
             | some k => exact .inr fun e => by have := (hp3.out.own.lt k hb).1; have := Option.some.inj e; omega)).alloc (.cells #[.iface vt2 vu2] 20)
           have hs6 : W1.heap.size + 1 < W6.heap.size := Nat.lt_of_lt_of_le hw3s g56.size
           have hyes : bad2 = false → bad1 = false ∧ ∃ y, pRow m' .row0 t = some (y, l2) ∧ Tv (fun k => w3.heap.size ≤ k ∧ k < W6.heap.size) W6 (.iface vt2 vu2) y := fun hb => by
             rcases hor6 with ⟨_, e2, y, h1, h2⟩ | ⟨e1, _⟩
             · exact ⟨e2, y, h1, h2⟩
             · rw [e1] at hb; cases hb
           have hnone : bad2 = true → bad1 = true ∨ pRow m' .row0 t = none := fun hb => by
             rcases hor6 with ⟨e1, _⟩ | ⟨_, h1⟩
             · rw [e1] at hb; cases hb
             · exact h1
           replace hyes := Lib.hid hyes
           replace hnone := Lib.hid hnone
           clear hor6
           replace hown6 := Lib.hid hown6
           replace hr6 := Lib.hid hr6
           replace g56 := Lib.hid g56
           replace g6 := Lib.hid g6)
        | (refine step_append_strong (o := ⟨some 15, _, _, _, _, _⟩) (by rfl) _ _ 200 (by rfl) w.heap.size 20 ii .nilIface 1 16 Tryz.underlying200 hi hz0 hz1 hz2 (by decide) (by decide) (.slice A vs.length c) vs.length _ (by rfl) hown6.out ⟨W6.heap.size, 0, none⟩ 1 1 [.iface vt2 vu2] (by rfl) (by rfl) (cell_one_new _ _ _) (by simp [Value.oneCell']) (by omega) (vs.length + 1) (by rfl) (by unfold maxLen; omega) (by omega) (by simp; omega) ?_
           intro g cap W7 hown7 hat7
           have hpush := prt_push (by decide) hRw hK hH hp3.out g56.out hr6.out ⟨vt2, vu2, rfl⟩ hown7 hat7
           have k7 : W7.cell? ⟨W1.heap.size + 1, 0, none⟩ = some (.slice A vs.length c) := blk_cell hpush.1 rfl
           have f7 : W7.frozen? ⟨W1.heap.size + 1, 0, none⟩ = false := blk_free hpush.1 0
           replace hpush := Lib.hid hpush.2
           replace hown7 := Lib.hid hown7
           replace hat7 := Lib.hid hat7))
      all_goals
        have hyes2 : bad2 = false → ∃ x0 xs', TvAll w.heap.size (W1.heap.size + 1) (some ⟨g, 0, none⟩) cap (W7.setCell ⟨W1.heap.size + 1, 0, none⟩ (.slice (some ⟨g, 0, none⟩) (vs.length + 1) cap)) (vs ++ [.iface vt2 vu2]) (x0 :: xs') ∧ o = pAlts m' (xs'.foldl .altS (.alt1 x0)) l2 := fun hb => by
          obtain ⟨hb1, y, hy1, hy2⟩ := hyes.out hb
          obtain ⟨x0, xs, hx, hox⟩ := hgood3.out hb1
          refine ⟨x0, xs ++ [y], hpush.out.2 _ (x0 :: xs) _ hRw (Nat.le_refl _) hx hy2, ?_⟩
          rw [hox, hy1, List.foldl_append]
          rfl
        have hno2 : bad2 = true → o = none := fun hb => by
          cases hb1 : bad1 with
          | true => exact hbad.out hb1
          | false =>
            obtain ⟨x0, xs, hx, hox⟩ := hgood3.out hb1
            rcases hnone.out hb with h | h
            · rw [hb1] at h; cases h
            · rw [hox, h]
        have hme := rd_meas hpush.out.1.rd
        replace hyes2 := Lib.hid hyes2
        replace hno2 := Lib.hid hno2
        replace hme := Lib.hid hme
        go_wp2
        go_roundw
        case rel => exact ⟨m', l2, bad2, vs ++ [.iface vt2 vu2], some ⟨g, 0, none⟩, cap, Lib.hid hpush.out.1, by simp only [List.length_cons] at hl1; omega, by simp only [List.length_append, List.length_cons, List.length_nil] at hvl ⊢; omega, by simp only [List.length_cons] at hm; omega, by omega, hyes2, hno2⟩
        case measure => rw [hme.out, hrdm.out]; simp only [List.length_cons]; omega
    · have hfin := hstop.out hno
      replace hfin := Lib.hid hfin
      clear hno hstop
      go_wp2
      go_ret
      exact hfin.out _ (gr_refl _ _)

/-! ### All of it -/
def AltC (n : Nat) : Prop := ∀ (H R : Nat) (l : Rs) (w : World), 3 * l.length + 3 ≤ n → l.length ≤ 1000 → H ≤ w.heap.size → RdAt H w R l false → Calls Tryz.prog 134 #[.pointer (some ⟨R, 0, none⟩)] w (TreePost H R l.length false (pAlt n l) w)
def RowC (n : Nat) : Prop := ∀ (H R : Nat) (l : Rs) (bad : Bool) (w : World), 3 * l.length + 2 ≤ n → l.length ≤ 1000 → H ≤ w.heap.size → RdAt H w R l bad → Calls Tryz.prog 146 #[.pointer (some ⟨R, 0, none⟩)] w (TreePost H R l.length bad (pRow n .row0 l) w)
def AtomC (n : Nat) : Prop := ∀ (H R : Nat) (c : Int) (t : Rs) (w : World), 3 * (t.length + 1) + 1 ≤ n → t.length ≤ 999 → H ≤ w.heap.size → RdAt H w R (c :: t) false → Calls Tryz.prog 163 #[.pointer (some ⟨R, 0, none⟩)] w (TreePost H R t.length false (pAtom n (c :: t)) w)
theorem all_C : ∀ n, AltC n ∧ RowC n ∧ AtomC n := by
  intro n
  induction n using Nat.strongRecOn with
  | ind n ih =>
    refine ⟨?_, ?_, ?_⟩
    · cases n with
      | zero => intro H R l w hn; omega
      | succ n => exact fun H R l w => alts_any n (fun m hm => (ih m (by omega)).2.1) H R l w
    · exact fun H R l bad w => parts_any n (fun m hm => (ih m hm).2.2) H R l bad w
    · cases n with
      | zero => intro H R c t w hn; omega
      | succ n => exact fun H R c t w => atom_any n (ih n (by omega)).1 H R c t w
end Go.Proofs.YtccmekdmnkmhlaaGreat
