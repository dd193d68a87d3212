/-
  What is at hand while the document's Get reads a row. No condition.
-/
import Derived.Test.YtoidfoalhkoajaaRowGet
namespace Go.Proofs.Ytoidfoalhkoajaa
open Go.RowKit

/-- The result's block at s, the row's behind it; what was there is as it was. -/
structure GtAt (w : World) (wr : World) (L : List Lb) (A : Option Addr) (c : Nat) (v : Int) : Prop where
  res : RwB wr w.heap.size none 0 0 0
  out : RwB wr (w.heap.size + 1) A L.length c v
  own : wr.ownsRow (w.heap.size + 2) 76 2 (.slice A L.length c) L.length (sR lblC L)
  bel : Below w.heap.size w wr
  size : w.heap.size + 2 ≤ wr.heap.size
theorem gtAt_gr {w wr w2 : World} {L : List Lb} {A : Option Addr} {c : Nat} {v : Int} (h : GtAt w wr L A c v) (hg : Gr wr w2) : GtAt w w2 L A c v :=
  ⟨gr_blk hg h.res (by simp), gr_blk hg h.out (by simp), h.own.kept hg (Classical.em _), below_gr h.bel hg (Nat.le_trans (by omega) h.size) (by simp), Nat.le_trans h.size hg.size⟩
/-- One label more. -/
theorem gtAt_app {w w5 w6 : World} {L : List Lb} {A A6 : Option Addr} {c c6 : Nat} {z : Lb} {o : Obj} (h : GtAt w w5 L A c 0) (ho : w6.ownsRow (w.heap.size + 2) 76 2 (.slice A6 (L.length + 1) c6) (L.length + 1) (sR lblC L ++ lblC z)) (hg : (w5.alloc o).grownBy w6 (Value.slice A L.length c).ownBlock) :
    RwB w6 (w.heap.size + 1) A L.length c 0 ∧ GtAt w (w6.setCell ⟨w.heap.size + 1, 0, none⟩ (.slice A6 (L.length + 1) c6)) (L ++ [z]) A6 c6 0 := by
  have hs := h.size
  have far : ∀ k, k < w.heap.size + 2 → some k ≠ (Value.slice A L.length c).ownBlock := fun k hk e => by have := (h.own.lt k e.symm).1; omega
  have keep : ∀ (k : Nat) (ob : Obj), k < w.heap.size + 2 → w5.heap[k]? = some ob → w6.heap[k]? = some ob := fun k ob hk hb => gr_blk hg (gr_blk (gr_alloc w5 o none) hb (by simp)) (far k hk)
  have g7 := gr_set w6 ⟨w.heap.size + 1, 0, none⟩ (.slice A6 (L.length + 1) c6)
  have hout : RwB w6 (w.heap.size + 1) A L.length c 0 := keep _ _ (by omega) h.out
  have hl : (L ++ [z]).length = L.length + 1 := by simp
  refine ⟨hout, ?_⟩
  refine ⟨gr_blk g7 (keep _ _ (by omega) h.res) (by simp), ?_, ?_, ?_, ?_⟩
  · rw [hl]
    exact blk_set hout 0 _
  · rw [hl, sR_append, sR_one]
    exact ho.kept g7 (.inr (fun e => by have := (ho.lt _ e).1; simp at this))
  · have b6 := (below_gr h.bel (gr_alloc w5 o none) (by omega) (by simp)).grown hg (by simp; omega) (fun k hk => by have := (h.own.lt k hk).1; omega)
    exact b6.grown g7 (by have := hg.size; simp at this; omega) (fun k hk => by cases hk; simp)
  · have h1 := hg.size
    have h2 := g7.size
    simp at h1 h2 ⊢
    omega
/-- The number is set. -/
theorem gtAt_v {w w2 : World} {L : List Lb} {A : Option Addr} {c : Nat} {v : Int} (h : GtAt w w2 L A c v) (V : Int) : GtAt w (w2.setCell ⟨w.heap.size + 1, 1, none⟩ (.int .i64 V)) L A c V := by
  have g := gr_set w2 ⟨w.heap.size + 1, 1, none⟩ (.int .i64 V)
  have hs := h.size
  exact ⟨gr_blk g h.res (by simp), blk_set h.out 1 _, h.own.kept g (.inr (fun e => by have := (h.own.lt _ e).1; simp at this)), below_gr h.bel g (by omega) (fun k hk => by cases hk; simp), Nat.le_trans hs g.size⟩
/-- What the rest comes to when a label's name is read. -/
def restV (n : Nat) (L : List Lb) (x r : List UInt8) : Option (Rw × List UInt8) := match takeT r with
  | none => none
  | some (y, r2) => restR n (L ++ [⟨x, y⟩]) r2
theorem restV_some {n : Nat} {L : List Lb} {x r y r2 : List UInt8} (h : takeT r = some (y, r2)) : restV n L x r = restR n (L ++ [⟨x, y⟩]) r2 := by unfold restV; rw [h]
theorem restV_none {n : Nat} {L : List Lb} {x r : List UInt8} (h : takeT r = none) : restV n L x r = none := by unfold restV; rw [h]
theorem restR_V {n : Nat} {L : List Lb} {x r r1 : List UInt8} (h : takeT r = some (x, r1)) : restR (n + 1) L r = restV n L x r1 := by
  cases h2 : takeT r1 with
  | none => rw [restV_none h2]; exact restR_stop (getLs_stop2 h h2)
  | some p => obtain ⟨y, r2⟩ := p; rw [restV_some h2]; exact restR_next h h2
theorem restR_no {n : Nat} {L : List Lb} {r : List UInt8} (h : takeT r = none) : restR (n + 1) L r = none := restR_stop (getLs_stop1 h)
/-- A text with its length ahead, read at a place. -/
theorem takeT_at {b : List UInt8} {p : Nat} (h : p < b.length) : takeT (b.drop p) = if p + 1 + (b[p]).toNat ≤ b.length then some ((b.drop (p + 1)).take (b[p]).toNat, b.drop (p + 1 + (b[p]).toNat)) else none := by
  rw [List.drop_eq_getElem_cons h, takeT, List.length_drop]
  by_cases hc : p + 1 + (b[p]).toNat ≤ b.length
  · rw [if_pos (by omega), if_pos hc, List.drop_drop]
  · rw [if_neg (by omega), if_neg hc]
theorem takeT_end {b : List UInt8} {p : Nat} (h : b.length ≤ p) : takeT (b.drop p) = none := by rw [List.drop_eq_nil_of_le h]; rfl
def ShortL2 (zs : List Lb) : Prop := ∀ x ∈ zs, x.n.length < 256 ∧ x.v.length < 256
/-- What is at hand at the head of a round: names and values by turns. -/
def InvG (b : List UInt8) (n i p : Nat) (L : List Lb) : Prop :=
  (∃ k, i = 2 * k ∧ k ≤ n ∧ L.length = k ∧ getR b = restR (n - k) L (b.drop p)) ∨ (∃ k L0 x, i = 2 * k + 1 ∧ k < n ∧ L = L0 ++ [(⟨x, []⟩ : Lb)] ∧ L0.length = k ∧ getR b = restV (n - k - 1) L0 x (b.drop p))
theorem invG_no {b : List UInt8} {n i p : Nat} {L : List Lb} (h : InvG b n i p L) (hi : i < 2 * n) (ht : takeT (b.drop p) = none) : getR b = none := by
  rcases h with ⟨k, rfl, _, _, he⟩ | ⟨k, L0, x, rfl, hk, _, _, he⟩
  · obtain ⟨q, hq⟩ : ∃ q, n - k = q + 1 := ⟨n - k - 1, by omega⟩
    rw [he, hq, restR_no ht]
  · rw [he, restV_none ht]
/-- The last label's value is set. -/
theorem gtAt_val {w wr : World} {L0 : List Lb} {x : List UInt8} {A : Option Addr} {c : Nat} (h : GtAt w wr (L0 ++ [⟨x, []⟩]) A c 0) (y : List UInt8) :
    ∃ g, A = some ⟨g, 0, none⟩ ∧ wr.frozen? ⟨g, L0.length * 2 + 1, none⟩ = false ∧ (∃ old, wr.cell? ⟨g, L0.length * 2 + 1, none⟩ = some old) ∧ GtAt w (wr.setCell ⟨g, L0.length * 2 + 1, none⟩ (.string (txt y))) (L0 ++ [⟨x, y⟩]) A c 0 := by
  have ho := h.own
  have hl : (L0 ++ [(⟨x, []⟩ : Lb)]).length = L0.length + 1 := by simp
  have hl2 : (L0 ++ [(⟨x, y⟩ : Lb)]).length = L0.length + 1 := by simp
  rw [hl] at ho
  obtain ⟨g, cap, hv, hge, hlt⟩ := ho.form (by omega)
  injection hv with h1 h2 h3
  subst h1 h3
  have hxl : (sR lblC (L0 ++ [(⟨x, []⟩ : Lb)])).length = (L0.length + 1) * 2 := by rw [sR_len lblC 2 lblC_len, hl]
  obtain ⟨s1, s2⟩ := ho.stored (L0.length * 2 + 1) (.string (txt y))
  have hset : (sR lblC (L0 ++ [(⟨x, []⟩ : Lb)])).set (L0.length * 2 + 1) (.string (txt y)) = sR lblC (L0 ++ [⟨x, y⟩]) := by
    rw [sR_append, sR_append, sR_one, sR_one]
    have hl3 : (sR lblC L0).length = L0.length * 2 := sR_len lblC 2 lblC_len L0
    rw [List.set_append_right _ _ (by omega), hl3]
    have : L0.length * 2 + 1 - L0.length * 2 = 1 := by omega
    rw [this]
    rfl
  rw [hset] at s1
  have hs := h.size
  refine ⟨g, rfl, ho.frozenAt _, ⟨_, by rw [ho.cellAt _ (by omega), List.getElem?_eq_getElem (by omega)]⟩, ?_, ?_, ?_, ?_, ?_⟩
  · exact gr_blk s2 h.res (by simp; omega)
  · rw [hl2]
    have := gr_blk s2 h.out (by simp; omega)
    rw [hl] at this
    exact this
  · rw [hl2]; exact s1
  · exact below_gr h.bel s2 (by omega) (by intro k hk; cases hk; omega)
  · exact Nat.le_trans hs s2.size
end Go.Proofs.Ytoidfoalhkoajaa
