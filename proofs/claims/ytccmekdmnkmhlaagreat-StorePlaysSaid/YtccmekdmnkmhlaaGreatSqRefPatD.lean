/-
  The document's pattern: a class while it is read, in memory. No condition.
-/
import Derived.Test.YtccmekdmnkmhlaaGreatSqRefPatC
namespace Go.Proofs.YtccmekdmnkmhlaaGreat
open Go.RowKit

def r32 (xs : List Int) : List Value := xs.map (.int .i32)
section
variable (X : Nat) (pA : Option Addr) (pc : Nat) (L : Rs) (K : Nat) (w : World) (ps : List Prt) (v : Value) (neg : Bool)
/-- A class that is read: its own part in block K, its two lists, and the pattern. -/
structure C2 (j : Nat) (bad : Bool) (bl bh lo hi : Value) (xs ys : List Int) (wr : World) : Prop where
  pt : PtAt X pA pc L wr ps v j bad
  blk : wr.heap[K]? = some (.cells #[.int .i64 3, .int .i32 0, bl, bh, .bool neg, .int .i64 0, .int .i64 0, .int .i64 0, .bool false] 194 (0, 0))
  ol : wr.ownsRow (K + 1) 21 1 lo xs.length (r32 xs)
  oh : wr.ownsRow (K + 1) 21 1 hi ys.length (r32 ys)
  sep : ∀ k, lo.ownBlock = some k → hi.ownBlock ≠ some k
  gr : GrB X w wr
  xk : X < w.heap.size
  wk : w.heap.size ≤ K
  vk : ∀ k, v.ownBlock = some k → k < w.heap.size
end
section
variable {X : Nat} {pA : Option Addr} {pc : Nat} {L : Rs} {K : Nat} {w : World} {ps : List Prt} {v : Value} {neg : Bool} {j : Nat} {bad : Bool} {bl bh lo hi : Value} {xs ys : List Int} {wr W : World}
theorem c2_lt (h : C2 X pA pc L K w ps v neg j bad bl bh lo hi xs ys wr) : K < wr.heap.size := lt_of_blk h.blk
theorem c2_gr (h : C2 X pA pc L K w ps v neg j bad bl bh lo hi xs ys wr) (g : Gr wr W) : C2 X pA pc L K w ps v neg j bad bl bh lo hi xs ys W :=
  ⟨rp_gr h.pt g, gr_blk g h.blk (by simp), h.ol.kept g (Classical.em _), h.oh.kept g (Classical.em _), h.sep, gr_trans h.gr (gr_more _ g), h.xk, h.wk, h.vk⟩
theorem c2_x {j2 : Nat} {bad2 : Bool} (h : C2 X pA pc L K w ps v neg j bad bl bh lo hi xs ys wr) (hp : PtAt X pA pc L W ps v j2 bad2) (g : GrB X wr W) : C2 X pA pc L K w ps v neg j2 bad2 bl bh lo hi xs ys W := by
  have h1 := h.xk
  have h2 := h.wk
  exact ⟨hp, gr_blk g h.blk (fun e => by have := Option.some.inj e; omega), h.ol.kept g (.inr (fun e => by have := (h.ol.lt X e).1; omega)), h.oh.kept g (.inr (fun e => by have := (h.oh.lt X e).1; omega)), h.sep, gr_trans h.gr g, h.xk, h.wk, h.vk⟩
theorem c2_bad (h : C2 X pA pc L K w ps v neg j bad bl bh lo hi xs ys wr) (b : Bool) : C2 X pA pc L K w ps v neg j b bl bh lo hi xs ys (wr.setCell ⟨X, 4, none⟩ (.bool b)) := c2_x h (rp_bad h.pt b).1 (rp_bad h.pt b).2
/-- Something grew that is neither the pattern's nor K's. -/
theorem c2_own {g : Nat} (h : C2 X pA pc L K w ps v neg j bad bl bh lo hi xs ys wr) (hg : K < g) (hv : v.ownBlock ≠ some g) (hat : wr.grownBy W (some g)) (hpA : ∀ a, pA = some a → a.block < X) :
    PtAt X pA pc L W ps v j bad ∧ W.heap[K]? = some (.cells #[.int .i64 3, .int .i32 0, bl, bh, .bool neg, .int .i64 0, .int .i64 0, .int .i64 0, .bool false] 194 (0, 0)) ∧ GrB X w W := by
  have h1 := h.xk
  have h2 := h.wk
  refine ⟨⟨gr_blk hat h.pt.blk (fun e => by have := Option.some.inj e; omega), row_keep h.pt.row hat (fun a ha e => by have := hpA a ha; have := Option.some.inj e; omega), h.pt.low, h.pt.own.kept hat (.inr hv), h.pt.ok⟩, gr_blk hat h.blk (fun e => by have := Option.some.inj e; omega), ?_⟩
  refine ⟨hat.os.trans h.gr.os, hat.tape.trans h.gr.tape, hat.output.trans h.gr.output, Nat.le_trans h.gr.size hat.size, fun k hk hx => (hat.block k (Nat.lt_of_lt_of_le hk h.gr.size) (fun e => by have := Option.some.inj e; omega)).trans (h.gr.block k hk hx)⟩
theorem c2_lo {g n cap : Nat} {x : Int} (h : C2 X pA pc L K w ps v neg j bad bl bh lo hi xs ys wr) (hn : n = xs.length + 1) (ho : W.ownsRow (K + 1) 21 1 (.slice (some ⟨g, 0, none⟩) n cap) n (r32 xs ++ [.int .i32 x])) (hat : (lo.ownBlock = some g ∧ wr.grownBy W (some g)) ∨ (g = wr.heap.size ∧ Gr wr W)) :
    C2 X pA pc L K w ps v neg j bad bl bh (.slice (some ⟨g, 0, none⟩) n cap) hi (xs ++ [x]) ys W := by
  have hKg : K < g := (ho.lt g rfl).1
  subst hn
  have e : r32 (xs ++ [x]) = r32 xs ++ [.int .i32 x] := by simp [r32]
  rcases hat with ⟨e1, g1⟩ | ⟨e1, g1⟩
  · have hv : v.ownBlock ≠ some g := fun q => by
      rcases own_types h.pt.own h.ol (by decide) with e2 | e2
      · rw [e2] at q; cases q
      · exact e2 (q.trans e1.symm)
    obtain ⟨a1, a2, a3⟩ := c2_own h hKg hv g1 h.pt.low
    exact ⟨a1, a2, by rw [List.length_append, e]; exact ho, h.oh.kept g1 (.inr (h.sep g e1)), fun k hk => h.sep k (e1.trans hk), a3, h.xk, h.wk, h.vk⟩
  · have h2 := c2_gr h g1
    refine ⟨h2.pt, h2.blk, by rw [List.length_append, e]; exact ho, h2.oh, fun k hk q => ?_, h2.gr, h.xk, h.wk, h.vk⟩
    have hk2 : g = k := Option.some.inj hk
    have := (h.oh.lt k q).2
    omega
theorem c2_hi {g n cap : Nat} {x : Int} (h : C2 X pA pc L K w ps v neg j bad bl bh lo hi xs ys wr) (hn : n = ys.length + 1) (ho : W.ownsRow (K + 1) 21 1 (.slice (some ⟨g, 0, none⟩) n cap) n (r32 ys ++ [.int .i32 x])) (hat : (hi.ownBlock = some g ∧ wr.grownBy W (some g)) ∨ (g = wr.heap.size ∧ Gr wr W)) :
    C2 X pA pc L K w ps v neg j bad bl bh lo (.slice (some ⟨g, 0, none⟩) n cap) xs (ys ++ [x]) W := by
  have hKg : K < g := (ho.lt g rfl).1
  subst hn
  have e : r32 (ys ++ [x]) = r32 ys ++ [.int .i32 x] := by simp [r32]
  rcases hat with ⟨e1, g1⟩ | ⟨e1, g1⟩
  · have hv : v.ownBlock ≠ some g := fun q => by
      rcases own_types h.pt.own h.oh (by decide) with e2 | e2
      · rw [e2] at q; cases q
      · exact e2 (q.trans e1.symm)
    obtain ⟨a1, a2, a3⟩ := c2_own h hKg hv g1 h.pt.low
    exact ⟨a1, a2, h.ol.kept g1 (.inr (fun q => h.sep g q e1)), by rw [List.length_append, e]; exact ho, fun k hk q => h.sep k hk (by rw [e1]; exact q), a3, h.xk, h.wk, h.vk⟩
  · have h2 := c2_gr h g1
    refine ⟨h2.pt, h2.blk, h2.ol, by rw [List.length_append, e]; exact ho, fun k hk q => ?_, h2.gr, h.xk, h.wk, h.vk⟩
    have hk2 : g = k := Option.some.inj q
    have := (h.ol.lt k hk).2
    omega
/-- K's cells are written. -/
theorem c2_set (h : C2 X pA pc L K w ps v neg j bad bl bh lo hi xs ys wr) (a b : Value) : C2 X pA pc L K w ps v neg j bad a b lo hi xs ys ((wr.setCell ⟨K, 2, none⟩ a).setCell ⟨K, 3, none⟩ b) ∧ C2 X pA pc L K w ps v neg j bad a b lo hi xs ys ((wr.setCell ⟨K, 3, none⟩ b).setCell ⟨K, 2, none⟩ a) := by
  have h1 := h.xk
  have h2 := h.wk
  have one : ∀ (W1 W2 : World), wr.grownBy W2 (some K) → W2.heap[K]? = some (.cells #[.int .i64 3, .int .i32 0, a, b, .bool neg, .int .i64 0, .int .i64 0, .int .i64 0, .bool false] 194 (0, 0)) → C2 X pA pc L K w ps v neg j bad a b lo hi xs ys W2 := fun _ W2 g hb => by
    refine ⟨⟨gr_blk g h.pt.blk (fun e => by have := Option.some.inj e; omega), row_keep h.pt.row g (fun a ha e => by have := h.pt.low a ha; have := Option.some.inj e; omega), h.pt.low, h.pt.own.kept g (.inr (fun e => ?_)), h.pt.ok⟩, hb, h.ol.kept g (.inr (fun e => by have := (h.ol.lt K e).1; omega)), h.oh.kept g (.inr (fun e => by have := (h.oh.lt K e).1; omega)), h.sep, ?_, h.xk, h.wk, h.vk⟩
    · have := h.vk K e; omega
    · exact ⟨g.os.trans h.gr.os, g.tape.trans h.gr.tape, g.output.trans h.gr.output, Nat.le_trans h.gr.size g.size, fun k hk hx => (g.block k (Nat.lt_of_lt_of_le hk h.gr.size) (fun e => by have := Option.some.inj e; omega)).trans (h.gr.block k hk hx)⟩
  exact ⟨one wr _ (gr_trans (gr_set wr ⟨K, 2, none⟩ a) (gr_set _ ⟨K, 3, none⟩ b)) (blk_set (blk_set h.blk 2 a) 3 b), one wr _ (gr_trans (gr_set wr ⟨K, 3, none⟩ b) (gr_set _ ⟨K, 2, none⟩ a)) (blk_set (blk_set h.blk 3 b) 2 a)⟩
end
end Go.Proofs.YtccmekdmnkmhlaaGreat
