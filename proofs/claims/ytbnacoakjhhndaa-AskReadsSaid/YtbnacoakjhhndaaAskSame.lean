/-
  leporellolaw23.same of two requests that are the same. No condition but a bound on the length.
-/
import Derived.Test.YtbnacoakjhhndaaAskPlain
import Derived.Test.YtbnacoakjhhndaaRowSame
namespace Go.Proofs.Ytbnacoakjhhndaa
open Go.RowKit

set_option maxHeartbeats 8000000 in
set_option maxRecDepth 100000 in
theorem sameAq_yes (A B : Option Addr) (n ca cb : Nat) (q : Aq) (w : World) (hn : n ≤ 1000000000) (hA : Row w A n 2 (sR lblC q.l)) (hB : Row w B n 2 (sR lblC q.l)) :
    Calls Try.prog 15 #[aqV A n ca q, aqV B n cb q] w fun e w' => e = .returned (.bool true) ∧ Gr w w' := by
  obtain ⟨k, zs, t, a, b, d⟩ := q
  unfold aqV
  simp only at hA hB ⊢
  obtain ⟨W1, hW1⟩ : ∃ W1, W1 = w.alloc (.cells #[.int .i64 k, .slice A n ca, .string (txt t), .int .i64 a, .int .i64 b, .int .i64 d] 24) := ⟨_, rfl⟩
  have hs1 : W1.heap.size = w.heap.size + 1 := by rw [hW1]; simp
  obtain ⟨W2, hW2⟩ : ∃ W2, W2 = W1.alloc (.cells #[.int .i64 k, .slice B n cb, .string (txt t), .int .i64 a, .int .i64 b, .int .i64 d] 24) := ⟨_, rfl⟩
  have g1 : Gr w W1 := by rw [hW1]; exact gr_alloc _ _ _
  have g2 : Gr W1 W2 := by rw [hW2]; exact gr_alloc _ _ _
  have hx : AqB W2 w.heap.size k A n ca t a b d := gr_blk g2 (by rw [hW1]; exact blk_new w _) (by simp)
  have hy : AqB W2 (w.heap.size + 1) k B n cb t a b d := by rw [hW2, ← hs1]; exact blk_new W1 _
  have G := gr_trans g1 g2
  have hC : ∀ W, Gr W2 W → AqB W w.heap.size k A n ca t a b d ∧ AqB W (w.heap.size + 1) k B n cb t a b d := fun W g => ⟨gr_blk g hx (by simp), gr_blk g hy (by simp)⟩
  have hS := sameLabels_any A B n n ca cb zs zs W2 hn hn (row_gr hA G) (row_gr hB G)
  rw [decide_eq_true rfl] at hS
  obtain ⟨b0, b1, b2, b3, b4, b5⟩ := aqb_cells hx
  obtain ⟨c0, c1, c2, c3, c4, c5⟩ := aqb_cells hy
  have ek : (k == k) = true := beq_self_eq_true k
  have ea : (a == a) = true := beq_self_eq_true a
  have eb : (b == b) = true := beq_self_eq_true b
  have ed : (d == d) = true := beq_self_eq_true d
  have et : (t == t) = true := beq_self_eq_true t
  replace hS := Lib.hid hS
  replace hC := Lib.hid hC
  replace G := Lib.hid G
  clear hx hy hA hB g1 g2 hs1
  go_enter Try.func15, Try.ntmps15
  go_upto_region 1 with fail
  rw [← hW1, ← hW2]
  clear hW1 hW2
  go_wp2_with fail
  refine hS.out.mono ?_
  rintro e w3 ⟨rfl, g3⟩
  obtain ⟨hx, hy⟩ := hC.out w3 g3
  clear b0 b1 b2 b3 b4 b5 c0 c1 c2 c3 c4 c5 hC
  obtain ⟨b0, b1, b2, b3, b4, b5⟩ := aqb_cells hx
  obtain ⟨c0, c1, c2, c3, c4, c5⟩ := aqb_cells hy
  replace g3 := Lib.hid g3
  clear hx hy
  go_wp2
  go_ret
  exact ⟨rfl, gr_trans G.out g3.out⟩
end Go.Proofs.Ytbnacoakjhhndaa
