/-
  The document's own: may a row be, what does it take. No condition but bounds on the lengths. (soft)
-/
import Derived.Test.YtbnacoakjhhndaaGreatRefRight
import Derived.Test.YtbnacoakjhhndaaGreatRowLight
namespace Go.Proofs.YtbnacoakjhhndaaGreat
open Go.RowKit

set_option maxHeartbeats 8000000 in
set_option maxRecDepth 100000 in
theorem refRow_any (A : Option Addr) (n c : Nat) (zs : List Lb) (v : Int) (w : World) (hn : n ≤ 1000000000) (hz : Row w A n 2 (sR lblC zs)) (hsh : ∀ x ∈ zs, x.n.length ≤ 1000000 ∧ x.v.length ≤ 1000000) :
    Calls Tryz.prog 26 #[.agg #[.slice A n c, .int .i64 v]] w fun e w' => e = .returned (.bool (decide (okR ⟨zs, v⟩))) ∧ Gr w w' := by
  obtain ⟨W1, hW1⟩ : ∃ W1, W1 = w.alloc (.cells #[.slice A n c, .int .i64 v] 34) := ⟨_, rfl⟩
  have g1 : Gr w W1 := by rw [hW1]; exact gr_alloc _ _ _
  have b0 : W1.cell? ⟨w.heap.size, 0, none⟩ = some (.slice A n c) := by rw [hW1, World.cell?_alloc_new]; rfl
  have b1 : W1.cell? ⟨w.heap.size, 1, none⟩ = some (.int .i64 v) := by rw [hW1, World.cell?_alloc_new]; rfl
  have hR := refRight_any A n c zs W1 hn (row_gr hz g1) hsh
  have hV := fun W => refValue_any v W
  have hd : decide (okR ⟨zs, v⟩) = (decide (okLbs zs) && decide (okV v)) := by rw [← Bool.decide_and]; rfl
  rw [hd]
  clear hd hz hsh
  generalize decide (okLbs zs) = p at hR ⊢
  generalize decide (okV v) = q at hV ⊢
  replace g1 := Lib.hid g1
  replace hV := Lib.hid hV
  replace hR := Lib.hid hR
  go_enter Tryz.func26, Tryz.ntmps26
  go_upto_region 1 with fail
  rw [← hW1]
  clear hW1
  cases p with
  | false =>
    go_wp2_with fail
    refine hR.out.mono ?_
    rintro e w2 ⟨rfl, g2⟩
    go_wp2
    go_ret
    exact ⟨rfl, gr_trans g1.out g2⟩
  | true =>
    go_wp2_with fail
    refine hR.out.mono ?_
    rintro e w2 ⟨rfl, g2⟩
    have c1 := gr_cell g2 b1
    clear b0 b1
    go_wp2_with fail
    refine (hV.out _).mono ?_
    rintro e w3 ⟨rfl, rfl⟩
    go_wp2
    go_ret
    exact ⟨rfl, gr_trans g1.out g2⟩
end Go.Proofs.YtbnacoakjhhndaaGreat
