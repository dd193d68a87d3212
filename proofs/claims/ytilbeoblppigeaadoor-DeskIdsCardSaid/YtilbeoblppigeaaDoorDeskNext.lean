/-
  (*Desk).Next of a cursor whose pages may be. No condition but bounds.
-/
import Derived.Test.YtilbeoblppigeaaDoorDeskFind2
namespace Go.Proofs.YtilbeoblppigeaaDoor
open Go.RowKit

def NxtIs (m R S : Nat) (fr : Int) (l : List UInt8) : Prop := (∃ k : Nat, fr = (k * S : Nat) ∧ k + 1 < pagesN R S ∧ l = slipL m ((k + 1) * S)) ∨ ((∀ k : Nat, k + 1 < pagesN R S → fr ≠ (k * S : Nat)) ∧ l = [])
set_option maxHeartbeats 4000000 in
set_option maxRecDepth 100000 in
theorem dnext_any (D m R S : Nat) (tl : Int) (F : List UInt8) (fr : Int) (w : World) (hm : 1 ≤ m ∧ m ≤ 1000000) (hR : R ≤ 2000) (hS : 0 < S) (hS2 : S ≤ 100) (hv : Vars w) :
    Calls Tryd.prog 12 #[.pointer (some ⟨D, 0, none⟩), .agg #[.int .i64 m, .int .i64 R, .int .i64 S, .int .i64 tl, .string (txt F)], .int .i64 fr] w fun e w' => (∃ l, e = .returned (.string (txt l)) ∧ NxtIs m R S fr l) ∧ Gr w w' := by
  have cN := fun W => next_any R S fr W hR hS hS2
  obtain ⟨W1, hW1⟩ : ∃ W1, W1 = w.alloc (.cells #[.int .i64 m, .int .i64 R, .int .i64 S, .int .i64 tl, .string (txt F)] 30) := ⟨_, rfl⟩
  have g0 : Gr w W1 := by rw [hW1]; exact gr_alloc _ _ _
  have hX : CuB W1 w.heap.size ⟨m, R, S, tl, F⟩ := by rw [hW1]; exact blk_new w _
  obtain ⟨x0, x1, x2, x3, x4⟩ := cub_cells hX
  simp only at x0 x1 x2 x3 x4
  replace cN := Lib.hid cN
  replace hX := Lib.hid hX
  replace hv := Lib.hid hv
  go_enter Tryd.func12, Tryd.ntmps12
  go_upto_region 1 with fail
  rw [← hW1]
  clear hW1
  replace g0 := Lib.hid g0
  go_wp2_with fail
  refine (cN.out _).mono ?_
  rintro e w1 ⟨v, b, rfl, hnx, g1⟩
  clear cN x0 x1 x2 x3 x4
  obtain ⟨y0, y1, y2, y3, y4⟩ := cub_cells (show CuB w1 w.heap.size ⟨m, R, S, tl, F⟩ from gr_blk g1 hX.out (by simp))
  simp only at y0 y1 y2 y3 y4
  rcases hnx with ⟨k, rfl, hk, rfl, rfl⟩ | ⟨hno, rfl, rfl⟩
  · have hlt : (k + 1) * S < R := (pages_more hS (Nat.succ_pos k)).1 hk
    have hok : SlipOk m ((k + 1) * S) := ⟨hm.1, hm.2, by omega⟩
    have hv1 := vars_gr hv.out (gr_trans g0.out g1)
    have cP := fun W (g : Gr w1 W) => put_ok m ((k + 1) * S) W hok (vars_gr hv1 g)
    have fin : NxtIs m R S ((k * S : Nat) : Int) (slipL m ((k + 1) * S)) := .inl ⟨k, rfl, hk, rfl⟩
    generalize ((k + 1) * S : Nat) = V at *
    generalize slipL m V = L at *
    replace cP := Lib.hid cP
    replace fin := Lib.hid fin
    replace g1 := Lib.hid g1
    clear hk hlt hok
    go_wp2_with fail
    refine (cP.out _ (by first | exact gr_refl _ _ | exact gr_drew _ _ | exact gr_drewN _ _ _)).mono ?_
    rintro e w2 ⟨rfl, g2⟩
    clear cP
    go_wp2
    go_ret
    exact ⟨⟨_, rfl, fin.out⟩, gr_trans g0.out (gr_trans g1.out g2)⟩
  · replace hno := Lib.hid hno
    go_wp2
    go_ret
    exact ⟨⟨[], rfl, .inr ⟨hno.out, rfl⟩⟩, gr_trans g0.out g1⟩
end Go.Proofs.YtilbeoblppigeaaDoor
