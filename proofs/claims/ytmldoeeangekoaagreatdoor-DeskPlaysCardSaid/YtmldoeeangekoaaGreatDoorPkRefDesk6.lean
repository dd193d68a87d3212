/-
  The document's Next: the slip of the page behind another one. No condition but bounds.
-/
import Derived.Test.YtmldoeeangekoaaGreatDoorPkRefDesk5
namespace Go.Proofs.YtmldoeeangekoaaGreatDoor
open Go.RowKit

/-- The slip of the page behind. -/
def nxtL (m R S fr : Nat) : List UInt8 := if beginM R S fr ∧ (S : Int) < (R : Int) - fr then slipL m (fr + S) else []
set_option maxHeartbeats 8000000 in
set_option maxRecDepth 100000 in
theorem rnext_any (m R S fr : Nat) (tl : Int) (F : List UInt8) (w : World) (hm : m ≤ 1000000) (hR : R ≤ 2000) (hS : S ≤ 100) (hfr : fr ≤ 2000) :
    Calls Tryz.prog 25 #[.agg #[.int .i64 m, .int .i64 R, .int .i64 S, .int .i64 tl, .string (txt F)], .int .i64 fr] w fun e w' => e = .returned (.string (txt (nxtL m R S fr))) ∧ Gr w w' := by
  obtain ⟨W0, hW0⟩ : ∃ W0, W0 = w.alloc (.cells #[.int .i64 m, .int .i64 R, .int .i64 S, .int .i64 tl, .string (txt F)] 52) := ⟨_, rfl⟩
  have g0 : Gr w W0 := by rw [hW0]; exact gr_alloc _ _ _
  have hC : W0.heap[w.heap.size]? = some (.cells #[.int .i64 m, .int .i64 R, .int .i64 S, .int .i64 tl, .string (txt F)] 52 (0, 0)) := by rw [hW0]; exact blk_new w _
  have c0 : W0.cell? ⟨w.heap.size, 0, none⟩ = some (.int .i64 m) := fcellD hC rfl
  have c1 : W0.cell? ⟨w.heap.size, 1, none⟩ = some (.int .i64 R) := fcellD hC rfl
  have c2 : W0.cell? ⟨w.heap.size, 2, none⟩ = some (.int .i64 S) := fcellD hC rfl
  have cB := fun W => rbegins_any R S fr W (by omega)
  have hwr : IntKind.i64.wrap ((R : Int) - (fr : Int)) = (R : Int) - (fr : Int) := IntWalk.i64_in _ (by omega)
  have hwr2 : IntKind.i64.wrap ((fr : Int) + (S : Int)) = ((fr + S : Nat) : Int) := by rw [IntWalk.i64_in _ (by omega)]; omega
  have cS := fun W => refSlip_any m (fr + S) W hm (by omega)
  have hL : nxtL m R S fr = if beginM R S fr ∧ (S : Int) < (R : Int) - fr then slipL m (fr + S) else [] := rfl
  generalize nxtL m R S fr = N at *
  replace g0 := Lib.hid g0
  replace hL := Lib.hid hL
  replace cB := Lib.hid cB
  replace cS := Lib.hid cS
  clear hC
  go_enter Tryz.func25, Tryz.ntmps25
  go_upto_region 1 with fail
  rw [← hW0]
  clear hW0
  go_wp2_with fail
  refine (cB.out _).mono ?_
  rintro e w1 ⟨rfl, rfl⟩
  by_cases hb : beginM R S fr
  · simp only [decide_eq_true hb]
    by_cases hlt : (S : Int) < (R : Int) - fr
    · have hle : ((R : Int) - (fr : Int) ≤ (S : Int)) = False := eq_false (by omega)
      have hfin := hL.out
      rw [if_pos ⟨hb, hlt⟩] at hfin
      replace hfin := Lib.hid hfin
      replace hb := Lib.hid hb
      replace hlt := Lib.hid hlt
      go_wp2_with fail
      refine (cS.out _).mono ?_
      rintro e w2 ⟨rfl, g2⟩
      go_wp2
      go_ret
      exact ⟨by rw [hfin.out]; rfl, gr_trans g0.out g2⟩
    · have hle : (R : Int) - (fr : Int) ≤ (S : Int) := by omega
      have hfin := hL.out
      rw [if_neg (fun h => hlt h.2)] at hfin
      replace hfin := Lib.hid hfin
      replace hb := Lib.hid hb
      replace hlt := Lib.hid hlt
      go_wp2
      go_ret
      exact ⟨by rw [hfin.out]; rfl, g0.out⟩
  · simp only [decide_eq_false hb]
    have hfin := hL.out
    rw [if_neg (fun h => hb h.1)] at hfin
    replace hfin := Lib.hid hfin
    replace hb := Lib.hid hb
    go_wp2
    go_ret
    exact ⟨by rw [hfin.out]; rfl, g0.out⟩
end Go.Proofs.YtmldoeeangekoaaGreatDoor
