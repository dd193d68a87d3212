/-
  Two lists of cursors that are alike. No condition but a bound on the length.
-/
import Derived.Test.YtmldoeeangekoaaGreatDoorDiaryCur
import Derived.Test.YtmldoeeangekoaaGreatDoorQuietGr
import Derived.Test.YtmldoeeangekoaaGreatDoorProg
namespace Go.Proofs.YtmldoeeangekoaaGreatDoor
open Go.RowKit

set_option maxHeartbeats 4000000 in
set_option maxRecDepth 100000 in
theorem sameCurs_yes (A B : Option Addr) (n ca cb : Nat) (zs : List Cur) (w : World) (hn : n ≤ 1000000) (hA : Row w A n 5 (sR curC zs)) (hB : Row w B n 5 (sR curC zs)) :
    Calls Tryz.prog 18 #[.slice A n ca, .slice B n cb] w fun e w' => e = .returned (.bool true) ∧ Gr w w' := by
  replace hA := Lib.hid hA
  replace hB := Lib.hid hB
  go_enter Tryz.func18, Tryz.ntmps18
  go_wp2
  go_loopw [5] (fun i wr => ∃ k : Nat, k ≤ n ∧ i = .int .i64 k ∧ Hid (Gr w wr)) (fun i _ => n - (intOf i).toNat)
  case atStart => exact ⟨0, Nat.zero_le _, rfl, gr_refl _ _⟩
  case round =>
    obtain ⟨k, hk, rfl, hg⟩ := hrel
    by_cases hlt : k < n
    · obtain ⟨x, gA, oA, hx, rfl, _, ha⟩ := rowS_elem curC_len (row_gr hA.out hg.out) (by decide) hlt
      obtain ⟨y, gB, oB, hy, rfl, _, hb⟩ := rowS_elem curC_len (row_gr hB.out hg.out) (by decide) hlt
      obtain rfl : x = y := by rw [hx] at hy; exact Option.some.inj hy
      have hki : (k : Int) < (n : Int) := by omega
      have hk0 : (0 : Int) ≤ (k : Int) := by omega
      have a0 : wr.cell? ⟨gA, oA + k * 5, none⟩ = some (.int .i64 x.id) := ha 0 (by decide)
      have a1 : wr.cell? ⟨gA, oA + k * 5 + 1, none⟩ = some (.int .i64 x.rows) := ha 1 (by decide)
      have a2 : wr.cell? ⟨gA, oA + k * 5 + 2, none⟩ = some (.int .i64 x.size) := ha 2 (by decide)
      have a3 : wr.cell? ⟨gA, oA + k * 5 + 3, none⟩ = some (.int .i64 x.tl) := ha 3 (by decide)
      have a4 : wr.cell? ⟨gA, oA + k * 5 + 4, none⟩ = some (.string (txt x.file)) := ha 4 (by decide)
      have b0 : wr.cell? ⟨gB, oB + k * 5, none⟩ = some (.int .i64 x.id) := hb 0 (by decide)
      have b1 : wr.cell? ⟨gB, oB + k * 5 + 1, none⟩ = some (.int .i64 x.rows) := hb 1 (by decide)
      have b2 : wr.cell? ⟨gB, oB + k * 5 + 2, none⟩ = some (.int .i64 x.size) := hb 2 (by decide)
      have b3 : wr.cell? ⟨gB, oB + k * 5 + 3, none⟩ = some (.int .i64 x.tl) := hb 3 (by decide)
      have b4 : wr.cell? ⟨gB, oB + k * 5 + 4, none⟩ = some (.string (txt x.file)) := hb 4 (by decide)
      clear ha hb hx hy
      generalize x.id = x1 at *
      generalize x.rows = x2 at *
      generalize x.size = x3 at *
      generalize x.tl = x4 at *
      generalize x.file = x5 at *
      go_wp2_with fail
      go_quiet (fail)
      go_wp2
      go_roundw
      case rel => exact ⟨k + 1, by omega, by go_num, gr_trans hg.out (gr_drewN _ _ _)⟩
      case measure => simp [intOf]; omega
    · obtain rfl : k = n := by omega
      go_wp2
      go_ret
      exact ⟨rfl, hg.out⟩
end Go.Proofs.YtmldoeeangekoaaGreatDoor
