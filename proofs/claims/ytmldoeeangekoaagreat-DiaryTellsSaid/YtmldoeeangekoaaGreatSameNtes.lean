/-
  Two lists of notes that are alike. No condition but a bound on the length.
-/
import Derived.Test.YtmldoeeangekoaaGreatDiaryMath
namespace Go.Proofs.YtmldoeeangekoaaGreat
open Go.RowKit

set_option maxHeartbeats 4000000 in
set_option maxRecDepth 100000 in
theorem sameNtes_yes (A B : Option Addr) (n ca cb : Nat) (zs : List Nte) (w : World) (hn : n ≤ 1000000) (hA : Row w A n 6 (sR nteC zs)) (hB : Row w B n 6 (sR nteC zs)) :
    Calls Tryz.prog 15 #[.slice A n ca, .slice B n cb] w fun e w' => e = .returned (.bool true) ∧ Gr w w' := by
  replace hA := Lib.hid hA
  replace hB := Lib.hid hB
  go_enter Tryz.func15, Tryz.ntmps15
  go_wp2
  go_loopw [5] (fun i wr => ∃ k : Nat, k ≤ n ∧ i = .int .i64 k ∧ Hid (Gr w wr)) (fun i _ => n - (intOf i).toNat)
  case atStart => exact ⟨0, Nat.zero_le _, rfl, gr_refl _ _⟩
  case round =>
    obtain ⟨k, hk, rfl, hg⟩ := hrel
    by_cases hlt : k < n
    · obtain ⟨x, gA, oA, hx, rfl, _, ha⟩ := rowS_elem nteC_len (row_gr hA.out hg.out) (by decide) hlt
      obtain ⟨y, gB, oB, hy, rfl, _, hb⟩ := rowS_elem nteC_len (row_gr hB.out hg.out) (by decide) hlt
      obtain rfl : x = y := by rw [hx] at hy; exact Option.some.inj hy
      have hki : (k : Int) < (n : Int) := by omega
      have hk0 : (0 : Int) ≤ (k : Int) := by omega
      have a0 : wr.cell? ⟨gA, oA + k * 6, none⟩ = some (.int .i64 x.kind) := ha 0 (by decide)
      have a1 : wr.cell? ⟨gA, oA + k * 6 + 1, none⟩ = some (.int .i64 x.c.id) := ha 1 (by decide)
      have a2 : wr.cell? ⟨gA, oA + k * 6 + 2, none⟩ = some (.int .i64 x.c.rows) := ha 2 (by decide)
      have a3 : wr.cell? ⟨gA, oA + k * 6 + 3, none⟩ = some (.int .i64 x.c.size) := ha 3 (by decide)
      have a4 : wr.cell? ⟨gA, oA + k * 6 + 4, none⟩ = some (.int .i64 x.c.tl) := ha 4 (by decide)
      have a5 : wr.cell? ⟨gA, oA + k * 6 + 5, none⟩ = some (.string (txt x.c.file)) := ha 5 (by decide)
      have b0 : wr.cell? ⟨gB, oB + k * 6, none⟩ = some (.int .i64 x.kind) := hb 0 (by decide)
      have b1 : wr.cell? ⟨gB, oB + k * 6 + 1, none⟩ = some (.int .i64 x.c.id) := hb 1 (by decide)
      have b2 : wr.cell? ⟨gB, oB + k * 6 + 2, none⟩ = some (.int .i64 x.c.rows) := hb 2 (by decide)
      have b3 : wr.cell? ⟨gB, oB + k * 6 + 3, none⟩ = some (.int .i64 x.c.size) := hb 3 (by decide)
      have b4 : wr.cell? ⟨gB, oB + k * 6 + 4, none⟩ = some (.int .i64 x.c.tl) := hb 4 (by decide)
      have b5 : wr.cell? ⟨gB, oB + k * 6 + 5, none⟩ = some (.string (txt x.c.file)) := hb 5 (by decide)
      clear ha hb hx hy
      generalize x.kind = x0 at *
      generalize x.c.id = x1 at *
      generalize x.c.rows = x2 at *
      generalize x.c.size = x3 at *
      generalize x.c.tl = x4 at *
      generalize x.c.file = x5 at *
      go_wp2_with fail
      go_quiet (fail)
      go_wp2
      go_roundw
      case rel => exact ⟨k + 1, by omega, by go_num, gr_trans hg.out (gr_drewN _ _ _)⟩
      case measure => simp [intOf]; omega
    · obtain rfl : k = n := by omega
      go_wp2
      go_ret
      exact ⟨rfl, hg.out⟩
end Go.Proofs.YtmldoeeangekoaaGreat
