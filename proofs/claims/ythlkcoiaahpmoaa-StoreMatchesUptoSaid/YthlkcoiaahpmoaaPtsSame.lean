/-
  Two lists of points that are alike. No condition but a bound on the length.
-/
import Derived.Test.YthlkcoiaahpmoaaPoints
namespace Go.Proofs.Ythlkcoiaahpmoaa
open Go.RowKit

set_option maxHeartbeats 1000000 in
set_option maxRecDepth 100000 in
theorem samePts_yes (A B : Option Addr) (n ca cb : Nat) (zs : List (Int × Int)) (w : World) (hn : n ≤ 1000000) (hA : PtRow w A n zs) (hB : PtRow w B n zs) :
    Calls Try.prog 39 #[.slice A n ca, .slice B n cb] w fun e w' => e = .returned (.bool true) ∧ Gr w w' := by
  replace hA := Lib.hid hA
  replace hB := Lib.hid hB
  go_enter Try.func39, Try.ntmps39
  go_wp2
  go_loopw [5] (fun i wr => ∃ k : Nat, k ≤ n ∧ i = .int .i64 k ∧ Hid (Gr w wr)) (fun i _ => n - (intOf i).toNat)
  case atStart => exact ⟨0, Nat.zero_le _, rfl, gr_refl _ _⟩
  case round =>
    obtain ⟨k, hk, rfl, hg⟩ := hrel
    by_cases hlt : k < n
    · obtain ⟨gA, oA, rfl, _, ha1, ha2⟩ := pt_cell (pt_gr hA.out hg.out) hlt
      obtain ⟨gB, oB, rfl, _, hb1, hb2⟩ := pt_cell (pt_gr hB.out hg.out) hlt
      have hki : (k : Int) < (n : Int) := by omega
      have hk0 : (0 : Int) ≤ (k : Int) := by omega
      generalize pT zs k = T at *
      generalize pV zs k = V at *
      go_wp2_with fail
      go_quiet (fail)
      go_wp2
      go_roundw
      case rel => exact ⟨k + 1, by omega, by go_num, gr_trans hg.out (gr_drewN _ _ _)⟩
      case measure => simp [intOf]; omega
    · obtain rfl : k = n := by omega
      go_wp2
      go_ret
      exact ⟨rfl, hg.out⟩
end Go.Proofs.Ythlkcoiaahpmoaa
