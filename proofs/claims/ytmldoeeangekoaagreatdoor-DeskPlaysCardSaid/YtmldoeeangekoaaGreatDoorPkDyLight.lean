/- (soft)
  Are notes few and short enough? No condition but a bound on the length.
-/
import Derived.Test.YtmldoeeangekoaaGreatDoorDyA
namespace Go.Proofs.YtmldoeeangekoaaGreatDoor.Dy
open Go.RowKit

def LightPost (n : Nat) (w : World) (e : Ending) (w' : World) : Prop := (∃ b, e = .returned (.bool b) ∧ (b = true → n ≤ 60)) ∧ w = w'
set_option maxHeartbeats 4000000 in
set_option maxRecDepth 100000 in
theorem light_any (A : Option Addr) (n c : Nat) (zs : List Nte) (w : World) (hn : n ≤ 9223372036854775807) (hr : Row w A n 6 (sR nteC zs)) :
    Calls Tryz.prog 4 #[.slice A n c] w (LightPost n w) := by
  replace hr := Lib.hid hr
  go_enter Tryz.func4, Tryz.ntmps4
  go_wp2
  go_loopw [3] (fun i wr => ∃ k : Nat, k ≤ n ∧ i = .int .i64 k ∧ w = wr) (fun i _ => n - (intOf i).toNat)
  case atStart => exact ⟨0, Nat.zero_le _, rfl, rfl⟩
  case round =>
    obtain ⟨k, hk, rfl, rfl⟩ := hrel
    by_cases hlt : k < n ∧ k < 100
    · obtain ⟨x, B, o, hx, rfl, _, hc⟩ := rowS_elem nteC_len hr.out (by decide) hlt.1
      have c5 : w.cell? ⟨B, o + k * 6 + 5, none⟩ = some (.string (txt x.c.file)) := hc 5 (by decide)
      have hki : (k : Int) < (n : Int) := by omega
      have hkj : (k : Int) < 100 := by omega
      have hk0 : (0 : Int) ≤ (k : Int) := by omega
      have c5' : w.cell? ⟨B, o + k * 6 + 1 + 4, none⟩ = some (.string (txt x.c.file)) := c5
      clear hc hx
      generalize x.c.file = s at *
      by_cases hs : 200 < s.length
      · have hsi : (200 : Int) < (s.length : Int) := by omega
        go_wp2
        go_ret
        exact ⟨⟨false, rfl, fun h => by cases h⟩, rfl⟩
      · have hsi : ¬ (200 : Int) < (s.length : Int) := by omega
        go_wp2
        go_roundw
        case rel => exact ⟨k + 1, by omega, by go_num, by first | rfl | trivial⟩
        case measure => simp [intOf]; omega
    · by_cases hkn : k < n
      · have hkj : ¬ (k : Int) < 100 := by omega
        have hki : (k : Int) < (n : Int) := by omega
        have hn60 : ((n : Int) ≤ 60) = False := eq_false (by omega)
        go_wp2
        go_ret
        exact ⟨⟨false, rfl, fun h => by cases h⟩, rfl⟩
      · obtain rfl : k = n := by omega
        by_cases h60 : k ≤ 60
        · have hn60 : (k : Int) ≤ 60 := by omega
          go_wp2
          go_ret
          exact ⟨⟨true, rfl, fun _ => h60⟩, rfl⟩
        · have hn60 : ((k : Int) ≤ 60) = False := eq_false (by omega)
          go_wp2
          go_ret
          exact ⟨⟨false, rfl, fun h => by cases h⟩, rfl⟩
end Go.Proofs.YtmldoeeangekoaaGreatDoor.Dy
