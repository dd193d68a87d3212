/-
  (*Book).Apart, where lists of Series alone are kept: it answers true. No condition but bounds.
-/
import Derived.Test.YtccmekdmnkmhlaaGreatSqKeepSeries
namespace Go.Proofs.YtccmekdmnkmhlaaGreat.BkZ
open Go.RowKit

theorem stillTexts_no (K : Nat) (w : World) (c : w.cell? ⟨K, 0, none⟩ = some (.slice none 0 0)) : Calls Tryz.prog 43 #[.pointer (some ⟨K, 0, none⟩)] w fun e w' => e = .returned (.bool true) ∧ w = w' := by
  go_enter Tryz.func43, Tryz.ntmps43
  go_wp2
  go_loopw [3] (fun i wr => i = .int .i64 0 ∧ w = wr) (fun _ _ => 0)
  case atStart => exact ⟨rfl, rfl⟩
  case round =>
    obtain ⟨rfl, rfl⟩ := hrel
    go_wp2
    go_ret
    exact ⟨rfl, rfl⟩
theorem putTexts_no (K : Nat) (w : World) (c : w.cell? ⟨K, 0, none⟩ = some (.slice none 0 0)) : Calls Tryz.prog 55 #[.pointer (some ⟨K, 0, none⟩)] w fun e w' => e = .returned (.tuple #[]) ∧ w = w' := by
  go_enter Tryz.func55, Tryz.ntmps55
  go_wp2
  go_loopw [2] (fun i wr => i = .int .i64 0 ∧ w = wr) (fun _ _ => 0)
  case atStart => exact ⟨rfl, rfl⟩
  case round =>
    obtain ⟨rfl, rfl⟩ := hrel
    go_wp2
    go_end0
    exact ⟨rfl, rfl⟩
theorem growTexts_no (K : Nat) (w : World) (c : w.cell? ⟨K, 0, none⟩ = some (.slice none 0 0)) : Calls Tryz.prog 63 #[.pointer (some ⟨K, 0, none⟩)] w fun e w' => e = .returned (.slice none 0 0) ∧ w = w' := by
  go_enter Tryz.func63, Tryz.ntmps63
  go_wp2
  go_loopw [3, 4] (fun o i wr => o = .slice none 0 0 ∧ i = .int .i64 0 ∧ w = wr) (fun _ _ _ => 0)
  case atStart => exact ⟨rfl, rfl, rfl⟩
  case round =>
    obtain ⟨rfl, rfl, rfl⟩ := hrel
    go_wp2
    go_ret
    exact ⟨rfl, rfl⟩
theorem markedTexts_no (w : World) : Calls Tryz.prog 73 #[.slice none 0 0] w fun e w' => e = .returned (.bool true) ∧ w = w' := by
  go_enter Tryz.func73, Tryz.ntmps73
  go_wp2
  go_loopw [3] (fun i wr => i = .int .i64 0 ∧ w = wr) (fun _ _ => 0)
  case atStart => exact ⟨rfl, rfl⟩
  case round =>
    obtain ⟨rfl, rfl⟩ := hrel
    go_wp2
    go_ret
    exact ⟨rfl, rfl⟩

theorem stillInts_no (K : Nat) (w : World) (c : w.cell? ⟨K, 2, none⟩ = some (.slice none 0 0)) : Calls Tryz.prog 44 #[.pointer (some ⟨K, 0, none⟩)] w fun e w' => e = .returned (.bool true) ∧ w = w' := by
  go_enter Tryz.func44, Tryz.ntmps44
  go_wp2
  go_loopw [3] (fun i wr => i = .int .i64 0 ∧ w = wr) (fun _ _ => 0)
  case atStart => exact ⟨rfl, rfl⟩
  case round =>
    obtain ⟨rfl, rfl⟩ := hrel
    go_wp2
    go_ret
    exact ⟨rfl, rfl⟩
theorem putInts_no (K : Nat) (w : World) (c : w.cell? ⟨K, 2, none⟩ = some (.slice none 0 0)) : Calls Tryz.prog 56 #[.pointer (some ⟨K, 0, none⟩)] w fun e w' => e = .returned (.tuple #[]) ∧ w = w' := by
  go_enter Tryz.func56, Tryz.ntmps56
  go_wp2
  go_loopw [2] (fun i wr => i = .int .i64 0 ∧ w = wr) (fun _ _ => 0)
  case atStart => exact ⟨rfl, rfl⟩
  case round =>
    obtain ⟨rfl, rfl⟩ := hrel
    go_wp2
    go_end0
    exact ⟨rfl, rfl⟩
theorem growInts_no (K : Nat) (w : World) (c : w.cell? ⟨K, 2, none⟩ = some (.slice none 0 0)) : Calls Tryz.prog 64 #[.pointer (some ⟨K, 0, none⟩)] w fun e w' => e = .returned (.slice none 0 0) ∧ w = w' := by
  go_enter Tryz.func64, Tryz.ntmps64
  go_wp2
  go_loopw [3, 4] (fun o i wr => o = .slice none 0 0 ∧ i = .int .i64 0 ∧ w = wr) (fun _ _ _ => 0)
  case atStart => exact ⟨rfl, rfl, rfl⟩
  case round =>
    obtain ⟨rfl, rfl, rfl⟩ := hrel
    go_wp2
    go_ret
    exact ⟨rfl, rfl⟩
theorem markedInts_no (w : World) : Calls Tryz.prog 74 #[.slice none 0 0] w fun e w' => e = .returned (.bool true) ∧ w = w' := by
  go_enter Tryz.func74, Tryz.ntmps74
  go_wp2
  go_loopw [3] (fun i wr => i = .int .i64 0 ∧ w = wr) (fun _ _ => 0)
  case atStart => exact ⟨rfl, rfl⟩
  case round =>
    obtain ⟨rfl, rfl⟩ := hrel
    go_wp2
    go_ret
    exact ⟨rfl, rfl⟩

theorem stillRunes_no (K : Nat) (w : World) (c : w.cell? ⟨K, 4, none⟩ = some (.slice none 0 0)) : Calls Tryz.prog 45 #[.pointer (some ⟨K, 0, none⟩)] w fun e w' => e = .returned (.bool true) ∧ w = w' := by
  go_enter Tryz.func45, Tryz.ntmps45
  go_wp2
  go_loopw [3] (fun i wr => i = .int .i64 0 ∧ w = wr) (fun _ _ => 0)
  case atStart => exact ⟨rfl, rfl⟩
  case round =>
    obtain ⟨rfl, rfl⟩ := hrel
    go_wp2
    go_ret
    exact ⟨rfl, rfl⟩
theorem putRunes_no (K : Nat) (w : World) (c : w.cell? ⟨K, 4, none⟩ = some (.slice none 0 0)) : Calls Tryz.prog 57 #[.pointer (some ⟨K, 0, none⟩)] w fun e w' => e = .returned (.tuple #[]) ∧ w = w' := by
  go_enter Tryz.func57, Tryz.ntmps57
  go_wp2
  go_loopw [2] (fun i wr => i = .int .i64 0 ∧ w = wr) (fun _ _ => 0)
  case atStart => exact ⟨rfl, rfl⟩
  case round =>
    obtain ⟨rfl, rfl⟩ := hrel
    go_wp2
    go_end0
    exact ⟨rfl, rfl⟩
theorem growRunes_no (K : Nat) (w : World) (c : w.cell? ⟨K, 4, none⟩ = some (.slice none 0 0)) : Calls Tryz.prog 65 #[.pointer (some ⟨K, 0, none⟩)] w fun e w' => e = .returned (.slice none 0 0) ∧ w = w' := by
  go_enter Tryz.func65, Tryz.ntmps65
  go_wp2
  go_loopw [3, 4] (fun o i wr => o = .slice none 0 0 ∧ i = .int .i64 0 ∧ w = wr) (fun _ _ _ => 0)
  case atStart => exact ⟨rfl, rfl, rfl⟩
  case round =>
    obtain ⟨rfl, rfl, rfl⟩ := hrel
    go_wp2
    go_ret
    exact ⟨rfl, rfl⟩
theorem markedRunes_no (w : World) : Calls Tryz.prog 75 #[.slice none 0 0] w fun e w' => e = .returned (.bool true) ∧ w = w' := by
  go_enter Tryz.func75, Tryz.ntmps75
  go_wp2
  go_loopw [3] (fun i wr => i = .int .i64 0 ∧ w = wr) (fun _ _ => 0)
  case atStart => exact ⟨rfl, rfl⟩
  case round =>
    obtain ⟨rfl, rfl⟩ := hrel
    go_wp2
    go_ret
    exact ⟨rfl, rfl⟩

theorem stillLabels_no (K : Nat) (w : World) (c : w.cell? ⟨K, 6, none⟩ = some (.slice none 0 0)) : Calls Tryz.prog 46 #[.pointer (some ⟨K, 0, none⟩)] w fun e w' => e = .returned (.bool true) ∧ w = w' := by
  go_enter Tryz.func46, Tryz.ntmps46
  go_wp2
  go_loopw [3] (fun i wr => i = .int .i64 0 ∧ w = wr) (fun _ _ => 0)
  case atStart => exact ⟨rfl, rfl⟩
  case round =>
    obtain ⟨rfl, rfl⟩ := hrel
    go_wp2
    go_ret
    exact ⟨rfl, rfl⟩
theorem putLabels_no (K : Nat) (w : World) (c : w.cell? ⟨K, 6, none⟩ = some (.slice none 0 0)) : Calls Tryz.prog 58 #[.pointer (some ⟨K, 0, none⟩)] w fun e w' => e = .returned (.tuple #[]) ∧ w = w' := by
  go_enter Tryz.func58, Tryz.ntmps58
  go_wp2
  go_loopw [2] (fun i wr => i = .int .i64 0 ∧ w = wr) (fun _ _ => 0)
  case atStart => exact ⟨rfl, rfl⟩
  case round =>
    obtain ⟨rfl, rfl⟩ := hrel
    go_wp2
    go_end0
    exact ⟨rfl, rfl⟩
theorem growLabels_no (K : Nat) (w : World) (c : w.cell? ⟨K, 6, none⟩ = some (.slice none 0 0)) : Calls Tryz.prog 66 #[.pointer (some ⟨K, 0, none⟩)] w fun e w' => e = .returned (.slice none 0 0) ∧ w = w' := by
  go_enter Tryz.func66, Tryz.ntmps66
  go_wp2
  go_loopw [3, 4] (fun o i wr => o = .slice none 0 0 ∧ i = .int .i64 0 ∧ w = wr) (fun _ _ _ => 0)
  case atStart => exact ⟨rfl, rfl, rfl⟩
  case round =>
    obtain ⟨rfl, rfl, rfl⟩ := hrel
    go_wp2
    go_ret
    exact ⟨rfl, rfl⟩
theorem markedLabels_no (w : World) : Calls Tryz.prog 76 #[.slice none 0 0] w fun e w' => e = .returned (.bool true) ∧ w = w' := by
  go_enter Tryz.func76, Tryz.ntmps76
  go_wp2
  go_loopw [3] (fun i wr => i = .int .i64 0 ∧ w = wr) (fun _ _ => 0)
  case atStart => exact ⟨rfl, rfl⟩
  case round =>
    obtain ⟨rfl, rfl⟩ := hrel
    go_wp2
    go_ret
    exact ⟨rfl, rfl⟩

theorem stillPoints_no (K : Nat) (w : World) (c : w.cell? ⟨K, 8, none⟩ = some (.slice none 0 0)) : Calls Tryz.prog 47 #[.pointer (some ⟨K, 0, none⟩)] w fun e w' => e = .returned (.bool true) ∧ w = w' := by
  go_enter Tryz.func47, Tryz.ntmps47
  go_wp2
  go_loopw [3] (fun i wr => i = .int .i64 0 ∧ w = wr) (fun _ _ => 0)
  case atStart => exact ⟨rfl, rfl⟩
  case round =>
    obtain ⟨rfl, rfl⟩ := hrel
    go_wp2
    go_ret
    exact ⟨rfl, rfl⟩
theorem putPoints_no (K : Nat) (w : World) (c : w.cell? ⟨K, 8, none⟩ = some (.slice none 0 0)) : Calls Tryz.prog 59 #[.pointer (some ⟨K, 0, none⟩)] w fun e w' => e = .returned (.tuple #[]) ∧ w = w' := by
  go_enter Tryz.func59, Tryz.ntmps59
  go_wp2
  go_loopw [2] (fun i wr => i = .int .i64 0 ∧ w = wr) (fun _ _ => 0)
  case atStart => exact ⟨rfl, rfl⟩
  case round =>
    obtain ⟨rfl, rfl⟩ := hrel
    go_wp2
    go_end0
    exact ⟨rfl, rfl⟩
theorem growPoints_no (K : Nat) (w : World) (c : w.cell? ⟨K, 8, none⟩ = some (.slice none 0 0)) : Calls Tryz.prog 67 #[.pointer (some ⟨K, 0, none⟩)] w fun e w' => e = .returned (.slice none 0 0) ∧ w = w' := by
  go_enter Tryz.func67, Tryz.ntmps67
  go_wp2
  go_loopw [3, 4] (fun o i wr => o = .slice none 0 0 ∧ i = .int .i64 0 ∧ w = wr) (fun _ _ _ => 0)
  case atStart => exact ⟨rfl, rfl, rfl⟩
  case round =>
    obtain ⟨rfl, rfl, rfl⟩ := hrel
    go_wp2
    go_ret
    exact ⟨rfl, rfl⟩
theorem markedPoints_no (w : World) : Calls Tryz.prog 77 #[.slice none 0 0] w fun e w' => e = .returned (.bool true) ∧ w = w' := by
  go_enter Tryz.func77, Tryz.ntmps77
  go_wp2
  go_loopw [3] (fun i wr => i = .int .i64 0 ∧ w = wr) (fun _ _ => 0)
  case atStart => exact ⟨rfl, rfl⟩
  case round =>
    obtain ⟨rfl, rfl⟩ := hrel
    go_wp2
    go_ret
    exact ⟨rfl, rfl⟩

theorem stillTokens_no (K : Nat) (w : World) (c : w.cell? ⟨K, 10, none⟩ = some (.slice none 0 0)) : Calls Tryz.prog 48 #[.pointer (some ⟨K, 0, none⟩)] w fun e w' => e = .returned (.bool true) ∧ w = w' := by
  go_enter Tryz.func48, Tryz.ntmps48
  go_wp2
  go_loopw [3] (fun i wr => i = .int .i64 0 ∧ w = wr) (fun _ _ => 0)
  case atStart => exact ⟨rfl, rfl⟩
  case round =>
    obtain ⟨rfl, rfl⟩ := hrel
    go_wp2
    go_ret
    exact ⟨rfl, rfl⟩
theorem putTokens_no (K : Nat) (w : World) (c : w.cell? ⟨K, 10, none⟩ = some (.slice none 0 0)) : Calls Tryz.prog 60 #[.pointer (some ⟨K, 0, none⟩)] w fun e w' => e = .returned (.tuple #[]) ∧ w = w' := by
  go_enter Tryz.func60, Tryz.ntmps60
  go_wp2
  go_loopw [2] (fun i wr => i = .int .i64 0 ∧ w = wr) (fun _ _ => 0)
  case atStart => exact ⟨rfl, rfl⟩
  case round =>
    obtain ⟨rfl, rfl⟩ := hrel
    go_wp2
    go_end0
    exact ⟨rfl, rfl⟩
theorem growTokens_no (K : Nat) (w : World) (c : w.cell? ⟨K, 10, none⟩ = some (.slice none 0 0)) : Calls Tryz.prog 68 #[.pointer (some ⟨K, 0, none⟩)] w fun e w' => e = .returned (.slice none 0 0) ∧ w = w' := by
  go_enter Tryz.func68, Tryz.ntmps68
  go_wp2
  go_loopw [3, 4] (fun o i wr => o = .slice none 0 0 ∧ i = .int .i64 0 ∧ w = wr) (fun _ _ _ => 0)
  case atStart => exact ⟨rfl, rfl, rfl⟩
  case round =>
    obtain ⟨rfl, rfl, rfl⟩ := hrel
    go_wp2
    go_ret
    exact ⟨rfl, rfl⟩
theorem markedTokens_no (w : World) : Calls Tryz.prog 78 #[.slice none 0 0] w fun e w' => e = .returned (.bool true) ∧ w = w' := by
  go_enter Tryz.func78, Tryz.ntmps78
  go_wp2
  go_loopw [3] (fun i wr => i = .int .i64 0 ∧ w = wr) (fun _ _ => 0)
  case atStart => exact ⟨rfl, rfl⟩
  case round =>
    obtain ⟨rfl, rfl⟩ := hrel
    go_wp2
    go_ret
    exact ⟨rfl, rfl⟩

theorem stillCursors_no (K : Nat) (w : World) (c : w.cell? ⟨K, 12, none⟩ = some (.slice none 0 0)) : Calls Tryz.prog 49 #[.pointer (some ⟨K, 0, none⟩)] w fun e w' => e = .returned (.bool true) ∧ w = w' := by
  go_enter Tryz.func49, Tryz.ntmps49
  go_wp2
  go_loopw [3] (fun i wr => i = .int .i64 0 ∧ w = wr) (fun _ _ => 0)
  case atStart => exact ⟨rfl, rfl⟩
  case round =>
    obtain ⟨rfl, rfl⟩ := hrel
    go_wp2
    go_ret
    exact ⟨rfl, rfl⟩
theorem putCursors_no (K : Nat) (w : World) (c : w.cell? ⟨K, 12, none⟩ = some (.slice none 0 0)) : Calls Tryz.prog 61 #[.pointer (some ⟨K, 0, none⟩)] w fun e w' => e = .returned (.tuple #[]) ∧ w = w' := by
  go_enter Tryz.func61, Tryz.ntmps61
  go_wp2
  go_loopw [2] (fun i wr => i = .int .i64 0 ∧ w = wr) (fun _ _ => 0)
  case atStart => exact ⟨rfl, rfl⟩
  case round =>
    obtain ⟨rfl, rfl⟩ := hrel
    go_wp2
    go_end0
    exact ⟨rfl, rfl⟩
theorem growCursors_no (K : Nat) (w : World) (c : w.cell? ⟨K, 12, none⟩ = some (.slice none 0 0)) : Calls Tryz.prog 69 #[.pointer (some ⟨K, 0, none⟩)] w fun e w' => e = .returned (.slice none 0 0) ∧ w = w' := by
  go_enter Tryz.func69, Tryz.ntmps69
  go_wp2
  go_loopw [3, 4] (fun o i wr => o = .slice none 0 0 ∧ i = .int .i64 0 ∧ w = wr) (fun _ _ _ => 0)
  case atStart => exact ⟨rfl, rfl, rfl⟩
  case round =>
    obtain ⟨rfl, rfl, rfl⟩ := hrel
    go_wp2
    go_ret
    exact ⟨rfl, rfl⟩
theorem markedCursors_no (w : World) : Calls Tryz.prog 79 #[.slice none 0 0] w fun e w' => e = .returned (.bool true) ∧ w = w' := by
  go_enter Tryz.func79, Tryz.ntmps79
  go_wp2
  go_loopw [3] (fun i wr => i = .int .i64 0 ∧ w = wr) (fun _ _ => 0)
  case atStart => exact ⟨rfl, rfl⟩
  case round =>
    obtain ⟨rfl, rfl⟩ := hrel
    go_wp2
    go_ret
    exact ⟨rfl, rfl⟩

theorem stillNotes_no (K : Nat) (w : World) (c : w.cell? ⟨K, 14, none⟩ = some (.slice none 0 0)) : Calls Tryz.prog 50 #[.pointer (some ⟨K, 0, none⟩)] w fun e w' => e = .returned (.bool true) ∧ w = w' := by
  go_enter Tryz.func50, Tryz.ntmps50
  go_wp2
  go_loopw [3] (fun i wr => i = .int .i64 0 ∧ w = wr) (fun _ _ => 0)
  case atStart => exact ⟨rfl, rfl⟩
  case round =>
    obtain ⟨rfl, rfl⟩ := hrel
    go_wp2
    go_ret
    exact ⟨rfl, rfl⟩
theorem putNotes_no (K : Nat) (w : World) (c : w.cell? ⟨K, 14, none⟩ = some (.slice none 0 0)) : Calls Tryz.prog 62 #[.pointer (some ⟨K, 0, none⟩)] w fun e w' => e = .returned (.tuple #[]) ∧ w = w' := by
  go_enter Tryz.func62, Tryz.ntmps62
  go_wp2
  go_loopw [2] (fun i wr => i = .int .i64 0 ∧ w = wr) (fun _ _ => 0)
  case atStart => exact ⟨rfl, rfl⟩
  case round =>
    obtain ⟨rfl, rfl⟩ := hrel
    go_wp2
    go_end0
    exact ⟨rfl, rfl⟩
theorem growNotes_no (K : Nat) (w : World) (c : w.cell? ⟨K, 14, none⟩ = some (.slice none 0 0)) : Calls Tryz.prog 70 #[.pointer (some ⟨K, 0, none⟩)] w fun e w' => e = .returned (.slice none 0 0) ∧ w = w' := by
  go_enter Tryz.func70, Tryz.ntmps70
  go_wp2
  go_loopw [3, 4] (fun o i wr => o = .slice none 0 0 ∧ i = .int .i64 0 ∧ w = wr) (fun _ _ _ => 0)
  case atStart => exact ⟨rfl, rfl, rfl⟩
  case round =>
    obtain ⟨rfl, rfl, rfl⟩ := hrel
    go_wp2
    go_ret
    exact ⟨rfl, rfl⟩
theorem markedNotes_no (w : World) : Calls Tryz.prog 80 #[.slice none 0 0] w fun e w' => e = .returned (.bool true) ∧ w = w' := by
  go_enter Tryz.func80, Tryz.ntmps80
  go_wp2
  go_loopw [3] (fun i wr => i = .int .i64 0 ∧ w = wr) (fun _ _ => 0)
  case atStart => exact ⟨rfl, rfl⟩
  case round =>
    obtain ⟨rfl, rfl⟩ := hrel
    go_wp2
    go_ret
    exact ⟨rfl, rfl⟩

theorem stillRows_no (K : Nat) (w : World) (c : w.cell? ⟨K, 16, none⟩ = some (.slice none 0 0)) : Calls Tryz.prog 51 #[.pointer (some ⟨K, 0, none⟩)] w fun e w' => e = .returned (.bool true) ∧ w = w' := by
  go_enter Tryz.func51, Tryz.ntmps51
  go_wp2
  go_loopw [3] (fun i wr => i = .int .i64 0 ∧ w = wr) (fun _ _ => 0)
  case atStart => exact ⟨rfl, rfl⟩
  case round =>
    obtain ⟨rfl, rfl⟩ := hrel
    go_wp2
    go_ret
    exact ⟨rfl, rfl⟩
theorem putRows_no (K : Nat) (w : World) (c : w.cell? ⟨K, 16, none⟩ = some (.slice none 0 0)) : Calls Tryz.prog 53 #[.pointer (some ⟨K, 0, none⟩)] w fun e w' => e = .returned (.tuple #[]) ∧ w = w' := by
  go_enter Tryz.func53, Tryz.ntmps53
  go_wp2
  go_loopw [2] (fun i wr => i = .int .i64 0 ∧ w = wr) (fun _ _ => 0)
  case atStart => exact ⟨rfl, rfl⟩
  case round =>
    obtain ⟨rfl, rfl⟩ := hrel
    go_wp2
    go_end0
    exact ⟨rfl, rfl⟩
theorem growRows_no (K : Nat) (w : World) (c : w.cell? ⟨K, 16, none⟩ = some (.slice none 0 0)) : Calls Tryz.prog 71 #[.pointer (some ⟨K, 0, none⟩)] w fun e w' => e = .returned (.slice none 0 0) ∧ w = w' := by
  go_enter Tryz.func71, Tryz.ntmps71
  go_wp2
  go_loopw [3, 4] (fun o i wr => o = .slice none 0 0 ∧ i = .int .i64 0 ∧ w = wr) (fun _ _ _ => 0)
  case atStart => exact ⟨rfl, rfl, rfl⟩
  case round =>
    obtain ⟨rfl, rfl, rfl⟩ := hrel
    go_wp2
    go_ret
    exact ⟨rfl, rfl⟩
theorem markedRows_no (w : World) : Calls Tryz.prog 81 #[.slice none 0 0] w fun e w' => e = .returned (.bool true) ∧ w = w' := by
  go_enter Tryz.func81, Tryz.ntmps81
  go_wp2
  go_loopw [3] (fun i wr => i = .int .i64 0 ∧ w = wr) (fun _ _ => 0)
  case atStart => exact ⟨rfl, rfl⟩
  case round =>
    obtain ⟨rfl, rfl⟩ := hrel
    go_wp2
    go_ret
    exact ⟨rfl, rfl⟩


set_option maxHeartbeats 16000000 in
set_option maxRecDepth 100000 in
theorem apart_any (K : Nat) (T V : Lst) (ls cs : List Lst) (w : World) (hk : ls.length ≤ 250) (hcs : cs.length = ls.length) (h : Kept w K T V ls cs) (hp : Parted ls)
    (hown : ∀ (j : Nat) (l c : Lst), ls[j]? = some l → cs[j]? = some c → l.n ≤ 100000 ∧ c.n = l.n ∧ ∃ (zs zc : List SHd), w.ownsRow 0 73 2 l.v l.n (bkR zs) ∧ w.ownsRow 0 73 2 c.v c.n (bkR zc) ∧ SerPair w l.A c.A l.n) :
    Calls Tryz.prog 20 #[.pointer (some ⟨K, 0, none⟩)] w fun e w' => e = .returned (.bool true) ∧ GrS (InL ls) w w' := by
  obtain ⟨hblk, hT, hV, nT, nV, hne⟩ := h
  have has : ∀ (j : Nat) (l : Lst), ls[j]? = some l → ∃ c, cs[j]? = some c := fun j l hl => by
    have := (List.getElem?_eq_some_iff.1 hl).1
    exact ⟨_, List.getElem?_eq_getElem (by omega)⟩
  have hKn : ¬ InL ls K := by
    rintro ⟨l, hm, hb⟩
    obtain ⟨j, hj⟩ := List.getElem?_of_mem hm
    obtain ⟨c, hc⟩ := has j l hj
    obtain ⟨_, _, zs, zc, ho, _⟩ := hown j l c hj hc
    rcases own_not_bk ho hblk (by decide) with h1 | h1
    · rw [hb] at h1; cases h1
    · exact h1 hb
  have hTn : ∀ a, T.A = some a → ¬ InL ls a.block := by
    rintro a ha ⟨l, hm, hb⟩
    obtain ⟨j, hj⟩ := List.getElem?_of_mem hm
    obtain ⟨c, hc⟩ := has j l hj
    obtain ⟨_, _, zs, zc, ho, _⟩ := hown j l c hj hc
    rcases own_types ho hT (by decide) with h1 | h1
    · rw [hb] at h1; cases h1
    · exact h1 (hb.trans (own_blk ha).symm)
  have hrT : Row w T.A ls.length 1 (ls.map Lst.v) := by rw [← nT]; exact row_own hT
  have hrV : Row w V.A ls.length 1 (cs.map Lst.v) := by rw [← hcs, ← nV]; exact row_own hV
  have hs1 := still_any K T V ls cs w hk nT (by omega) hcs (bk_cell hblk rfl) (bk_cell hblk rfl) hrT hrV (fun i l c hl hc => by
    obtain ⟨h1, h2, zs, zc, _, _, h5⟩ := hown i l c hl hc
    exact ⟨h2, h1, h5⟩)
  have hown1 : ∀ (j : Nat) (l : Lst), ls[j]? = some l → l.n ≤ 100000 ∧ ∃ zs : List SHd, w.ownsRow 0 73 2 l.v l.n (bkR zs) := fun j l hl => by
    obtain ⟨c, hc⟩ := has j l hl
    obtain ⟨h1, _, zs, zc, h3, _⟩ := hown j l c hl hc
    exact ⟨h1, zs, h3⟩
  have dwTexts : w.cell? ⟨K, 0, none⟩ = some (.slice none 0 0) := bk_cell hblk rfl
  have dwInts : w.cell? ⟨K, 2, none⟩ = some (.slice none 0 0) := bk_cell hblk rfl
  have dwRunes : w.cell? ⟨K, 4, none⟩ = some (.slice none 0 0) := bk_cell hblk rfl
  have dwLabels : w.cell? ⟨K, 6, none⟩ = some (.slice none 0 0) := bk_cell hblk rfl
  have dwPoints : w.cell? ⟨K, 8, none⟩ = some (.slice none 0 0) := bk_cell hblk rfl
  have dwTokens : w.cell? ⟨K, 10, none⟩ = some (.slice none 0 0) := bk_cell hblk rfl
  have dwCursors : w.cell? ⟨K, 12, none⟩ = some (.slice none 0 0) := bk_cell hblk rfl
  have dwNotes : w.cell? ⟨K, 14, none⟩ = some (.slice none 0 0) := bk_cell hblk rfl
  have dwRows : w.cell? ⟨K, 16, none⟩ = some (.slice none 0 0) := bk_cell hblk rfl
  have dwSeries : w.cell? ⟨K, 18, none⟩ = some (T.v) := bk_cell hblk rfl
  clear hown hV hrV nV hne
  replace hblk := Lib.hid hblk
  replace hKn := Lib.hid hKn
  replace hTn := Lib.hid hTn
  replace hrT := Lib.hid hrT
  replace hs1 := Lib.hid hs1
  replace hown1 := Lib.hid hown1
  replace hp := Lib.hid hp
  replace has := Lib.hid has
  replace hT := Lib.hid hT
  replace nT := Lib.hid nT
  go_enter Tryz.func20, Tryz.ntmps20

  go_wp2_with fail
  refine (stillTexts_no K _ dwTexts).mono ?_
  rintro e w9 ⟨rfl, rfl⟩

  go_wp2_with fail
  refine (stillInts_no K _ dwInts).mono ?_
  rintro e w9 ⟨rfl, rfl⟩

  go_wp2_with fail
  refine (stillRunes_no K _ dwRunes).mono ?_
  rintro e w9 ⟨rfl, rfl⟩

  go_wp2_with fail
  refine (stillLabels_no K _ dwLabels).mono ?_
  rintro e w9 ⟨rfl, rfl⟩

  go_wp2_with fail
  refine (stillPoints_no K _ dwPoints).mono ?_
  rintro e w9 ⟨rfl, rfl⟩

  go_wp2_with fail
  refine (stillTokens_no K _ dwTokens).mono ?_
  rintro e w9 ⟨rfl, rfl⟩

  go_wp2_with fail
  refine (stillCursors_no K _ dwCursors).mono ?_
  rintro e w9 ⟨rfl, rfl⟩

  go_wp2_with fail
  refine (stillNotes_no K _ dwNotes).mono ?_
  rintro e w9 ⟨rfl, rfl⟩

  go_wp2_with fail
  refine (stillRows_no K _ dwRows).mono ?_
  rintro e w9 ⟨rfl, rfl⟩

  go_wp2_with fail
  refine hs1.out.mono ?_
  rintro e w1 ⟨rfl, g1⟩
  have hblk1 := gr_blk g1 hblk.out (by simp)
  have dw1Texts : w1.cell? ⟨K, 0, none⟩ = some (.slice none 0 0) := bk_cell hblk1 rfl
  have dw1Ints : w1.cell? ⟨K, 2, none⟩ = some (.slice none 0 0) := bk_cell hblk1 rfl
  have dw1Runes : w1.cell? ⟨K, 4, none⟩ = some (.slice none 0 0) := bk_cell hblk1 rfl
  have dw1Labels : w1.cell? ⟨K, 6, none⟩ = some (.slice none 0 0) := bk_cell hblk1 rfl
  have dw1Points : w1.cell? ⟨K, 8, none⟩ = some (.slice none 0 0) := bk_cell hblk1 rfl
  have dw1Tokens : w1.cell? ⟨K, 10, none⟩ = some (.slice none 0 0) := bk_cell hblk1 rfl
  have dw1Cursors : w1.cell? ⟨K, 12, none⟩ = some (.slice none 0 0) := bk_cell hblk1 rfl
  have dw1Notes : w1.cell? ⟨K, 14, none⟩ = some (.slice none 0 0) := bk_cell hblk1 rfl
  have dw1Rows : w1.cell? ⟨K, 16, none⟩ = some (.slice none 0 0) := bk_cell hblk1 rfl
  have dw1Series : w1.cell? ⟨K, 18, none⟩ = some (T.v) := bk_cell hblk1 rfl
  have hrT1 := row_gr hrT.out g1
  have hpt := put_any K T ls w1 hk nT.out dw1Series hrT1 hKn.out hTn.out hp.out (fun j l hl => by
    obtain ⟨h1, zs, h3⟩ := hown1.out j l hl
    exact ⟨h1, zs, h3.kept g1 (by cases l.v.ownBlock <;> simp)⟩)
  clear dwTexts dwInts dwRunes dwLabels dwPoints dwTokens dwCursors dwNotes dwRows dwSeries
  replace hblk1 := Lib.hid hblk1
  replace hrT1 := Lib.hid hrT1
  replace hpt := Lib.hid hpt
  replace g1 := Lib.hid g1

  go_wp2_with fail
  refine (putRows_no K _ dw1Rows).mono ?_
  rintro e w9 ⟨rfl, rfl⟩

  go_wp2_with fail
  refine hpt.out.mono ?_
  rintro e w2 ⟨rfl, g2, hown2⟩
  have hblk2 := grs_blk g2 hblk1.out hKn.out
  have dw2Texts : w2.cell? ⟨K, 0, none⟩ = some (.slice none 0 0) := bk_cell hblk2 rfl
  have dw2Ints : w2.cell? ⟨K, 2, none⟩ = some (.slice none 0 0) := bk_cell hblk2 rfl
  have dw2Runes : w2.cell? ⟨K, 4, none⟩ = some (.slice none 0 0) := bk_cell hblk2 rfl
  have dw2Labels : w2.cell? ⟨K, 6, none⟩ = some (.slice none 0 0) := bk_cell hblk2 rfl
  have dw2Points : w2.cell? ⟨K, 8, none⟩ = some (.slice none 0 0) := bk_cell hblk2 rfl
  have dw2Tokens : w2.cell? ⟨K, 10, none⟩ = some (.slice none 0 0) := bk_cell hblk2 rfl
  have dw2Cursors : w2.cell? ⟨K, 12, none⟩ = some (.slice none 0 0) := bk_cell hblk2 rfl
  have dw2Notes : w2.cell? ⟨K, 14, none⟩ = some (.slice none 0 0) := bk_cell hblk2 rfl
  have dw2Rows : w2.cell? ⟨K, 16, none⟩ = some (.slice none 0 0) := bk_cell hblk2 rfl
  have dw2Series : w2.cell? ⟨K, 18, none⟩ = some (T.v) := bk_cell hblk2 rfl
  have hrT2 := row_grs hrT1.out g2 hTn.out
  have hgt := grow_any K T ls w2 hk nT.out dw2Series hrT2 hKn.out hTn.out hp.out (fun j l hl => ⟨(hown1.out j l hl).1, hown2 j l hl⟩)
  clear dw1Texts dw1Ints dw1Runes dw1Labels dw1Points dw1Tokens dw1Cursors dw1Notes dw1Rows dw1Series
  replace hblk2 := Lib.hid hblk2
  replace hrT2 := Lib.hid hrT2
  replace hgt := Lib.hid hgt
  replace g2 := Lib.hid g2
  replace hown2 := Lib.hid hown2

  go_wp2_with fail
  refine (putTexts_no K _ dw2Texts).mono ?_
  rintro e w9 ⟨rfl, rfl⟩

  go_wp2_with fail
  refine (putInts_no K _ dw2Ints).mono ?_
  rintro e w9 ⟨rfl, rfl⟩

  go_wp2_with fail
  refine (putRunes_no K _ dw2Runes).mono ?_
  rintro e w9 ⟨rfl, rfl⟩

  go_wp2_with fail
  refine (putLabels_no K _ dw2Labels).mono ?_
  rintro e w9 ⟨rfl, rfl⟩

  go_wp2_with fail
  refine (putPoints_no K _ dw2Points).mono ?_
  rintro e w9 ⟨rfl, rfl⟩

  go_wp2_with fail
  refine (putTokens_no K _ dw2Tokens).mono ?_
  rintro e w9 ⟨rfl, rfl⟩

  go_wp2_with fail
  refine (putCursors_no K _ dw2Cursors).mono ?_
  rintro e w9 ⟨rfl, rfl⟩

  go_wp2_with fail
  refine (putNotes_no K _ dw2Notes).mono ?_
  rintro e w9 ⟨rfl, rfl⟩

  go_wp2_with fail
  refine (growTexts_no K _ dw2Texts).mono ?_
  rintro e w9 ⟨rfl, rfl⟩

  go_wp2_with fail
  refine (growInts_no K _ dw2Ints).mono ?_
  rintro e w9 ⟨rfl, rfl⟩

  go_wp2_with fail
  refine (growRunes_no K _ dw2Runes).mono ?_
  rintro e w9 ⟨rfl, rfl⟩

  go_wp2_with fail
  refine (growLabels_no K _ dw2Labels).mono ?_
  rintro e w9 ⟨rfl, rfl⟩

  go_wp2_with fail
  refine (growPoints_no K _ dw2Points).mono ?_
  rintro e w9 ⟨rfl, rfl⟩

  go_wp2_with fail
  refine (growTokens_no K _ dw2Tokens).mono ?_
  rintro e w9 ⟨rfl, rfl⟩

  go_wp2_with fail
  refine (growCursors_no K _ dw2Cursors).mono ?_
  rintro e w9 ⟨rfl, rfl⟩

  go_wp2_with fail
  refine (growNotes_no K _ dw2Notes).mono ?_
  rintro e w9 ⟨rfl, rfl⟩

  go_wp2_with fail
  refine (growRows_no K _ dw2Rows).mono ?_
  rintro e w9 ⟨rfl, rfl⟩

  go_wp2_with fail
  refine hgt.out.mono ?_
  rintro e w3 ⟨gA, gc, gs, rfl, hgl, hrG, hgg, hll, g3⟩
  have hblk3 := grs_blk g3 hblk2.out hKn.out
  have dw3Texts : w3.cell? ⟨K, 0, none⟩ = some (.slice none 0 0) := bk_cell hblk3 rfl
  have dw3Ints : w3.cell? ⟨K, 2, none⟩ = some (.slice none 0 0) := bk_cell hblk3 rfl
  have dw3Runes : w3.cell? ⟨K, 4, none⟩ = some (.slice none 0 0) := bk_cell hblk3 rfl
  have dw3Labels : w3.cell? ⟨K, 6, none⟩ = some (.slice none 0 0) := bk_cell hblk3 rfl
  have dw3Points : w3.cell? ⟨K, 8, none⟩ = some (.slice none 0 0) := bk_cell hblk3 rfl
  have dw3Tokens : w3.cell? ⟨K, 10, none⟩ = some (.slice none 0 0) := bk_cell hblk3 rfl
  have dw3Cursors : w3.cell? ⟨K, 12, none⟩ = some (.slice none 0 0) := bk_cell hblk3 rfl
  have dw3Notes : w3.cell? ⟨K, 14, none⟩ = some (.slice none 0 0) := bk_cell hblk3 rfl
  have dw3Rows : w3.cell? ⟨K, 16, none⟩ = some (.slice none 0 0) := bk_cell hblk3 rfl
  have dw3Series : w3.cell? ⟨K, 18, none⟩ = some (T.v) := bk_cell hblk3 rfl
  have hrT3 := row_grs hrT2.out g3 hTn.out
  have hmG : ∀ w', Gr w3 w' → Calls Tryz.prog 82 #[.slice gA ls.length gc] w' fun e w'' => e = .returned (.bool true) ∧ Gr w' w'' := fun w' g => marked_any gA ls.length gc gs w' hgl hk (row_gr hrG g) (fun i m hm => by
    have hi := (List.getElem?_eq_some_iff.1 hm).1
    have hl : ls[i]? = some (ls[i]'(by omega)) := List.getElem?_eq_getElem (by omega)
    obtain ⟨h1, h2⟩ := hgg i _ m hl hm
    have := (hown1.out i _ hl).1
    exact ⟨by omega, mkR_gr h2 g⟩)
  have hmT : ∀ w', Gr w3 w' → Calls Tryz.prog 82 #[T.v] w' fun e w'' => e = .returned (.bool true) ∧ Gr w' w'' := fun w' g => by
    obtain ⟨TA, Tn, Tc⟩ := T
    have hn : Tn = ls.length := nT.out
    subst hn
    exact marked_any TA ls.length Tc ls w' rfl hk (row_gr hrT3 g) (fun i m hm => ⟨by have := (hown1.out i m hm).1; omega, mkR_gr (hll i m hm) g⟩)
  clear dw2Texts dw2Ints dw2Runes dw2Labels dw2Points dw2Tokens dw2Cursors dw2Notes dw2Rows dw2Series
  clear hgg hll hrG hrT3 hgl
  replace hmG := Lib.hid hmG
  replace hmT := Lib.hid hmT
  replace hblk3 := Lib.hid hblk3
  replace g3 := Lib.hid g3
  have hT3 : Hid (T.n = ls.length) := nT
  obtain ⟨TA, Tn, Tc⟩ := T
  simp only [Lst.v] at dw3Series

  go_wp2_with fail
  refine (markedTexts_no _).mono ?_
  rintro e w9 ⟨rfl, rfl⟩

  go_wp2_with fail
  refine (markedTexts_no _).mono ?_
  rintro e w9 ⟨rfl, rfl⟩

  go_wp2_with fail
  refine (markedInts_no _).mono ?_
  rintro e w9 ⟨rfl, rfl⟩

  go_wp2_with fail
  refine (markedInts_no _).mono ?_
  rintro e w9 ⟨rfl, rfl⟩

  go_wp2_with fail
  refine (markedRunes_no _).mono ?_
  rintro e w9 ⟨rfl, rfl⟩

  go_wp2_with fail
  refine (markedRunes_no _).mono ?_
  rintro e w9 ⟨rfl, rfl⟩

  go_wp2_with fail
  refine (markedLabels_no _).mono ?_
  rintro e w9 ⟨rfl, rfl⟩

  go_wp2_with fail
  refine (markedLabels_no _).mono ?_
  rintro e w9 ⟨rfl, rfl⟩

  go_wp2_with fail
  refine (markedPoints_no _).mono ?_
  rintro e w9 ⟨rfl, rfl⟩

  go_wp2_with fail
  refine (markedPoints_no _).mono ?_
  rintro e w9 ⟨rfl, rfl⟩

  go_wp2_with fail
  refine (markedTokens_no _).mono ?_
  rintro e w9 ⟨rfl, rfl⟩

  go_wp2_with fail
  refine (markedTokens_no _).mono ?_
  rintro e w9 ⟨rfl, rfl⟩

  go_wp2_with fail
  refine (markedCursors_no _).mono ?_
  rintro e w9 ⟨rfl, rfl⟩

  go_wp2_with fail
  refine (markedCursors_no _).mono ?_
  rintro e w9 ⟨rfl, rfl⟩

  go_wp2_with fail
  refine (markedNotes_no _).mono ?_
  rintro e w9 ⟨rfl, rfl⟩

  go_wp2_with fail
  refine (markedNotes_no _).mono ?_
  rintro e w9 ⟨rfl, rfl⟩

  go_wp2_with fail
  refine (markedRows_no _).mono ?_
  rintro e w9 ⟨rfl, rfl⟩

  go_wp2_with fail
  refine (markedRows_no _).mono ?_
  rintro e w9 ⟨rfl, rfl⟩

  go_wp2_with fail
  refine (hmG.out _ (gr_refl _ _)).mono ?_
  rintro e w4 ⟨rfl, g4⟩

  have dx := gr_cell g4 dw3Series

  go_wp2_with fail
  refine (hmT.out _ (g4)).mono ?_
  rintro e w5 ⟨rfl, g5⟩

  have gg : Gr w3 w5 := gr_trans g4 g5

  have dw5Texts := gr_cell gg dw3Texts
  have dw5Ints := gr_cell gg dw3Ints
  have dw5Runes := gr_cell gg dw3Runes
  have dw5Labels := gr_cell gg dw3Labels
  have dw5Points := gr_cell gg dw3Points
  have dw5Tokens := gr_cell gg dw3Tokens
  have dw5Cursors := gr_cell gg dw3Cursors
  have dw5Notes := gr_cell gg dw3Notes
  have dw5Rows := gr_cell gg dw3Rows
  have dw5Series := gr_cell gg dw3Series

  clear dw3Texts dw3Ints dw3Runes dw3Labels dw3Points dw3Tokens dw3Cursors dw3Notes dw3Rows dw3Series
  replace gg := Lib.hid gg

  go_wp2
  go_ret
  exact ⟨rfl, grs_trans (grs_trans (grs_gr _ g1.out) (grs_trans g2.out g3.out)) (grs_gr _ gg.out)⟩
end Go.Proofs.YtccmekdmnkmhlaaGreat.BkZ
