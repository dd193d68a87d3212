import Derived.Test.YtncokhgkojhdfaaProg
import Derived.Test.YtncokhgkojhdfaaBookMath
namespace Go.Proofs.Ytncokhgkojhdfaa
open Go.RowKit
def nm (i k : Nat) : List UInt8 := [109, UInt8.ofNat (65 + i % 26), UInt8.ofNat (65 + i / 26 % 26), UInt8.ofNat (48 + k % 10), UInt8.ofNat (48 + k / 10 % 10), UInt8.ofNat (48 + k / 100 % 10)]
theorem nm_cells (i k : Nat) : #[Value.int .u8 109, .int .u8 (65 + (i : Int) % 26), .int .u8 (65 + (i : Int) / 26 % 26), .int .u8 (48 + (k : Int) % 10), .int .u8 (48 + (k : Int) / 10 % 10), .int .u8 (48 + (k : Int) / 100 % 10)] = ((nm i k).map byteV).toArray := by
  have h : ∀ (n : Nat) (z : Int), n < 256 → z = n → Value.int .u8 z = byteV (UInt8.ofNat n) := by
    rintro n z hn rfl
    have : (UInt8.ofNat n).toNat = n := by simp; omega
    unfold byteV
    rw [this]
  rw [h (65 + i % 26) (65 + (i : Int) % 26) (by omega) (by omega), h (65 + i / 26 % 26) (65 + (i : Int) / 26 % 26) (by omega) (by omega), h (48 + k % 10) (48 + (k : Int) % 10) (by omega) (by omega), h (48 + k / 10 % 10) (48 + (k : Int) / 10 % 10) (by omega) (by omega), h (48 + k / 100 % 10) (48 + (k : Int) / 100 % 10) (by omega) (by omega)]
  rfl
theorem nm_conv (W : World) (i k : Nat) : (convert 27 9 (.slice (some ⟨W.heap.size, 0, none⟩) 6 6)).run Try.prog (W.alloc (.cells ((nm i k).map byteV).toArray 5)) = .ok (.string (txt (nm i k))) (W.alloc (.cells ((nm i k).map byteV).toArray 5)) := by
  refine run_string_cells (P := Try.prog) _ 27 9 5 Try.underlying27 Try.underlying5 Try.underlying9 ⟨W.heap.size, 0, none⟩ (nm i k) 6 (fun j b hb => ?_)
  rw [add_plain, Nat.zero_add, World.cell?_alloc_new]
  simp [hb]
set_option maxHeartbeats 1000000 in
set_option maxRecDepth 100000 in
theorem name_any (i k : Nat) (w : World) (hi : i < 1000) (hk : k < 200000) : Calls Try.prog 82 #[.int .i64 i, .int .i64 k] w fun e w' => e = .returned (.string (txt (nm i k))) ∧ Gr w w' := by
  have hcv := nm_conv w i k
  rw [← nm_cells] at hcv
  go_enter Try.func82, Try.ntmps82
  go_wp2
  go_ret
  exact ⟨rfl, gr_alloc _ _ _⟩
end Go.Proofs.Ytncokhgkojhdfaa
