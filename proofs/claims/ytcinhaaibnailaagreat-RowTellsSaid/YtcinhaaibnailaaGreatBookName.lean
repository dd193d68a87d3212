import Derived.Test.YtcinhaaibnailaaGreatProg
import Derived.Test.YtcinhaaibnailaaGreatBookMath
namespace Go.Proofs.YtcinhaaibnailaaGreat
open Go.RowKit
def nm (i k : Nat) : List UInt8 := [109, UInt8.ofNat (65 + i % 26), UInt8.ofNat (65 + i / 26 % 26), UInt8.ofNat (48 + k % 10), UInt8.ofNat (48 + k / 10 % 10), UInt8.ofNat (48 + k / 100 % 10)]
theorem nm_cells (i k : Nat) : #[Value.int .u8 109, .int .u8 (65 + (i : Int) % 26), .int .u8 (65 + (i : Int) / 26 % 26), .int .u8 (48 + (k : Int) % 10), .int .u8 (48 + (k : Int) / 10 % 10), .int .u8 (48 + (k : Int) / 100 % 10)] = ((nm i k).map byteV).toArray := by
  have h : ∀ (n : Nat) (z : Int), n < 256 → z = n → Value.int .u8 z = byteV (UInt8.ofNat n) := by
    rintro n z hn rfl
    have : (UInt8.ofNat n).toNat = n := by simp; omega
    unfold byteV
    rw [this]
  rw [h (65 + i % 26) (65 + (i : Int) % 26) (by omega) (by omega), h (65 + i / 26 % 26) (65 + (i : Int) / 26 % 26) (by omega) (by omega), h (48 + k % 10) (48 + (k : Int) % 10) (by omega) (by omega), h (48 + k / 10 % 10) (48 + (k : Int) / 10 % 10) (by omega) (by omega), h (48 + k / 100 % 10) (48 + (k : Int) / 100 % 10) (by omega) (by omega)]
  rfl
theorem nm_conv (W : World) (i k : Nat) : (convert 60 9 (.slice (some ⟨W.heap.size, 0, none⟩) 6 6)).run Tryz.prog (W.alloc (.cells ((nm i k).map byteV).toArray 5)) = .ok (.string (txt (nm i k))) (W.alloc (.cells ((nm i k).map byteV).toArray 5)) := by
  refine run_string_cells (P := Tryz.prog) _ 60 9 5 Tryz.underlying60 Tryz.underlying5 Tryz.underlying9 ⟨W.heap.size, 0, none⟩ (nm i k) 6 (fun j b hb => ?_)
  rw [add_plain, Nat.zero_add, World.cell?_alloc_new]
  simp [hb]
set_option maxHeartbeats 1000000 in
set_option maxRecDepth 100000 in
theorem bname_any (i k : Nat) (w : World) (hi : i < 1000) (hk : k < 200000) : Calls Tryz.prog 103 #[.int .i64 i, .int .i64 k] w fun e w' => e = .returned (.string (txt (nm i k))) ∧ Gr w w' := by
  have hcv := nm_conv w i k
  rw [← nm_cells] at hcv
  go_enter Tryz.func103, Tryz.ntmps103
  go_wp2
  go_ret
  exact ⟨rfl, gr_alloc _ _ _⟩
end Go.Proofs.YtcinhaaibnailaaGreat
