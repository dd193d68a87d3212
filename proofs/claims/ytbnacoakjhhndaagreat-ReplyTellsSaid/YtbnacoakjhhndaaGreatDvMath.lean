/-
  A number of bytes, the highest first, and back. No condition.
-/
import Derived.Test.YtbnacoakjhhndaaGreatGuardMath
import Derived.Test.YtbnacoakjhhndaaGreatAid
namespace Go.Proofs.YtbnacoakjhhndaaGreat
open Go.RowKit

/-- A number of bytes, the highest first. -/
def dvN (l : List UInt8) : Nat := l.foldl (fun v b => v * 256 + b.toNat) 0
theorem dvN_snoc (l : List UInt8) (b : UInt8) : dvN (l ++ [b]) = dvN l * 256 + b.toNat := by simp [dvN]
theorem dfold_lt : ∀ (l : List UInt8) (a : Nat), l.foldl (fun v b => v * 256 + b.toNat) a < (a + 1) * 256 ^ l.length := by
  intro l
  induction l with
  | nil => intro a; simp
  | cons b l ih =>
    intro a
    have h1 := ih (a * 256 + b.toNat)
    have h2 := b.toNat_lt
    rw [List.foldl_cons, List.length_cons, Nat.pow_succ]
    refine Nat.lt_of_lt_of_le h1 ?_
    have : (a * 256 + b.toNat + 1) ≤ (a + 1) * 256 := by omega
    calc (a * 256 + b.toNat + 1) * 256 ^ l.length ≤ (a + 1) * 256 * 256 ^ l.length := Nat.mul_le_mul_right _ this
      _ = (a + 1) * (256 ^ l.length * 256) := by rw [Nat.mul_assoc, Nat.mul_comm 256]
theorem dvN_lt (l : List UInt8) : dvN l < 256 ^ l.length := by
  have := dfold_lt l 0
  simpa [dvN] using this
theorem be_succ (k v : Nat) : Crc.be (k + 1) v = Crc.be k (v / 256) ++ [UInt8.ofNat v] := by
  unfold Crc.be
  rw [List.range_succ, List.map_append]
  congr 1
  · refine List.map_congr_left fun i hi => ?_
    have hi := List.mem_range.1 hi
    have : 8 * (k + 1 - 1 - i) = 8 + 8 * (k - 1 - i) := by omega
    rw [this, Nat.pow_add, ← Nat.div_div_eq_div_mul]
  · simp
theorem dv_be : ∀ (k v : Nat), v < 256 ^ k → dvN (Crc.be k v) = v := by
  intro k
  induction k with
  | zero => intro v h; simp at h; subst h; rfl
  | succ k ih =>
    intro v h
    rw [be_succ, dvN_snoc, ih (v / 256) (by rw [Nat.pow_succ] at h; exact Nat.div_lt_of_lt_mul (by rw [Nat.mul_comm]; exact h)), UInt8.toNat_ofNat']
    omega
theorem be_dv : ∀ {l : List UInt8} (k : Nat), l.length = k → Crc.be k (dvN l) = l := by
  intro l k
  induction k generalizing l with
  | zero => intro h; have := List.eq_nil_of_length_eq_zero h; subst this; rfl
  | succ k ih =>
    intro h
    have hne : l ≠ [] := fun e => by subst e; simp at h
    have hl := List.dropLast_concat_getLast hne
    generalize l.getLast hne = b at hl
    have hk : l.dropLast.length = k := by rw [List.length_dropLast]; omega
    generalize l.dropLast = m at hl hk
    subst hl
    rw [be_succ, dvN_snoc]
    have h1 := b.toNat_lt
    have h2 : (dvN m * 256 + b.toNat) / 256 = dvN m := by omega
    have h3 : UInt8.ofNat (dvN m * 256 + b.toNat) = b := by
      apply UInt8.toNat_inj.1
      rw [UInt8.toNat_ofNat']
      omega
    rw [h2, h3, ih hk]
theorem dv6 (v : Nat) (h : v < 281474976710656) : dvN (Crc.be 6 v) = v := dv_be 6 v h
theorem be_dv6 {l : List UInt8} (h : l.length = 6) : Crc.be 6 (dvN l) = l := be_dv 6 h
end Go.Proofs.YtbnacoakjhhndaaGreat
