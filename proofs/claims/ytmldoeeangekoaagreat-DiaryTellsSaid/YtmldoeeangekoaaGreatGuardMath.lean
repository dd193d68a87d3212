/-
  Plain facts on the sum of bytes of chapter 14: a register of 32 bits; runs of 32 bits that are turned are told. No condition.
-/
import Derived.Laws.BitsAllLaws
namespace Go.Proofs.YtmldoeeangekoaaGreat
open Go

namespace Crc

/-- One bit more. -/
def stp (x b : Nat) : Nat := if (x / 2147483648 + b) % 2 = 1 then (x * 2 % 4294967296) ^^^ 4104977171 else x * 2 % 4294967296
def run (x : Nat) (u : List Nat) : Nat := u.foldl stp x
/-- A byte's bits, the highest first. -/
def bitsB (b : UInt8) : List Nat := (List.range 8).map fun m => b.toNat / 2 ^ (7 - m) % 2
def bitsL (l : List UInt8) : List Nat := l.flatMap bitsB
def sum (l : List UInt8) : Nat := run 4294967295 (bitsL l)

theorem run_append (x : Nat) (u v : List Nat) : run x (u ++ v) = run (run x u) v := by simp [run]
theorem run_nil (x : Nat) : run x [] = x := rfl
theorem run_cons (x b : Nat) (u : List Nat) : run x (b :: u) = run (stp x b) u := rfl

theorem stp_lt {x b : Nat} : stp x b < 4294967296 := by
  unfold stp
  split
  · exact Nat.xor_lt_two_pow (n := 32) (by omega) (by omega)
  · omega
theorem run_lt {x : Nat} (u : List Nat) (h : x < 4294967296) : run x u < 4294967296 := by
  induction u generalizing x with
  | nil => exact h
  | cons b u ih => exact ih stp_lt
theorem sum_lt (l : List UInt8) : sum l < 4294967296 := run_lt _ (by omega)

theorem bit_le {b : UInt8} {m : Nat} : b.toNat / 2 ^ (7 - m) % 2 < 2 := by omega
theorem bitsB_lt (b : UInt8) : ∀ x ∈ bitsB b, x < 2 := by
  intro x hx
  simp only [bitsB, List.mem_map] at hx
  obtain ⟨m, _, rfl⟩ := hx
  omega
theorem bitsL_lt (l : List UInt8) : ∀ x ∈ bitsL l, x < 2 := by
  intro x hx
  simp only [bitsL, List.mem_flatMap] at hx
  obtain ⟨b, _, hb⟩ := hx
  exact bitsB_lt b x hb
theorem bitsB_length (b : UInt8) : (bitsB b).length = 8 := by simp [bitsB]
theorem bitsL_length (l : List UInt8) : (bitsL l).length = 8 * l.length := by
  induction l with
  | nil => rfl
  | cons a l ih => simp only [bitsL, List.flatMap_cons, List.length_append, bitsB_length, List.length_cons]; unfold bitsL at ih; omega
theorem bitsL_append (l m : List UInt8) : bitsL (l ++ m) = bitsL l ++ bitsL m := by simp [bitsL]

theorem top_xor {x y : Nat} (hx : x < 4294967296) (hy : y < 4294967296) : (x ^^^ y) / 2147483648 = (x / 2147483648 + y / 2147483648) % 2 := by
  have h : (x ^^^ y) / 2 ^ 31 = (x / 2 ^ 31) ^^^ (y / 2 ^ 31) := by
    rw [← Nat.shiftRight_eq_div_pow, ← Nat.shiftRight_eq_div_pow, ← Nat.shiftRight_eq_div_pow, Nat.shiftRight_xor_distrib]
  have e : (2 : Nat) ^ 31 = 2147483648 := rfl
  rw [e] at h
  rw [h]
  have h1 : x / 2147483648 < 2 := by omega
  have h2 : y / 2147483648 < 2 := by omega
  generalize x / 2147483648 = a at *
  generalize y / 2147483648 = b at *
  have ha : a = 0 ∨ a = 1 := by omega
  have hb : b = 0 ∨ b = 1 := by omega
  rcases ha with rfl | rfl <;> rcases hb with rfl | rfl <;> rfl

theorem shl_xor (x y : Nat) : (x ^^^ y) * 2 % 4294967296 = (x * 2 % 4294967296) ^^^ (y * 2 % 4294967296) := by
  have e : (4294967296 : Nat) = 2 ^ 32 := rfl
  rw [e, ← Nat.xor_mod_two_pow]
  congr 1
  have h := Nat.shiftLeft_xor_distrib (a := x) (b := y) (i := 1)
  simpa [Nat.shiftLeft_eq] using h

theorem stp_xor {x y a b c : Nat} (hx : x < 4294967296) (hy : y < 4294967296) (hc : c % 2 = (a + b) % 2) : stp (x ^^^ y) c = stp x a ^^^ stp y b := by
  unfold stp
  rw [top_xor hx hy, shl_xor]
  generalize hX : x * 2 % 4294967296 = X
  generalize hY : y * 2 % 4294967296 = Y
  have h1 : (x / 2147483648 + a) % 2 = 0 ∨ (x / 2147483648 + a) % 2 = 1 := by omega
  have h2 : (y / 2147483648 + b) % 2 = 0 ∨ (y / 2147483648 + b) % 2 = 1 := by omega
  rcases h1 with h1 | h1 <;> rcases h2 with h2 | h2
  · rw [if_neg (by omega), if_neg (by omega), if_neg (by omega)]
  · rw [if_pos (by omega), if_neg (by omega), if_pos (by omega), Nat.xor_assoc]
  · rw [if_pos (by omega), if_pos (by omega), if_neg (by omega), Nat.xor_assoc, Nat.xor_assoc, Nat.xor_comm Y]
  · rw [if_neg (by omega), if_pos (by omega), if_pos (by omega), Nat.xor_assoc, Nat.xor_comm Y, ← Nat.xor_assoc 4104977171, Nat.xor_self, Nat.zero_xor]

theorem stp_zero {z : Nat} (hz : z < 4294967296) (h : stp z 0 = 0) : z = 0 := by
  unfold stp at h
  split at h
  · exfalso
    have h1 : z * 2 % 4294967296 = 4104977171 := by
      have := congrArg (· ^^^ 4104977171) h
      simpa [Nat.xor_assoc] using this
    omega
  · omega
theorem xor_zero_eq {x y : Nat} (h : x ^^^ y = 0) : x = y := by
  have := congrArg (· ^^^ y) h
  simpa [Nat.xor_assoc] using this
theorem stp_inj {x y a : Nat} (hx : x < 4294967296) (hy : y < 4294967296) (h : stp x a = stp y a) : x = y := by
  have h1 := stp_xor (a := a) (b := a) (c := 0) hx hy (by omega)
  rw [h, Nat.xor_self] at h1
  exact xor_zero_eq (stp_zero (Nat.xor_lt_two_pow (n := 32) hx hy) h1)
theorem run_inj {x y : Nat} (u : List Nat) (hx : x < 4294967296) (hy : y < 4294967296) (h : run x u = run y u) : x = y := by
  induction u generalizing x y with
  | nil => exact h
  | cons b u ih => exact stp_inj hx hy (ih stp_lt stp_lt h)

/-- Bits that differ in one place alone give another register. -/
theorem stp_bit {x a b : Nat} (hx : x < 4294967296) (ha : a < 2) (hb : b < 2) (h : stp x a = stp x b) : a = b := by
  have h1 := stp_xor (a := a) (b := b) (c := a + b) hx hx rfl
  rw [h, Nat.xor_self, Nat.xor_self] at h1
  unfold stp at h1
  simp at h1
  omega

/-- Two lists of bits, added. -/
def addB (u v : List Nat) : List Nat := List.zipWith (fun a b => (a + b) % 2) u v
theorem run_xor {x y : Nat} (u v : List Nat) (hx : x < 4294967296) (hy : y < 4294967296) (hl : u.length = v.length) : run (x ^^^ y) (addB u v) = run x u ^^^ run y v := by
  induction u generalizing x y v with
  | nil => cases v with
    | nil => rfl
    | cons => simp at hl
  | cons a u ih => cases v with
    | nil => simp at hl
    | cons b v =>
      show run (stp (x ^^^ y) ((a + b) % 2)) (addB u v) = _
      rw [stp_xor (a := a) (b := b) hx hy (by omega)]
      exact ih v stp_lt stp_lt (by simpa using hl)
theorem run_zeros (n : Nat) : run 0 (List.replicate n 0) = 0 := by
  induction n with
  | zero => rfl
  | succ n ih => exact ih

/-- A number's 32 bits, the highest first. -/
def bits32 (x : Nat) : List Nat := (List.range 32).map fun i => x / 2 ^ (31 - i) % 2
theorem run_self {x : Nat} (hx : x < 4294967296) : ∀ i, i ≤ 32 → run x ((bits32 x).take i) = x * 2 ^ i % 4294967296 := by
  intro i
  induction i with
  | zero => intro _; simp [run]; omega
  | succ i ih =>
    intro hi
    have hl : i < (bits32 x).length := by simp [bits32]; omega
    rw [List.take_succ_eq_append_getElem hl, run_append, ih (by omega)]
    have hg : (bits32 x)[i] = x / 2 ^ (31 - i) % 2 := by simp [bits32]
    rw [hg, run_cons, run_nil]
    have e : (x * 2 ^ i % 4294967296) / 2147483648 = x / 2 ^ (31 - i) % 2 := by
      have e1 : (4294967296 : Nat) = 2 ^ i * 2 ^ (32 - i) := by rw [← Nat.pow_add, show i + (32 - i) = 32 from by omega]
      have e2 : (2147483648 : Nat) = 2 ^ i * 2 ^ (31 - i) := by rw [← Nat.pow_add, show i + (31 - i) = 31 from by omega]
      rw [e1, Nat.mul_comm x, Nat.mul_mod_mul_left, e2, Nat.mul_div_mul_left _ _ (Nat.two_pow_pos i)]
      have e3 : (2 : Nat) ^ (32 - i) = 2 ^ (31 - i) * 2 := by rw [← Nat.pow_succ]; congr 1; omega
      rw [e3, Nat.mod_mul_right_div_self]
    unfold stp
    rw [e]
    rw [if_neg (by omega)]
    rw [Nat.pow_succ, ← Nat.mul_assoc]
    omega
theorem run_self32 {x : Nat} (hx : x < 4294967296) : run x (bits32 x) = 0 := by
  have h := run_self hx 32 (Nat.le_refl _)
  rw [List.take_of_length_le (by simp [bits32])] at h
  rw [h]
  omega

theorem addB_zeros (u : List Nat) (hu : ∀ x ∈ u, x < 2) : addB u (List.replicate u.length 0) = u := by
  induction u with
  | nil => rfl
  | cons a u ih =>
    have h1 : (a + 0) % 2 = a := by have := hu a (by simp); omega
    show ((a + 0) % 2) :: addB u (List.replicate u.length 0) = a :: u
    rw [h1, ih (fun x hx => hu x (by simp [hx]))]
theorem addB_self (u : List Nat) : addB u u = List.replicate u.length 0 := by
  induction u with
  | nil => rfl
  | cons a u ih =>
    show ((a + a) % 2) :: addB u u = 0 :: List.replicate u.length 0
    rw [ih, show (a + a) % 2 = 0 from by omega]
theorem bits32_lt (x : Nat) : ∀ a ∈ bits32 x, a < 2 := by
  intro a ha
  simp only [bits32, List.mem_map] at ha
  obtain ⟨i, _, rfl⟩ := ha
  omega
theorem bits32_length (x : Nat) : (bits32 x).length = 32 := by simp [bits32]

/-- 32 bits that are not all 0, fed into an empty register, do not leave it empty. -/
theorem run_zero32 {E : Nat} (hE : E < 4294967296) (h : run 0 (bits32 E) = 0) : E = 0 := by
  have h1 := run_xor (x := E) (y := E) (List.replicate 32 0) (bits32 E) hE hE (by simp [bits32_length])
  have h2 : run E (List.replicate 32 0) = 0 := by
    have h3 := run_xor (x := E) (y := 0) (bits32 E) (bits32 E) hE (by omega) rfl
    rw [addB_self, bits32_length, Nat.xor_zero, run_self32 hE, h] at h3
    simpa using h3
  exact run_inj (List.replicate 32 0) hE (by omega) (h2.trans (run_zeros 32).symm)

/-- A number of a list of bits. -/
def num (u : List Nat) : Nat := u.foldl (fun a b => a * 2 + b) 0
theorem num_snoc (u : List Nat) (b : Nat) : num (u ++ [b]) = num u * 2 + b := by simp [num]
theorem num_bits (n : Nat) : ∀ (u : List Nat), u.length = n → (∀ x ∈ u, x < 2) → num u < 2 ^ n ∧ ∀ i (h : i < u.length), num u / 2 ^ (n - 1 - i) % 2 = u[i] := by
  induction n with
  | zero =>
    intro u hl _
    have : u = [] := List.eq_nil_of_length_eq_zero hl
    subst this
    exact ⟨by simp [num], fun i h => by simp at h⟩
  | succ n ih =>
    intro u hl hu
    rcases List.eq_nil_or_concat u with rfl | ⟨L, b, rfl⟩
    · simp at hl
    · simp only [List.concat_eq_append] at hl hu ⊢
      have hL : L.length = n := by simpa using hl
      obtain ⟨h1, h2⟩ := ih L hL (fun x hx => hu x (by simp [hx]))
      have hb := hu b (by simp)
      rw [num_snoc]
      refine ⟨by rw [Nat.pow_succ]; omega, fun i h => ?_⟩
      by_cases hi : i < L.length
      · rw [List.getElem_append_left hi, ← h2 i hi]
        have e : n + 1 - 1 - i = (n - 1 - i) + 1 := by omega
        rw [e, Nat.pow_succ, Nat.mul_comm (2 ^ _) 2, ← Nat.div_div_eq_div_mul]
        congr 2
        omega
      · have hi' : i = L.length := by simp at h; omega
        subst hi'
        have e : n + 1 - 1 - L.length = 0 := by omega
        rw [e]
        simp
        omega

theorem bits32_num (u : List Nat) (hl : u.length = 32) (hu : ∀ x ∈ u, x < 2) : num u < 4294967296 ∧ bits32 (num u) = u := by
  obtain ⟨h1, h2⟩ := num_bits 32 u hl hu
  refine ⟨h1, List.ext_getElem (by simp [bits32_length, hl]) fun i h3 h4 => ?_⟩
  rw [← h2 i h4]
  simp [bits32]

theorem run_zero_of32 (u : List Nat) (hl : u.length = 32) (hu : ∀ x ∈ u, x < 2) (h : run 0 u = 0) : u = List.replicate 32 0 := by
  obtain ⟨h1, h2⟩ := bits32_num u hl hu
  rw [← h2] at h
  have h3 := run_zero32 h1 h
  rw [h3] at h2
  rw [← h2]
  rfl

/-- Bits that are all 0 but for a run of 32, not all 0 there: the register tells it. -/
theorem run_burst (a c : Nat) (u : List Nat) (hl : u.length ≤ 32) (hu : ∀ x ∈ u, x < 2) (h : run 0 (List.replicate a 0 ++ u ++ List.replicate c 0) = 0) : u = List.replicate u.length 0 := by
  rw [run_append, run_append, run_zeros] at h
  have h1 : run 0 u = 0 := run_inj (List.replicate c 0) (run_lt _ (by omega)) (by omega) (h.trans (run_zeros c).symm)
  have h2 : run 0 (List.replicate (32 - u.length) 0 ++ u) = 0 := by rw [run_append, run_zeros]; exact h1
  have h3 := run_zero_of32 _ (by simp; omega) (by
    intro x hx
    rcases List.mem_append.1 hx with hx | hx
    · have := (List.mem_replicate.1 hx).2; omega
    · exact hu x hx) h2
  rw [List.eq_replicate_iff]
  refine ⟨rfl, fun x hx => ?_⟩
  have hm : x ∈ List.replicate 32 0 := by rw [← h3]; simp [hx]
  exact (List.mem_replicate.1 hm).2

theorem addB_length (u v : List Nat) (hl : u.length = v.length) : (addB u v).length = u.length := by simp [addB, hl]
theorem addB_get {u v : List Nat} {i a b : Nat} (h1 : u[i]? = some a) (h2 : v[i]? = some b) : (addB u v)[i]? = some ((a + b) % 2) := by
  simp [addB, List.getElem?_zipWith, h1, h2]
theorem addB_lt (u v : List Nat) : ∀ x ∈ addB u v, x < 2 := by
  intro x hx
  obtain ⟨i, hi, rfl⟩ := List.getElem_of_mem hx
  simp [addB]
  omega

/-- Two lists of bits that are the same but in a run of 32, and are not the same: their registers are not. -/
theorem run_tells {x : Nat} (u v : List Nat) (hx : x < 4294967296) (hl : u.length = v.length) (hu : ∀ a ∈ u, a < 2) (hv : ∀ a ∈ v, a < 2) (k : Nat)
    (hw : ∀ i, i < k ∨ k + 32 ≤ i → u[i]? = v[i]?) (hr : run x u = run x v) : u = v := by
  have h1 := run_xor (x := x) (y := x) u v hx hx hl
  rw [hr, Nat.xor_self, Nat.xor_self] at h1
  have hlen := addB_length u v hl
  generalize he : addB u v = e at h1 hlen
  have hz : ∀ i, (i < k ∨ k + 32 ≤ i) → i < e.length → e[i]? = some 0 := by
    intro i hi hie
    have hiu : i < u.length := by omega
    have h2 : u[i]? = some u[i] := List.getElem?_eq_getElem hiu
    have h3 := hw i hi
    rw [h2] at h3
    rw [← he, addB_get h2 h3.symm]
    congr 1
    omega
  have he3 : e = List.replicate (min k e.length) 0 ++ (e.drop k).take 32 ++ List.replicate (e.length - (k + 32)) 0 := by
    apply List.ext_getElem?
    intro i
    by_cases hie : i < e.length
    · by_cases h2 : i < k
      · rw [hz i (.inl h2) hie, List.append_assoc, List.getElem?_append_left (by simp; omega)]
        rw [List.getElem?_replicate, if_pos (by omega)]
      · by_cases h4 : k + 32 ≤ i
        · rw [hz i (.inr h4) hie, List.getElem?_append_right (by simp; omega)]
          rw [List.getElem?_replicate, if_pos (by simp; omega)]
        · rw [List.append_assoc, List.getElem?_append_right (by simp; omega), List.getElem?_append_left (by simp; omega)]
          rw [List.getElem?_take, if_pos (by simp; omega), List.getElem?_drop]
          congr 1
          simp; omega
    · rw [List.getElem?_eq_none (by omega), List.getElem?_eq_none (by simp; omega)]
  have he0 := run_burst (min k e.length) (e.length - (k + 32)) ((e.drop k).take 32) (by simp; omega) (by
    intro y hy
    have := List.mem_of_mem_drop (List.mem_of_mem_take hy)
    rw [← he] at this
    exact addB_lt u v y this) (by rw [← he3]; exact h1)
  apply List.ext_getElem?
  intro i
  by_cases hw' : i < k ∨ k + 32 ≤ i
  · exact hw i hw'
  · by_cases hiu : i < u.length
    · have h2 : u[i]? = some u[i] := List.getElem?_eq_getElem hiu
      have h3 : v[i]? = some v[i] := List.getElem?_eq_getElem (by omega)
      have h4 := addB_get h2 h3
      rw [he] at h4
      have h5 : ((e.drop k).take 32)[i - k]? = some ((u[i] + v[i]) % 2) := by
        rw [List.getElem?_take, if_pos (by omega), List.getElem?_drop, show k + (i - k) = i from by omega]
        exact h4
      have h6 := List.mem_of_getElem? h5
      rw [he0] at h6
      have h7 := (List.mem_replicate.1 h6).2
      have h8 := hu _ (List.getElem_mem hiu)
      have h9 := hv _ (List.getElem_mem (show i < v.length by omega))
      rw [h2, h3]
      congr 1
      omega
    · rw [List.getElem?_eq_none (by omega), List.getElem?_eq_none (by omega)]

/-- A number in so many bytes, the highest first. -/
def be (k v : Nat) : List UInt8 := (List.range k).map fun i => UInt8.ofNat (v / 2 ^ (8 * (k - 1 - i)))
theorem be_length (k v : Nat) : (be k v).length = k := by simp [be]

theorem bits_be4 (v : Nat) : bitsL (be 4 v) = bits32 v := by
  have hb : ∀ x : Nat, bitsB (UInt8.ofNat x) = [x / 128 % 2, x / 64 % 2, x / 32 % 2, x / 16 % 2, x / 8 % 2, x / 4 % 2, x / 2 % 2, x % 2] := by
    intro x
    have e : (UInt8.ofNat x).toNat = x % 256 := by simp
    simp only [bitsB, e, List.range, List.range.loop, List.map]
    simp only [Nat.reduceSub, Nat.reducePow, Nat.div_one]
    congr 1
    · omega
    congr 1
    · omega
    congr 1
    · omega
    congr 1
    · omega
    congr 1
    · omega
    congr 1
    · omega
    congr 1
    · omega
    congr 1
    omega
  have e4 : be 4 v = [UInt8.ofNat (v / 16777216), UInt8.ofNat (v / 65536), UInt8.ofNat (v / 256), UInt8.ofNat v] := by
    simp [be, List.range, List.range.loop]
  rw [e4]
  simp only [bitsL, List.flatMap_cons, List.flatMap_nil, hb, List.append_nil, List.cons_append, List.nil_append]
  simp only [bits32, List.range, List.range.loop, List.map, Nat.reduceSub, Nat.reducePow, Nat.div_div_eq_div_mul, Nat.reduceMul, Nat.div_one]

/-- Bytes with their sum behind them: the register is empty just then. -/
theorem valid_iff (l : List UInt8) (c : Nat) (hc : c < 4294967296) : run 4294967295 (bitsL (l ++ be 4 c)) = 0 ↔ c = sum l := by
  rw [bitsL_append, bits_be4, run_append]
  show run (sum l) (bits32 c) = 0 ↔ _
  constructor
  · intro h
    exact (run_inj (bits32 c) (sum_lt l) hc (h.trans (run_self32 hc).symm)).symm
  · rintro rfl
    exact run_self32 (sum_lt l)

/-- A byte with one bit turned, the r-th from above. -/
def flipB (x : UInt8) (r : Nat) : UInt8 := UInt8.ofNat (x.toNat ^^^ (128 / 2 ^ r))
theorem flipB_nat (x : UInt8) (r : Nat) : (flipB x r).toNat = x.toNat ^^^ (128 / 2 ^ r) := by
  have h1 := UInt8.toNat_lt x
  have h2 : 128 / 2 ^ r < 256 := Nat.lt_of_le_of_lt (Nat.div_le_self _ _) (by omega)
  have h3 : x.toNat ^^^ (128 / 2 ^ r) < 256 := Nat.xor_lt_two_pow (n := 8) h1 h2
  show (UInt8.ofNat _).toNat = _
  rw [UInt8.toNat_ofNat']
  exact Nat.mod_eq_of_lt h3
theorem flipB_flipB (x : UInt8) (r : Nat) : flipB (flipB x r) r = x := by
  apply UInt8.toNat_inj.1
  rw [flipB_nat, flipB_nat, Nat.xor_assoc, Nat.xor_self, Nat.xor_zero]
theorem flip_walk8 (x : UInt8) (r : Nat) : bits .xor .u8 (x.toNat : Int) (128 / 2 ^ r) = ((flipB x r).toNat : Int) := by
  have h2 : 128 / 2 ^ r < 256 := Nat.lt_of_le_of_lt (Nat.div_le_self _ _) (by omega)
  have h := u8_xor_nat x.toNat (128 / 2 ^ r) (UInt8.toNat_lt x) h2
  rw [flipB_nat, ← h]
  simp
/-- The bits of a byte with one turned: that one is another, the rest are the same. -/
theorem bit_flipB (x : UInt8) (r : Nat) (hr : r < 8) (m : Nat) (hm : m < 8) : (flipB x r).toNat / 2 ^ (7 - m) % 2 = if m = r then 1 - x.toNat / 2 ^ (7 - m) % 2 else x.toNat / 2 ^ (7 - m) % 2 := by
  have e : 128 / 2 ^ r = 2 ^ (7 - r) := by
    have h7 : (128 : Nat) = 2 ^ (7 - r) * 2 ^ r := by rw [← Nat.pow_add, show 7 - r + r = 7 from by omega]
    rw [h7, Nat.mul_div_cancel _ (Nat.two_pow_pos r)]
  have ht : ∀ n k : Nat, n / 2 ^ k % 2 = if n.testBit k then 1 else 0 := by
    intro n k
    rw [Nat.testBit_eq_decide_div_mod_eq]
    by_cases h : n / 2 ^ k % 2 = 1
    · simp [h]
    · have : n / 2 ^ k % 2 = 0 := by omega
      simp [this]
  rw [flipB_nat, e, ht, ht, Nat.testBit_xor, Nat.testBit_two_pow]
  by_cases h : m = r
  · subst h
    simp
    cases x.toNat.testBit (7 - m) <;> simp
  · have h' : ¬ 7 - r = 7 - m := by omega
    simp [h, h']

theorem bitsL_get (l : List UInt8) (i : Nat) : (bitsL l)[i]? = (l[i / 8]?).map fun b => b.toNat / 2 ^ (7 - i % 8) % 2 := by
  induction l generalizing i with
  | nil => simp [bitsL]
  | cons a l ih =>
    have e : bitsL (a :: l) = bitsB a ++ bitsL l := by simp [bitsL]
    rw [e]
    by_cases hi : i < 8
    · rw [List.getElem?_append_left (by rw [bitsB_length]; exact hi)]
      have h0 : i / 8 = 0 := by omega
      have h1 : i % 8 = i := by omega
      rw [h0, h1]
      simp [bitsB, List.getElem?_map, List.getElem?_range hi]
    · rw [List.getElem?_append_right (by rw [bitsB_length]; omega), bitsB_length, ih]
      have h0 : i / 8 = (i - 8) / 8 + 1 := by omega
      have h1 : (i - 8) % 8 = i % 8 := by omega
      rw [h0, h1]
      rfl

/-- Bytes with bit K turned: the others are the same. -/
theorem bits_set (l : List UInt8) (K : Nat) (x : UInt8) (hx : l[K / 8]? = some x) (i : Nat) :
    (bitsL (l.set (K / 8) (flipB x (K % 8))))[i]? = if i = K then some (1 - x.toNat / 2 ^ (7 - K % 8) % 2) else (bitsL l)[i]? := by
  have hl : K / 8 < l.length := (List.getElem?_eq_some_iff.1 hx).1
  rw [bitsL_get, bitsL_get, List.getElem?_set]
  by_cases hi : K / 8 = i / 8
  · rw [if_pos hi, if_pos (by omega)]
    simp only [Option.map_some]
    rw [bit_flipB x _ (by omega) _ (by omega), ← hi, hx]
    by_cases hik : i = K
    · subst hik
      simp
    · have : ¬ i % 8 = K % 8 := by omega
      simp [this, hik]
  · rw [if_neg hi]
    rw [if_neg (by intro h; exact hi (by rw [h]))]

/-- With one bit turned the sum is another one. -/
theorem sum_flip (l : List UInt8) (K : Nat) (x : UInt8) (hx : l[K / 8]? = some x) : sum (l.set (K / 8) (flipB x (K % 8))) ≠ sum l := by
  intro h
  have h1 := run_tells (x := 4294967295) (bitsL (l.set (K / 8) (flipB x (K % 8)))) (bitsL l) (by omega) (by rw [bitsL_length, bitsL_length, List.length_set]) (bitsL_lt _) (bitsL_lt _) K
    (fun i hi => by rw [bits_set l K x hx, if_neg (by omega)]) h
  have h2 := bits_set l K x hx K
  rw [h1, if_pos rfl, bitsL_get, hx] at h2
  simp at h2
  omega
end Crc
end Go.Proofs.YtmldoeeangekoaaGreat
