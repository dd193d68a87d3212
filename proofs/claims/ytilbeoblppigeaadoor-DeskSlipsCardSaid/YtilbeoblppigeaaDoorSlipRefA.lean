/-
  What the document's Digits and Slip answer. No condition but bounds on the length.
-/
import Derived.Test.YtilbeoblppigeaaDoorSlipPages
import Derived.Test.YtilbeoblppigeaaDoorSlipGet
import Derived.Deep.CutBlock
namespace Go.Proofs.YtilbeoblppigeaaDoor
open Go.RowKit
open Go.Lib (decDigits)

theorem one_conv (W : World) (x : UInt8) : (convert 101 9 (.slice (some ⟨W.heap.size, 0, none⟩) 1 1)).run Tryd.prog (W.alloc (.cells #[.int .u8 x.toNat] 5)) = .ok (.string (txt [x])) (W.alloc (.cells #[.int .u8 x.toNat] 5)) := by
  refine run_string_cells (P := Tryd.prog) _ 101 9 5 Tryd.underlying101 Tryd.underlying5 Tryd.underlying9 ⟨W.heap.size, 0, none⟩ [x] 1 (fun j b hb => ?_)
  have hj : j = 0 := by have := (List.getElem?_eq_some_iff.1 hb).1; simpa using this
  subst hj
  obtain rfl : x = b := by simpa using hb
  show (W.alloc _).cell? ⟨W.heap.size, 0, none⟩ = _
  rw [World.cell?_alloc_new]
  rfl
/-- So far these digits, and this is left. -/
def DigRel (v n : Nat) (s : List UInt8) : Prop := (s = [] ∧ n = v) ∨ (s ≠ [] ∧ ((n = 0 ∧ s = decDigits v) ∨ (0 < n ∧ decDigits v = decDigits n ++ s)))
theorem dig_step {v n : Nat} {s : List UInt8} (h : DigRel v n s) (hc : 0 < n ∨ s = []) : DigRel v (n / 10) (UInt8.ofNat (48 + n % 10) :: s) := by
  right
  refine ⟨by simp, ?_⟩
  have hd : decDigits v = decDigits n ++ s := by
    rcases h with ⟨rfl, rfl⟩ | ⟨hs, ⟨rfl, _⟩ | ⟨_, h2⟩⟩
    · simp
    · rcases hc with h | h
      · omega
      · exact absurd h hs
    · exact h2
  by_cases h10 : n < 10
  · left
    refine ⟨by omega, ?_⟩
    have e : n % 10 = n := by omega
    rw [hd, Go.Lib.decDigits_one h10, e]
    rfl
  · right
    refine ⟨by omega, ?_⟩
    rw [hd]
    conv => lhs; rw [decDigits]
    rw [dif_neg h10, List.append_assoc]
    rfl
theorem dig_len {v n : Nat} {s : List UInt8} (h : DigRel v n s) (hv : v ≤ 1000000) : s.length ≤ 7 := by
  have h7 := (dec_len v hv).1
  rcases h with ⟨rfl, _⟩ | ⟨_, ⟨_, rfl⟩ | ⟨_, h2⟩⟩
  · simp
  · exact h7
  · rw [h2, List.length_append] at h7; omega
set_option maxHeartbeats 2000000 in
set_option maxRecDepth 100000 in
theorem digits_any (v : Nat) (w : World) (hv : v ≤ 1000000) : Calls Tryd.prog 31 #[.int .i64 v] w fun e w' => e = .returned (.string (txt (decDigits v))) ∧ Gr w w' := by
  go_enter Tryd.func31, Tryd.ntmps31
  go_wp2
  go_loopw [3, 4] (fun sv nv wr => ∃ (n : Nat) (s : List UInt8), sv = .string (txt s) ∧ nv = .int .i64 n ∧ n ≤ v ∧ Hid (DigRel v n s) ∧ Hid (Gr w wr)) (fun sv nv _ => (intOf nv).toNat + (match sv with | .string s => if s.size = 0 then 1 else 0 | _ => 0))
  case atStart => exact ⟨v, [], rfl, rfl, Nat.le_refl _, .inl ⟨rfl, rfl⟩, gr_refl _ _⟩
  case round =>
    obtain ⟨n, s, rfl, rfl, hnv, hrel, hg⟩ := hrel
    have hsl := dig_len hrel.out hv
    have hcv := one_conv wr (UInt8.ofNat (48 + n % 10))
    have hb : ((UInt8.ofNat (48 + n % 10)).toNat : Int) = 48 + (n : Int) % 10 := by
      have : (UInt8.ofNat (48 + n % 10)).toNat = 48 + n % 10 := by simp; omega
      omega
    rw [hb] at hcv
    have hn1 : (9223372036854775807 < 1 + s.length) = False := by simp; omega
    generalize hc : UInt8.ofNat (48 + n % 10) = c at hcv
    by_cases h0 : 0 < n
    · have h0i : (0 : Int) < (n : Int) := by omega
      have hst := dig_step hrel.out (.inl h0)
      rw [hc] at hst
      replace hst := Lib.hid hst
      replace hc := Lib.hid hc
      replace hb := Lib.hid hb
      go_wp2
      go_roundw
      case rel => exact ⟨n / 10, c :: s, rfl, by go_num, by omega, hst.out, gr_trans hg.out (gr_alloc _ _ _)⟩
      case measure => simp [intOf, txt_size]; split <;> omega
    · obtain rfl : n = 0 := by omega
      by_cases hs : s = []
      · subst hs
        have hst := dig_step hrel.out (.inr rfl)
        obtain rfl : (48 : UInt8) = c := by rw [← hc]; decide
        replace hst := Lib.hid hst
        clear hc hb hcv
        have hcv8 : (convert 101 9 (.slice (some ⟨wr.heap.size, 0, none⟩) 1 1)).run Tryd.prog (wr.alloc (.cells #[.int .u8 48] 5)) = .ok (.string (txt [48])) (wr.alloc (.cells #[.int .u8 48] 5)) := one_conv wr 48
        go_wp2
        go_roundw
        case rel => exact ⟨0 / 10, [48], rfl, by go_num, by omega, hst.out, gr_trans hg.out (gr_alloc _ _ _)⟩
        case measure => simp [intOf, txt_size]
      · have hsz : s.length ≠ 0 := fun h => hs (List.eq_nil_of_length_eq_zero h)
        have hsF : (s == []) = false := by rw [beq_eq_false_iff_ne]; exact hs
        have hfin : s = decDigits v := by
          rcases hrel.out with ⟨h, _⟩ | ⟨_, ⟨_, h⟩ | ⟨h, _⟩⟩
          · exact absurd h hs
          · exact h
          · omega
        replace hfin := Lib.hid hfin
        replace hs := Lib.hid hs
        replace hc := Lib.hid hc
        replace hb := Lib.hid hb
        clear hcv
        have hv0 : ((v : Int) < 0) = False := by simp
        go_wp2
        go_ret
        exact ⟨by rw [← hfin.out]; rfl, hg.out⟩
theorem refSlip_any (a b : Nat) (w : World) (ha : a ≤ 1000000) (hb : b ≤ 1000000) : Calls Tryd.prog 19 #[.int .i64 a, .int .i64 b] w fun e w' => e = .returned (.string (txt (slipL a b))) ∧ Gr w w' := by
  have l1 := dec_len a ha
  have l2 := dec_len b hb
  go_enter Tryd.func19, Tryd.ntmps19
  go_wp2_with fail
  refine (digits_any a _ ha).mono ?_
  rintro e w1 ⟨rfl, g1⟩
  have hs : slipL a b = 112 :: (decDigits a ++ 46 :: decDigits b) := rfl
  generalize decDigits a = D at *
  have e1 : (⟨#[112]⟩ : ByteArray) ++ txt D = txt (112 :: D) := txt_append [112] D
  have e2 : txt (112 :: D) ++ (⟨#[46]⟩ : ByteArray) = txt (112 :: D ++ [46]) := txt_append (112 :: D) [46]
  have n1 : (9223372036854775807 < 1 + D.length) = False := by simp; omega
  have n2 : (9223372036854775807 < D.length + 1 + 1) = False := by simp; omega
  replace hs := Lib.hid hs
  go_wp2_with fail
  refine (digits_any b _ hb).mono ?_
  rintro e w2 ⟨rfl, g2⟩
  generalize decDigits b = E at *
  have n3 : (9223372036854775807 < D.length + 1 + 1 + E.length) = False := by simp; omega
  go_wp2
  go_ret
  refine ⟨?_, gr_trans g1 g2⟩
  rw [hs.out]
  rfl
/-! ### Unslip -/
end Go.Proofs.YtilbeoblppigeaaDoor
