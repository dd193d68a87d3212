/-
  What the document's Digits, Slip, Unslip and Begins answer. No condition but bounds on the length.
-/
import Derived.Test.YtmldoeeangekoaaGreatDoorSlipRefMath
import Derived.Test.YtmldoeeangekoaaGreatDoorSlipGet
import Derived.Deep.CutBlock
namespace Go.Proofs.YtmldoeeangekoaaGreatDoor
open Go.RowKit
open Go.Lib (decDigits)

theorem one_conv (W : World) (x : UInt8) : (convert 145 9 (.slice (some ⟨W.heap.size, 0, none⟩) 1 1)).run Tryz.prog (W.alloc (.cells #[.int .u8 x.toNat] 5)) = .ok (.string (txt [x])) (W.alloc (.cells #[.int .u8 x.toNat] 5)) := by
  refine run_string_cells (P := Tryz.prog) _ 145 9 5 Tryz.underlying145 Tryz.underlying5 Tryz.underlying9 ⟨W.heap.size, 0, none⟩ [x] 1 (fun j b hb => ?_)
  have hj : j = 0 := by have := (List.getElem?_eq_some_iff.1 hb).1; simpa using this
  subst hj
  obtain rfl : x = b := by simpa using hb
  show (W.alloc _).cell? ⟨W.heap.size, 0, none⟩ = _
  rw [World.cell?_alloc_new]
  rfl
/-- So far these digits, and this is left. -/
def DigRel (v n : Nat) (s : List UInt8) : Prop := (s = [] ∧ n = v) ∨ (s ≠ [] ∧ ((n = 0 ∧ s = decDigits v) ∨ (0 < n ∧ decDigits v = decDigits n ++ s)))
theorem dig_step {v n : Nat} {s : List UInt8} (h : DigRel v n s) (hc : 0 < n ∨ s = []) : DigRel v (n / 10) (UInt8.ofNat (48 + n % 10) :: s) := by
  right
  refine ⟨by simp, ?_⟩
  have hd : decDigits v = decDigits n ++ s := by
    rcases h with ⟨rfl, rfl⟩ | ⟨hs, ⟨rfl, _⟩ | ⟨_, h2⟩⟩
    · simp
    · rcases hc with h | h
      · omega
      · exact absurd h hs
    · exact h2
  by_cases h10 : n < 10
  · left
    refine ⟨by omega, ?_⟩
    have e : n % 10 = n := by omega
    rw [hd, Go.Lib.decDigits_one h10, e]
    rfl
  · right
    refine ⟨by omega, ?_⟩
    rw [hd]
    conv => lhs; rw [decDigits]
    rw [dif_neg h10, List.append_assoc]
    rfl
theorem dig_len {v n : Nat} {s : List UInt8} (h : DigRel v n s) (hv : v ≤ 1000000) : s.length ≤ 7 := by
  have h7 := (dec_len v hv).1
  rcases h with ⟨rfl, _⟩ | ⟨_, ⟨_, rfl⟩ | ⟨_, h2⟩⟩
  · simp
  · exact h7
  · rw [h2, List.length_append] at h7; omega
set_option maxHeartbeats 2000000 in
set_option maxRecDepth 100000 in
theorem digits_any (v : Nat) (w : World) (hv : v ≤ 1000000) : Calls Tryz.prog 35 #[.int .i64 v] w fun e w' => e = .returned (.string (txt (decDigits v))) ∧ Gr w w' := by
  go_enter Tryz.func35, Tryz.ntmps35
  go_wp2
  go_loopw [3, 4] (fun sv nv wr => ∃ (n : Nat) (s : List UInt8), sv = .string (txt s) ∧ nv = .int .i64 n ∧ n ≤ v ∧ Hid (DigRel v n s) ∧ Hid (Gr w wr)) (fun sv nv _ => (intOf nv).toNat + (match sv with | .string s => if s.size = 0 then 1 else 0 | _ => 0))
  case atStart => exact ⟨v, [], rfl, rfl, Nat.le_refl _, .inl ⟨rfl, rfl⟩, gr_refl _ _⟩
  case round =>
    obtain ⟨n, s, rfl, rfl, hnv, hrel, hg⟩ := hrel
    have hsl := dig_len hrel.out hv
    have hcv := one_conv wr (UInt8.ofNat (48 + n % 10))
    have hb : ((UInt8.ofNat (48 + n % 10)).toNat : Int) = 48 + (n : Int) % 10 := by
      have : (UInt8.ofNat (48 + n % 10)).toNat = 48 + n % 10 := by simp; omega
      omega
    rw [hb] at hcv
    have hn1 : (9223372036854775807 < 1 + s.length) = False := by simp; omega
    generalize hc : UInt8.ofNat (48 + n % 10) = c at hcv
    by_cases h0 : 0 < n
    · have h0i : (0 : Int) < (n : Int) := by omega
      have hst := dig_step hrel.out (.inl h0)
      rw [hc] at hst
      replace hst := Lib.hid hst
      replace hc := Lib.hid hc
      replace hb := Lib.hid hb
      go_wp2
      go_roundw
      case rel => exact ⟨n / 10, c :: s, rfl, by go_num, by omega, hst.out, gr_trans hg.out (gr_alloc _ _ _)⟩
      case measure => simp [intOf, txt_size]; split <;> omega
    · obtain rfl : n = 0 := by omega
      by_cases hs : s = []
      · subst hs
        have hst := dig_step hrel.out (.inr rfl)
        obtain rfl : (48 : UInt8) = c := by rw [← hc]; decide
        replace hst := Lib.hid hst
        clear hc hb hcv
        have hcv8 : (convert 145 9 (.slice (some ⟨wr.heap.size, 0, none⟩) 1 1)).run Tryz.prog (wr.alloc (.cells #[.int .u8 48] 5)) = .ok (.string (txt [48])) (wr.alloc (.cells #[.int .u8 48] 5)) := one_conv wr 48
        go_wp2
        go_roundw
        case rel => exact ⟨0 / 10, [48], rfl, by go_num, by omega, hst.out, gr_trans hg.out (gr_alloc _ _ _)⟩
        case measure => simp [intOf, txt_size]
      · have hsz : s.length ≠ 0 := fun h => hs (List.eq_nil_of_length_eq_zero h)
        have hsF : (s == []) = false := by rw [beq_eq_false_iff_ne]; exact hs
        have hfin : s = decDigits v := by
          rcases hrel.out with ⟨h, _⟩ | ⟨_, ⟨_, h⟩ | ⟨h, _⟩⟩
          · exact absurd h hs
          · exact h
          · omega
        replace hfin := Lib.hid hfin
        replace hs := Lib.hid hs
        replace hc := Lib.hid hc
        replace hb := Lib.hid hb
        clear hcv
        have hv0 : ((v : Int) < 0) = False := by simp
        go_wp2
        go_ret
        exact ⟨by rw [← hfin.out]; rfl, hg.out⟩
theorem refSlip_any (a b : Nat) (w : World) (ha : a ≤ 1000000) (hb : b ≤ 1000000) : Calls Tryz.prog 49 #[.int .i64 a, .int .i64 b] w fun e w' => e = .returned (.string (txt (slipL a b))) ∧ Gr w w' := by
  have l1 := dec_len a ha
  have l2 := dec_len b hb
  go_enter Tryz.func49, Tryz.ntmps49
  go_wp2_with fail
  refine (digits_any a _ ha).mono ?_
  rintro e w1 ⟨rfl, g1⟩
  have hs : slipL a b = 112 :: (decDigits a ++ 46 :: decDigits b) := rfl
  generalize decDigits a = D at *
  have e1 : (⟨#[112]⟩ : ByteArray) ++ txt D = txt (112 :: D) := txt_append [112] D
  have e2 : txt (112 :: D) ++ (⟨#[46]⟩ : ByteArray) = txt (112 :: D ++ [46]) := txt_append (112 :: D) [46]
  have n1 : (9223372036854775807 < 1 + D.length) = False := by simp; omega
  have n2 : (9223372036854775807 < D.length + 1 + 1) = False := by simp; omega
  replace hs := Lib.hid hs
  go_wp2_with fail
  refine (digits_any b _ hb).mono ?_
  rintro e w2 ⟨rfl, g2⟩
  generalize decDigits b = E at *
  have n3 : (9223372036854775807 < D.length + 1 + 1 + E.length) = False := by simp; omega
  go_wp2
  go_ret
  refine ⟨?_, gr_trans g1 g2⟩
  rw [hs.out]
  rfl
/-! ### Unslip -/
/-- Where the first dot stands among the first i signs; -1: nowhere. -/
def DotIs (l : List UInt8) (i : Nat) (dot : Int) : Prop := (dot = -1 ∧ ∀ j, j < i → l[j]? ≠ some 46) ∨ ∃ D : Nat, dot = D ∧ D < i ∧ l[D]? = some 46 ∧ ∀ j, j < D → l[j]? ≠ some 46
theorem dot_keep {l : List UInt8} {i : Nat} {dot : Int} (h : DotIs l i dot) (h2 : l[i]? ≠ some 46 ∨ 0 ≤ dot) : DotIs l (i + 1) dot := by
  rcases h with ⟨rfl, h⟩ | ⟨D, rfl, h3, h4⟩
  · refine .inl ⟨rfl, fun j hj => ?_⟩
    rcases Nat.lt_or_ge j i with h5 | h5
    · exact h j h5
    · obtain rfl : j = i := by omega
      rcases h2 with h2 | h2
      · exact h2
      · omega
  · exact .inr ⟨D, rfl, by omega, h4⟩
theorem dot_new {l : List UInt8} {i : Nat} {dot : Int} (h : DotIs l i dot) (h2 : l[i]? = some 46) (h3 : dot < 0) : DotIs l (i + 1) (i : Int) := by
  rcases h with ⟨rfl, h⟩ | ⟨D, rfl, h4, h5⟩
  · exact .inr ⟨i, rfl, by omega, h2, h⟩
  · omega
theorem dot_at {l : List UInt8} {dot : Int} {i : Nat} (h : DotIs l i dot) (h2 : 0 ≤ dot) : ∃ D : Nat, dot = D ∧ D < i ∧ l[D]? = some 46 ∧ ∀ j, j < D → l[j]? ≠ some 46 := by
  rcases h with ⟨rfl, _⟩ | h
  · omega
  · exact h
theorem dot_slip {l : List UInt8} {m n : Nat} {dot : Int} (h : DotIs l l.length dot) (hl : l = slipL m n) : dot = ((1 + (decDigits m).length : Nat) : Int) := by
  have hlen : l.length = 1 + (decDigits m).length + 1 + (decDigits n).length := by rw [hl]; unfold slipL; simp; omega
  rcases h with ⟨rfl, h⟩ | ⟨D, rfl, h4, h5, h6⟩
  · exfalso
    refine h (1 + (decDigits m).length) (by omega) ?_
    have hs : slipL m n = (112 :: decDigits m) ++ 46 :: decDigits n := rfl
    rw [hl, hs, List.getElem?_append_right (by simp; omega)]
    have e : 1 + (decDigits m).length - (112 :: decDigits m : List UInt8).length = 0 := by simp; omega
    rw [e]
    rfl
  · have := slip_dot hl h5 h6
    omega
def UnPost (l : List UInt8) (w : World) (e : Ending) (w' : World) : Prop := ∃ a b is, e = .returned (.tuple #[.int .i64 a, .int .i64 b, .bool is]) ∧ UnIs l a b is ∧ Gr w w'
theorem un_no {l : List UInt8} {w w' : World} (h : ∀ m n : Nat, SlipOk m n → l ≠ slipL m n) (g : Gr w w') : UnPost l w (.returned (.tuple #[.int .i64 0, .int .i64 0, .bool false])) w' := ⟨0, 0, false, rfl, .inr ⟨h, rfl, rfl, rfl⟩, g⟩
theorem un_caps {l : List UInt8} {m n D : Nat} (h : l = slipL m n) (hok : SlipOk m n) (hD : D = 1 + (decDigits m).length) : capL ((l.drop 1).take (D - 1)) = m ∧ capL (l.drop (D + 1)) = n := by
  obtain ⟨h1, h2⟩ := slip_parts m n
  subst h hD
  have e : 1 + (decDigits m).length - 1 = (decDigits m).length := by omega
  rw [e, h1, h2]
  obtain ⟨q1, q2, q3⟩ := hok
  exact ⟨capL_dec m (by omega), capL_dec n (by omega)⟩
set_option maxHeartbeats 8000000 in
set_option maxRecDepth 100000 in
theorem refUnslip_any (l : List UInt8) (w : World) (hl : l.length ≤ 1000) : Calls Tryz.prog 45 #[.string (txt l)] w (UnPost l w) := by
  go_enter Tryz.func45, Tryz.ntmps45
  go_wp2
  go_loop [5, 6] (fun d i => ∃ (k : Nat) (dot : Int), k ≤ l.length ∧ i = .int .i64 k ∧ d = .int .i64 dot ∧ -1 ≤ dot ∧ dot ≤ k ∧ Hid (DotIs l k dot)) (fun _ i => l.length - (intOf i).toNat)
  case atStart => exact ⟨0, -1, Nat.zero_le _, rfl, rfl, by omega, by omega, Lib.hid (.inl ⟨rfl, fun j hj => by omega⟩)⟩
  case round =>
    obtain ⟨k, dot, hk, rfl, rfl, hd0, hd1, HD⟩ := hrel
    by_cases hlt : k < l.length
    · have hki : (k : Int) < (l.length : Int) := by omega
      have hget : (txt l)[k]'(by rw [txt_size]; exact hlt) = l[k] := by show l.toArray[k] = l[k]; simp
      have hgq : l[k]? = some l[k] := List.getElem?_eq_getElem hlt
      generalize l[k] = c at hget hgq
      by_cases hc : c = 46
      · subst hc
        replace hgq := Lib.hid hgq
        by_cases hdn : dot < 0
        · go_wp2
          go_round
          case rel => exact ⟨k + 1, k, by omega, by go_num, rfl, by omega, by omega, Lib.hid (dot_new HD.out hgq.out hdn)⟩
          case measure => simp [intOf]; omega
        · go_wp2
          go_round
          case rel => exact ⟨k + 1, dot, by omega, by go_num, rfl, by omega, by omega, Lib.hid (dot_keep HD.out (.inr (by omega)))⟩
          case measure => simp [intOf]; omega
      · have hc2 : ((c.toNat : Int) == 46) = false := eqF (by
          intro e
          exact hc (UInt8.toNat_inj.1 (by show c.toNat = 46; omega)))
        have hne : l[k]? ≠ some 46 := by rw [hgq]; exact fun e => hc (Option.some.inj e)
        replace hgq := Lib.hid hgq
        replace hne := Lib.hid hne
        replace hc := Lib.hid hc
        go_wp2
        go_round
        case rel => exact ⟨k + 1, dot, by omega, by go_num, rfl, by omega, by omega, Lib.hid (dot_keep HD.out (.inl hne.out))⟩
        case measure => simp [intOf]; omega
    · obtain rfl : k = l.length := by omega
      by_cases hbig : 20 < l.length
      · have hbi : (20 : Int) < (l.length : Int) := by omega
        have hno : ∀ m n : Nat, SlipOk m n → l ≠ slipL m n := fun m n hok e => by
          have := (slip_len hok).1
          rw [← e] at this
          omega
        replace hno := Lib.hid hno
        go_wp2
        go_ret3
        exact un_no hno.out (gr_refl _ _)
      have hbi : ((20 : Int) < (l.length : Int)) = False := by simp; omega
      by_cases hd2 : dot < 2
      · have hno : ∀ m n : Nat, SlipOk m n → l ≠ slipL m n := fun m n hok e => by
          have := dot_slip HD.out e
          have h1 := (dec_len m (by have := hok.2.1; omega)).2
          omega
        replace hno := Lib.hid hno
        go_wp2
        go_ret3
        exact un_no hno.out (gr_refl _ _)
      by_cases hdl : dot = (l.length : Int) - 1
      · have hno : ∀ m n : Nat, SlipOk m n → l ≠ slipL m n := fun m n hok e => by
          have h2 := dot_slip HD.out e
          have h1 := (dec_len n (by have := hok.2.2; omega)).2
          have hlen : l.length = 1 + (decDigits m).length + 1 + (decDigits n).length := by rw [e]; unfold slipL; simp; omega
          omega
        replace hno := Lib.hid hno
        subst hdl
        have hl3 : 3 ≤ l.length := by omega
        go_wp2
        go_ret3
        exact un_no hno.out (gr_refl _ _)
      obtain ⟨D, rfl, hDl, hDg, hDn⟩ := dot_at HD.out (by omega)
      have hdf : ((D : Int) == (l.length : Int) - 1) = false := eqF hdl
      have hdd : ∀ m n : Nat, l = slipL m n → D = 1 + (decDigits m).length := fun m n e => slip_dot e hDg hDn
      have hD2 : 2 ≤ D := by omega
      have hD3 : D + 1 < l.length := by omega
      replace hdd := Lib.hid hdd
      clear HD hDg hDn hd0 hd1 hdl hd2
      go_wp2
      go_loop [7, 8, 9] (fun av bv i => ∃ (k a b : Nat), 1 ≤ k ∧ k ≤ l.length ∧ i = .int .i64 k ∧ av = .int .i64 a ∧ bv = .int .i64 b ∧ a ≤ 100000000 ∧ b ≤ 100000000 ∧ Hid (a = capL ((l.drop 1).take (min k D - 1))) ∧ Hid (b = capL ((l.drop (D + 1)).take (k - (D + 1))))) (fun _ _ i => l.length - (intOf i).toNat)
      case atStart =>
        refine ⟨1, 0, 0, by omega, by omega, rfl, rfl, rfl, by omega, by omega, Lib.hid ?_, Lib.hid ?_⟩
        · have e : min 1 D - 1 = 0 := by omega
          rw [e]; rfl
        · have e : 1 - (D + 1) = 0 := by omega
          rw [e]; rfl
      case round =>
        obtain ⟨k, a, b, hk1, hk, rfl, rfl, rfl, ha, hb, HA, HB⟩ := hrel
        by_cases hlt : k < l.length
        · have hki : (k : Int) < (l.length : Int) := by omega
          by_cases hkD : k = D
          · subst hkD
            go_wp2
            go_round
            case rel =>
              refine ⟨k + 1, a, b, by omega, by omega, by go_num, rfl, rfl, ha, hb, Lib.hid ?_, Lib.hid ?_⟩
              · have e : min (k + 1) k = min k k := by omega
                rw [e]; exact HA.out
              · have e : k + 1 - (k + 1) = k - (k + 1) := by omega
                rw [e]; exact HB.out
            case measure => simp [intOf]; omega
          have hkd : ((k : Int) == (D : Int)) = false := eqF (by omega)
          have hget : (txt l)[k]'(by rw [txt_size]; exact hlt) = l[k] := by show l.toArray[k] = l[k]; simp
          have hgq : l[k]? = some l[k] := List.getElem?_eq_getElem hlt
          generalize l[k] = c at hget hgq
          by_cases hdig : 48 ≤ c.toNat ∧ c.toNat ≤ 57
          · obtain ⟨hc1, hc2⟩ := hdig
            have hcl : (c.toNat : Int) < 48 ↔ False := by simp; omega
            have hch : (57 : Int) < (c.toNat : Int) ↔ False := by simp; omega
            by_cases hkl : k < D
            · have hV : capL ((l.drop 1).take (min (k + 1) D - 1)) = capV a c := by
                have e1 : min (k + 1) D - 1 = (k - 1) + 1 := by omega
                have e2 : min k D - 1 = k - 1 := by omega
                have hg2 : (l.drop 1)[k - 1]? = some c := by
                  rw [List.getElem?_drop]
                  have : 1 + (k - 1) = k := by omega
                  rw [this]; exact hgq
                obtain ⟨q1, q2⟩ := List.getElem?_eq_some_iff.1 hg2
                rw [e1, List.take_succ_eq_append_getElem q1, q2, capL_snoc, HA.out, e2]
              have hB2 : k + 1 - (D + 1) = k - (D + 1) := by omega
              have hVl : capV a c ≤ 100000000 := by unfold capV; omega
              obtain ⟨V, hVe⟩ : ∃ V, V = capV a c := ⟨_, rfl⟩
              have hVm : V = min (a * 10 + (c.toNat - 48)) 100000000 := hVe
              rw [← hVe] at hV hVl
              replace hV := Lib.hid hV
              replace hB2 := Lib.hid hB2
              replace hgq := Lib.hid hgq
              replace hVe := Lib.hid hVe
              have hsub : ((c.toNat : Int) - 48) % 256 = ((c.toNat - 48 : Nat) : Int) := by omega
              have hmin : min ((a : Int) * 10 + ((c.toNat - 48 : Nat) : Int)) 100000000 = (V : Int) := by omega
              clear hVm
              go_wp2
              go_round
              case rel => exact ⟨k + 1, V, b, by omega, by omega, by go_num, by go_num, rfl, hVl, hb, Lib.hid hV.out.symm, Lib.hid (by rw [hB2.out]; exact HB.out)⟩
              case measure => simp [intOf]; omega
            · have hV : capL ((l.drop (D + 1)).take (k + 1 - (D + 1))) = capV b c := by
                have e1 : k + 1 - (D + 1) = (k - (D + 1)) + 1 := by omega
                have hg2 : (l.drop (D + 1))[k - (D + 1)]? = some c := by
                  rw [List.getElem?_drop]
                  have : D + 1 + (k - (D + 1)) = k := by omega
                  rw [this]; exact hgq
                obtain ⟨q1, q2⟩ := List.getElem?_eq_some_iff.1 hg2
                rw [e1, List.take_succ_eq_append_getElem q1, q2, capL_snoc, HB.out]
              have hA2 : min (k + 1) D - 1 = min k D - 1 := by omega
              have hVl : capV b c ≤ 100000000 := by unfold capV; omega
              obtain ⟨V, hVe⟩ : ∃ V, V = capV b c := ⟨_, rfl⟩
              have hVm : V = min (b * 10 + (c.toNat - 48)) 100000000 := hVe
              rw [← hVe] at hV hVl
              replace hV := Lib.hid hV
              replace hA2 := Lib.hid hA2
              replace hgq := Lib.hid hgq
              replace hVe := Lib.hid hVe
              have hsub : ((c.toNat : Int) - 48) % 256 = ((c.toNat - 48 : Nat) : Int) := by omega
              have hmin : min ((b : Int) * 10 + ((c.toNat - 48 : Nat) : Int)) 100000000 = (V : Int) := by omega
              have hkl2 : ((k : Int) < (D : Int)) = False := by simp; omega
              clear hVm
              go_wp2
              go_round
              case rel => exact ⟨k + 1, a, V, by omega, by omega, by go_num, rfl, by go_num, ha, hVl, Lib.hid (by rw [hA2.out]; exact HA.out), Lib.hid hV.out.symm⟩
              case measure => simp [intOf]; omega
          · have hno : ∀ m n : Nat, SlipOk m n → l ≠ slipL m n := fun m n hok e => by
              have h1 := hdd.out m n e
              exact hdig (slip_digits e hgq hk1 (by omega))
            replace hno := Lib.hid hno
            replace hgq := Lib.hid hgq
            by_cases hlo : c.toNat < 48
            · have hcl : (c.toNat : Int) < 48 := by omega
              go_wp2
              go_ret3
              exact un_no hno.out (gr_refl _ _)
            · have hcl : ((c.toNat : Int) < 48) = False := by simp; omega
              have hch : (57 : Int) < (c.toNat : Int) := by omega
              go_wp2
              go_ret3
              exact un_no hno.out (gr_refl _ _)
        · obtain rfl : k = l.length := by omega
          have eA : min l.length D - 1 = D - 1 := by omega
          have eB : (l.drop (D + 1)).take (l.length - (D + 1)) = l.drop (D + 1) := List.take_of_length_le (by simp)
          have hA := HA.out
          have hB := HB.out
          rw [eA] at hA
          rw [eB] at hB
          have hcap : ∀ m n : Nat, SlipOk m n → l = slipL m n → a = m ∧ b = n := fun m n hok e => by
            have h1 := un_caps e hok (hdd.out m n e)
            rw [hA, hB]
            exact h1
          clear HA HB hA hB eA eB
          by_cases hok : 1 ≤ a ∧ a ≤ 1000000 ∧ b ≤ 2000
          · obtain ⟨q1, q2, q3⟩ := hok
            have cS := fun w => refSlip_any a b w (by omega) (by omega)
            by_cases hs : slipL a b = l
            · have hyes : UnIs l a b true := .inl ⟨a, b, ⟨by omega, by omega, by omega⟩, hs.symm, rfl, rfl, rfl⟩
              replace hyes := Lib.hid hyes
              rw [hs] at cS
              have hll : (l == l) = true := by simp
              replace hs := Lib.hid hs
              clear hcap
              go_wp2_with fail
              refine (cS _).mono ?_
              rintro e w1 ⟨rfl, g1⟩
              go_wp2
              go_ret3
              exact ⟨_, _, _, rfl, hyes.out, g1⟩
            · have hno : ∀ m n : Nat, SlipOk m n → l ≠ slipL m n := fun m n hok e => by
                obtain ⟨rfl, rfl⟩ := hcap m n hok e
                exact hs e.symm
              have hsf : (slipL a b == l) = false := by rw [beq_eq_false_iff_ne]; exact hs
              replace hno := Lib.hid hno
              clear hcap
              generalize slipL a b = S at *
              replace hs := Lib.hid hs
              go_wp2_with fail
              refine (cS _).mono ?_
              rintro e w1 ⟨rfl, g1⟩
              go_wp2
              go_ret3
              exact un_no hno.out g1
          · have hno : ∀ m n : Nat, SlipOk m n → l ≠ slipL m n := fun m n hok' e => by
              obtain ⟨rfl, rfl⟩ := hcap m n hok' e
              exact hok ⟨by have := hok'.1; omega, by have := hok'.2.1; omega, by have := hok'.2.2; omega⟩
            replace hno := Lib.hid hno
            clear hcap
            by_cases h1 : a < 1
            · have h1i : (a : Int) < 1 := by omega
              go_wp2
              go_ret3
              exact un_no hno.out (gr_refl _ _)
            have h1i : ((a : Int) < 1) = False := by simp; omega
            by_cases h2 : 1000000 < a
            · have h2i : (1000000 : Int) < (a : Int) := by omega
              go_wp2
              go_ret3
              exact un_no hno.out (gr_refl _ _)
            have h2i : ((1000000 : Int) < (a : Int)) = False := by simp; omega
            have h3i : (2000 : Int) < (b : Int) := by omega
            go_wp2
            go_ret3
            exact un_no hno.out (gr_refl _ _)

/-! ### Begins -/
set_option maxHeartbeats 2000000 in
set_option maxRecDepth 100000 in
theorem refBegins_any (rows size fr : Int) (w : World) (w0 : (Lit.int .i64 rows).wf = true) (w1 : (Lit.int .i64 size).wf = true) (w2 : (Lit.int .i64 fr).wf = true) :
    Calls Tryz.prog 46 #[.int .i64 rows, .int .i64 size, .int .i64 fr] w fun e w' => e = .returned (.bool (decide (BegIs rows size fr))) ∧ w = w' := by
  clear w0 w1 w2
  obtain ⟨b, hb⟩ : ∃ b, b = decide (BegIs rows size fr) := ⟨_, rfl⟩
  have hF : ¬ BegIs rows size fr → b = false := fun h => by rw [hb]; exact decide_eq_false h
  have hT : BegIs rows size fr → b = true := fun h => by rw [hb]; exact decide_eq_true h
  rw [← hb]
  clear hb
  by_cases c1 : rows < 0
  · obtain rfl := hF (fun h => by have := h.1.1; omega)
    clear hF hT
    go_enter Tryz.func46, Tryz.ntmps46
    go_wp2
    go_ret
    exact ⟨rfl, rfl⟩
  have c1' : (0 : Int) ≤ rows := by omega
  by_cases c2 : 2000 < rows
  · obtain rfl := hF (fun h => by have := h.1.2.1; omega)
    clear hF hT
    go_enter Tryz.func46, Tryz.ntmps46
    go_wp2
    go_ret
    exact ⟨rfl, rfl⟩
  have c2' : rows ≤ 2000 := by omega
  by_cases c3 : size < 1
  · obtain rfl := hF (fun h => by have := h.1.2.2.1; omega)
    clear hF hT
    go_enter Tryz.func46, Tryz.ntmps46
    go_wp2
    go_ret
    exact ⟨rfl, rfl⟩
  have c3' : (1 : Int) ≤ size := by omega
  by_cases c4 : 100 < size
  · obtain rfl := hF (fun h => by have := h.1.2.2.2; omega)
    clear hF hT
    go_enter Tryz.func46, Tryz.ntmps46
    go_wp2
    go_ret
    exact ⟨rfl, rfl⟩
  have c4' : size ≤ 100 := by omega
  by_cases c5 : fr < 0
  · obtain rfl := hF (fun h => by have := h.2.1; omega)
    clear hF hT
    go_enter Tryz.func46, Tryz.ntmps46
    go_wp2
    go_ret
    exact ⟨rfl, rfl⟩
  have c5' : (0 : Int) ≤ fr := by omega
  have hm : fr.tmod size = fr % size := Int.tmod_eq_emod_of_nonneg c5'
  by_cases c6 : fr < rows
  · by_cases c7 : fr % size = 0
    · obtain rfl := hT ⟨⟨c1', c2', c3', c4'⟩, c5', .inl c6, c7⟩
      rw [c7] at hm
      clear hF hT c7
      go_enter Tryz.func46, Tryz.ntmps46
      go_wp2
      go_ret
      exact ⟨rfl, rfl⟩
    · obtain rfl := hF (fun h => c7 h.2.2.2)
      have hmf : (fr.tmod size == 0) = false := eqF (by rw [hm]; exact c7)
      have hmf2 : (fr % size == 0) = false := eqF c7
      clear hF hT c7 hm
      go_enter Tryz.func46, Tryz.ntmps46
      go_wp2
      go_ret
      exact ⟨rfl, rfl⟩
  have c6' : (fr < rows) = False := by simp; omega
  by_cases c8 : fr = 0
  · subst c8
    obtain rfl := hT ⟨⟨c1', c2', c3', c4'⟩, c5', .inr rfl, Int.zero_emod _⟩
    rw [Int.zero_emod] at hm
    clear hF hT
    go_enter Tryz.func46, Tryz.ntmps46
    go_wp2
    go_ret
    exact ⟨rfl, rfl⟩
  · obtain rfl := hF (fun h => by rcases h.2.2.1 with h | h; exact c6 h; exact c8 h)
    have c8' := eqF c8
    clear hF hT hm
    go_enter Tryz.func46, Tryz.ntmps46
    go_wp2
    go_ret
    exact ⟨rfl, rfl⟩

/-! ### Pages and Next, of whatever numbers -/
theorem pages_gen (rows size : Int) (w : World) (w0 : (Lit.int .i64 rows).wf = true) (w1 : (Lit.int .i64 size).wf = true) :
    Calls Tryz.prog 44 #[.int .i64 rows, .int .i64 size] w fun e w' => ∃ v, e = .returned v ∧ w'.ownsRow w.heap.size 3 1 v (pgN rows size) ((pgL rows size).map (.int .i64)) ∧ Gr w w' := by
  by_cases h : PgIn rows size
  · have hN : pgN rows size = pagesN rows.toNat size.toNat := by unfold pgN; rw [if_pos h]
    have hL : pgL rows size = pagesL size.toNat (pagesN rows.toNat size.toNat) := by unfold pgL; rw [if_pos h]
    rw [hN, hL]
    obtain ⟨h1, h2, h3, h4⟩ := h
    have e1 : rows = (rows.toNat : Int) := by omega
    have e2 : size = (size.toNat : Int) := by omega
    have := pages_any rows.toNat size.toNat w (by omega) (by omega) (by omega)
    rw [← e1, ← e2] at this
    exact this
  · have hN : pgN rows size = 0 := by unfold pgN; rw [if_neg h]
    have hL : pgL rows size = [] := by unfold pgL; rw [if_neg h]
    rw [hN, hL]
    refine (pages_bad rows size w w0 w1 (by unfold PgIn at h; omega)).mono ?_
    rintro e w' ⟨rfl, rfl⟩
    exact ⟨_, rfl, World.ownsRow_nil _ _ _ _, gr_refl _ _⟩
def NextGen (rows size fr : Int) (w : World) (e : Ending) (w' : World) : Prop := ∃ v b, e = .returned (.tuple #[.int .i64 v, .bool b]) ∧ ((b = true ↔ BegIs rows size fr ∧ size < rows - fr) ∧ (b = true → v = fr + size) ∧ (b = false → v = 0)) ∧ Gr w w'
set_option maxHeartbeats 2000000 in
set_option maxRecDepth 100000 in
theorem next_gen (rows size fr : Int) (w : World) (w0 : (Lit.int .i64 rows).wf = true) (w1 : (Lit.int .i64 size).wf = true) :
    Calls Tryz.prog 47 #[.int .i64 rows, .int .i64 size, .int .i64 fr] w (NextGen rows size fr w) := by
  by_cases h : PgIn rows size
  · obtain ⟨h1, h2, h3, h4⟩ := h
    obtain ⟨r, rfl⟩ : ∃ r : Nat, rows = r := ⟨rows.toNat, by omega⟩
    obtain ⟨s, rfl⟩ : ∃ s : Nat, size = s := ⟨size.toNat, by omega⟩
    refine (next_any r s fr w (by omega) (by omega) (by omega)).mono ?_
    rintro e w' ⟨v, b, rfl, hn, g⟩
    exact ⟨v, b, rfl, next_is (by omega) (by omega) (by omega) hn, g⟩
  · have hb := fun w => pages_bad rows size w w0 w1 (by unfold PgIn at h; omega)
    have hno : NextGen rows size fr w (.returned (.tuple #[.int .i64 0, .bool false])) w := ⟨0, false, rfl, ⟨⟨(fun h => by cases h), (fun h2 => absurd h2.1.1 h)⟩, (fun h => by cases h), fun _ => rfl⟩, gr_refl _ _⟩
    replace hno := Lib.hid hno
    clear w0 w1 h
    go_enter Tryz.func47, Tryz.ntmps47
    go_wp2_with fail
    refine (hb _).mono ?_
    rintro e w1 ⟨rfl, rfl⟩
    go_wp2
    go_loopw [16] (fun i wr => i = .int .i64 0 ∧ wr = w) (fun _ _ => 0)
    case atStart => exact ⟨rfl, rfl⟩
    case round =>
      obtain ⟨rfl, rfl⟩ := hrel
      go_wp2
      go_ret2
      exact hno.out
end Go.Proofs.YtmldoeeangekoaaGreatDoor
