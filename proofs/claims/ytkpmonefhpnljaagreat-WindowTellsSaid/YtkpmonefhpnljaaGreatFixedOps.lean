/-
  What the ops of package fixed answer. No condition.
-/
import Derived.Test.YtkpmonefhpnljaaGreatProg
import Derived.Test.YtkpmonefhpnljaaGreatAid
namespace Go.Proofs.YtkpmonefhpnljaaGreat
open Go.RowKit

/-- A number within the limit. -/
def In (a : Int) : Prop := -1000000000000 ≤ a ∧ a ≤ 1000000000000
def b2i : Bool → Int
  | true => 1
  | false => 0
def ret2 (v e : Int) : Ending := .returned (.tuple #[.int .i64 v, .int .i64 e])

theorem right_any (a : Int) (w : World) : Calls Tryz.prog 27 #[.int .i64 a] w fun e w' => e = .returned (.bool (decide (-1000000000000 ≤ a) && decide (a ≤ 1000000000000))) ∧ w = w' := by
  go_enter Tryz.func27, Tryz.ntmps27
  go_wp2
  all_goals
    go_ret
    refine ⟨?_, rfl⟩
    apply congrArg (fun b => Ending.returned (Value.bool b))
    rw [Bool.eq_iff_iff]
    simp
    omega
theorem right_yes (a : Int) (w : World) (h : In a) : Calls Tryz.prog 27 #[.int .i64 a] w fun e w' => e = .returned (.bool true) ∧ w = w' := by
  refine (right_any a w).mono ?_
  rintro e w' ⟨rfl, rfl⟩
  have h1 : (decide (-1000000000000 ≤ a) && decide (a ≤ 1000000000000)) = true := by simp; exact h
  rw [h1]; exact ⟨rfl, rfl⟩
theorem right_no (a : Int) (w : World) (h : ¬ In a) : Calls Tryz.prog 27 #[.int .i64 a] w fun e w' => e = .returned (.bool false) ∧ w = w' := by
  refine (right_any a w).mono ?_
  rintro e w' ⟨rfl, rfl⟩
  have h1 : (decide (-1000000000000 ≤ a) && decide (a ≤ 1000000000000)) = false := by
    rw [← Bool.not_eq_true]; simpa [In] using h
  rw [h1]; exact ⟨rfl, rfl⟩

theorem within_yes (a : Int) (w : World) (h : In a) : Calls Tryz.prog 98 #[.int .i64 a] w fun e w' => e = ret2 a 0 ∧ w = w' := by
  go_enter Tryz.func98, Tryz.ntmps98
  go_wp2_with fail
  refine (right_yes a _ h).mono ?_
  rintro e w' ⟨rfl, rfl⟩
  go_wp2
  go_ret2
  exact ⟨rfl, rfl⟩
theorem within_no (a : Int) (w : World) (h : ¬ In a) : Calls Tryz.prog 98 #[.int .i64 a] w fun e w' => e = ret2 0 4 ∧ w = w' := by
  go_enter Tryz.func98, Tryz.ntmps98
  go_wp2_with fail
  refine (right_no a _ h).mono ?_
  rintro e w' ⟨rfl, rfl⟩
  go_wp2
  go_ret2
  exact ⟨rfl, rfl⟩
theorem truth_any (b : Bool) (w : World) : Calls Tryz.prog 108 #[.bool b] w fun e w' => e = ret2 (b2i b) 0 ∧ w = w' := by
  cases b with
  | true =>
    go_enter Tryz.func108, Tryz.ntmps108
    go_wp2
    go_ret2
    exact ⟨rfl, rfl⟩
  | false =>
    go_enter Tryz.func108, Tryz.ntmps108
    go_wp2
    go_ret2
    exact ⟨rfl, rfl⟩

/-- What a product is, or that it is too great. -/
theorem times_zero (a b : Int) (w : World) (ha : In a) (hb : In b) (h : a = 0 ∨ b = 0) : Calls Tryz.prog 104 #[.int .i64 a, .int .i64 b] w fun e w' => e = ret2 0 0 ∧ w = w' := by
  unfold In at ha hb
  by_cases h0 : a = 0
  · subst h0
    clear h
    go_enter Tryz.func104, Tryz.ntmps104
    go_wp2
    go_ret2
    exact ⟨by simp [ret2, wrap64], rfl⟩
  · obtain rfl : b = 0 := by rcases h with h | h; exact absurd h h0; exact h
    clear h
    have e1 : (a != 0) = true := by simpa using h0
    go_enter Tryz.func104, Tryz.ntmps104
    go_wp2
    go_ret2
    exact ⟨by simp [ret2, wrap64], rfl⟩
theorem in_tdiv {a b : Int} (ha : In a) : In (a.tdiv b) := by
  have h : (a.tdiv b).natAbs = a.natAbs / b.natAbs := Int.natAbs_tdiv a b
  have h2 : a.natAbs / b.natAbs ≤ a.natAbs := Nat.div_le_self _ _
  unfold In at *
  omega
theorem in_tmod {a b : Int} (ha : In a) : In (a.tmod b) := by
  have h : (a.tmod b).natAbs = a.natAbs % b.natAbs := Int.natAbs_tmod a b
  have h2 : a.natAbs % b.natAbs ≤ a.natAbs := Nat.mod_le _ _
  unfold In at *
  omega
/-- Is a product too great? -/
def tooBig (a b : Int) : Bool := decide (a ≠ 0) && decide (b ≠ 0) && decide (1000000000000 / (max b (-b)) < max a (-a))
theorem small_mul {a b : Int} (ha : In a) (hb : In b) (h : tooBig a b = false) : In (a * b) := by
  unfold In at *
  by_cases h0 : a = 0
  · subst h0; simp
  by_cases h1 : b = 0
  · subst h1; simp
  have h2 : max a (-a) ≤ 1000000000000 / max b (-b) := by
    simp only [tooBig, h0, h1, ne_eq, not_false_eq_true, decide_true, Bool.true_and, decide_eq_false_iff_not] at h
    omega
  have hb0 : 0 < max b (-b) := by omega
  have h3 := Int.mul_le_of_le_ediv hb0 h2
  have h4 : max a (-a) * max b (-b) = a * b ∨ max a (-a) * max b (-b) = -(a * b) := by
    have ea : max a (-a) = a ∨ max a (-a) = -a := by omega
    have eb : max b (-b) = b ∨ max b (-b) = -b := by omega
    rcases ea with ea | ea <;> rcases eb with eb | eb <;> rw [ea, eb]
    · exact .inl rfl
    · exact .inr (Int.mul_neg _ _)
    · exact .inr (Int.neg_mul _ _)
    · exact .inl (Int.neg_mul_neg _ _)
  have h5 : 0 ≤ max a (-a) * max b (-b) := Int.mul_nonneg (by omega) (by omega)
  generalize max a (-a) * max b (-b) = m at *
  generalize a * b = n at *
  omega
theorem wrap_in {n : Int} (h : In n) : wrap64 n = n := by unfold In at h; unfold wrap64; omega

/-- What a product comes to. -/
def TimesPost (a b : Int) (w : World) (e : Ending) (w' : World) : Prop := e = (if tooBig a b then ret2 0 4 else ret2 (a * b) 0) ∧ w = w'
theorem max_if (b : Int) : max b (-b) = if b < -b then -b else b := by split <;> omega
set_option maxHeartbeats 1000000 in
theorem times_nz (a b : Int) (w : World) (ha : In a) (hb : In b) (h0 : a ≠ 0) (h1 : b ≠ 0) : Calls Tryz.prog 104 #[.int .i64 a, .int .i64 b] w (TimesPost a b w) := by
  have hin := small_mul ha hb
  have ht : tooBig a b = decide (1000000000000 / (max b (-b)) < max a (-a)) := by simp [tooBig, h0, h1]
  unfold In at ha hb
  have e1 : (a != 0) = true := by simpa using h0
  have e2 : (b != 0) = true := by simpa using h1
  by_cases hc : 1000000000000 / (max b (-b)) < max a (-a)
  · have htf : tooBig a b = true := by rw [ht]; simpa using hc
    replace htf := Lib.hid htf
    replace hin := Lib.hid hin
    replace ht := Lib.hid ht
    rw [max_if, max_if] at hc
    go_enter Tryz.func104, Tryz.ntmps104
    go_wp2
    all_goals (go_ret2; exact ⟨by rw [htf.out]; rfl, rfl⟩)
  · have htf : tooBig a b = false := by rw [ht]; simpa using hc
    have hw := wrap_in (hin htf)
    replace hin := Lib.hid hin
    replace ht := Lib.hid ht
    replace htf := Lib.hid htf
    rw [max_if, max_if] at hc
    go_enter Tryz.func104, Tryz.ntmps104
    go_wp2
    all_goals (go_ret2; exact ⟨by rw [htf.out]; rfl, rfl⟩)
theorem times_any (a b : Int) (w : World) (ha : In a) (hb : In b) : Calls Tryz.prog 104 #[.int .i64 a, .int .i64 b] w (TimesPost a b w) := by
  by_cases h0 : a = 0
  · refine (times_zero a b w ha hb (.inl h0)).mono ?_
    rintro e w' ⟨rfl, rfl⟩
    subst h0
    exact ⟨by simp [tooBig], rfl⟩
  by_cases h1 : b = 0
  · refine (times_zero a b w ha hb (.inr h1)).mono ?_
    rintro e w' ⟨rfl, rfl⟩
    subst h1
    exact ⟨by simp [tooBig], rfl⟩
  exact times_nz a b w ha hb h0 h1

theorem divides_zero (op : ByteArray) (a : Int) (w : World) : Calls Tryz.prog 105 #[.string op, .int .i64 a, .int .i64 0] w fun e w' => e = ret2 0 5 ∧ w = w' := by
  go_enter Tryz.func105, Tryz.ntmps105
  go_wp2
  go_ret2
  exact ⟨rfl, rfl⟩
theorem divides_quo (a b : Int) (w : World) (ha : In a) (hb : In b) (h0 : b ≠ 0) : Calls Tryz.prog 105 #[.string ⟨#[47]⟩, .int .i64 a, .int .i64 b] w fun e w' => e = ret2 (a.tdiv b) 0 ∧ w = w' := by
  have hw : wrap64 (a.tdiv b) = a.tdiv b := wrap_in (in_tdiv ha)
  unfold In at ha hb
  have e2 : (b == 0) = false := eqF h0
  replace hw := Lib.hid hw
  go_enter Tryz.func105, Tryz.ntmps105
  go_wp2
  go_ret2
  refine ⟨?_, rfl⟩
  show Ending.returned (.tuple #[.int .i64 (wrap64 (a.tdiv b)), .int .i64 0]) = _
  rw [hw.out]
  rfl
theorem divides_rem (a b : Int) (w : World) (ha : In a) (hb : In b) (h0 : b ≠ 0) : Calls Tryz.prog 105 #[.string ⟨#[37]⟩, .int .i64 a, .int .i64 b] w fun e w' => e = ret2 (a.tmod b) 0 ∧ w = w' := by
  have hm : -1000000000000 ≤ a.tmod b ∧ a.tmod b ≤ 1000000000000 := in_tmod ha
  unfold In at ha hb
  have e2 : (b == 0) = false := eqF h0
  go_enter Tryz.func105, Tryz.ntmps105
  go_wp2
  go_ret2
  exact ⟨rfl, rfl⟩

/-- What a comparison of two numbers by the runes of an op comes to. -/
def cmpStep (ne : Bool) (a b : Int) (o : Bool) (r : UInt8) : Bool :=
  if r = 60 then decide (a < b) else if r = 62 then decide (b < a) else if r = 61 ∧ ne = true then (a != b) else if r = 61 then (o || (a == b)) else o
def cmpV (op : List UInt8) (a b : Int) : Bool := op.foldl (cmpStep (op == [33, 61]) a b) (op == [33, 61])

theorem cmp_take (op : List UInt8) (ne : Bool) (a b : Int) (k : Nat) (h : k < op.length) : (op.take (k + 1)).foldl (cmpStep ne a b) ne = cmpStep ne a b ((op.take k).foldl (cmpStep ne a b) ne) op[k] := by
  rw [List.take_succ_eq_append_getElem h, List.foldl_append]
  rfl

set_option maxHeartbeats 2000000 in
theorem compare_any (op : List UInt8) (a b : Int) (w : World) (hl : op.length ≤ 2) (hasc : ∀ x ∈ op, x.toNat < 128) : Calls Tryz.prog 103 #[.string (txt op), .int .i64 a, .int .i64 b] w fun e w' => e = ret2 (b2i (cmpV op a b)) 0 ∧ Gr w w' := by
  obtain ⟨ne, hne⟩ : ∃ ne, ne = (op == [33, 61]) := ⟨_, rfl⟩
  have hV : cmpV op a b = op.foldl (cmpStep ne a b) ne := by rw [hne]; rfl
  have hbe : (op == [33, 61]) = ne := hne.symm
  rw [hV]
  replace hV := Lib.hid hV
  replace hne := Lib.hid hne
  replace hasc := Lib.hid hasc
  have hz : (txt op).size = op.length := txt_size op
  go_enter Tryz.func103, Tryz.ntmps103
  have it0 := it_new w (txt op)
  have bel0 := gr_below (it_new_gr w (txt op) none)
  obtain ⟨bb, hbb⟩ : ∃ bb, bb = w.heap.size := ⟨_, rfl⟩
  rw [← hbb] at it0
  go_wp2_with fail
  rw [← hbb]
  replace hbb := Lib.hid hbb
  generalize w.iter (txt op) 0 = w0 at *
  go_loopw [8] (fun o wr => ∃ (k : Nat) (ov : Bool), k ≤ op.length ∧ o = .bool ov ∧ Hid (ov = (op.take k).foldl (cmpStep ne a b) ne) ∧ It wr bb (txt op) k ∧ Below w.heap.size w wr) (fun _ wr => op.length - wr.iterPos bb)
  case atStart => exact ⟨0, ne, Nat.zero_le _, rfl, rfl, it0, bel0⟩
  case round =>
    obtain ⟨k, ov, hk, rfl, ho, hit, hbel⟩ := hrel
    by_cases hlt : k < op.length
    · obtain ⟨x, hx⟩ : ∃ x, op[k] = x := ⟨_, rfl⟩
      have hx128 : x.toNat < 128 := hasc.out x (by rw [← hx]; exact List.getElem_mem hlt)
      have hks : k < (txt op).size := by rw [txt_size]; exact hlt
      have hdec : Utf8.decode (txt op) k = (x.toNat, 1) := by
        have h1 : (txt op)[k]'hks = x := hx
        have := decode_ascii (txt op) k hks (by rw [h1]; exact hx128)
        rw [this, h1]
      have hn := fun ty => run_next_it (P := Tryz.prog) hit hks ty
      rw [hdec] at hn
      have hit2 := it_step hit (k + 1)
      have hbel2 : Below w.heap.size w (itW wr bb (txt op) (k + 1)) := below_gr hbel (it_gr wr bb _ _) hbel.size (by intro q hq; cases hq; rw [hbb.out]; exact Nat.le_refl _)
      simp only at hn
      generalize itW wr bb (txt op) (k + 1) = W2 at hn hit2 hbel2
      replace hit2 := Lib.hid hit2
      replace hit := Lib.hid hit
      replace hbel := Lib.hid hbel2
      clear hbel2
      replace hx := Lib.hid hx
      replace hdec := Lib.hid hdec
      by_cases c1 : x = 60
      · have d1 : ((x.toNat : Int) == 60) = true := eqT (by subst c1; rfl)
        replace c1 := Lib.hid c1
        go_wp2
        go_roundw
        case rel => exact ⟨k + 1, _, by omega, rfl, by show _ = _; rw [cmp_take op ne a b k hlt, ← ho.out, hx.out, cmpStep, if_pos c1.out], hit2.out, hbel.out⟩
        case measure => rw [it_pos hit2.out, it_pos hit.out]; omega
      · have d1 : ((x.toNat : Int) == 60) = false := eqF (by intro h; exact c1 (UInt8.toNat_inj.1 (by rw [show (60 : UInt8).toNat = 60 from rfl]; omega)))
        by_cases c2 : x = 62
        · have d2 : ((x.toNat : Int) == 62) = true := eqT (by subst c2; rfl)
          replace c1 := Lib.hid c1
          replace c2 := Lib.hid c2
          go_wp2
          go_roundw
          case rel => exact ⟨k + 1, _, by omega, rfl, by show _ = _; rw [cmp_take op ne a b k hlt, ← ho.out, hx.out, cmpStep, if_neg c1.out, if_pos c2.out], hit2.out, hbel.out⟩
          case measure => rw [it_pos hit2.out, it_pos hit.out]; omega
        · have d2 : ((x.toNat : Int) == 62) = false := eqF (by intro h; exact c2 (UInt8.toNat_inj.1 (by rw [show (62 : UInt8).toNat = 62 from rfl]; omega)))
          by_cases c3 : x = 61
          · have d3 : ((x.toNat : Int) == 61) = true := eqT (by subst c3; rfl)
            replace c1 := Lib.hid c1
            replace c2 := Lib.hid c2
            replace c3 := Lib.hid c3
            cases ne with
            | true =>
              go_wp2
              go_roundw
              case rel => exact ⟨k + 1, _, by omega, rfl, by show _ = _; rw [cmp_take op _ a b k hlt, ← ho.out, hx.out, cmpStep, if_neg c1.out, if_neg c2.out, if_pos ⟨c3.out, rfl⟩], hit2.out, hbel.out⟩
              case measure => rw [it_pos hit2.out, it_pos hit.out]; omega
            | false =>
              cases ov with
              | true =>
                go_wp2
                go_roundw
                case rel => exact ⟨k + 1, _, by omega, rfl, by show _ = _; rw [cmp_take op _ a b k hlt, ← ho.out, hx.out, cmpStep, if_neg c1.out, if_neg c2.out, if_neg (by simp), if_pos c3.out]; rfl, hit2.out, hbel.out⟩
                case measure => rw [it_pos hit2.out, it_pos hit.out]; omega
              | false =>
                go_wp2
                go_roundw
                case rel => exact ⟨k + 1, _, by omega, rfl, by show _ = _; rw [cmp_take op _ a b k hlt, ← ho.out, hx.out, cmpStep, if_neg c1.out, if_neg c2.out, if_neg (by simp), if_pos c3.out]; rfl, hit2.out, hbel.out⟩
                case measure => rw [it_pos hit2.out, it_pos hit.out]; omega
          · have d3 : ((x.toNat : Int) == 61) = false := eqF (by intro h; exact c3 (UInt8.toNat_inj.1 (by rw [show (61 : UInt8).toNat = 61 from rfl]; omega)))
            replace c1 := Lib.hid c1
            replace c2 := Lib.hid c2
            replace c3 := Lib.hid c3
            go_wp2
            go_roundw
            case rel => exact ⟨k + 1, _, by omega, rfl, by show _ = _; rw [cmp_take op _ a b k hlt, ← ho.out, hx.out, cmpStep, if_neg c1.out, if_neg c2.out, if_neg (by intro h; exact c3.out h.1), if_neg c3.out], hit2.out, hbel.out⟩
            case measure => rw [it_pos hit2.out, it_pos hit.out]; omega
    · have hn := fun ty => run_next_it_end (P := Tryz.prog) hit (by rw [txt_size]; exact hlt) ty
      have hfull := ho.out
      rw [List.take_of_length_le (by omega)] at hfull
      replace hfull := Lib.hid hfull
      go_wp2_with fail
      refine (truth_any ov _).mono ?_
      rintro e w' ⟨rfl, rfl⟩
      unfold ret2
      go_wp2
      go_ret2
      rw [← hfull.out]
      exact ⟨rfl, gr_of_below hbel (Nat.le_refl _)⟩

end Go.Proofs.YtkpmonefhpnljaaGreat
