/-
  What slip.places, slip.Put and slip.Get answer. Put and Get: where the library's table and its errors lie as they were laid.
-/
import Derived.Test.YtmldoeeangekoaaGreatDoorIterAid
import Derived.Test.YtmldoeeangekoaaGreatDoorSlipMath
import Derived.Test.YtmldoeeangekoaaGreatDoorShelf
import Derived.Lib.LaidTab
namespace Go.Proofs.YtmldoeeangekoaaGreatDoor
open Go.RowKit
open Go.Lib (decDigits)

theorem i64_below {n : Nat} (h : n ≤ 1000000) : IntKind.i64.wrap ((n : Nat) : Int) = n := IntWalk.i64_in _ (by omega)
def PlcPost (l : List UInt8) (w : World) (e : Ending) (w' : World) : Prop :=
  ∃ a b : Int, e = .returned (.tuple #[.int .i64 a, .int .i64 b]) ∧ plc (chunks l) 0 (-1) (-1) = (a, b) ∧ (-1 ≤ a ∧ a < l.length ∧ -1 ≤ b ∧ b < l.length ∧ (a = b → a = -1)) ∧ Gr w w'
set_option maxHeartbeats 2000000 in
set_option maxRecDepth 100000 in
theorem places_any (l : List UInt8) (w : World) (hl : l.length ≤ 1000000) : Calls Tryz.prog 103 #[.string (txt l)] w (PlcPost l w) := by
  have it0 := it_new w (txt l)
  have bel0 := gr_below (it_new_gr w (txt l) none)
  replace it0 := Lib.hid it0
  go_enter Tryz.func103, Tryz.ntmps103
  go_wp2
  go_loopw [4, 5] (fun av bv wr => ∃ (p : Nat) (done : List (Nat × List UInt8)) (a b : Int), p ≤ l.length ∧ Hid (chunks l = done ++ chunks (l.drop p)) ∧ av = .int .i64 a ∧ bv = .int .i64 b ∧ Hid (plc (chunks l) 0 (-1) (-1) = plc (chunks (l.drop p)) p a b) ∧ Hid (-1 ≤ a ∧ a < p ∧ -1 ≤ b ∧ b < p ∧ (a = b → a = -1)) ∧ Hid (It wr w.heap.size (txt l) p) ∧ Hid (Below w.heap.size w wr)) (fun _ _ wr => l.length - wr.iterPos w.heap.size)
  case atStart => exact ⟨0, [], -1, -1, Nat.zero_le _, rfl, rfl, rfl, rfl, ⟨by omega, by omega, by omega, by omega, fun _ => rfl⟩, it0, bel0⟩
  case round =>
    obtain ⟨p, done, a, b, hp, hch, rfl, rfl, hplc, hab, hit, hbel⟩ := hrel
    by_cases hlt : p < l.length
    · obtain ⟨r, k, bs, hR⟩ := round_at hch.out hlt
      have hn := fun ty => next_round (P := Tryz.prog) hR hit.out ty
      have hit2 := it_step hit.out (p + k)
      have hbel2 := below_gr hbel.out (it_gr wr w.heap.size (txt l) (p + k)) hbel.out.size (by intro q hq; cases hq; exact Nat.le_refl _)
      have hfit := hR.fits
      have hw1 := hR.width
      have hR4 := (round_rng hR).1
      have hst : chunks (l.drop p) = (r, bs) :: chunks (l.drop (p + k)) := by
        have h1 := hR.next
        rw [hch.out, List.append_assoc] at h1
        exact List.append_cancel_left h1
      have hpc : plc (chunks l) 0 (-1) (-1) = (if r = 112 ∧ a < 0 then plc (chunks (l.drop (p + k))) (p + k) (p : Nat) b else if r = 46 ∧ b < 0 then plc (chunks (l.drop (p + k))) (p + k) a (p : Nat) else plc (chunks (l.drop (p + k))) (p + k) a b) := by
        rw [hplc.out, hst]
        simp only [plc]
        rw [hR.len]
      generalize itW wr w.heap.size (txt l) (p + k) = W2 at hn hit2 hbel2
      have hpos := it_pos hit.out
      replace hpos := Lib.hid hpos
      have hpos2 := Lib.hid (it_pos hit2)
      have hnx := Lib.hid hR.next
      replace hit2 := Lib.hid hit2
      replace hbel2 := Lib.hid hbel2
      clear hbel hit hst hplc
      obtain ⟨b1, b2, b3, b4, b5⟩ := hab.out
      have b5' := Lib.hid b5
      clear b5
      by_cases h112 : r = 112
      · have e112 : (((r : Nat) : Int) == 112) = true := by rw [beq_iff_eq]; omega
        by_cases ha : a < 0
        · rw [if_pos ⟨h112, ha⟩] at hpc
          replace hpc := Lib.hid hpc
          go_wp2
          go_roundw
          case rel => exact ⟨p + k, _, (p : Nat), b, by omega, hnx.out, rfl, rfl, hpc.out, ⟨by omega, by omega, by omega, by omega, fun e => by omega⟩, hit2.out, hbel2.out⟩
          case measure => rw [hpos2.out, hpos.out]; omega
        · rw [if_neg (fun h => ha h.2), if_neg (fun h => by omega)] at hpc
          replace hpc := Lib.hid hpc
          have e46 : (((r : Nat) : Int) == 46) = false := by rw [beq_eq_false_iff_ne]; omega
          go_wp2
          go_roundw
          case rel => exact ⟨p + k, _, a, b, by omega, hnx.out, rfl, rfl, hpc.out, ⟨by omega, by omega, by omega, by omega, b5'.out⟩, hit2.out, hbel2.out⟩
          case measure => rw [hpos2.out, hpos.out]; omega
      · have e112 : (((r : Nat) : Int) == 112) = false := by rw [beq_eq_false_iff_ne]; omega
        rw [if_neg (fun h => h112 h.1)] at hpc
        by_cases h46 : r = 46
        · have e46 : (((r : Nat) : Int) == 46) = true := by rw [beq_iff_eq]; omega
          by_cases hb : b < 0
          · rw [if_pos ⟨h46, hb⟩] at hpc
            replace hpc := Lib.hid hpc
            go_wp2
            go_roundw
            case rel => exact ⟨p + k, _, a, (p : Nat), by omega, hnx.out, rfl, rfl, hpc.out, ⟨by omega, by omega, by omega, by omega, fun e => by omega⟩, hit2.out, hbel2.out⟩
            case measure => rw [hpos2.out, hpos.out]; omega
          · rw [if_neg (fun h => hb h.2)] at hpc
            replace hpc := Lib.hid hpc
            go_wp2
            go_roundw
            case rel => exact ⟨p + k, _, a, b, by omega, hnx.out, rfl, rfl, hpc.out, ⟨by omega, by omega, by omega, by omega, b5'.out⟩, hit2.out, hbel2.out⟩
            case measure => rw [hpos2.out, hpos.out]; omega
        · have e46 : (((r : Nat) : Int) == 46) = false := by rw [beq_eq_false_iff_ne]; omega
          rw [if_neg (fun h => h46 h.1)] at hpc
          replace hpc := Lib.hid hpc
          go_wp2
          go_roundw
          case rel => exact ⟨p + k, _, a, b, by omega, hnx.out, rfl, rfl, hpc.out, ⟨by omega, by omega, by omega, by omega, b5'.out⟩, hit2.out, hbel2.out⟩
          case measure => rw [hpos2.out, hpos.out]; omega
    · have hn := fun ty => next_end (P := Tryz.prog) (by omega) hit.out ty
      have hd : chunks (l.drop p) = [] := by rw [List.drop_of_length_le (by omega)]; rfl
      have hpl := hplc.out
      rw [hd] at hpl
      obtain rfl : p = l.length := by omega
      replace hpl := Lib.hid hpl
      clear hd hplc
      go_wp2
      go_ret2
      exact ⟨a, b, rfl, hpl.out, hab.out, gr_of_below hbel.out (Nat.le_refl _)⟩

/-! ### What the library's variables hold -/
structure Vars (w : World) : Prop where
  tab : Lib.TabIs Tryz.prog w "internal/strconv.uint64pow10" .u64 Lib.pow10Tab
  syn : ∃ tp p, w.var? Tryz.prog "strconv.ErrSyntax" = some #[.iface tp p]
  rng : ∃ tp p, w.var? Tryz.prog "strconv.ErrRange" = some #[.iface tp p]
theorem var_gr {P : Program} {w w' : World} {n : String} {cs : Array Value} (h : w.var? P n = some cs) (g : Gr w w') : w'.var? P n = some cs := by
  unfold World.var? at h ⊢
  cases hg : P.globalNamed n with
  | none => simp [hg] at h
  | some b =>
    simp only [hg, Option.bind_some] at h ⊢
    split at h
    · rename_i c t f hb
      rw [gr_blk g hb (by simp)]
      exact h
    · cases h
theorem vars_gr {w w' : World} (h : Vars w) (g : Gr w w') : Vars w' :=
  ⟨var_gr h.tab g, by obtain ⟨tp, p, e⟩ := h.syn; exact ⟨tp, p, var_gr e g⟩, by obtain ⟨tp, p, e⟩ := h.rng; exact ⟨tp, p, var_gr e g⟩⟩
theorem gr_grow (w : World) (k : Nat) (os : Array Obj) : Gr w (Go.Sort.grow (w.drewN k) os) :=
  ⟨rfl, rfl, rfl, by simp [Go.Sort.grow, World.drewN], fun i hi _ => by
    show (w.heap ++ os)[i]? = w.heap[i]?
    rw [Array.getElem?_append_left hi]⟩
theorem itoa_any (u : Nat) (w : World) (h : u ≤ 1000000) (hv : Vars w) : Calls Tryz.prog 34 #[.int .i64 u] w fun e w' => e = .returned (.string (txt (decDigits u))) ∧ Gr w w' :=
  (Tryz.strconv_Itoa (u : Int) (by omega) (by omega) w hv.tab).mono (by
    rintro e w' ⟨rfl, k, os, rfl⟩
    refine ⟨?_, gr_grow w k os⟩
    rw [itoa_dec]
    rfl)
/-- Whatever the text: an answer. A row of decimal digits: its number. -/
theorem atoi_any (l : List UInt8) (w : World) (h : l.length ≤ 1000000) (hv : Vars w) : Calls Tryz.prog 104 #[.string (txt l)] w fun e w' => ∃ (v : Int) (x : Value), e = .returned (.tuple #[.int .i64 v, x]) ∧ (∀ u : Nat, u ≤ 1000000 → l = decDigits u → v = u) ∧ (Lit.int .i64 v).wf = true ∧ Gr w w' := by
  have hdata : (txt l).data.toList = l := txt_data l
  have hz : (txt l).size = l.length := txt_size l
  have key : ∀ u : Nat, u ≤ 1000000 → l = decDigits u → Lib.atoiAll l = .ok (u : Int) := by
    intro u hu e
    have h1 := (dec_len u hu).1
    rw [Lib.atoiAll_short l (by rw [e]; omega), e, atoi_dec]
    rfl
  rcases ha : Lib.atoiAll l with v | _ | _
  · refine (Tryz.strconv_Atoi_ok (txt l) (by omega) v (by rw [hdata]; exact ha) w).mono ?_
    rintro e w' ⟨rfl, hw⟩
    refine ⟨v, _, rfl, fun u hu e => ?_, ?_, ?_⟩
    · have := key u hu e
      rw [ha] at this
      injection this
    · have := Lib.atoiAll_bounds ha
      simp [Lit.wf, IntKind.min, IntKind.max, IntKind.signed, IntKind.bits]
      omega
    · rcases hw with rfl | ⟨t, rfl⟩
      · exact gr_refl _ _
      · exact gr_of_below (Lib.bytesWorld_below _ _ _) (Nat.le_refl _)
  · obtain ⟨tp, p, hs⟩ := hv.syn
    refine (Any.strconv_Atoi_syntax_var Tryz.laysC172 (txt l) (by omega) (by rw [hdata]; exact ha) tp p w hs).mono ?_
    rintro e w' ⟨N, rfl, _, _, hb⟩
    refine ⟨0, _, rfl, fun u hu e => ?_, rfl, gr_of_below hb (Nat.le_refl _)⟩
    have := key u hu e
    rw [ha] at this
    cases this
  · obtain ⟨tp, p, hs⟩ := hv.rng
    refine (Tryz.strconv_Atoi_range_var (txt l) (by omega) (by rw [hdata]; exact ha) tp p w hs).mono ?_
    rintro e w' ⟨N, rfl, _, _, hb⟩
    refine ⟨_, _, rfl, fun u hu e => ?_, ?_, gr_of_below hb (Nat.le_refl _)⟩
    · have := key u hu e
      rw [ha] at this
      cases this
    · unfold Lib.atoiSat
      split <;> rfl

/-! ### Put -/
theorem put_ok (a b : Nat) (w : World) (h : SlipOk a b) (hv : Vars w) : Calls Tryz.prog 48 #[.int .i64 a, .int .i64 b] w fun e w' => e = .returned (.tuple #[.string (txt (slipL a b)), .int .i64 0]) ∧ Gr w w' := by
  obtain ⟨h1, h2, h3⟩ := h
  have q1 : ((a : Int) < 1) = False := by simp; omega
  have q2 : (1000000 < (a : Int)) = False := by simp; omega
  have q3 : ((b : Int) < 0) = False := by simp
  have q4 : (2000 < (b : Int)) = False := by simp; omega
  have l1 := dec_len a h2
  have l2 := dec_len b (by omega)
  go_enter Tryz.func48, Tryz.ntmps48
  go_wp2_with fail
  refine (itoa_any a _ h2 hv).mono ?_
  rintro e w1 ⟨rfl, g1⟩
  have hv1 := vars_gr hv g1
  have hs : slipL a b = 112 :: (decDigits a ++ 46 :: decDigits b) := rfl
  generalize decDigits a = D at *
  have e1 : (⟨#[112]⟩ : ByteArray) ++ txt D = txt (112 :: D) := txt_append [112] D
  have e2 : txt (112 :: D) ++ (⟨#[46]⟩ : ByteArray) = txt (112 :: D ++ [46]) := txt_append (112 :: D) [46]
  have n1 : (9223372036854775807 < 1 + D.length) = False := by simp; omega
  have n2 : (9223372036854775807 < D.length + 1 + 1) = False := by simp; omega
  replace hs := Lib.hid hs
  go_wp2_with fail
  refine (itoa_any b _ (by omega) hv1).mono ?_
  rintro e w2 ⟨rfl, g2⟩
  generalize decDigits b = E at *
  have n3 : (9223372036854775807 < D.length + 1 + 1 + E.length) = False := by simp; omega
  go_wp2
  go_ret2
  refine ⟨?_, gr_trans g1 g2⟩
  rw [hs.out]
  rfl
theorem put_bad (a b : Int) (w : World) (wa : (Lit.int .i64 a).wf = true) (wb : (Lit.int .i64 b).wf = true) (h : a < 1 ∨ 1000000 < a ∨ b < 0 ∨ 2000 < b) : Calls Tryz.prog 48 #[.int .i64 a, .int .i64 b] w fun e w' => e = .returned (.tuple #[.string ⟨#[]⟩, .int .i64 1]) ∧ w = w' := by
  clear wa wb
  by_cases c1 : a < 1
  · go_enter Tryz.func48, Tryz.ntmps48
    go_wp2
    go_ret2
    exact ⟨rfl, rfl⟩
  by_cases c2 : 1000000 < a
  · go_enter Tryz.func48, Tryz.ntmps48
    go_wp2
    go_ret2
    exact ⟨rfl, rfl⟩
  by_cases c3 : b < 0
  · go_enter Tryz.func48, Tryz.ntmps48
    go_wp2
    go_ret2
    exact ⟨rfl, rfl⟩
  by_cases c4 : 2000 < b
  · go_enter Tryz.func48, Tryz.ntmps48
    go_wp2
    go_ret2
    exact ⟨rfl, rfl⟩
  · omega
theorem slip_nat {a b : Int} (h : ¬ (a < 1 ∨ 1000000 < a ∨ b < 0 ∨ 2000 < b)) : ∃ m n : Nat, a = m ∧ b = n ∧ SlipOk m n :=
  ⟨a.toNat, b.toNat, by omega, by omega, by unfold SlipOk; omega⟩

/-! ### Get -/
def GetIs (l : List UInt8) (a b c : Int) : Prop := (∃ m n : Nat, SlipOk m n ∧ l = slipL m n ∧ a = m ∧ b = n ∧ c = 0) ∨ ((∀ m n : Nat, SlipOk m n → l ≠ slipL m n) ∧ a = 0 ∧ b = 0 ∧ c = 11)
def GetPost (l : List UInt8) (w : World) (e : Ending) (w' : World) : Prop := ∃ a b c : Int, e = .returned (.tuple #[.int .i64 a, .int .i64 b, .int .i64 c]) ∧ GetIs l a b c ∧ Gr w w'
set_option maxHeartbeats 2000000 in
set_option maxRecDepth 100000 in
theorem get_any (l : List UInt8) (w : World) (hl : l.length ≤ 1000000) (hv : Vars w) : Calls Tryz.prog 42 #[.string (txt l)] w (GetPost l w) := by
  have hz : (txt l).size = l.length := txt_size l
  go_enter Tryz.func42, Tryz.ntmps42
  go_wp2_with fail
  refine (places_any l _ hl).mono ?_
  rintro e w1 ⟨a, b, rfl, hplc, ⟨b1, b2, b3, b4, b5⟩, g1⟩
  replace hplc := Lib.hid hplc
  replace hz := Lib.hid hz
  replace b5 := Lib.hid b5
  by_cases ha : a = 0
  · subst ha
    by_cases hb : b < 0
    · have hno : ∀ m n : Nat, SlipOk m n → l ≠ slipL m n := by
        rintro m n _ rfl
        have := hplc.out
        rw [plc_slip] at this
        have := (Prod.mk.inj this).2
        omega
      replace hno := Lib.hid hno
      go_wp2
      go_ret3
      exact ⟨_, _, _, rfl, .inr ⟨hno.out, rfl, rfl, rfl⟩, g1⟩
    · obtain ⟨B, rfl⟩ : ∃ B : Nat, b = B := ⟨b.toNat, by omega⟩
      have hB0 : 0 < B := by
        rcases Nat.eq_zero_or_pos B with h | h
        · subst h; have := b5.out rfl; omega
        · exact h
      have hv1 := vars_gr hv g1
      have hBl : B < l.length := by omega
      have q1 : (1 : Int) ≤ (B : Int) := by omega
      have q2 : ((B : Nat) : Int) ≤ ((l.length : Nat) : Int) := by omega
      have q3 : (B : Int) + 1 ≤ ((l.length : Nat) : Int) := by omega
      have q4 : ((B : Int) + 1).toNat = B + 1 := by omega
      have q5 : (0 : Int) ≤ (B : Int) + 1 := by omega
      have x1 : (txt l).extract 1 B = txt ((l.drop 1).take (B - 1)) := str_eq (by rw [Lib.extract_data, txt_data])
      have x2 : (txt l).extract (B + 1) l.length = txt (l.drop (B + 1)) := by
        have := ext_end (txt l) (B + 1)
        rw [txt_size, txt_data] at this
        exact str_eq this
      have len1 : ((l.drop 1).take (B - 1)).length ≤ 1000000 := by simp; omega
      have len2 : (l.drop (B + 1)).length ≤ 1000000 := by simp; omega
      have key : ∀ m n : Nat, l = slipL m n → (l.drop 1).take (B - 1) = decDigits m ∧ l.drop (B + 1) = decDigits n := by
        rintro m n rfl
        have h1 := hplc.out
        rw [plc_slip] at h1
        have h2 := (Prod.mk.inj h1).2
        have h3 : B = 1 + (decDigits m).length := by omega
        subst h3
        exact ⟨by rw [Nat.add_sub_cancel_left]; exact slip_cut0 m n, slip_cut1 m n⟩
      replace key := Lib.hid key
      generalize (l.drop 1).take (B - 1) = L1 at *
      generalize hL2 : l.drop (B + 1) = L2 at *
      clear hL2
      go_wp2_with fail
      refine (atoi_any L1 _ len1 hv1).mono ?_
      rintro e w2 ⟨v1, y1, rfl, hd1, wf1, g2⟩
      replace hd1 := Lib.hid hd1
      have hv2 := vars_gr hv1 g2
      go_wp2_with fail
      refine (atoi_any L2 _ len2 hv2).mono ?_
      rintro e w3 ⟨v2, y2, rfl, hd2, wf2, g3⟩
      replace hd2 := Lib.hid hd2
      have hv3 := vars_gr hv2 g3
      by_cases hok : v1 < 1 ∨ 1000000 < v1 ∨ v2 < 0 ∨ 2000 < v2
      · have hno : ∀ m n : Nat, SlipOk m n → l ≠ slipL m n := by
          rintro m n ⟨o1, o2, o3⟩ e
          obtain ⟨k1, k2⟩ := key.out m n e
          have := hd1.out m o2 k1
          have := hd2.out n (by omega) k2
          omega
        replace hno := Lib.hid hno
        go_wp2_with fail
        refine (put_bad v1 v2 _ wf1 wf2 hok).mono ?_
        rintro e w4 ⟨rfl, rfl⟩
        go_wp2
        go_ret3
        exact ⟨_, _, _, rfl, .inr ⟨hno.out, rfl, rfl, rfl⟩, gr_trans (gr_trans g1 g2) g3⟩
      · obtain ⟨m, n, rfl, rfl, hmn⟩ := slip_nat hok
        go_wp2_with fail
        refine (put_ok m n _ hmn hv3).mono ?_
        rintro e w4 ⟨rfl, g4⟩
        go_wp2_with fail
        refine (Tryz.strings_Compare (txt (slipL m n)) (txt l) _).mono ?_
        rintro e w5 ⟨rfl, rfl⟩
        by_cases heq : slipL m n = l
        · have hc : Lib.compareBytes (txt (slipL m n)).data.toList (txt l).data.toList = 0 := by rw [txt_data, txt_data]; exact (cmp_zero _ _).2 heq
          rw [hc]
          replace heq := Lib.hid heq
          go_wp2
          go_ret3
          exact ⟨_, _, _, rfl, .inl ⟨m, n, hmn, heq.out.symm, rfl, rfl, rfl⟩, gr_trans (gr_trans (gr_trans g1 g2) g3) g4⟩
        · have hc : Lib.compareBytes (txt (slipL m n)).data.toList (txt l).data.toList ≠ 0 := by rw [txt_data, txt_data]; exact fun h => heq ((cmp_zero _ _).1 h)
          have hno : ∀ m n : Nat, SlipOk m n → l ≠ slipL m n := by
            rintro m' n' ⟨o1, o2, o3⟩ e
            obtain ⟨k1, k2⟩ := key.out m' n' e
            have h1 := hd1.out m' o2 k1
            have h2 := hd2.out n' (by omega) k2
            obtain rfl : m = m' := by omega
            obtain rfl : n = n' := by omega
            exact heq e.symm
          generalize Lib.compareBytes (txt (slipL m n)).data.toList (txt l).data.toList = C at hc ⊢
          have hcF : (C == 0) = false := eqF hc
          replace hno := Lib.hid hno
          go_wp2
          go_ret3
          exact ⟨_, _, _, rfl, .inr ⟨hno.out, rfl, rfl, rfl⟩, gr_trans (gr_trans (gr_trans g1 g2) g3) g4⟩
  · have hno : ∀ m n : Nat, SlipOk m n → l ≠ slipL m n := by
      rintro m n _ rfl
      have := hplc.out
      rw [plc_slip] at this
      have := (Prod.mk.inj this).1
      omega
    replace hno := Lib.hid hno
    have haF : (a == 0) = false := eqF ha
    go_wp2
    go_ret3
    exact ⟨_, _, _, rfl, .inr ⟨hno.out, rfl, rfl, rfl⟩, g1⟩

end Go.Proofs.YtmldoeeangekoaaGreatDoor
