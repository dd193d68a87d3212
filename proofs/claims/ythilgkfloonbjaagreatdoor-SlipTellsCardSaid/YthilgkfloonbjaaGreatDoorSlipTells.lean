/-
  SlipTells holds of the program: for every input the call returns true and leaves what came in as it was. No condition.
-/
import Derived.Test.YthilgkfloonbjaaGreatDoorRows
import Derived.Test.YthilgkfloonbjaaGreatDoorCards
import Derived.Test.YthilgkfloonbjaaGreatDoorTie
import Derived.LaidMore
import Derived.Stop.Joined
import Derived.Stop.LaidErr
import Derived.Lib.LaidTab
import Derived.SevenTiedAt
import Derived.Test.YthilgkfloonbjaaGreatDoorSlipRef
import Derived.Test.YthilgkfloonbjaaGreatDoorSlipAlive
import Derived.Test.YthilgkfloonbjaaGreatDoorSlipVars
import Derived.Test.YthilgkfloonbjaaGreatDoorApartInts
import Derived.WalkKit
import Derived.ProofKit
import Derived.OpenShut
import Derived.ShutString
import Derived.ChangeOld
import Derived.Below
namespace Go.Proofs.YthilgkfloonbjaaGreatDoor.slipTells
open Go.ChangeShapes Go.WideShapes Go.ChangeAt Go.RowKit
open Go.ChangeMaps (open_string shut_string)
set_option linter.unusedVariables false

theorem own : ownKnob Tryz.prog.godebug = none := by kernel_rfl
theorem laidOut : laidOutB Tryz.prog = true := by kernel_rfl
theorem below_le {B B' : Nat} {w w' : World} (h : Below B w w') (hB : B' ≤ B) : Below B' w w' := ⟨h.os, h.tape, h.output, h.size, fun k hk => h.block k (Nat.lt_of_lt_of_le hk hB)⟩
theorem kept_new (w : World) : Kept (w.alloc (.cells (bkCells (.slice none 0 0) (.slice none 0 0)) 45)) w.heap.size ⟨none, 0, 0⟩ ⟨none, 0, 0⟩ [] [] :=
  ⟨blk_new w _, World.ownsRow_nil _ _ _ _, World.ownsRow_nil _ _ _ _, rfl, rfl, fun k h => by simp [Value.ownBlock] at h⟩
theorem kept_gr {w w' : World} {K : Nat} {T V : Lst} {ls cs : List Lst} (h : Kept w K T V ls cs) (g : Gr w w') : Kept w' K T V ls cs :=
  ⟨gr_blk g h.blk (by simp), h.hT.kept g (by cases T.v.ownBlock <;> simp), h.hV.kept g (by cases V.v.ownBlock <;> simp), h.nT, h.nV, h.ne⟩
theorem kept0 {w w' : World} {base : Nat} {e : TypeId} {v : Value} {n : Nat} {xs : List Value} (h : w.ownsRow base e 1 v n xs) (g : Gr w w') : w'.ownsRow base e 1 v n xs := h.kept g (by cases v.ownBlock <;> simp)
def SlipIn (a b : Int) : Prop := 1 ≤ a ∧ a ≤ 1000000 ∧ 0 ≤ b ∧ b ≤ 2000
instance (a b : Int) : Decidable (SlipIn a b) := by unfold SlipIn; infer_instance
def PutIs (a b : Int) (t : ByteArray) (er : Int) : Prop := (∃ m n : Nat, a = m ∧ b = n ∧ SlipOk m n ∧ t = txt (slipL m n) ∧ er = 0) ∨ ((a < 1 ∨ 1000000 < a ∨ b < 0 ∨ 2000 < b) ∧ t = ⟨#[]⟩ ∧ er = 1)
theorem put_gen (a b : Int) (w : World) (wa : (Lit.int .i64 a).wf = true) (wb : (Lit.int .i64 b).wf = true) (hv : Vars w) : Calls Tryz.prog 5 #[.int .i64 a, .int .i64 b] w fun e w' => ∃ t er, e = .returned (.tuple #[.string t, .int .i64 er]) ∧ PutIs a b t er ∧ Gr w w' := by
  by_cases h : a < 1 ∨ 1000000 < a ∨ b < 0 ∨ 2000 < b
  · refine (put_bad a b w wa wb h).mono ?_
    rintro e w' ⟨rfl, rfl⟩
    exact ⟨_, _, rfl, .inr ⟨h, rfl, rfl⟩, gr_refl _ _⟩
  · obtain ⟨m, n, rfl, rfl, hok⟩ := slip_nat h
    refine (put_ok m n w hok hv).mono ?_
    rintro e w' ⟨rfl, g⟩
    exact ⟨_, _, rfl, .inl ⟨m, n, rfl, rfl, hok, rfl, rfl⟩, g⟩
theorem get_un {l : List UInt8} {a b c x y : Int} {is : Bool} (h : GetIs l a b c) (u : UnIs l x y is) : a = x ∧ b = y ∧ ((is = true ∧ c = 0) ∨ (is = false ∧ c = 11)) := by
  rcases h with ⟨m, n, h1, h2, rfl, rfl, rfl⟩ | ⟨h1, rfl, rfl, rfl⟩
  · rcases u with ⟨m', n', u1, u2, rfl, rfl, rfl⟩ | ⟨u1, _⟩
    · obtain ⟨rfl, rfl⟩ := slip_inj (h2.symm.trans u2)
      exact ⟨rfl, rfl, .inl ⟨rfl, rfl⟩⟩
    · exact absurd h2 (u1 m n h1)
  · rcases u with ⟨m', n', u1, u2, rfl, rfl, rfl⟩ | ⟨u1, rfl, rfl, rfl⟩
    · exact absurd u2 (h1 m' n' u1)
    · exact ⟨rfl, rfl, .inr ⟨rfl, rfl⟩⟩
theorem begs_nat {rows size : Int} {k : Nat} (hk : k = 0 ∨ (k : Int) < rows) : BegIs rows size k ↔ PgIn rows size ∧ k % size.toNat = 0 := by
  unfold BegIs
  constructor
  · rintro ⟨h, _, _, h4⟩
    refine ⟨h, ?_⟩
    have hs := h.2.2.1
    obtain ⟨s, rfl⟩ : ∃ s : Nat, size = s := ⟨size.toNat, by omega⟩
    have h8 : ((k % s : Nat) : Int) = 0 := h4
    have : (s : Int).toNat = s := rfl
    rw [this]
    omega
  · rintro ⟨h, h4⟩
    have hs := h.2.2.1
    obtain ⟨s, rfl⟩ : ∃ s : Nat, size = s := ⟨size.toNat, by omega⟩
    have : (s : Int).toNat = s := rfl
    rw [this] at h4
    refine ⟨h, by omega, by omega, ?_⟩
    show ((k % s : Nat) : Int) = 0
    rw [h4]; rfl
set_option maxHeartbeats 40000000 in
set_option maxRecDepth 100000 in
theorem walk (w : World) (hL : laidMetH Tryz.prog Rows.slipTellsRow.laid w) (a0 : Int) (w0 : (Lit.int .i64 a0).wf = true) (a1 : Int) (w1 : (Lit.int .i64 a1).wf = true) (a2 : ByteArray) (w2 : a2.size ≤ maxLen) (a3 : Int) (w3 : (Lit.int .i64 a3).wf = true) (a4 : Int) (w4 : (Lit.int .i64 a4).wf = true) :
    Calls Tryz.prog 3 #[.int .i64 a0, .int .i64 a1, .string a2, .int .i64 a3, .int .i64 a4] w fun e w' => e = .returned (.bool true) ∧ Below w.heap.size w w' := by
  have hv : Vars w := vars_of hL
  clear hL
  have x1 := rng_i64 w1
  have x3 := rng_i64 w3
  have x4 := rng_i64 w4
  obtain ⟨l, rfl⟩ : ∃ l, a2 = txt l := ⟨_, (txt_of a2).symm⟩
  rw [txt_size] at w2
  unfold maxLen at w2
  by_cases c : 1000 < l.length
  · have ci : (1000 : Int) < (l.length : Int) := by omega
    clear w0 w1 w3 w4 x1 x3 x4
    go_enter Tryz.func3, Tryz.ntmps3
    go_wp2_with fail
    refine (alive_any _ hv).mono ?_
    rintro e W1 ⟨rfl, g1⟩
    go_wp2
    go_ret
    exact ⟨rfl, gr_below g1⟩
  have ci : (l.length : Int) ≤ 1000 := by omega
  have ci' : ((1000 : Int) < (l.length : Int)) = False := by simp; omega
  have cPut := fun w hv => put_gen a0 a1 w w0 w1 hv
  have cBeg := fun k w wk => refBegins_any a3 a4 k w w3 w4 wk
  have cBegF := fun w => refBegins_any a3 a4 a1 w w3 w4 w1
  have cNext := fun w => next_gen a3 a4 a1 w w3 w4
  have cPg : ∀ w, Calls Tryz.prog 10 #[.int .i64 a3, .int .i64 a4] w fun e w' => ∃ A cc, e = .returned (.slice A (pgN a3 a4) cc) ∧ w'.ownsRow w.heap.size 3 1 (.slice A (pgN a3 a4) cc) (pgN a3 a4) ((pgL a3 a4).map bkE) ∧ Gr w w' := fun w => (pages_gen a3 a4 w w3 w4).mono (by
    rintro e w' ⟨v, rfl, ho, g⟩
    obtain ⟨A, cc, rfl, _, _⟩ := own_open ho
    exact ⟨A, cc, rfl, ho, g⟩)
  clear w0 w1 w3 w4
  go_enter Tryz.func3, Tryz.ntmps3
  go_wp2_with fail
  refine (alive_any _ hv).mono ?_
  rintro e W1 ⟨rfl, g1⟩
  have hv1 := vars_gr hv g1
  go_wp2_with fail
  refine (cPut _ hv1).mono ?_
  rintro e W2 ⟨t, er, rfl, hput, g2⟩
  have hv2 := vars_gr hv1 g2
  have G2 := gr_trans g1 g2
  clear g1 g2 hv1 hv cPut
  replace hput := Lib.hid hput
  replace hv2 := Lib.hid hv2
  replace G2 := Lib.hid G2
  replace cNext := Lib.hid cNext
  replace cBeg := Lib.hid cBeg
  replace cBegF := Lib.hid cBegF
  replace cPg := Lib.hid cPg
  obtain ⟨ok, hok⟩ : ∃ ok, ok = decide (SlipIn a0 a1) := ⟨_, rfl⟩
  replace hok := Lib.hid hok
  go_upto_region 4 with fail
  go_cut [13] (fun s13 wx => s13 = .bool ok ∧ W2 = wx)
  case first =>
    have hT : SlipIn a0 a1 → ok = true := fun h => by rw [hok.out]; exact decide_eq_true h
    have hF : ¬ SlipIn a0 a1 → ok = false := fun h => by rw [hok.out]; exact decide_eq_false h
    by_cases h1 : 1 ≤ a0
    · by_cases h2 : a0 ≤ 1000000
      · by_cases h3 : 0 ≤ a1
        · by_cases h4 : a1 ≤ 2000
          · obtain rfl := hT ⟨h1, h2, h3, h4⟩
            clear hT hF
            go_wp2_with fail
            go_meet
            exact ⟨rfl, rfl⟩
          · obtain rfl := hF (fun h => h4 h.2.2.2)
            clear hT hF
            go_wp2_with fail
            go_meet
            exact ⟨rfl, rfl⟩
        · obtain rfl := hF (fun h => h3 h.2.2.1)
          clear hT hF
          go_wp2_with fail
          go_meet
          exact ⟨rfl, rfl⟩
      · obtain rfl := hF (fun h => h2 h.2.1)
        clear hT hF
        go_wp2_with fail
        go_meet
        exact ⟨rfl, rfl⟩
    · obtain rfl := hF (fun h => h1 h.1)
      clear hT hF
      go_wp2_with fail
      go_meet
      exact ⟨rfl, rfl⟩
  case rest =>
  obtain ⟨rfl, rfl⟩ := hcut
  go_upto_region 5 with fail
  go_cut [80] (fun s80 wx => s80 = .bool false ∧ Hid (Gr W2 wx))
  case first =>
    rcases hput.out with ⟨m, n, rfl, rfl, hmn, rfl, rfl⟩ | ⟨hbad, rfl, rfl⟩
    · obtain rfl : ok = true := by rw [hok.out]; exact decide_eq_true (by unfold SlipIn; obtain ⟨q1, q2, q3⟩ := hmn; omega)
      have cS := fun w => refSlip_any m n w (by have := hmn.2.1; omega) (by have := hmn.2.2; omega)
      generalize slipL m n = S at *
      have hss : (S == S) = true := by simp
      go_wp2_with fail
      refine (cS _).mono ?_
      rintro e W3 ⟨rfl, g3⟩
      go_wp2_with fail
      go_meet
      exact ⟨rfl, g3⟩
    · obtain rfl : ok = false := by rw [hok.out]; exact decide_eq_false (by unfold SlipIn; omega)
      go_wp2_with fail
      go_meet
      exact ⟨rfl, gr_refl _ _⟩
  case rest =>
  obtain ⟨rfl, g3⟩ := hcut
  have hv3 := vars_gr hv2.out g3.out
  have G3 := Lib.hid (gr_trans G2.out g3.out)
  clear hput hok G2 g3 hv2
  go_wp2_with fail
  refine (get_any l _ (by omega) hv3).mono ?_
  rintro e W4 ⟨a, b, ec, rfl, hget, g4⟩
  clear hv3
  go_wp2_with fail
  refine (refUnslip_any l _ (by omega)).mono ?_
  rintro e W5 ⟨x, y, is, rfl, hun, g5⟩
  obtain ⟨rfl, rfl, hec⟩ := get_un hget hun
  have G5 := Lib.hid (gr_trans (gr_trans G3.out g4) g5)
  clear G3 g4 g5 hget hun
  replace hec := Lib.hid hec
  go_upto_region 9 with fail
  go_cut [114] (fun s114 wx => s114 = .bool false ∧ W5 = wx)
  case first =>
    have haa : (a == a) = true := by simp
    have hbb : (b == b) = true := by simp
    rcases hec.out with ⟨rfl, rfl⟩ | ⟨rfl, rfl⟩
    · go_wp2_with fail
      go_meet
      exact ⟨rfl, rfl⟩
    · go_wp2_with fail
      go_meet
      exact ⟨rfl, rfl⟩
  case rest =>
  obtain ⟨rfl, rfl⟩ := hcut
  clear hec
  obtain ⟨N, hN⟩ : ∃ N, N = pgN a3 a4 := ⟨_, rfl⟩
  obtain ⟨L, hL⟩ : ∃ L, L = pgL a3 a4 := ⟨_, rfl⟩
  have hNle : N ≤ 2001 := by rw [hN]; exact pgN_le a3 a4
  have hLN : L.length = N := by rw [hL, hN]; exact pgL_len a3 a4
  rw [← hN, ← hL] at cPg
  replace hN := Lib.hid hN
  replace hL := Lib.hid hL
  replace hLN := Lib.hid hLN
  go_upto_block 0 with fail
  go_cut [20] (fun s20 wx => ∃ lA lc, s20 = .slice lA N lc ∧ Hid (wx.ownsRow W5.heap.size 3 1 (.slice lA N lc) N (L.map bkE)) ∧ Hid (Below W5.heap.size W5 wx))
  case first =>
    have hif := info_parts infoInt
    obtain ⟨ii, hi, hz0, hz1, hz2⟩ := hif
    go_wp2
    go_loopw [20, 21] (fun wv kv wr => ∃ (k n : Nat) (lA : Option Addr) (lc : Nat), wv = .slice lA n lc ∧ kv = .int .i64 k ∧ k ≤ 2001 ∧ n ≤ k ∧ (k = 0 ∨ k = 1 ∨ (k : Int) ≤ a3) ∧ Hid (n = (pgW a3 a4 k).length) ∧ Hid (wr.ownsRow W5.heap.size 3 1 (.slice lA n lc) n ((pgW a3 a4 k).map bkE)) ∧ Hid (Below W5.heap.size W5 wr)) (fun _ k _ => 2002 - (intOf k).toNat)
    case atStart => exact ⟨0, 0, none, 0, rfl, rfl, by omega, by omega, .inl rfl, Lib.hid (by rw [pgW_zero]; rfl), Lib.hid (by rw [pgW_zero]; exact World.ownsRow_nil _ _ _ _), Lib.hid (Below.refl _ _)⟩
    case round =>
      obtain ⟨k, n, lA, lc, rfl, rfl, hk, hnk, hinv, hn, hown, hbel⟩ := hrel
      have hbs := hbel.out.size
      by_cases hc : k = 0 ∨ (k : Int) < a3
      · have cB := cBeg.out (k : Int)
        go_upto_region 13 with fail
        go_cut [121] (fun s121 wx => s121 = .bool true ∧ wr = wx)
        case first =>
          by_cases hk0 : k = 0
          · subst hk0
            go_wp2_with fail
            go_meet
            exact ⟨rfl, rfl⟩
          · have hkF : ((k : Int) == 0) = false := eqF (by omega)
            have hki : (k : Int) < a3 := by omega
            go_wp2_with fail
            go_meet
            exact ⟨rfl, rfl⟩
        case rest =>
        obtain ⟨rfl, rfl⟩ := hcut
        by_cases hb : PgIn a3 a4 ∧ k % a4.toNat = 0
        · have hb2 := (begs_nat hc).2 hb
          have hpn := pgW_yes hb.1 hb.2
          have hk2 : k ≤ 2000 := by
            obtain ⟨⟨q1, q2, _⟩, _⟩ := hb
            omega
          have cB2 : ∀ w, Calls Tryz.prog 9 #[.int .i64 a3, .int .i64 a4, .int .i64 k] w fun e w' => e = .returned (.bool true) ∧ w = w' := fun w => by
            have := cB w (by simp [Lit.wf, IntKind.min, IntKind.max, IntKind.signed, IntKind.bits]; omega)
            rwa [decide_eq_true hb2] at this
          replace hb := Lib.hid hb
          replace hb2 := Lib.hid hb2
          replace hpn := Lib.hid hpn
          clear cB
          go_wp2_with fail
          refine (cB2 _).mono ?_
          rintro e W6 ⟨rfl, rfl⟩
          go_wp2_with (at_builtin; refine wpList_append_own _ rfl _ _ 31 rfl W5.heap.size 3 ii (.int .i64 0) 1 8 Tryz.underlying31 hi hz0 hz1 hz2 rfl (by decide) (.slice lA n lc) _ _ rfl (hown.out.alloc _) ⟨wr.heap.size, 0, none⟩ 1 1 [.int .i64 k] rfl rfl ?c1 ?c2 ?c3 ?c4 ?c5 ?_; rotate_right; intro v' W4 hown4 hgrow _nl; clear _nl; have hb4 := hbel.out.trans (below_append hown.out hgrow hbs); clear hgrow; replace hown4 := Lib.hid hown4; replace hb4 := Lib.hid hb4)
          case c1 => exact cell_one_new _ _ _
          case c2 => simp [Value.oneCell']
          case c3 => unfold maxLen; omega
          case c4 => omega
          case c5 => simp; omega
          obtain ⟨lA', lc', rfl, _, _⟩ := own_open hown4.out
          go_roundw
          case rel =>
            refine ⟨k + 1, n + 1, lA', lc', rfl, by go_num, by omega, by omega, by omega, Lib.hid ?_, Lib.hid ?_, hb4⟩
            · rw [hpn.out, List.length_append, ← hn.out]; rfl
            · rw [hpn.out, List.map_append]; exact hown4.out
          case measure => simp [intOf]; omega
        · have hb2 : ¬ BegIs a3 a4 k := fun h => hb ((begs_nat hc).1 h)
          have hpn := pgW_no hb
          have cB2 : ∀ w, Calls Tryz.prog 9 #[.int .i64 a3, .int .i64 a4, .int .i64 k] w fun e w' => e = .returned (.bool false) ∧ w = w' := fun w => by
            have := cB w (by simp [Lit.wf, IntKind.min, IntKind.max, IntKind.signed, IntKind.bits]; omega)
            rwa [decide_eq_false hb2] at this
          replace hb := Lib.hid hb
          replace hb2 := Lib.hid hb2
          replace hpn := Lib.hid hpn
          clear cB
          by_cases hbr : 2000 < k
          · have hbi : (2000 : Int) < (k : Int) := by omega
            have hnp : ¬ PgIn a3 a4 := fun h => by
              obtain ⟨q1, q2, _⟩ := h
              omega
            have hend : pgW a3 a4 k = pgL a3 a4 := pgW_end (by omega) (fun h => absurd h hnp) (fun h => absurd h hnp)
            replace hend := Lib.hid hend
            go_wp2_with fail
            refine (cB2 _).mono ?_
            rintro e W6 ⟨rfl, rfl⟩
            go_wp2
            go_meet
            have ho := hown.out
            have hn2 := hn.out
            rw [hend.out, ← hL.out] at ho hn2
            rw [hLN.out] at hn2
            subst hn2
            exact ⟨_, _, rfl, Lib.hid ho, hbel⟩
          · have hbi : ((2000 : Int) < (k : Int)) = False := by simp; omega
            go_wp2_with fail
            refine (cB2 _).mono ?_
            rintro e W6 ⟨rfl, rfl⟩
            go_wp2
            go_roundw
            case rel => exact ⟨k + 1, n, lA, lc, rfl, by go_num, by omega, by omega, by omega, Lib.hid (by rw [hpn.out]; exact hn.out), Lib.hid (by rw [hpn.out]; exact hown.out), hbel⟩
            case measure => simp [intOf]; omega
      · have hk0 : ((k : Int) == 0) = false := eqF (by omega)
        have hki : ((k : Int) < a3) = False := by simp; omega
        have hend : pgW a3 a4 k = pgL a3 a4 := pgW_end (by omega) (fun h => by omega) (fun h => by omega)
        replace hend := Lib.hid hend
        go_wp2
        go_meet
        have ho := hown.out
        have hn2 := hn.out
        rw [hend.out, ← hL.out] at ho hn2
        rw [hLN.out] at hn2
        subst hn2
        exact ⟨_, _, rfl, Lib.hid ho, hbel⟩
  case rest =>
  obtain ⟨lA, lc, rfl, hwant, hbel⟩ := hcut
  have hcs : W5.heap.size ≤ wc.heap.size := hbel.out.size
  obtain ⟨W8, hW8⟩ : ∃ W8, W8 = wc.alloc (.cells (bkCells (.slice none 0 0) (.slice none 0 0)) 45) := ⟨_, rfl⟩
  have hk8 := kept_new wc
  have hwant8 := hwant.out.alloc (.cells (bkCells (.slice none 0 0) (.slice none 0 0)) 45)
  have hbel8 := below_gr hbel.out (gr_alloc wc (.cells (bkCells (.slice none 0 0) (.slice none 0 0)) 45) none) hcs (by simp)
  have hW8s : wc.heap.size < W8.heap.size := by rw [hW8]; simp
  rw [← hW8] at hk8 hwant8 hbel8
  replace hwant8 := Lib.hid hwant8
  replace hbel8 := Lib.hid hbel8
  replace hk8 := Lib.hid hk8
  clear hwant hbel cBeg
  go_wp2_with fail
  have hchg : ∀ (Q : Ending → World → Prop), Calls Tryz.prog 10 #[.int .i64 a3, .int .i64 a4] W8 Q → Calls Tryz.prog 10 #[.int .i64 a3, .int .i64 a4] (wc.alloc (.cells (bkCells (.slice none 0 0) (.slice none 0 0)) 45)) Q := fun Q h => by rw [← hW8]; exact h
  refine hchg _ ?_
  refine (cPg.out _).mono ?_
  rintro e W9 ⟨A1, cc1, rfl, hall9, g9⟩
  have hk9 := kept_gr hk8.out g9
  have hwant9 := kept0 hwant8.out g9
  have hbel9 := below_gr hbel8.out g9 hbel8.out.size (by simp)
  have hkeep1 := keep_any wc.heap.size ⟨none, 0, 0⟩ ⟨none, 0, 0⟩ [] [] ⟨A1, N, cc1⟩ L W9 (by simp) rfl hk9 (by simp only; omega) (own_mono hall9 (Nat.zero_le _))
  clear hchg
  replace hk9 := Lib.hid hk9
  replace hwant9 := Lib.hid hwant9
  replace hbel9 := Lib.hid hbel9
  replace hall9 := Lib.hid hall9
  replace hkeep1 := Lib.hid hkeep1
  replace hW8 := Lib.hid hW8
  go_wp2_with fail
  refine hkeep1.out.mono ?_
  rintro e W10 ⟨rfl, T1, V1, c1, hk10, hc1n, hc1o, hb10, ty10⟩
  have hwant10 := ty10 _ _ _ _ _ _ (by decide) (by decide) hwant9.out
  have hall10 := ty10 _ _ _ _ _ _ (by decide) (by decide) hall9.out
  have hbel10 := hbel9.out.trans (below_le hb10 hcs)
  clear ty10 hb10
  replace hk10 := Lib.hid hk10
  replace hwant10 := Lib.hid hwant10
  replace hall10 := Lib.hid hall10
  replace hbel10 := Lib.hid hbel10
  replace hc1n := Lib.hid hc1n
  replace hc1o := Lib.hid hc1o
  go_wp2_with fail
  refine (cPg.out _).mono ?_
  rintro e W11 ⟨A2, cc2, rfl, hm11, g11⟩
  have hk11 := kept_gr hk10.out g11
  have hwant11 := kept0 hwant10.out g11
  have hall11 := kept0 hall10.out g11
  have hc111 := kept0 hc1o.out g11
  have hbel11 := below_gr hbel10.out g11 hbel10.out.size (by simp)
  have hkeep2 := keep_any wc.heap.size T1 V1 _ _ ⟨A2, N, cc2⟩ L W11 (by simp) (by simp) hk11 (by simp only; omega) (own_mono hm11 (Nat.zero_le _))
  have hpart : ∀ k, (Value.slice A1 N cc1).ownBlock = some k → (Value.slice A2 N cc2).ownBlock = some k → False := by
    intro k hk hk2
    have h1 := (hall10.out.lt k hk).2
    have h2 := (hm11.lt k hk2).1
    omega
  replace hk11 := Lib.hid hk11
  replace hwant11 := Lib.hid hwant11
  replace hall11 := Lib.hid hall11
  replace hc111 := Lib.hid hc111
  replace hbel11 := Lib.hid hbel11
  replace hm11 := Lib.hid hm11
  replace hkeep2 := Lib.hid hkeep2
  replace hpart := Lib.hid hpart
  go_wp2_with fail
  refine hkeep2.out.mono ?_
  rintro e W12 ⟨rfl, T2, V2, c2, hk12, hc2n, hc2o, hb12, ty12⟩
  have hwant12 := ty12 _ _ _ _ _ _ (by decide) (by decide) hwant11.out
  have hall12 := ty12 _ _ _ _ _ _ (by decide) (by decide) hall11.out
  have hm12 := ty12 _ _ _ _ _ _ (by decide) (by decide) hm11.out
  have hc112 := ty12 _ _ _ _ _ _ (by decide) (by decide) hc111.out
  have hbel12 := hbel11.out.trans (below_le hb12 hcs)
  clear ty12 hb12
  replace hk12 := Lib.hid hk12
  replace hall12 := Lib.hid hall12
  replace hm12 := Lib.hid hm12
  replace hwant12 := Lib.hid hwant12
  replace hc112 := Lib.hid hc112
  replace hbel12 := Lib.hid hbel12
  replace hc2n := Lib.hid hc2n
  replace hc2o := Lib.hid hc2o
  go_wp2_with fail
  refine (cNext.out _).mono ?_
  rintro e Wn ⟨v, b, rfl, ⟨hn1, hn2, hn3⟩, gn⟩
  have hkn := kept_gr hk12.out gn
  have halln := kept0 hall12.out gn
  have hwantn := kept0 hwant12.out gn
  have hmn := kept0 hm12.out gn
  have hc1n' := kept0 hc112.out gn
  have hc2n' := kept0 hc2o.out gn
  have hbeln := below_gr hbel12.out gn hbel12.out.size (by simp)
  have hsame := same_yes A1 lA N cc1 lc L Wn (by omega) (row_own halln) (row_own hwantn)
  replace hkn := Lib.hid hkn
  replace halln := Lib.hid halln
  replace hmn := Lib.hid hmn
  replace hc1n' := Lib.hid hc1n'
  replace hc2n' := Lib.hid hc2n'
  replace hbeln := Lib.hid hbeln
  replace hsame := Lib.hid hsame
  replace hn1 := Lib.hid hn1
  replace hn2 := Lib.hid hn2
  replace hn3 := Lib.hid hn3
  clear hwantn hk12 hall12 hm12 hwant12 hc112 hbel12 hc2o
  have cF := cBegF.out
  go_upto_region 23 with fail
  go_cut [26] (fun s26 wx => s26 = .bool b ∧ Wn = wx)
  case first =>
    by_cases hB : BegIs a3 a4 a1
    · rw [decide_eq_true hB] at cF
      have hsub : IntKind.i64.wrap (a3 - a1) = a3 - a1 := by
        obtain ⟨⟨q1, q2, _⟩, q3, q4, _⟩ := hB
        exact IntWalk.i64_in _ (by omega)
      by_cases hlt : a4 < a3 - a1
      · obtain rfl : b = true := hn1.out.2 ⟨hB, hlt⟩
        replace hB := Lib.hid hB
        go_wp2_with fail
        refine (cF _).mono ?_
        rintro e W13 ⟨rfl, rfl⟩
        go_wp2_with fail
        go_meet
        exact ⟨rfl, rfl⟩
      · obtain rfl : b = false := by
          cases b with
          | false => rfl
          | true => exact absurd (hn1.out.1 rfl).2 hlt
        have hltF : (a4 < a3 - a1) = False := by simp; omega
        replace hB := Lib.hid hB
        go_wp2_with fail
        refine (cF _).mono ?_
        rintro e W13 ⟨rfl, rfl⟩
        go_wp2_with fail
        go_meet
        exact ⟨rfl, rfl⟩
    · rw [decide_eq_false hB] at cF
      obtain rfl : b = false := by
        cases b with
        | false => rfl
        | true => exact absurd (hn1.out.1 rfl).1 hB
      replace hB := Lib.hid hB
      go_wp2_with fail
      refine (cF _).mono ?_
      rintro e W13 ⟨rfl, rfl⟩
      go_wp2_with fail
      go_meet
      exact ⟨rfl, rfl⟩
  case rest =>
  obtain ⟨rfl, rfl⟩ := hcut
  clear cF
  have hfin : ∀ Wz, Gr Wn Wz → Calls Tryz.prog 14 #[.pointer (some ⟨wc.heap.size, 0, none⟩)] Wz fun e w' => e = .returned (.bool true) ∧ Below w.heap.size w w' := fun W13 g13 => by
    have hk13 := kept_gr hkn.out g13
    have hall13 := kept0 halln.out g13
    have hm13 := kept0 hmn.out g13
    have hc113 := kept0 hc1n'.out g13
    have hc213 := kept0 hc2n'.out g13
    have hbel13 := below_gr hbeln.out g13 hbeln.out.size (by simp)
    have hK13 : W5.heap.size ≤ W13.heap.size := hbel13.size
    have hpd : Parted [⟨A1, N, cc1⟩, ⟨A2, N, cc2⟩] := by
      intro i j l m k hi hj hl hm
      match i, j, hi, hj with
      | 0, 0, _, _ => rfl
      | 1, 1, _, _ => rfl
      | 0, 1, hi, hj =>
        obtain rfl : (⟨A1, N, cc1⟩ : Lst) = l := by simpa using hi
        obtain rfl : (⟨A2, N, cc2⟩ : Lst) = m := by simpa using hj
        exact (hpart.out k hl hm).elim
      | 1, 0, hi, hj =>
        obtain rfl : (⟨A1, N, cc1⟩ : Lst) = m := by simpa using hj
        obtain rfl : (⟨A2, N, cc2⟩ : Lst) = l := by simpa using hi
        exact (hpart.out k hm hl).elim
      | i + 2, _, hi, _ => simp at hi
      | _, j + 2, _, hj => simp at hj
    have hap := apart_any wc.heap.size T2 V2 [⟨A1, N, cc1⟩, ⟨A2, N, cc2⟩] [c1, c2] W13 (by simp) rfl hk13 hpd (fun j l c hl hc => by
      match j, hl, hc with
      | 0, hl, hc =>
        obtain rfl : (⟨A1, N, cc1⟩ : Lst) = l := by simpa using hl
        obtain rfl : c1 = c := by simpa using hc
        exact ⟨by simp only; omega, hc1n.out, L, own_mono hall13 (Nat.zero_le _), own_mono hc113 (Nat.zero_le _)⟩
      | 1, hl, hc =>
        obtain rfl : (⟨A2, N, cc2⟩ : Lst) = l := by simpa using hl
        obtain rfl : c2 = c := by simpa using hc
        exact ⟨by simp only; omega, hc2n.out, L, own_mono hm13 (Nat.zero_le _), own_mono hc213 (Nat.zero_le _)⟩
      | j + 2, hl, _ => simp at hl)
    have hin : ∀ k, InL [⟨A1, N, cc1⟩, ⟨A2, N, cc2⟩] k → W5.heap.size ≤ k := by
      rintro k ⟨l, hm, hb⟩
      simp only [List.mem_cons, List.not_mem_nil, or_false] at hm
      rcases hm with rfl | rfl
      · have := (hall13.lt k hb).1; omega
      · have h1 := (hm13.lt k hb).1
        have h2 := hbel10.out.size
        omega
    refine hap.mono ?_
    rintro e W14 ⟨rfl, gs14⟩
    exact ⟨rfl, (gr_below G5.out).trans (below_le (below_grs hbel13 gs14 hK13 hin) (Nat.le_refl _) |> fun h => below_le h (gr_below G5.out).size)⟩
  replace hfin := Lib.hid hfin
  cases b with
  | true =>
    obtain ⟨hB, _⟩ := hn1.out.1 rfl
    obtain rfl := hn2.out rfl
    have hsum : IntKind.i64.wrap (a1 + a4) = a1 + a4 := by
      obtain ⟨⟨q1, q2, q5, q6⟩, q3, q4, _⟩ := hB
      exact IntWalk.i64_in _ (by omega)
    have hss : (a1 + a4 == a1 + a4) = true := by simp
    replace hB := Lib.hid hB
    go_wp2_with fail
    refine hsame.out.mono ?_
    rintro e W13 ⟨rfl, g13⟩
    go_wp2_with fail
    refine (hfin.out _ g13).mono ?_
    rintro e W14 ⟨rfl, hbelow⟩
    go_wp2
    go_ret
    exact ⟨rfl, hbelow⟩
  | false =>
    obtain rfl := hn3.out rfl
    go_wp2_with fail
    refine hsame.out.mono ?_
    rintro e W13 ⟨rfl, g13⟩
    go_wp2_with fail
    refine (hfin.out _ g13).mono ?_
    rintro e W14 ⟨rfl, hbelow⟩
    go_wp2
    go_ret
    exact ⟨rfl, hbelow⟩


set_option maxRecDepth 100000 in
theorem door_met (os : Os) (args : Array Value) : laidMetH Tryz.prog Rows.slipTellsRow.laid ((World.doorLaid Tryz.prog 62 os).forCall (fun _ _ => 0) ⟨#[], args, []⟩).memory :=
  laidMetH_of_parts3 (fuel := 8) (laidMet_of_run' 8 (by kernel_rfl) (by kernel_rfl)) (by kernel_rfl) (by kernel_rfl)

set_option maxRecDepth 100000 in
theorem lifted (os : Os) (started : os.Started) (H : Type) (enc : TypeId × Value → H) :
    ReturnsInHanded {} Tryz.checked os 3 .any (fun w args => (Rows.slipTellsSpec.pre enc Tryz.prog Tryz.f3 [] false w args ∧ laidMetH Tryz.prog Rows.slipTellsRow.laid w) ∧ sizedMet enc Tryz.prog Tryz.f3 (OpenSpec.ofChange Rows.slipTellsSpec) false w args) (Rows.slipTellsSpec.post enc Tryz.prog Tryz.f3 false true false false) := by
  refine returnsInHanded_of_change_and (C := Tryz.checked) (X := fun w _ => laidMetH Tryz.prog Rows.slipTellsRow.laid w) (fun _ _ _ hh h => h.of_heap hh) own started (by kernel_rfl) Tryz.func3
    (ChangeSpec.witness_shaped (enc := enc) (C := Tryz.checked) (os := os) (X := fun w _ => laidMetH Tryz.prog Rows.slipTellsRow.laid w) false (World.doorLaid Tryz.prog 62 os) #[.int .i64 0, .int .i64 0, .string ByteArray.empty, .int .i64 0, .int .i64 0] 8 rfl (World.shaped_of_RefB (by kernel_rfl) (by kernel_rfl)) (by kernel_rfl) (by kernel_rfl) (by kernel_rfl) (door_met os _)) ?_
  intro W base args ds gs before hval0 hW _ _ hL _
  have hval : ∀ (j : Nat) t v, Tryz.f3.params[j]? = some t → args[j]? = some v → Value.okWide Tryz.prog W .any base t v := hval0
  have hW' := hW
  obtain ⟨p, q, hA0, hV, rfl, hfz, hnd⟩ := hW
  have hA : DataW.TrodAll enc Tryz.prog W 0 (fun _ => true) true Tryz.f3.params.toList args.toList ds p := hA0
  rw [Tryz.params3] at hA hval
  obtain ⟨v0, vs0, d0, ds0, p0, q0, hargs, rfl, rfl, h0, r0⟩ := trodAll_cons hA
  obtain ⟨v1, vs1, d1, ds1, p1, q1, rfl, rfl, rfl, h1, r1⟩ := trodAll_cons r0
  obtain ⟨v2, vs2, d2, ds2, p2, q2, rfl, rfl, rfl, h2, r2⟩ := trodAll_cons r1
  obtain ⟨v3, vs3, d3, ds3, p3, q3, rfl, rfl, rfl, h3, r3⟩ := trodAll_cons r2
  obtain ⟨v4, vs4, d4, ds4, p4, q4, rfl, rfl, rfl, h4, r4⟩ := trodAll_cons r3
  obtain ⟨rfl, rfl, rfl⟩ := trodAll_nil r4
  obtain rfl : args = #[v0, v1, v2, v3, v4] := by cases args; simp_all
  obtain ⟨rfl, rfl⟩ := trodVars_none hV
  obtain ⟨a0, rfl, rfl, rfl, w0⟩ := open_int Tryz.underlying3 (hval 0 3 v0 rfl rfl) h0
  obtain ⟨a1, rfl, rfl, rfl, w1⟩ := open_int Tryz.underlying3 (hval 1 3 v1 rfl rfl) h1
  obtain ⟨a2, rfl, rfl, rfl, w2⟩ := open_string Tryz.underlying9 (hval 2 9 v2 rfl rfl) h2
  obtain ⟨a3, rfl, rfl, rfl, w3⟩ := open_int Tryz.underlying3 (hval 3 3 v3 rfl rfl) h3
  obtain ⟨a4, rfl, rfl, rfl, w4⟩ := open_int Tryz.underlying3 (hval 4 3 v4 rfl rfl) h4
  clear hA0 hval0
  refine (walk W hL a0 w0 a1 w1 a2 w2 a3 w3 a4 w4).mono fun e W' ⟨he, bel⟩ => ?_
  subst he
  exact ⟨_, rfl, _, _, _, [], _, [], hW', trodAll_mk1 (shut_bool Tryz.underlying4 _), (trodAll_cons_mk (shut_int Tryz.underlying3 w0) (trodAll_cons_mk (shut_int Tryz.underlying3 w1) (trodAll_cons_mk (shut_string Tryz.underlying9 w2) (trodAll_cons_mk (shut_int Tryz.underlying3 w3) (trodAll_cons_mk (shut_int Tryz.underlying3 w4) trodAll_mk0))))), rfl, bel.frame _, fun h => by cases h⟩

theorem over : Rows.slipTellsRow.holds Tryz.pinned (OpenSpec.ofChange Rows.slipTellsSpec) :=
  OpenClaim.holds_of_wide 3 Tryz.f3 rfl rfl rfl rfl rfl rfl rfl ⟨rfl, rfl, rfl, rfl, rfl⟩ rfl rfl rfl rfl rfl (by kernel_rfl) Tryz.func3 (by kernel_rfl)
    (of_decide_eq_true (by kernel_rfl)) (by unfold Func.isWrapper; first | (rw [if_pos (by decide +kernel)]; kernel_rfl) | (rw [if_neg (by decide +kernel)]; exact ⟨rfl, rfl⟩))
    (fun os started H enc _ => lifted os started H enc)

/-- THE STATEMENT -/
theorem proved : Rows.SlipTellsCardSaid :=
  Claim7.holds_tied_plain_at .later [] [.data, .data, .data, .sentinel, .sentinel] true (true, "ffa2083d3b2920718f92d5424b80f4fc8f23fc57f373ac803344213b22cdc247") true
    over (fun _ h => by cases h) (by kernel_rfl) (fun _ h => by cases h) slipTells_row_tie rfl ⟨rfl, rfl⟩ (by kernel_rfl) rfl
    (fun f fn hf hfn => by
      obtain rfl : f = 3 := Option.some.inj ((show Tryz.prog.funcNamed "leporello/leporellolaw20.SlipTells" = some 3 by kernel_rfl).symm.trans hf) |>.symm
      obtain rfl : fn = Tryz.f3 := (Option.some.inj (Tryz.func3.symm.trans hfn)).symm
      exact ⟨by kernel_rfl, fun j t ht => by
        rw [Tryz.params3] at ht
        have hm : t ∈ [3, 3, 9, 3, 3] := by simpa using Array.mem_of_getElem? ht
        have hall : ([3, 3, 9, 3, 3].all fun u => !Tryz.prog.wantsStandIn u) = true := by kernel_rfl
        exact (show Tryz.prog.wantsStandIn t = false by simpa using List.all_eq_true.1 hall t hm)⟩)
    (by kernel_rfl)
#print axioms proved
end Go.Proofs.YthilgkfloonbjaaGreatDoor.slipTells

