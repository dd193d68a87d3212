/-
  FixedOrder holds of the program: for every input the call returns true and leaves what came in as it was. No condition.
-/
import Derived.Test.YtoickcaccielkaaRows
import Derived.Test.YtoickcaccielkaaFixedRank
import Derived.WalkKit
import Derived.Maps.Own
import Derived.Maps.OwnOps
import Derived.ProofKit
import Derived.OpenShut
import Derived.ShutString
import Derived.ChangeOld
import Derived.Below
namespace Go.Proofs.Ytoickcaccielkaa.fixedOrder
open Go.ChangeShapes Go.WideShapes Go.ChangeAt Go.RowKit
open Go.ChangeMaps (open_string shut_string)
set_option linter.unusedVariables false

theorem own : ownKnob Try.prog.godebug = none := by kernel_rfl
theorem laidOut : laidOutB Try.prog = true := by kernel_rfl
open Go.Maps
theorem law : Keyed Try.prog 9 := string_keyed Try.underlying9
theorem zeroE (w : World) : (zeroValue 3).run Try.prog w = .ok (.int .i64 0) w := by kernel_rfl

/-- What the map reads as behind k rounds. -/
def putOp (a b : Int) (m : DataW Unit) (op : List UInt8) : DataW Unit := m.put (.string op) (.lit (.int .i64 (b2i (cmpV op a b))))
def six : List (List UInt8) := [[61, 61], [33, 61], [60], [60, 61], [62], [62, 61]]
def Cs (a b : Int) (k : Nat) : DataW Unit := (six.take k).foldl (putOp a b) (.map [])
theorem six_len : six.length = 6 := rfl
theorem Cs_step (a b : Int) (k : Nat) (h : k < 6) : Cs a b (k + 1) = putOp a b (Cs a b k) (six.getD k []) := by
  have hc : k = 0 ∨ k = 1 ∨ k = 2 ∨ k = 3 ∨ k = 4 ∨ k = 5 := by omega
  rcases hc with rfl | rfl | rfl | rfl | rfl | rfl <;> rfl
theorem at_key (a b : Int) (j : Nat) (h : j < 6) (c : Int) (hat : (Cs a b 6).atKey (.string (six.getD j [])) (.lit (.int .i64 0)) = .lit (.int .i64 c)) : c = b2i (cmpV (six.getD j []) a b) := by
  have hc : j = 0 ∨ j = 1 ∨ j = 2 ∨ j = 3 ∨ j = 4 ∨ j = 5 := by omega
  have hq : (Cs a b 6).atKey (.string (six.getD j [])) (.lit (.int .i64 0)) = .lit (.int .i64 (b2i (cmpV (six.getD j []) a b))) := by
    rcases hc with rfl | rfl | rfl | rfl | rfl | rfl <;> rfl
  rw [hq] at hat
  simp only [DataW.lit.injEq, Lit.int.injEq, true_and] at hat
  exact hat.symm
theorem six_get (j : Nat) (h : j < 6) : sixOps.getD j ByteArray.empty = txt (six.getD j []) := by
  have hc : j = 0 ∨ j = 1 ∨ j = 2 ∨ j = 3 ∨ j = 4 ∨ j = 5 := by omega
  rcases hc with rfl | rfl | rfl | rfl | rfl | rfl <;> rfl
theorem six_cmp (j : Nat) (h : j < 6) : cmpOp (six.getD j []) = true := by
  have hc : j = 0 ∨ j = 1 ∨ j = 2 ∨ j = 3 ∨ j = 4 ∨ j = 5 := by omega
  rcases hc with rfl | rfl | rfl | rfl | rfl | rfl <;> rfl
theorem key_txt (l : List UInt8) (h : l.length ≤ 2) : keyOf Try.prog 9 (.string (txt l)) = some (.string l) :=
  Go.WideMaps.keyOf_string_mk Try.underlying9 (by show l.toArray.size ≤ maxLen; unfold maxLen; simp; omega)
theorem do_six (a b : Int) (ha : In a) (hb : In b) (j : Nat) (h : j < 6) (W : World) (xa : -9223372036854775808 ≤ a ∧ a ≤ 9223372036854775807) (xb : -9223372036854775808 ≤ b ∧ b ≤ 9223372036854775807) :
    Calls Try.prog 10 #[.string (txt (six.getD j [])), .int .i64 a, .int .i64 b] W fun e' w' => e' = .returned (.tuple #[.int .i64 (b2i (cmpV (six.getD j []) a b)), .int .i64 0]) ∧ Gr W w' := by
  refine (do_any (six.getD j []) a b W xa xb).mono ?_
  rintro e' w' ⟨rfl, g⟩
  have : doV (six.getD j []) a b = (b2i (cmpV (six.getD j []) a b), 0) := by unfold doV; rw [if_neg (by simp [ha, hb]), if_pos (six_cmp j h)]
  rw [this]
  exact ⟨rfl, g⟩
theorem vals_lt {a b : Int} (h : a < b) : b2i (cmpV [61, 61] a b) = 0 ∧ b2i (cmpV [33, 61] a b) = 1 ∧ b2i (cmpV [60] a b) = 1 ∧ b2i (cmpV [60, 61] a b) = 1 ∧ b2i (cmpV [62] a b) = 0 ∧ b2i (cmpV [62, 61] a b) = 0 := by
  have h1 : ¬ b < a := by omega
  have h2 : (a == b) = false := eqF (by omega)
  have h3 : ¬ a = b := by omega
  refine ⟨?_, ?_, ?_, ?_, ?_, ?_⟩ <;> simp [cmpV, cmpStep, h, h1, h2, h3, b2i, bne]
theorem vals_gt {a b : Int} (h : b < a) : b2i (cmpV [61, 61] a b) = 0 ∧ b2i (cmpV [33, 61] a b) = 1 ∧ b2i (cmpV [60] a b) = 0 ∧ b2i (cmpV [60, 61] a b) = 0 ∧ b2i (cmpV [62] a b) = 1 ∧ b2i (cmpV [62, 61] a b) = 1 := by
  have h1 : ¬ a < b := by omega
  have h2 : (a == b) = false := eqF (by omega)
  have h3 : ¬ a = b := by omega
  refine ⟨?_, ?_, ?_, ?_, ?_, ?_⟩ <;> simp [cmpV, cmpStep, h, h1, h2, h3, b2i, bne]
theorem vals_eq {a b : Int} (h : a = b) : b2i (cmpV [61, 61] a b) = 1 ∧ b2i (cmpV [33, 61] a b) = 0 ∧ b2i (cmpV [60] a b) = 0 ∧ b2i (cmpV [60, 61] a b) = 1 ∧ b2i (cmpV [62] a b) = 0 ∧ b2i (cmpV [62, 61] a b) = 1 := by
  subst h
  refine ⟨?_, ?_, ?_, ?_, ?_, ?_⟩ <;> simp [cmpV, cmpStep, b2i]
theorem b2i_rng (x : Bool) : 0 ≤ b2i x ∧ b2i x ≤ 1 := by cases x <;> decide

theorem start_below {w w1 : World} (h : Below w.heap.size w w1) (hs : w.heap.size ≤ w1.heap.size) (o1 o2 : Obj) : Below w.heap.size w ((w1.alloc o1).alloc o2) :=
  below_gr (below_gr h (gr_alloc w1 o1 none) hs (by simp)) (gr_alloc _ o2 none) (Nat.le_trans hs (gr_alloc w1 o1 none).size) (by simp)
theorem size_one (w : World) (o : Obj) : (w.alloc o).heap.size = w.heap.size + 1 := by show (w.heap.push o).size = _; exact Array.size_push _
theorem start_cell (w1 : World) : ∀ j, j < 6 → ((w1.alloc (.map #[] 0)).alloc (.cells #[.string ⟨#[61, 61]⟩, .string ⟨#[33, 61]⟩, .string ⟨#[60]⟩, .string ⟨#[60, 61]⟩, .string ⟨#[62]⟩, .string ⟨#[62, 61]⟩] 9)).cell? ⟨w1.heap.size + 1, j, none⟩ = some (.string (txt (six.getD j []))) := by
  intro j hj
  have := six_cell (w1.alloc (.map #[] 0)) j hj
  rw [six_get j hj, Nat.zero_add, size_one] at this
  exact this
theorem key_six (j : Nat) (h : j < 6) : keyOf Try.prog 9 (.string (txt (six.getD j []))) = some (.string (six.getD j [])) :=
  key_txt _ (by
    have hc : j = 0 ∨ j = 1 ∨ j = 2 ∨ j = 3 ∨ j = 4 ∨ j = 5 := by omega
    rcases hc with rfl | rfl | rfl | rfl | rfl | rfl <;> decide)
/-- A look-up behind the loop. -/
theorem look (a b : Int) {wr : World} {B : Nat} (hown : wr.ownsMap Try.prog 9 (plainElem Try.prog 3) B 6 (Cs a b 6)) (j : Nat) (h : j < 6) (c : Int) (hc : b2i (cmpV (six.getD j []) a b) = c) :
    (Instr.lookup 34 (.map (some B)) (.string (txt (six.getD j []))) false).run Try.prog wr = .ok (.int .i64 c) wr := by
  obtain ⟨c', hrun, hat, _⟩ := hown.lookup_int law Try.underlying34 Try.underlying3 (zeroE _) (key_six j h)
  rw [← hc, ← at_key a b j h c' hat]
  exact hrun
theorem round_below {B : Nat} {w wr w2 w3 w4 : World} (h : Below B w wr) (hB : B ≤ wr.heap.size) (g2 : Gr wr w2) (g3 : Gr w2 w3) {b : Nat} (g4 : w3.grownBy w4 (some b)) (hb : B ≤ b) : Below B w w4 :=
  below_gr (below_gr (below_gr h g2 hB (by simp)) g3 (Nat.le_trans hB g2.size) (by simp)) g4 (Nat.le_trans hB (Nat.le_trans g2.size g3.size)) (fun j hj => by cases hj; exact hb)

set_option maxHeartbeats 1000000 in
set_option maxRecDepth 100000 in
theorem walk (w : World) (a0 : Int) (w0 : (Lit.int .i64 a0).wf = true) (a1 : Int) (w1 : (Lit.int .i64 a1).wf = true) :
    Calls Try.prog 6 #[.int .i64 a0, .int .i64 a1] w fun e w' => e = .returned (.bool true) ∧ Below w.heap.size w w' := by
  have x0 := rng_i64 w0
  have x1 := rng_i64 w1
  clear w0 w1
  by_cases ha : In a0
  · by_cases hb : In a1
    · have hmm := @run_makeMap Try.prog
      go_enter Try.func6, Try.ntmps6
      go_wp2_with fail
      refine (right_yes _ _ ha).mono ?_
      rintro e w0 ⟨rfl, rfl⟩
      go_wp2_with fail
      refine (right_yes _ _ hb).mono ?_
      rintro e w0 ⟨rfl, rfl⟩
      go_wp2_with fail
      refine (alive_any _).mono ?_
      rintro e w1 ⟨rfl, g1⟩
      have hc0 := start_cell w1
      replace hc0 := Lib.hid hc0
      have hs1 := Lib.hid g1.size
      have hb1 := Lib.hid (start_below (gr_below g1) g1.size)
      have hm1 := Lib.hid (World.ownsMap_made w1 Try.prog 9 (plainElem (H := Unit) Try.prog 3))
      clear g1
      go_wp2
      go_loopw [26] (fun i wr => ∃ k : Nat, k ≤ 6 ∧ i = .int .i64 k ∧ wr.ownsMap Try.prog 9 (plainElem Try.prog 3) w1.heap.size k (Cs a0 a1 k) ∧ Hid (∀ j, j < 6 → wr.cell? ⟨w1.heap.size + 1, j, none⟩ = some (.string (txt (six.getD j [])))) ∧ Hid (Below w.heap.size w wr))
        (fun i _ => 6 - (intOf i).toNat)
      case atStart => exact ⟨0, Nat.zero_le _, rfl, hm1.out.alloc _, hc0, Lib.hid (hb1.out _ _)⟩
      case round =>
        obtain ⟨k, hk, rfl, hown, hcs, hnx⟩ := hrel
        rcases Nat.lt_or_ge k 6 with hlt | hge
        · have hcell := hcs.out k hlt
          have cd := Lib.hid (do_six a0 a1 ha hb k hlt · x0 x1)
          have hcm := six_cmp k hlt
          have hkey := key_six k hlt
          have hstep := Cs_step a0 a1 k hlt
          unfold putOp at hstep
          have hbr := b2i_rng (cmpV (six.getD k []) a0 a1)
          generalize b2i (cmpV (six.getD k []) a0 a1) = v at cd hstep hbr
          have ccmp := fun W => compares_any (six.getD k []) W
          rw [hcm] at ccmp
          clear hcm
          generalize six.getD k [] = op at hcell cd hkey hstep ccmp
          replace hcell := hcell
          replace hstep := Lib.hid hstep
          replace ccmp := Lib.hid ccmp
          go_wp2_with fail
          refine (cd.out _).mono ?_
          rintro e w2 ⟨rfl, g2⟩
          go_wp2_with fail
          refine (ccmp.out _).mono ?_
          rintro e w3 ⟨rfl, g3⟩
          have hown3 := (hown.kept g2 (by simp)).kept g3 (by simp)
          go_wp2_with (first
            | (at_mapUpdate; refine wpList_mapUpdate_own _ rfl _ _ _ 34 rfl 9 3 law Try.underlying34 _ w1.heap.size k _ rfl hown3 (by unfold maxLen; omega) _ _ _ rfl rfl hkey _ [] (plainElem_int Try.underlying3 (WalkArith.wf_i64 (by omega))) ?_; intro w4 hown4 g4)
            | go_in)
          go_roundw
          case rel =>
            refine ⟨k + 1, by omega, by go_num, hstep.out.symm ▸ hown4, Lib.hid ?_, Lib.hid ?_⟩
            · intro j hj
              exact g4.cell (gr_cell g3 (gr_cell g2 (hcs.out j hj))) (by simp)
            · exact round_below hnx.out hnx.out.size g2 g3 g4 hs1.out
          case measure => simp [intOf]; omega
        · have hk6 : k = 6 := by omega
          subst hk6
          have cp : Hid (∀ W : World, Calls Try.prog 12 #[.string ⟨#[43]⟩] W fun e w' => e = .returned (.bool false) ∧ Gr W w') := fun W => compares_any [43] W
          rcases Int.lt_trichotomy a0 a1 with ho | ho | ho
          · obtain ⟨e0, e1, e2, e3, e4, e5⟩ := vals_lt ho
            have r0 : (Instr.lookup 34 (.map (some w1.heap.size)) (.string ⟨#[61, 61]⟩) false).run Try.prog wr = .ok (.int .i64 _) wr := look a0 a1 hown 0 (by omega) _ e0
            have r1 : (Instr.lookup 34 (.map (some w1.heap.size)) (.string ⟨#[33, 61]⟩) false).run Try.prog wr = .ok (.int .i64 _) wr := look a0 a1 hown 1 (by omega) _ e1
            have r2 : (Instr.lookup 34 (.map (some w1.heap.size)) (.string ⟨#[60]⟩) false).run Try.prog wr = .ok (.int .i64 _) wr := look a0 a1 hown 2 (by omega) _ e2
            have r3 : (Instr.lookup 34 (.map (some w1.heap.size)) (.string ⟨#[60, 61]⟩) false).run Try.prog wr = .ok (.int .i64 _) wr := look a0 a1 hown 3 (by omega) _ e3
            have r4 : (Instr.lookup 34 (.map (some w1.heap.size)) (.string ⟨#[62]⟩) false).run Try.prog wr = .ok (.int .i64 _) wr := look a0 a1 hown 4 (by omega) _ e4
            have r5 : (Instr.lookup 34 (.map (some w1.heap.size)) (.string ⟨#[62, 61]⟩) false).run Try.prog wr = .ok (.int .i64 _) wr := look a0 a1 hown 5 (by omega) _ e5
            clear e0 e1 e2 e3 e4 e5 hown
            have ho2 := ho
            go_wp2_with fail
            refine (cp.out _).mono ?_
            rintro e w2 ⟨rfl, g2⟩
            go_wp2
            go_ret
            exact ⟨rfl, below_gr hnx.out g2 hnx.out.size (by simp)⟩
          · obtain ⟨e0, e1, e2, e3, e4, e5⟩ := vals_eq ho
            have r0 : (Instr.lookup 34 (.map (some w1.heap.size)) (.string ⟨#[61, 61]⟩) false).run Try.prog wr = .ok (.int .i64 _) wr := look a0 a1 hown 0 (by omega) _ e0
            have r1 : (Instr.lookup 34 (.map (some w1.heap.size)) (.string ⟨#[33, 61]⟩) false).run Try.prog wr = .ok (.int .i64 _) wr := look a0 a1 hown 1 (by omega) _ e1
            have r2 : (Instr.lookup 34 (.map (some w1.heap.size)) (.string ⟨#[60]⟩) false).run Try.prog wr = .ok (.int .i64 _) wr := look a0 a1 hown 2 (by omega) _ e2
            have r3 : (Instr.lookup 34 (.map (some w1.heap.size)) (.string ⟨#[60, 61]⟩) false).run Try.prog wr = .ok (.int .i64 _) wr := look a0 a1 hown 3 (by omega) _ e3
            have r4 : (Instr.lookup 34 (.map (some w1.heap.size)) (.string ⟨#[62]⟩) false).run Try.prog wr = .ok (.int .i64 _) wr := look a0 a1 hown 4 (by omega) _ e4
            have r5 : (Instr.lookup 34 (.map (some w1.heap.size)) (.string ⟨#[62, 61]⟩) false).run Try.prog wr = .ok (.int .i64 _) wr := look a0 a1 hown 5 (by omega) _ e5
            clear e0 e1 e2 e3 e4 e5 hown
            have ho2 : ¬ a0 < a1 := by omega
            go_wp2_with fail
            refine (cp.out _).mono ?_
            rintro e w2 ⟨rfl, g2⟩
            go_wp2
            go_ret
            exact ⟨rfl, below_gr hnx.out g2 hnx.out.size (by simp)⟩
          · obtain ⟨e0, e1, e2, e3, e4, e5⟩ := vals_gt ho
            have r0 : (Instr.lookup 34 (.map (some w1.heap.size)) (.string ⟨#[61, 61]⟩) false).run Try.prog wr = .ok (.int .i64 _) wr := look a0 a1 hown 0 (by omega) _ e0
            have r1 : (Instr.lookup 34 (.map (some w1.heap.size)) (.string ⟨#[33, 61]⟩) false).run Try.prog wr = .ok (.int .i64 _) wr := look a0 a1 hown 1 (by omega) _ e1
            have r2 : (Instr.lookup 34 (.map (some w1.heap.size)) (.string ⟨#[60]⟩) false).run Try.prog wr = .ok (.int .i64 _) wr := look a0 a1 hown 2 (by omega) _ e2
            have r3 : (Instr.lookup 34 (.map (some w1.heap.size)) (.string ⟨#[60, 61]⟩) false).run Try.prog wr = .ok (.int .i64 _) wr := look a0 a1 hown 3 (by omega) _ e3
            have r4 : (Instr.lookup 34 (.map (some w1.heap.size)) (.string ⟨#[62]⟩) false).run Try.prog wr = .ok (.int .i64 _) wr := look a0 a1 hown 4 (by omega) _ e4
            have r5 : (Instr.lookup 34 (.map (some w1.heap.size)) (.string ⟨#[62, 61]⟩) false).run Try.prog wr = .ok (.int .i64 _) wr := look a0 a1 hown 5 (by omega) _ e5
            clear e0 e1 e2 e3 e4 e5 hown
            have ho2 : ¬ a0 < a1 := by omega
            go_wp2_with fail
            refine (cp.out _).mono ?_
            rintro e w2 ⟨rfl, g2⟩
            go_wp2
            go_ret
            exact ⟨rfl, below_gr hnx.out g2 hnx.out.size (by simp)⟩
    · go_enter Try.func6, Try.ntmps6
      go_wp2_with fail
      refine (right_yes _ _ ha).mono ?_
      rintro e w0 ⟨rfl, rfl⟩
      go_wp2_with fail
      refine (right_no _ _ hb).mono ?_
      rintro e w0 ⟨rfl, rfl⟩
      go_wp2_with fail
      refine (alive_any _).mono ?_
      rintro e w1 ⟨rfl, g1⟩
      go_wp2
      go_ret
      exact ⟨rfl, gr_below g1⟩
  · go_enter Try.func6, Try.ntmps6
    go_wp2_with fail
    refine (right_no _ _ ha).mono ?_
    rintro e w0 ⟨rfl, rfl⟩
    go_wp2_with fail
    refine (alive_any _).mono ?_
    rintro e w1 ⟨rfl, g1⟩
    go_wp2
    go_ret
    exact ⟨rfl, gr_below g1⟩


set_option maxRecDepth 100000 in
theorem lifted (os : Os) (started : os.Started) (H : Type) (enc : TypeId × Value → H) :
    ReturnsInHanded {} Try.checked os 6 .any (Rows.fixedOrderSpec.pre6 enc Try.prog Try.f6 Rows.fixedOrderRow.domain false) (Rows.fixedOrderSpec.post enc Try.prog Try.f6 false true false false) := by
  refine returnsInHanded_of_change (C := Try.checked) own started (by kernel_rfl) Try.func6
    (ChangeSpec.witness6 (enc := enc) (C := Try.checked) false ⟨#[], #[.int .i64 0, .int .i64 0], []⟩ 8 (by kernel_rfl) (by kernel_rfl) (by kernel_rfl) (by kernel_rfl)) ?_
  intro W base args ds gs before hval0 hW hcnd _
  have hval : ∀ (j : Nat) t v, Try.f6.params[j]? = some t → args[j]? = some v → Value.okWide Try.prog W .any base t v := hval0
  have hW' := hW
  obtain ⟨p, q, hA0, hV, rfl, hfz, hnd⟩ := hW
  have hA : DataW.TrodAll enc Try.prog W 0 (fun _ => true) true Try.f6.params.toList args.toList ds p := hA0
  rw [Try.params6] at hA hval
  obtain ⟨v0, vs0, d0, ds0, p0, q0, hargs, rfl, rfl, h0, r0⟩ := trodAll_cons hA
  obtain ⟨v1, vs1, d1, ds1, p1, q1, rfl, rfl, rfl, h1, r1⟩ := trodAll_cons r0
  obtain ⟨rfl, rfl, rfl⟩ := trodAll_nil r1
  obtain rfl : args = #[v0, v1] := by cases args; simp_all
  obtain ⟨rfl, rfl⟩ := trodVars_none hV
  obtain ⟨a0, rfl, rfl, rfl, w0⟩ := open_int Try.underlying3 (hval 0 3 v0 rfl rfl) h0
  obtain ⟨a1, rfl, rfl, rfl, w1⟩ := open_int Try.underlying3 (hval 1 3 v1 rfl rfl) h1
  clear hA0 hval0
  refine (walk W a0 w0 a1 w1).mono fun e W' ⟨he, bel⟩ => ?_
  subst he
  exact ⟨_, rfl, _, _, _, [], _, [], hW', trodAll_mk1 (shut_bool Try.underlying4 _), (trodAll_cons_mk (shut_int Try.underlying3 w0) (trodAll_cons_mk (shut_int Try.underlying3 w1) trodAll_mk0)), rfl, bel.frame _, fun h => by cases h⟩

theorem over : Rows.fixedOrderRow.holds Try.pinned (OpenSpec.ofChange Rows.fixedOrderSpec) :=
  OpenClaim.holds_of_wide 6 Try.f6 rfl rfl rfl rfl rfl rfl rfl ⟨rfl, rfl, rfl, rfl, rfl⟩ rfl rfl rfl rfl rfl (by kernel_rfl) Try.func6 (by kernel_rfl)
    (of_decide_eq_true (by kernel_rfl)) (by unfold Func.isWrapper; first | (rw [if_pos (by decide +kernel)]; kernel_rfl) | (rw [if_neg (by decide +kernel)]; exact ⟨rfl, rfl⟩))
    (fun os started H enc _ => lifted os started H enc)

/-- THE STATEMENT -/
theorem proved : Rows.FixedOrderSaid := over
#print axioms proved
end Go.Proofs.Ytoickcaccielkaa.fixedOrder

