/-
  SlipUnlike holds of the program: for every input the call returns true and leaves what came in as it was. No condition.
-/
import Derived.Test.YthilgkfloonbjaaDoorRows
import Derived.Test.YthilgkfloonbjaaDoorCards
import Derived.Test.YthilgkfloonbjaaDoorTie
import Derived.LaidMore
import Derived.Stop.Joined
import Derived.Stop.LaidErr
import Derived.Lib.LaidTab
import Derived.SevenTiedAt
import Derived.Test.YthilgkfloonbjaaDoorSlipAlive
import Derived.Test.YthilgkfloonbjaaDoorSlipVars
import Derived.WalkKit
import Derived.ProofKit
import Derived.OpenShut
import Derived.ShutString
import Derived.ChangeOld
import Derived.Below
namespace Go.Proofs.YthilgkfloonbjaaDoor.slipUnlike
open Go.ChangeShapes Go.WideShapes Go.ChangeAt Go.RowKit
open Go.ChangeMaps (open_string shut_string)
set_option linter.unusedVariables false

theorem own : ownKnob Tryd.prog.godebug = none := by kernel_rfl
theorem laidOut : laidOutB Tryd.prog = true := by kernel_rfl

theorem one_conv (W W2 : World) (x : UInt8) (n : Nat) (hc : W2.cell? ⟨n, 0, none⟩ = some (.int .u8 x.toNat)) : (convert 26 9 (.slice (some ⟨n, 0, none⟩) 1 1)).run Tryd.prog W2 = .ok (.string (txt [x])) W2 := by
  refine run_string_cells (P := Tryd.prog) W2 26 9 5 Tryd.underlying26 Tryd.underlying5 Tryd.underlying9 ⟨n, 0, none⟩ [x] 1 (fun j b hb => ?_)
  have hj : j = 0 := by have := (List.getElem?_eq_some_iff.1 hb).1; simpa using this
  subst hj
  obtain rfl : x = b := by simpa using hb
  exact hc
set_option maxHeartbeats 40000000 in
set_option maxRecDepth 100000 in
theorem walk (w : World) (hL : laidMetH Tryd.prog Rows.slipUnlikeRow.laid w) (a0 : Int) (w0 : (Lit.int .i64 a0).wf = true) (a1 : Int) (w1 : (Lit.int .i64 a1).wf = true) (a2 : Int) (w2 : (Lit.int .i64 a2).wf = true) (a3 : Int) (w3 : (Lit.int .i64 a3).wf = true) (a4 : Int) (w4 : (Lit.int .i64 a4).wf = true) (a5 : Int) (w5 : (Lit.int .u8 a5).wf = true) :
    Calls Tryd.prog 3 #[.int .i64 a0, .int .i64 a1, .int .i64 a2, .int .i64 a3, .int .i64 a4, .int .u8 a5] w fun e w' => e = .returned (.bool true) ∧ Below w.heap.size w w' := by
  have hv : Vars w := vars_of hL
  clear hL
  by_cases hok1 : a0 < 1 ∨ 1000000 < a0 ∨ a1 < 0 ∨ 2000 < a1
  · by_cases hok2 : a2 < 1 ∨ 1000000 < a2 ∨ a3 < 0 ∨ 2000 < a3
    · go_enter Tryd.func3, Tryd.ntmps3
      go_wp2_with fail
      refine (put_bad a0 a1 _ w0 w1 hok1).mono ?_
      rintro e w1 ⟨rfl, rfl⟩
      go_wp2_with fail
      refine (put_bad a2 a3 _ w2 w3 hok2).mono ?_
      rintro e w1 ⟨rfl, rfl⟩
      go_wp2_with fail
      refine (alive_any _ hv).mono ?_
      rintro e W1 ⟨rfl, g1⟩
      go_wp2
      go_ret
      exact ⟨rfl, gr_below g1⟩
    · obtain ⟨c, d, rfl, rfl, hcd⟩ := slip_nat hok2
      go_enter Tryd.func3, Tryd.ntmps3
      go_wp2_with fail
      refine (put_bad a0 a1 _ w0 w1 hok1).mono ?_
      rintro e w1 ⟨rfl, rfl⟩
      go_wp2_with fail
      refine (put_ok c d _ hcd hv).mono ?_
      rintro e w5 ⟨rfl, g0⟩
      have hv1 := vars_gr hv g0
      go_wp2_with fail
      refine (alive_any _ hv1).mono ?_
      rintro e W1 ⟨rfl, g1⟩
      go_wp2
      go_ret
      exact ⟨rfl, gr_below (gr_trans g0 g1)⟩
  · obtain ⟨a, b, rfl, rfl, hab⟩ := slip_nat hok1
    by_cases hok2 : a2 < 1 ∨ 1000000 < a2 ∨ a3 < 0 ∨ 2000 < a3
    · go_enter Tryd.func3, Tryd.ntmps3
      go_wp2_with fail
      refine (put_ok a b _ hab hv).mono ?_
      rintro e w5 ⟨rfl, g0⟩
      have hv1 := vars_gr hv g0
      go_wp2_with fail
      refine (put_bad a2 a3 _ w2 w3 hok2).mono ?_
      rintro e w1 ⟨rfl, rfl⟩
      go_wp2_with fail
      refine (alive_any _ hv1).mono ?_
      rintro e W1 ⟨rfl, g1⟩
      go_wp2
      go_ret
      exact ⟨rfl, gr_below (gr_trans g0 g1)⟩
    · obtain ⟨c, d, rfl, rfl, hcd⟩ := slip_nat hok2
      clear hok1 hok2 w0 w1 w2 w3 w4
      obtain ⟨x, rfl⟩ : ∃ x : UInt8, a5 = ((x.toNat : Nat) : Int) := ⟨UInt8.ofNat a5.toNat, by
        simp [Lit.wf, IntKind.min, IntKind.max, IntKind.signed, IntKind.bits] at w5
        have : (UInt8.ofNat a5.toNat).toNat = a5.toNat := by simp; omega
        omega⟩
      clear w5
      have hlen := slip_len hab
      go_enter Tryd.func3, Tryd.ntmps3
      go_wp2_with fail
      refine (put_ok a b _ hab hv).mono ?_
      rintro e W1 ⟨rfl, g1⟩
      have hv1 := vars_gr hv g1
      go_wp2_with fail
      refine (put_ok c d _ hcd hv1).mono ?_
      rintro e W2 ⟨rfl, g2⟩
      have hv2 := vars_gr hv1 g2
      go_wp2_with fail
      refine (alive_any _ hv2).mono ?_
      rintro e W3 ⟨rfl, g3⟩
      have hv3 := vars_gr hv2 g3
      have hself : ∀ m n : Nat, SlipOk m n → slipL a b = slipL m n → m = a ∧ n = b := fun m n _ e => by obtain ⟨h1, h2⟩ := slip_inj e; exact ⟨h1.symm, h2.symm⟩
      have hinj : (slipL a b == slipL c d) = (decide (a = c) && decide (b = d)) := by
        rw [Bool.eq_iff_iff]
        simp only [beq_iff_eq, Bool.and_eq_true, decide_eq_true_eq]
        exact ⟨slip_inj, fun ⟨h1, h2⟩ => by rw [h1, h2]⟩
      have G3 := Lib.hid (gr_trans (gr_trans g1 g2) g3)
      replace hself := Lib.hid hself
      obtain ⟨K, hK, hKL⟩ := cut_place a4 (slipL a b).length (by omega) (by omega)
      generalize hS : slipL a b = S at *
      generalize slipL c d = T at *
      replace hS := Lib.hid hS
      have hL0 : ((S.length : Nat) : Int) ≠ 0 := by omega
      have hL0b : (((S.length : Nat) : Int) == 0) = false := eqF hL0
      clear g1 g2 g3 hv hv1 hv2
      obtain ⟨hl1, hl2⟩ := hlen
      by_cases hac : a = c
      · subst hac
        have haa : ((a : Int) == (a : Int)) = true := by simp
        by_cases hbd : b = d
        · subst hbd
          have hbb : ((b : Int) == (b : Int)) = true := by simp
          have hst : (S == T) = true := by rw [hinj]; simp
          replace hinj := Lib.hid hinj
          go_wp2_with fail
          have x1 : (txt S).extract 0 K = txt (S.take K) := str_eq (by rw [Lib.extract_data, txt_data]; rfl)
          have x2 : (txt S).extract (K + 1) S.length = txt (S.drop (K + 1)) := by
            have := ext_end (txt S) (K + 1)
            rw [txt_size, txt_data] at this
            exact str_eq this
          have x3 : (txt S).extract K S.length = txt (S.drop K) := by
            have := ext_end (txt S) K
            rw [txt_size, txt_data] at this
            exact str_eq this
          have k0 : (0 : Int) ≤ (K : Int) := by omega
          have k1 : (K : Int) ≤ ((S.length : Nat) : Int) := by omega
          have k2 : (K : Int) + 1 ≤ ((S.length : Nat) : Int) := by omega
          have k3 : ((K : Int) + 1).toNat = K + 1 := by omega
          have k4 : (0 : Int) ≤ (K : Int) + 1 := by omega
          have kw : IntKind.i64.wrap ((K : Int) + 1) = (K : Int) + 1 := IntWalk.i64_in _ (by omega)
          have t1 : (S.take K).length = K := by rw [List.length_take]; omega
          have t2 : (S.drop (K + 1)).length = S.length - (K + 1) := List.length_drop
          have t3 : (S.drop K).length = S.length - K := List.length_drop
          have cv1 : (convert 26 9 (.slice (some ⟨W3.heap.size, 0, none⟩) 1 1)).run Tryd.prog (W3.alloc (.cells #[.int .u8 x.toNat] 5)).drew = .ok (.string (txt [x])) (W3.alloc (.cells #[.int .u8 x.toNat] 5)).drew := one_conv W3 _ x _ (by simp [World.cell?_drew])
          have cv2 : (convert 26 9 (.slice (some ⟨W3.heap.size, 0, none⟩) 1 1)).run Tryd.prog ((W3.alloc (.cells #[.int .u8 x.toNat] 5)).alloc (.cells #[.int .u8 x.toNat] 5)).drew = .ok (.string (txt [x])) ((W3.alloc (.cells #[.int .u8 x.toNat] 5)).alloc (.cells #[.int .u8 x.toNat] 5)).drew := one_conv W3 _ x _ (by simp [World.cell?_drew])
          have cv3 : (convert 26 9 (.slice (some ⟨W3.heap.size + 1, 0, none⟩) 1 1)).run Tryd.prog ((W3.alloc (.cells #[.int .u8 x.toNat] 5)).alloc (.cells #[.int .u8 x.toNat] 5)).drew = .ok (.string (txt [x])) ((W3.alloc (.cells #[.int .u8 x.toNat] 5)).alloc (.cells #[.int .u8 x.toNat] 5)).drew := one_conv W3 _ x _ (by simp [World.cell?_drew])
          have n1 : (9223372036854775807 < K + (S.length - (K + 1))) = False := by simp; omega
          have n2 : (9223372036854775807 < K + 1) = False := by simp; omega
          have n3 : (9223372036854775807 < K + 1 + (S.length - K)) = False := by simp; omega
          have n4 : (9223372036854775807 < S.length + 1) = False := by simp; omega
          have hW5 : ∃ W5, W5 = (((W3.alloc (Obj.cells #[Value.int IntKind.u8 x.toNat] 5)).alloc (Obj.cells #[Value.int IntKind.u8 x.toNat] 5)).alloc (Obj.cells #[Value.string (txt (S.take K ++ S.drop (K + 1))), Value.string (txt (S.take K ++ x :: S.drop K)), Value.string (txt (S ++ [x]))] 9)).drew := ⟨_, rfl⟩
          obtain ⟨W5, hW5⟩ := hW5
          have g35 : Gr W3 W5 := by rw [hW5]; exact gr_trans (gr_trans (gr_trans (gr_alloc _ _ _) (gr_alloc _ _ _)) (gr_alloc _ _ _)) (gr_drew _ _)
          have hc0 : W5.cell? ⟨W3.heap.size + 2, 0, none⟩ = some (Value.string (txt (S.take K ++ S.drop (K + 1)))) := by rw [hW5, World.cell?_drew]; exact World.cell?_alloc_at _ _ _ _ (by simp)
          have hc1 : W5.cell? ⟨W3.heap.size + 2, 1, none⟩ = some (Value.string (txt (S.take K ++ x :: S.drop K))) := by rw [hW5, World.cell?_drew]; exact World.cell?_alloc_at _ _ _ _ (by simp)
          have hc2 : W5.cell? ⟨W3.heap.size + 2, 2, none⟩ = some (Value.string (txt (S ++ [x]))) := by rw [hW5, World.cell?_drew]; exact World.cell?_alloc_at _ _ _ _ (by simp)
          have hU : ∀ k : Nat, k < 3 → ∃ u : List UInt8, u.length ≤ 1000 ∧ W5.cell? ⟨W3.heap.size + 2, k, none⟩ = some (Value.string (txt u)) := by
            intro k hk
            match k, hk with
            | 0, _ => exact ⟨_, by simp; omega, hc0⟩
            | 1, _ => exact ⟨_, by simp; omega, hc1⟩
            | 2, _ => exact ⟨_, by simp; omega, hc2⟩
          replace hU := Lib.hid hU
          clear hc0 hc1 hc2
          have hv5 := vars_gr hv3 g35
          replace g35 := Lib.hid g35
          go_region
          all_goals
            rw [← hW5]
            clear cv1 cv2 cv3 hW5 x1 x2 x3
            generalize W3.heap.size + 2 = B at hU ⊢
            go_wp2
            go_loopw [94] (fun i wr => ∃ k : Nat, k ≤ 3 ∧ i = .int .i64 k ∧ Hid (Gr W5 wr)) (fun i _ => 3 - (intOf i).toNat)
            case atStart => exact ⟨0, Nat.zero_le _, rfl, gr_refl _ _⟩
            case round =>
              obtain ⟨k, hk, rfl, hg⟩ := hrel
              by_cases hlt : k < 3
              · obtain ⟨u, hul, hcu⟩ := hU.out k hlt
                have hcu' := gr_cell hg.out hcu
                have hvr := vars_gr hv5 hg.out
                have hki : (k : Int) < 3 := by omega
                have hk0 : (0 : Int) ≤ (k : Int) := by omega
                clear hcu
                go_wp2_with fail
                refine (get_any u _ (by omega) hvr).mono ?_
                rintro e W6 ⟨y1, y2, y3, rfl, hget, g6⟩
                rcases hget with ⟨m, n, hmn, huu, rfl, rfl, rfl⟩ | ⟨hno, rfl, rfl, rfl⟩
                · by_cases hus : u = S
                  · have husT : (u == S) = true := by rw [beq_iff_eq]; exact hus
                    replace huu := Lib.hid huu
                    replace hus := Lib.hid hus
                    go_wp2
                    go_roundw
                    case rel => exact ⟨k + 1, by omega, by go_num, gr_trans hg.out g6⟩
                    case measure => simp [intOf]; omega
                  · have husF : (u == S) = false := by rw [beq_eq_false_iff_ne]; exact hus
                    by_cases hma : m = a
                    · have hnb : n ≠ b := by
                        rintro rfl
                        apply hus
                        rw [huu, hma]
                        exact hS.out
                      have e1 : ((m : Int) == (a : Int)) = true := by rw [beq_iff_eq]; omega
                      have e2 : ((n : Int) == (b : Int)) = false := eqF (by omega)
                      replace huu := Lib.hid huu
                      replace hus := Lib.hid hus
                      replace hma := Lib.hid hma
                      go_wp2
                      go_roundw
                      case rel => exact ⟨k + 1, by omega, by go_num, gr_trans hg.out g6⟩
                      case measure => simp [intOf]; omega
                    · have e1 : ((m : Int) == (a : Int)) = false := eqF (by omega)
                      replace huu := Lib.hid huu
                      replace hus := Lib.hid hus
                      go_wp2
                      go_roundw
                      case rel => exact ⟨k + 1, by omega, by go_num, gr_trans hg.out g6⟩
                      case measure => simp [intOf]; omega
                · replace hno := Lib.hid hno
                  go_wp2
                  go_roundw
                  case rel => exact ⟨k + 1, by omega, by go_num, gr_trans hg.out g6⟩
                  case measure => simp [intOf]; omega
              · obtain rfl : k = 3 := by omega
                go_wp2
                go_ret
                exact ⟨rfl, gr_below (gr_trans (gr_trans G3.out g35.out) hg.out)⟩
        · have hbb : ((b : Int) == (d : Int)) = false := eqF (by omega)
          have hst : (S == T) = false := by rw [hinj]; simp; exact hbd
          replace hinj := Lib.hid hinj
          go_wp2_with fail
          have x1 : (txt S).extract 0 K = txt (S.take K) := str_eq (by rw [Lib.extract_data, txt_data]; rfl)
          have x2 : (txt S).extract (K + 1) S.length = txt (S.drop (K + 1)) := by
            have := ext_end (txt S) (K + 1)
            rw [txt_size, txt_data] at this
            exact str_eq this
          have x3 : (txt S).extract K S.length = txt (S.drop K) := by
            have := ext_end (txt S) K
            rw [txt_size, txt_data] at this
            exact str_eq this
          have k0 : (0 : Int) ≤ (K : Int) := by omega
          have k1 : (K : Int) ≤ ((S.length : Nat) : Int) := by omega
          have k2 : (K : Int) + 1 ≤ ((S.length : Nat) : Int) := by omega
          have k3 : ((K : Int) + 1).toNat = K + 1 := by omega
          have k4 : (0 : Int) ≤ (K : Int) + 1 := by omega
          have kw : IntKind.i64.wrap ((K : Int) + 1) = (K : Int) + 1 := IntWalk.i64_in _ (by omega)
          have t1 : (S.take K).length = K := by rw [List.length_take]; omega
          have t2 : (S.drop (K + 1)).length = S.length - (K + 1) := List.length_drop
          have t3 : (S.drop K).length = S.length - K := List.length_drop
          have cv1 : (convert 26 9 (.slice (some ⟨W3.heap.size, 0, none⟩) 1 1)).run Tryd.prog (W3.alloc (.cells #[.int .u8 x.toNat] 5)).drew = .ok (.string (txt [x])) (W3.alloc (.cells #[.int .u8 x.toNat] 5)).drew := one_conv W3 _ x _ (by simp [World.cell?_drew])
          have cv2 : (convert 26 9 (.slice (some ⟨W3.heap.size, 0, none⟩) 1 1)).run Tryd.prog ((W3.alloc (.cells #[.int .u8 x.toNat] 5)).alloc (.cells #[.int .u8 x.toNat] 5)).drew = .ok (.string (txt [x])) ((W3.alloc (.cells #[.int .u8 x.toNat] 5)).alloc (.cells #[.int .u8 x.toNat] 5)).drew := one_conv W3 _ x _ (by simp [World.cell?_drew])
          have cv3 : (convert 26 9 (.slice (some ⟨W3.heap.size + 1, 0, none⟩) 1 1)).run Tryd.prog ((W3.alloc (.cells #[.int .u8 x.toNat] 5)).alloc (.cells #[.int .u8 x.toNat] 5)).drew = .ok (.string (txt [x])) ((W3.alloc (.cells #[.int .u8 x.toNat] 5)).alloc (.cells #[.int .u8 x.toNat] 5)).drew := one_conv W3 _ x _ (by simp [World.cell?_drew])
          have n1 : (9223372036854775807 < K + (S.length - (K + 1))) = False := by simp; omega
          have n2 : (9223372036854775807 < K + 1) = False := by simp; omega
          have n3 : (9223372036854775807 < K + 1 + (S.length - K)) = False := by simp; omega
          have n4 : (9223372036854775807 < S.length + 1) = False := by simp; omega
          have hW5 : ∃ W5, W5 = (((W3.alloc (Obj.cells #[Value.int IntKind.u8 x.toNat] 5)).alloc (Obj.cells #[Value.int IntKind.u8 x.toNat] 5)).alloc (Obj.cells #[Value.string (txt (S.take K ++ S.drop (K + 1))), Value.string (txt (S.take K ++ x :: S.drop K)), Value.string (txt (S ++ [x]))] 9)).drew := ⟨_, rfl⟩
          obtain ⟨W5, hW5⟩ := hW5
          have g35 : Gr W3 W5 := by rw [hW5]; exact gr_trans (gr_trans (gr_trans (gr_alloc _ _ _) (gr_alloc _ _ _)) (gr_alloc _ _ _)) (gr_drew _ _)
          have hc0 : W5.cell? ⟨W3.heap.size + 2, 0, none⟩ = some (Value.string (txt (S.take K ++ S.drop (K + 1)))) := by rw [hW5, World.cell?_drew]; exact World.cell?_alloc_at _ _ _ _ (by simp)
          have hc1 : W5.cell? ⟨W3.heap.size + 2, 1, none⟩ = some (Value.string (txt (S.take K ++ x :: S.drop K))) := by rw [hW5, World.cell?_drew]; exact World.cell?_alloc_at _ _ _ _ (by simp)
          have hc2 : W5.cell? ⟨W3.heap.size + 2, 2, none⟩ = some (Value.string (txt (S ++ [x]))) := by rw [hW5, World.cell?_drew]; exact World.cell?_alloc_at _ _ _ _ (by simp)
          have hU : ∀ k : Nat, k < 3 → ∃ u : List UInt8, u.length ≤ 1000 ∧ W5.cell? ⟨W3.heap.size + 2, k, none⟩ = some (Value.string (txt u)) := by
            intro k hk
            match k, hk with
            | 0, _ => exact ⟨_, by simp; omega, hc0⟩
            | 1, _ => exact ⟨_, by simp; omega, hc1⟩
            | 2, _ => exact ⟨_, by simp; omega, hc2⟩
          replace hU := Lib.hid hU
          clear hc0 hc1 hc2
          have hv5 := vars_gr hv3 g35
          replace g35 := Lib.hid g35
          go_region
          all_goals
            rw [← hW5]
            clear cv1 cv2 cv3 hW5 x1 x2 x3
            generalize W3.heap.size + 2 = B at hU ⊢
            go_wp2
            go_loopw [94] (fun i wr => ∃ k : Nat, k ≤ 3 ∧ i = .int .i64 k ∧ Hid (Gr W5 wr)) (fun i _ => 3 - (intOf i).toNat)
            case atStart => exact ⟨0, Nat.zero_le _, rfl, gr_refl _ _⟩
            case round =>
              obtain ⟨k, hk, rfl, hg⟩ := hrel
              by_cases hlt : k < 3
              · obtain ⟨u, hul, hcu⟩ := hU.out k hlt
                have hcu' := gr_cell hg.out hcu
                have hvr := vars_gr hv5 hg.out
                have hki : (k : Int) < 3 := by omega
                have hk0 : (0 : Int) ≤ (k : Int) := by omega
                clear hcu
                go_wp2_with fail
                refine (get_any u _ (by omega) hvr).mono ?_
                rintro e W6 ⟨y1, y2, y3, rfl, hget, g6⟩
                rcases hget with ⟨m, n, hmn, huu, rfl, rfl, rfl⟩ | ⟨hno, rfl, rfl, rfl⟩
                · by_cases hus : u = S
                  · have husT : (u == S) = true := by rw [beq_iff_eq]; exact hus
                    replace huu := Lib.hid huu
                    replace hus := Lib.hid hus
                    go_wp2
                    go_roundw
                    case rel => exact ⟨k + 1, by omega, by go_num, gr_trans hg.out g6⟩
                    case measure => simp [intOf]; omega
                  · have husF : (u == S) = false := by rw [beq_eq_false_iff_ne]; exact hus
                    by_cases hma : m = a
                    · have hnb : n ≠ b := by
                        rintro rfl
                        apply hus
                        rw [huu, hma]
                        exact hS.out
                      have e1 : ((m : Int) == (a : Int)) = true := by rw [beq_iff_eq]; omega
                      have e2 : ((n : Int) == (b : Int)) = false := eqF (by omega)
                      replace huu := Lib.hid huu
                      replace hus := Lib.hid hus
                      replace hma := Lib.hid hma
                      go_wp2
                      go_roundw
                      case rel => exact ⟨k + 1, by omega, by go_num, gr_trans hg.out g6⟩
                      case measure => simp [intOf]; omega
                    · have e1 : ((m : Int) == (a : Int)) = false := eqF (by omega)
                      replace huu := Lib.hid huu
                      replace hus := Lib.hid hus
                      go_wp2
                      go_roundw
                      case rel => exact ⟨k + 1, by omega, by go_num, gr_trans hg.out g6⟩
                      case measure => simp [intOf]; omega
                · replace hno := Lib.hid hno
                  go_wp2
                  go_roundw
                  case rel => exact ⟨k + 1, by omega, by go_num, gr_trans hg.out g6⟩
                  case measure => simp [intOf]; omega
              · obtain rfl : k = 3 := by omega
                go_wp2
                go_ret
                exact ⟨rfl, gr_below (gr_trans (gr_trans G3.out g35.out) hg.out)⟩
      · have haa : ((a : Int) == (c : Int)) = false := eqF (by omega)
        have hst : (S == T) = false := by rw [hinj]; simp; intro h; exact absurd h hac
        replace hinj := Lib.hid hinj
        go_wp2_with fail
        have x1 : (txt S).extract 0 K = txt (S.take K) := str_eq (by rw [Lib.extract_data, txt_data]; rfl)
        have x2 : (txt S).extract (K + 1) S.length = txt (S.drop (K + 1)) := by
          have := ext_end (txt S) (K + 1)
          rw [txt_size, txt_data] at this
          exact str_eq this
        have x3 : (txt S).extract K S.length = txt (S.drop K) := by
          have := ext_end (txt S) K
          rw [txt_size, txt_data] at this
          exact str_eq this
        have k0 : (0 : Int) ≤ (K : Int) := by omega
        have k1 : (K : Int) ≤ ((S.length : Nat) : Int) := by omega
        have k2 : (K : Int) + 1 ≤ ((S.length : Nat) : Int) := by omega
        have k3 : ((K : Int) + 1).toNat = K + 1 := by omega
        have k4 : (0 : Int) ≤ (K : Int) + 1 := by omega
        have kw : IntKind.i64.wrap ((K : Int) + 1) = (K : Int) + 1 := IntWalk.i64_in _ (by omega)
        have t1 : (S.take K).length = K := by rw [List.length_take]; omega
        have t2 : (S.drop (K + 1)).length = S.length - (K + 1) := List.length_drop
        have t3 : (S.drop K).length = S.length - K := List.length_drop
        have cv1 : (convert 26 9 (.slice (some ⟨W3.heap.size, 0, none⟩) 1 1)).run Tryd.prog (W3.alloc (.cells #[.int .u8 x.toNat] 5)).drew = .ok (.string (txt [x])) (W3.alloc (.cells #[.int .u8 x.toNat] 5)).drew := one_conv W3 _ x _ (by simp [World.cell?_drew])
        have cv2 : (convert 26 9 (.slice (some ⟨W3.heap.size, 0, none⟩) 1 1)).run Tryd.prog ((W3.alloc (.cells #[.int .u8 x.toNat] 5)).alloc (.cells #[.int .u8 x.toNat] 5)).drew = .ok (.string (txt [x])) ((W3.alloc (.cells #[.int .u8 x.toNat] 5)).alloc (.cells #[.int .u8 x.toNat] 5)).drew := one_conv W3 _ x _ (by simp [World.cell?_drew])
        have cv3 : (convert 26 9 (.slice (some ⟨W3.heap.size + 1, 0, none⟩) 1 1)).run Tryd.prog ((W3.alloc (.cells #[.int .u8 x.toNat] 5)).alloc (.cells #[.int .u8 x.toNat] 5)).drew = .ok (.string (txt [x])) ((W3.alloc (.cells #[.int .u8 x.toNat] 5)).alloc (.cells #[.int .u8 x.toNat] 5)).drew := one_conv W3 _ x _ (by simp [World.cell?_drew])
        have n1 : (9223372036854775807 < K + (S.length - (K + 1))) = False := by simp; omega
        have n2 : (9223372036854775807 < K + 1) = False := by simp; omega
        have n3 : (9223372036854775807 < K + 1 + (S.length - K)) = False := by simp; omega
        have n4 : (9223372036854775807 < S.length + 1) = False := by simp; omega
        have hW5 : ∃ W5, W5 = (((W3.alloc (Obj.cells #[Value.int IntKind.u8 x.toNat] 5)).alloc (Obj.cells #[Value.int IntKind.u8 x.toNat] 5)).alloc (Obj.cells #[Value.string (txt (S.take K ++ S.drop (K + 1))), Value.string (txt (S.take K ++ x :: S.drop K)), Value.string (txt (S ++ [x]))] 9)).drew := ⟨_, rfl⟩
        obtain ⟨W5, hW5⟩ := hW5
        have g35 : Gr W3 W5 := by rw [hW5]; exact gr_trans (gr_trans (gr_trans (gr_alloc _ _ _) (gr_alloc _ _ _)) (gr_alloc _ _ _)) (gr_drew _ _)
        have hc0 : W5.cell? ⟨W3.heap.size + 2, 0, none⟩ = some (Value.string (txt (S.take K ++ S.drop (K + 1)))) := by rw [hW5, World.cell?_drew]; exact World.cell?_alloc_at _ _ _ _ (by simp)
        have hc1 : W5.cell? ⟨W3.heap.size + 2, 1, none⟩ = some (Value.string (txt (S.take K ++ x :: S.drop K))) := by rw [hW5, World.cell?_drew]; exact World.cell?_alloc_at _ _ _ _ (by simp)
        have hc2 : W5.cell? ⟨W3.heap.size + 2, 2, none⟩ = some (Value.string (txt (S ++ [x]))) := by rw [hW5, World.cell?_drew]; exact World.cell?_alloc_at _ _ _ _ (by simp)
        have hU : ∀ k : Nat, k < 3 → ∃ u : List UInt8, u.length ≤ 1000 ∧ W5.cell? ⟨W3.heap.size + 2, k, none⟩ = some (Value.string (txt u)) := by
          intro k hk
          match k, hk with
          | 0, _ => exact ⟨_, by simp; omega, hc0⟩
          | 1, _ => exact ⟨_, by simp; omega, hc1⟩
          | 2, _ => exact ⟨_, by simp; omega, hc2⟩
        replace hU := Lib.hid hU
        clear hc0 hc1 hc2
        have hv5 := vars_gr hv3 g35
        replace g35 := Lib.hid g35
        go_region
        all_goals
          rw [← hW5]
          clear cv1 cv2 cv3 hW5 x1 x2 x3
          generalize W3.heap.size + 2 = B at hU ⊢
          go_wp2
          go_loopw [94] (fun i wr => ∃ k : Nat, k ≤ 3 ∧ i = .int .i64 k ∧ Hid (Gr W5 wr)) (fun i _ => 3 - (intOf i).toNat)
          case atStart => exact ⟨0, Nat.zero_le _, rfl, gr_refl _ _⟩
          case round =>
            obtain ⟨k, hk, rfl, hg⟩ := hrel
            by_cases hlt : k < 3
            · obtain ⟨u, hul, hcu⟩ := hU.out k hlt
              have hcu' := gr_cell hg.out hcu
              have hvr := vars_gr hv5 hg.out
              have hki : (k : Int) < 3 := by omega
              have hk0 : (0 : Int) ≤ (k : Int) := by omega
              clear hcu
              go_wp2_with fail
              refine (get_any u _ (by omega) hvr).mono ?_
              rintro e W6 ⟨y1, y2, y3, rfl, hget, g6⟩
              rcases hget with ⟨m, n, hmn, huu, rfl, rfl, rfl⟩ | ⟨hno, rfl, rfl, rfl⟩
              · by_cases hus : u = S
                · have husT : (u == S) = true := by rw [beq_iff_eq]; exact hus
                  replace huu := Lib.hid huu
                  replace hus := Lib.hid hus
                  go_wp2
                  go_roundw
                  case rel => exact ⟨k + 1, by omega, by go_num, gr_trans hg.out g6⟩
                  case measure => simp [intOf]; omega
                · have husF : (u == S) = false := by rw [beq_eq_false_iff_ne]; exact hus
                  by_cases hma : m = a
                  · have hnb : n ≠ b := by
                      rintro rfl
                      apply hus
                      rw [huu, hma]
                      exact hS.out
                    have e1 : ((m : Int) == (a : Int)) = true := by rw [beq_iff_eq]; omega
                    have e2 : ((n : Int) == (b : Int)) = false := eqF (by omega)
                    replace huu := Lib.hid huu
                    replace hus := Lib.hid hus
                    replace hma := Lib.hid hma
                    go_wp2
                    go_roundw
                    case rel => exact ⟨k + 1, by omega, by go_num, gr_trans hg.out g6⟩
                    case measure => simp [intOf]; omega
                  · have e1 : ((m : Int) == (a : Int)) = false := eqF (by omega)
                    replace huu := Lib.hid huu
                    replace hus := Lib.hid hus
                    go_wp2
                    go_roundw
                    case rel => exact ⟨k + 1, by omega, by go_num, gr_trans hg.out g6⟩
                    case measure => simp [intOf]; omega
              · replace hno := Lib.hid hno
                go_wp2
                go_roundw
                case rel => exact ⟨k + 1, by omega, by go_num, gr_trans hg.out g6⟩
                case measure => simp [intOf]; omega
            · obtain rfl : k = 3 := by omega
              go_wp2
              go_ret
              exact ⟨rfl, gr_below (gr_trans (gr_trans G3.out g35.out) hg.out)⟩


set_option maxRecDepth 100000 in
theorem door_met (os : Os) (args : Array Value) : laidMetH Tryd.prog Rows.slipUnlikeRow.laid ((World.doorLaid Tryd.prog 62 os).forCall (fun _ _ => 0) ⟨#[], args, []⟩).memory :=
  laidMetH_of_parts3 (fuel := 8) (laidMet_of_run' 8 (by kernel_rfl) (by kernel_rfl)) (by kernel_rfl) (by kernel_rfl)

set_option maxRecDepth 100000 in
theorem lifted (os : Os) (started : os.Started) (H : Type) (enc : TypeId × Value → H) :
    ReturnsInHanded {} Tryd.checked os 3 .any (fun w args => (Rows.slipUnlikeSpec.pre enc Tryd.prog Tryd.f3 [] false w args ∧ laidMetH Tryd.prog Rows.slipUnlikeRow.laid w) ∧ sizedMet enc Tryd.prog Tryd.f3 (OpenSpec.ofChange Rows.slipUnlikeSpec) false w args) (Rows.slipUnlikeSpec.post enc Tryd.prog Tryd.f3 false true false false) := by
  refine returnsInHanded_of_change_and (C := Tryd.checked) (X := fun w _ => laidMetH Tryd.prog Rows.slipUnlikeRow.laid w) (fun _ _ _ hh h => h.of_heap hh) own started (by kernel_rfl) Tryd.func3
    (ChangeSpec.witness_shaped (enc := enc) (C := Tryd.checked) (os := os) (X := fun w _ => laidMetH Tryd.prog Rows.slipUnlikeRow.laid w) false (World.doorLaid Tryd.prog 62 os) #[.int .i64 0, .int .i64 0, .int .i64 0, .int .i64 0, .int .i64 0, .int .u8 0] 8 rfl (World.shaped_of_RefB (by kernel_rfl) (by kernel_rfl)) (by kernel_rfl) (by kernel_rfl) (by kernel_rfl) (door_met os _)) ?_
  intro W base args ds gs before hval0 hW _ _ hL _
  have hval : ∀ (j : Nat) t v, Tryd.f3.params[j]? = some t → args[j]? = some v → Value.okWide Tryd.prog W .any base t v := hval0
  have hW' := hW
  obtain ⟨p, q, hA0, hV, rfl, hfz, hnd⟩ := hW
  have hA : DataW.TrodAll enc Tryd.prog W 0 (fun _ => true) true Tryd.f3.params.toList args.toList ds p := hA0
  rw [Tryd.params3] at hA hval
  obtain ⟨v0, vs0, d0, ds0, p0, q0, hargs, rfl, rfl, h0, r0⟩ := trodAll_cons hA
  obtain ⟨v1, vs1, d1, ds1, p1, q1, rfl, rfl, rfl, h1, r1⟩ := trodAll_cons r0
  obtain ⟨v2, vs2, d2, ds2, p2, q2, rfl, rfl, rfl, h2, r2⟩ := trodAll_cons r1
  obtain ⟨v3, vs3, d3, ds3, p3, q3, rfl, rfl, rfl, h3, r3⟩ := trodAll_cons r2
  obtain ⟨v4, vs4, d4, ds4, p4, q4, rfl, rfl, rfl, h4, r4⟩ := trodAll_cons r3
  obtain ⟨v5, vs5, d5, ds5, p5, q5, rfl, rfl, rfl, h5, r5⟩ := trodAll_cons r4
  obtain ⟨rfl, rfl, rfl⟩ := trodAll_nil r5
  obtain rfl : args = #[v0, v1, v2, v3, v4, v5] := by cases args; simp_all
  obtain ⟨rfl, rfl⟩ := trodVars_none hV
  obtain ⟨a0, rfl, rfl, rfl, w0⟩ := open_int Tryd.underlying3 (hval 0 3 v0 rfl rfl) h0
  obtain ⟨a1, rfl, rfl, rfl, w1⟩ := open_int Tryd.underlying3 (hval 1 3 v1 rfl rfl) h1
  obtain ⟨a2, rfl, rfl, rfl, w2⟩ := open_int Tryd.underlying3 (hval 2 3 v2 rfl rfl) h2
  obtain ⟨a3, rfl, rfl, rfl, w3⟩ := open_int Tryd.underlying3 (hval 3 3 v3 rfl rfl) h3
  obtain ⟨a4, rfl, rfl, rfl, w4⟩ := open_int Tryd.underlying3 (hval 4 3 v4 rfl rfl) h4
  obtain ⟨a5, rfl, rfl, rfl, w5⟩ := open_int Tryd.underlying5 (hval 5 5 v5 rfl rfl) h5
  clear hA0 hval0
  refine (walk W hL a0 w0 a1 w1 a2 w2 a3 w3 a4 w4 a5 w5).mono fun e W' ⟨he, bel⟩ => ?_
  subst he
  exact ⟨_, rfl, _, _, _, [], _, [], hW', trodAll_mk1 (shut_bool Tryd.underlying4 _), (trodAll_cons_mk (shut_int Tryd.underlying3 w0) (trodAll_cons_mk (shut_int Tryd.underlying3 w1) (trodAll_cons_mk (shut_int Tryd.underlying3 w2) (trodAll_cons_mk (shut_int Tryd.underlying3 w3) (trodAll_cons_mk (shut_int Tryd.underlying3 w4) (trodAll_cons_mk (shut_int Tryd.underlying5 w5) trodAll_mk0)))))), rfl, bel.frame _, fun h => by cases h⟩

theorem over : Rows.slipUnlikeRow.holds Tryd.pinned (OpenSpec.ofChange Rows.slipUnlikeSpec) :=
  OpenClaim.holds_of_wide 3 Tryd.f3 rfl rfl rfl rfl rfl rfl rfl ⟨rfl, rfl, rfl, rfl, rfl⟩ rfl rfl rfl rfl rfl (by kernel_rfl) Tryd.func3 (by kernel_rfl)
    (of_decide_eq_true (by kernel_rfl)) (by unfold Func.isWrapper; first | (rw [if_pos (by decide +kernel)]; kernel_rfl) | (rw [if_neg (by decide +kernel)]; exact ⟨rfl, rfl⟩))
    (fun os started H enc _ => lifted os started H enc)

/-- THE STATEMENT -/
theorem proved : Rows.SlipUnlikeCardSaid :=
  Claim7.holds_tied_plain_at .later [] [.data, .data, .data, .sentinel, .sentinel] true (true, "aca53c241e5f8e454f8ed5672da97628d3022438e1217d830dae172dc0633cbd") true
    over (fun _ h => by cases h) (by kernel_rfl) (fun _ h => by cases h) slipUnlike_row_tie rfl ⟨rfl, rfl⟩ (by kernel_rfl) rfl
    (fun f fn hf hfn => by
      obtain rfl : f = 3 := Option.some.inj ((show Tryd.prog.funcNamed "leporello/leporellolaw20.SlipUnlike" = some 3 by kernel_rfl).symm.trans hf) |>.symm
      obtain rfl : fn = Tryd.f3 := (Option.some.inj (Tryd.func3.symm.trans hfn)).symm
      exact ⟨by kernel_rfl, fun j t ht => by
        rw [Tryd.params3] at ht
        have hm : t ∈ [3, 3, 3, 3, 3, 5] := by simpa using Array.mem_of_getElem? ht
        have hall : ([3, 3, 3, 3, 3, 5].all fun u => !Tryd.prog.wantsStandIn u) = true := by kernel_rfl
        exact (show Tryd.prog.wantsStandIn t = false by simpa using List.all_eq_true.1 hall t hm)⟩)
    (by kernel_rfl)
#print axioms proved
end Go.Proofs.YthilgkfloonbjaaDoor.slipUnlike

