/-
  DeskSlips holds of the program: for every input the call returns true and leaves what came in as it was. No condition.
-/
import Derived.Test.YtilbeoblppigeaaDoorRows
import Derived.Test.YtilbeoblppigeaaDoorCards
import Derived.Test.YtilbeoblppigeaaDoorTie
import Derived.LaidMore
import Derived.Stop.Joined
import Derived.Stop.LaidErr
import Derived.Lib.LaidTab
import Derived.SevenTiedAt
import Derived.Test.YtilbeoblppigeaaDoorDeskSlipMath
import Derived.Test.YtilbeoblppigeaaDoorSlipVars
import Derived.WalkKit
import Derived.ProofKit
import Derived.OpenShut
import Derived.ShutString
import Derived.ChangeOld
import Derived.Below
namespace Go.Proofs.YtilbeoblppigeaaDoor.deskSlips
open Go.ChangeShapes Go.WideShapes Go.ChangeAt Go.RowKit
open Go.ChangeMaps (open_string shut_string)
set_option linter.unusedVariables false

theorem own : ownKnob Tryd.prog.godebug = none := by kernel_rfl
theorem laidOut : laidOutB Tryd.prog = true := by kernel_rfl
theorem cu_ne_dk {w : World} {b D : Nat} {x : Cur} {nx now pts : Int} {op : Value} {seg : List UInt8} (h : CuB w b x) (k : DkB w D nx now op seg pts) : b ≠ D := by
  intro e
  subst e
  unfold CuB at h
  unfold DkB at k
  rw [h] at k
  injection k with k1
  injection k1 with _ k2
  exact absurd k2 (by decide)
set_option maxHeartbeats 16000000 in
set_option maxRecDepth 100000 in
theorem walk (w : World) (hL : laidMetH Tryd.prog Rows.deskSlipsRow.laid w) (a0 : Int) (w0 : (Lit.int .i64 a0).wf = true) (a1 : Int) (w1 : (Lit.int .i64 a1).wf = true) (a2 : Int) (w2 : (Lit.int .i64 a2).wf = true) (a3 : Int) (w3 : (Lit.int .i64 a3).wf = true) (a4 : Int) (w4 : (Lit.int .i64 a4).wf = true) (a5 : Bool) :
    Calls Tryd.prog 6 #[.int .i64 a0, .int .i64 a1, .int .i64 a2, .int .i64 a3, .int .i64 a4, .bool a5] w fun e w' => e = .returned (.bool true) ∧ Below w.heap.size w w' := by
  have hv : Vars w := vars_of hL
  clear hL w0 w1 w2 w3 w4
  by_cases c : 0 ≤ a0 ∧ a0 ≤ 2000 ∧ 1 ≤ a1 ∧ a1 ≤ 100 ∧ 0 ≤ a2 ∧ a2 ≤ 1000 ∧ 0 ≤ a3 ∧ a3 ≤ 2000 ∧ 1 ≤ a4 ∧ a4 ≤ 2000
  · obtain ⟨rows, rfl⟩ : ∃ n : Nat, a0 = n := ⟨a0.toNat, by omega⟩
    obtain ⟨size, rfl⟩ : ∃ n : Nat, a1 = n := ⟨a1.toNat, by omega⟩
    obtain ⟨ticks, rfl⟩ : ∃ n : Nat, a2 = n := ⟨a2.toNat, by omega⟩
    obtain ⟨from_, rfl⟩ : ∃ n : Nat, a3 = n := ⟨a3.toNat, by omega⟩
    obtain ⟨tick, rfl⟩ : ∃ n : Nat, a4 = n := ⟨a4.toNat, by omega⟩
    obtain ⟨c1, c2, c3, c4, c5, c6, c7, c8, c9, c10⟩ := c
    have hr : rows ≤ 2000 := by omega
    have hs : 0 < size := by omega
    have hs2 : size ≤ 100 := by omega
    have hok : SlipOk 1 from_ := ⟨by omega, by omega, by omega⟩
    have cF := fun W => fold0 W
    have e20 : txt (slipL 2 0) = ⟨#[112, 50, 46, 48]⟩ := by rw [slip_2_0]; rfl
    have e00 : txt [112, 49, 46, 48, 48] = ⟨#[112, 49, 46, 48, 48]⟩ := rfl
    obtain ⟨F, hF⟩ : ∃ F, F = runL 1 := ⟨_, rfl⟩
    replace cF := Lib.hid cF
    replace hv := Lib.hid hv
    replace hok := Lib.hid hok
    go_enter Tryd.func6, Tryd.ntmps6
    go_wp2_with fail
    refine (alive_any _ hv.out).mono ?_
    rintro e W1 ⟨rfl, g1⟩
    go_wp2_with fail
    refine (cF.out _).mono ?_
    rintro e W2 ⟨rfl, g2⟩
    go_wp2_with fail
    refine (dkin_new w W2 (gr_trans g1 g2)).mono ?_
    rintro e W3 ⟨D, rfl, h3⟩
    clear cF g1 g2
    replace h3 := Lib.hid h3
    go_wp2_with fail
    refine (dkin_open h3.out hv.out rows size ticks 1 hr hs hs2 (by omega) (by simp only; omega) (by omega) rfl (by omega)).mono ?_
    rintro e W4 ⟨rfl, ⟨A, c, h4⟩, gS⟩
    have h4' : DkIn w W4 D ⟨2, 0, [⟨1, rows, size, ticks, runL 1⟩], [], 0⟩ A 1 c := by
      have := h4
      simp only [List.nil_append, Int.zero_add] at this
      exact this
    clear h4 gS h3
    unfold curV
    simp only [Int.zero_add]
    rw [← hF] at h4' ⊢
    replace hF := Lib.hid hF
    replace h4' := Lib.hid h4'
    go_upto_region 7 with fail
    have hX : CuB (W4.alloc (.cells #[.int .i64 1, .int .i64 (rows : Int), .int .i64 (size : Int), .int .i64 (ticks : Int), .string (txt F)] 30)) W4.heap.size ⟨1, rows, size, ticks, F⟩ := blk_new W4 _
    have gX := gr_alloc W4 (.cells #[.int .i64 1, .int .i64 (rows : Int), .int .i64 (size : Int), .int .i64 (ticks : Int), .string (txt F)] 30) none
    generalize W4.alloc (.cells #[.int .i64 1, .int .i64 (rows : Int), .int .i64 (size : Int), .int .i64 (ticks : Int), .string (txt F)] 30) = Wa at hX gX ⊢
    generalize W4.heap.size = CB at hX ⊢
    have ha := dkIn_gr h4'.out gX
    obtain ⟨x0, x1, x2, x3, x4⟩ := cub_cells hX
    simp only at x0 x1 x2 x3 x4
    replace ha := Lib.hid ha
    replace hX := Lib.hid hX
    clear h4' gX
    go_wp2_with fail
    refine (refSlip_any 1 from_ _ (by omega) (by omega)).mono ?_
    rintro e W5 ⟨rfl, g5⟩
    have ha5 := dkIn_gr ha.out g5
    have hop : ∀ y ∈ ([⟨1, rows, size, ticks, F⟩] : List Cur), PgOk y := fun y hy => by
      rw [List.mem_singleton.1 hy]
      exact ⟨rows, size, rfl, rfl, hr, hs, hs2⟩
    have hX5 : CuB W5 CB ⟨1, rows, size, ticks, F⟩ := gr_blk g5 hX.out (by simp)
    have hlen16 := (slip_len hok.out).1
    have cFd := fun W (g : Gr W5 W) => dkin_find (dkIn_gr ha5 g) hv.out (by omega) hop (slipL 1 from_) (by omega)
    have cF2 := fun W (g : Gr W5 W) => dkin_find (dkIn_gr ha5 g) hv.out (by omega) hop (slipL 2 0) (by rw [slip_2_0]; decide)
    have cF0 := fun W (g : Gr W5 W) => dkin_find (dkIn_gr ha5 g) hv.out (by omega) hop [112, 49, 46, 48, 48] (by decide)
    rw [e20] at cF2
    rw [e00] at cF0
    have hfo := fun x fr e (h : FindIs 2 [⟨1, rows, size, ticks, F⟩] (slipL 1 from_) x fr e) => find_one (R := rows) (S := size) h rfl rfl rfl hok.out
    have hip := in_pages (R := rows) (S := size) (f := from_) hs
    obtain ⟨L, hL⟩ : ∃ L, L = slipL 1 from_ := ⟨_, rfl⟩
    rw [← hL] at cFd hfo ⊢
    replace hL := Lib.hid hL
    replace cFd := Lib.hid cFd
    replace cF2 := Lib.hid cF2
    replace cF0 := Lib.hid cF0
    replace hfo := Lib.hid hfo
    replace hip := Lib.hid hip
    replace ha5 := Lib.hid ha5
    replace hX5 := Lib.hid hX5
    replace hop := Lib.hid hop
    clear g5 ha hX x0 x1 x2 x3 x4 hlen16
    go_wp2_with fail
    refine (cFd.out _ (gr_refl _ _)).mono ?_
    rintro e w6 ⟨x, fr, ee, rfl, hf, g6⟩
    have hf2 := hfo.out _ _ _ hf
    clear hf hfo
    by_cases hp : from_ % size = 0 ∧ (from_ < rows ∨ from_ = 0)
    · obtain ⟨rfl, rfl, rfl⟩ : x = ⟨1, rows, size, ticks, F⟩ ∧ fr = from_ ∧ ee = 0 := by
        rcases hf2 with ⟨_, ⟨_, h⟩ | ⟨h, _⟩⟩ | ⟨h, _⟩
        · exact h
        · exact absurd (hip.out.2 hp) h
        · exact absurd rfl h
      clear hf2
      replace hp := Lib.hid hp
      unfold curV
      go_upto_region 9 with fail
      have hY := gr_blk g6 hX5.out (by simp)
      have gY := gr_trans g6 (gr_alloc w6 (.cells #[.int .i64 1, .int .i64 (rows : Int), .int .i64 (size : Int), .int .i64 (ticks : Int), .string (txt F)] 30) none)
      have hX7 : CuB (w6.alloc (.cells #[.int .i64 1, .int .i64 (rows : Int), .int .i64 (size : Int), .int .i64 (ticks : Int), .string (txt F)] 30)) CB ⟨1, rows, size, ticks, F⟩ := gr_blk (gr_alloc w6 _ none) hY (by simp)
      clear hY
      generalize w6.alloc (.cells #[.int .i64 1, .int .i64 (rows : Int), .int .i64 (size : Int), .int .i64 (ticks : Int), .string (txt F)] 30) = W7 at gY hX7 ⊢
      generalize w6.heap.size = B7 at *
      have x0 : W7.cell? ⟨CB, 0, none⟩ = some (.int .i64 1) := (cub_cells hX7).1
      replace gY := Lib.hid gY
      replace hX7 := Lib.hid hX7
      have hsz : ((size : Int) == 0) = false := eqF (by omega)
      have hfr : ((from_ : Int) % (size : Int)) = 0 := by have := hp.out.1; omega
      clear g6
      go_cut [20] (fun pv wx => pv = .bool true ∧ W7 = wx)
      case first =>
        have hpp := hp.out
        go_wp2_with fail
        all_goals
          go_meet
          refine ⟨?_, rfl⟩
          first | rfl | (congr 1; simp; omega) | (exfalso; omega)
      case rest =>
      obtain ⟨rfl, rfl⟩ := hcut
      have cu : curV cu0 = .agg #[.int .i64 0, .int .i64 0, .int .i64 0, .int .i64 0, .string ⟨#[]⟩] := rfl
      go_wp2_with fail
      refine (cF2.out _ gY.out).mono ?_
      rintro e w8 ⟨x, fr, ee, rfl, hf, g8⟩
      obtain ⟨rfl, rfl, rfl⟩ : x = cu0 ∧ fr = 0 ∧ ee = 11 := by
        rcases find_one (R := rows) (S := size) hf rfl rfl rfl (by unfold SlipOk; omega) with ⟨h, _⟩ | ⟨_, h⟩
        · cases h
        · exact h
      clear hf
      rw [cu]
      go_wp2_with fail
      refine (cF0.out _ (gr_trans gY.out (gr_trans g8 (gr_alloc _ _ _)))).mono ?_
      rintro e w9 ⟨x, fr, ee, rfl, hf, g9⟩
      obtain ⟨rfl, rfl, rfl⟩ := find_no hf no_slip00
      clear hf
      rw [cu]
      have g10 := gr_trans gY.out (gr_trans (gr_trans g8 (gr_alloc _ (.cells #[.int .i64 0, .int .i64 0, .int .i64 0, .int .i64 0, .string ⟨#[]⟩] 30) _)) (gr_trans g9 (gr_alloc w9 (.cells #[.int .i64 0, .int .i64 0, .int .i64 0, .int .i64 0, .string ⟨#[]⟩] 30) none)))
      go_upto_region 14 with fail
      generalize w9.alloc (.cells #[.int .i64 0, .int .i64 0, .int .i64 0, .int .i64 0, .string ⟨#[]⟩] 30) = Wb at g10 ⊢
      have hb := dkIn_gr ha5.out g10
      have hXb : CuB Wb CB ⟨1, rows, size, ticks, F⟩ := gr_blk g10 hX5.out (by simp)
      replace hb := Lib.hid hb
      replace hXb := Lib.hid hXb
      clear g10 g8 g9 cF2 cF0 gY hX7 x0
      cases a5 with
      | true =>
        go_wp2_with fail
        refine (dkin_close hb.out (by omega) 1).mono ?_
        rintro e w11 hc
        obtain ⟨rfl, h11⟩ := close_one hc rfl
        clear hc
        unfold curV
        go_wp2_with fail
        have hE := dkin_find (dkIn_gr h11 (gr_alloc w11 (.cells #[.int .i64 1, .int .i64 (rows : Int), .int .i64 (size : Int), .int .i64 (ticks : Int), .string (txt F)] 30) none)) hv.out (by omega) (fun y hy => by cases hy) L (by rw [hL.out]; have := (slip_len hok.out).1; omega)
        refine hE.mono ?_
        rintro e w12 ⟨x, fr, ee, rfl, hf, g12⟩
        rw [hL.out] at hf
        obtain ⟨rfl, rfl, rfl⟩ := find_gone hf hok.out
        clear hf hE
        rw [cu]
        have h13 := dkIn_gr h11 (gr_trans (gr_alloc w11 (.cells #[.int .i64 1, .int .i64 (rows : Int), .int .i64 (size : Int), .int .i64 (ticks : Int), .string (txt F)] 30) none) (gr_trans g12 (gr_alloc w12 (.cells #[.int .i64 0, .int .i64 0, .int .i64 0, .int .i64 0, .string ⟨#[]⟩] 30) none)))
        replace h13 := Lib.hid h13
        clear h11 g12
        go_wp2_with fail
        refine (dkin_close h13.out (by omega) 1).mono ?_
        rintro e w14 hc
        obtain ⟨rfl, h14⟩ := close_gone hc
        clear hc
        rw [cu]
        replace h14 := Lib.hid h14
        go_wp2
        go_ret
        exact ⟨rfl, gr_below (gr_trans h14.out.gr (gr_alloc _ _ _))⟩
      | false =>
        go_wp2_with fail
        refine (dkin_tick hb.out tick (by omega) (by simp only; omega) (by omega)).mono ?_
        rintro e w11 ⟨v, A2, m, c2, rfl, hown, h11, g11⟩
        simp only [Int.zero_add] at hown h11
        by_cases hlt : ticks < tick
        · have hd : decide ((ticks : Int) < (tick : Int)) = true := decide_eq_true (by omega)
          simp only [List.filter_cons, List.filter_nil, hd, if_true, Bool.not_true, Bool.false_eq_true, if_false] at hown h11
          obtain rfl : 0 = m := dkIs_len h11.dk
          obtain ⟨A3, c3, rfl, _, _⟩ := own_openS hown
          have hXt : CuB w11 CB ⟨1, rows, size, ticks, F⟩ := gr_blk g11 hXb.out (by have := cu_ne_dk hXb.out hb.out.dk.blk; simp; omega)
          obtain ⟨x, B, o, hx, rfl, _, hc⟩ := rowS_elem curC_len (row_own hown) (by decide) (k := 0) (by simp)
          obtain rfl : x = ⟨1, rows, size, ticks, F⟩ := by simpa using hx.symm
          have hcl : ∀ W, Gr w11 W → W.cell? ⟨B, o + 0 * 5, none⟩ = some (.int .i64 1) ∧ W.cell? ⟨B, o + 0 * 5 + 1, none⟩ = some (.int .i64 (rows : Int)) ∧ W.cell? ⟨B, o + 0 * 5 + 2, none⟩ = some (.int .i64 (size : Int)) ∧ W.cell? ⟨B, o + 0 * 5 + 3, none⟩ = some (.int .i64 (ticks : Int)) ∧ W.cell? ⟨B, o + 0 * 5 + 4, none⟩ = some (.string (txt F)) := fun W g => ⟨gr_cell g (hc 0 (by decide)), gr_cell g (hc 1 (by decide)), gr_cell g (hc 2 (by decide)), gr_cell g (hc 3 (by decide)), gr_cell g (hc 4 (by decide))⟩
          simp only [List.length_cons, List.length_nil, Nat.zero_add] at hown ⊢
          have hE := dkin_find h11 hv.out (by omega) (fun y hy => by cases hy) L (by rw [hL.out]; have := (slip_len hok.out).1; omega)
          replace hcl := Lib.hid hcl
          replace hXt := Lib.hid hXt
          replace h11 := Lib.hid h11
          have hli : (tick : Int) > (ticks : Int) := by omega
          clear hc hx hown g11 hXb
          go_wp2_with fail
          refine hE.mono ?_
          rintro e w12 ⟨x, fr, ee, rfl, hf, g12⟩
          rw [hL.out] at hf
          obtain ⟨rfl, rfl, rfl⟩ := find_gone hf hok.out
          clear hf hE
          rw [cu]
          go_upto_region 24 with fail
          have g13 := gr_trans g12 (gr_alloc w12 (.cells #[.int .i64 0, .int .i64 0, .int .i64 0, .int .i64 0, .string ⟨#[]⟩] 30) none)
          generalize w12.alloc (.cells #[.int .i64 0, .int .i64 0, .int .i64 0, .int .i64 0, .string ⟨#[]⟩] 30) = We at g13 ⊢
          obtain ⟨l0, l1, l2, l3, l4⟩ := hcl.out We g13
          obtain ⟨y0, y1, y2, y3, y4⟩ := cub_cells (show CuB We CB ⟨1, rows, size, ticks, F⟩ from gr_blk g13 hXt.out (by simp))
          simp only [Nat.zero_mul, Nat.add_zero] at l0 l1 l2 l3 l4
          simp only at y0 y1 y2 y3 y4
          have hend := gr_trans h11.out.gr g13
          replace hend := Lib.hid hend
          go_quiet (fail)
          go_wp2
          go_ret
          exact ⟨rfl, gr_below (gr_trans hend.out (gr_drewN _ _ _))⟩
        · have hd : decide ((ticks : Int) < (tick : Int)) = false := decide_eq_false (by omega)
          simp only [List.filter_cons, List.filter_nil, hd, if_true, Bool.not_false, Bool.false_eq_true, if_false] at hown h11
          obtain rfl : 1 = m := dkIs_len h11.dk
          obtain ⟨A3, c3, rfl, _, _⟩ := own_openS hown
          simp only [List.length_nil] at hown ⊢
          have hE := dkin_find h11 hv.out (by omega) hop.out L (by rw [hL.out]; have := (slip_len hok.out).1; omega)
          replace h11 := Lib.hid h11
          have hnl : ¬ ((tick : Int) > (ticks : Int)) := by omega
          clear hown g11 hXb
          go_wp2_with fail
          refine hE.mono ?_
          rintro e w12 ⟨x, fr, ee, rfl, hf, g12⟩
          rw [hL.out] at hf
          have hf2 := find_one (R := rows) (S := size) hf rfl rfl rfl hok.out
          clear hf hE
          obtain ⟨rfl, rfl, rfl⟩ : x = ⟨1, rows, size, ticks, F⟩ ∧ fr = from_ ∧ ee = 0 := by
            rcases hf2 with ⟨_, ⟨_, h⟩ | ⟨h, _⟩⟩ | ⟨h, _⟩
            · exact h
            · exact absurd (hip.out.2 hp.out) h
            · exact absurd rfl h
          unfold curV
          clear hf2
          go_wp2
          go_ret
          exact ⟨rfl, gr_below (gr_trans h11.out.gr (gr_trans g12 (gr_alloc _ _ _)))⟩
    · obtain ⟨rfl, rfl, rfl⟩ : x = cu0 ∧ fr = 0 ∧ ee = 11 := by
        rcases hf2 with ⟨_, ⟨h, _⟩ | ⟨_, h⟩⟩ | ⟨h, _⟩
        · exact absurd (hip.out.1 h) hp
        · exact h
        · exact absurd rfl h
      clear hf2
      obtain ⟨r, hrr⟩ : ∃ r, r = from_ % size := ⟨_, rfl⟩
      have hpr : ¬ (r = 0 ∧ (from_ < rows ∨ from_ = 0)) := by rw [hrr]; exact hp
      have hfr : ((from_ : Int) % (size : Int)) = (r : Int) := by rw [hrr]; rfl
      replace hp := Lib.hid hp
      replace hrr := Lib.hid hrr
      replace hpr := Lib.hid hpr
      rw [show curV cu0 = .agg #[.int .i64 0, .int .i64 0, .int .i64 0, .int .i64 0, .string ⟨#[]⟩] from rfl]
      go_upto_region 9 with fail
      have hY := gr_blk g6 hX5.out (by simp)
      have gY := gr_trans g6 (gr_alloc w6 (.cells #[.int .i64 0, .int .i64 0, .int .i64 0, .int .i64 0, .string ⟨#[]⟩] 30) none)
      have hX7 : CuB (w6.alloc (.cells #[.int .i64 0, .int .i64 0, .int .i64 0, .int .i64 0, .string ⟨#[]⟩] 30)) CB ⟨1, rows, size, ticks, F⟩ := gr_blk (gr_alloc w6 _ none) hY (by simp)
      clear hY
      generalize w6.alloc (.cells #[.int .i64 0, .int .i64 0, .int .i64 0, .int .i64 0, .string ⟨#[]⟩] 30) = W7 at gY hX7 ⊢
      generalize w6.heap.size = B7 at *
      have x0 : W7.cell? ⟨CB, 0, none⟩ = some (.int .i64 1) := (cub_cells hX7).1
      replace gY := Lib.hid gY
      replace hX7 := Lib.hid hX7
      have hsz : ((size : Int) == 0) = false := eqF (by omega)
      clear g6
      go_cut [20] (fun pv wx => pv = .bool false ∧ W7 = wx)
      case first =>
        have hpp := hpr.out
        go_wp2_with fail
        all_goals
          go_meet
          refine ⟨?_, rfl⟩
          first | rfl | (congr 1; simp; omega) | (exfalso; omega)
      case rest =>
      obtain ⟨rfl, rfl⟩ := hcut
      have cu : curV cu0 = .agg #[.int .i64 0, .int .i64 0, .int .i64 0, .int .i64 0, .string ⟨#[]⟩] := rfl
      go_wp2_with fail
      refine (cF2.out _ gY.out).mono ?_
      rintro e w8 ⟨x, fr, ee, rfl, hf, g8⟩
      obtain ⟨rfl, rfl, rfl⟩ : x = cu0 ∧ fr = 0 ∧ ee = 11 := by
        rcases find_one (R := rows) (S := size) hf rfl rfl rfl (by unfold SlipOk; omega) with ⟨h, _⟩ | ⟨_, h⟩
        · cases h
        · exact h
      clear hf
      rw [cu]
      go_wp2_with fail
      refine (cF0.out _ (gr_trans gY.out (gr_trans g8 (gr_alloc _ _ _)))).mono ?_
      rintro e w9 ⟨x, fr, ee, rfl, hf, g9⟩
      obtain ⟨rfl, rfl, rfl⟩ := find_no hf no_slip00
      clear hf
      rw [cu]
      have g10 := gr_trans gY.out (gr_trans (gr_trans g8 (gr_alloc _ (.cells #[.int .i64 0, .int .i64 0, .int .i64 0, .int .i64 0, .string ⟨#[]⟩] 30) _)) (gr_trans g9 (gr_alloc w9 (.cells #[.int .i64 0, .int .i64 0, .int .i64 0, .int .i64 0, .string ⟨#[]⟩] 30) none)))
      go_upto_region 14 with fail
      generalize w9.alloc (.cells #[.int .i64 0, .int .i64 0, .int .i64 0, .int .i64 0, .string ⟨#[]⟩] 30) = Wb at g10 ⊢
      have hb := dkIn_gr ha5.out g10
      have hXb : CuB Wb CB ⟨1, rows, size, ticks, F⟩ := gr_blk g10 hX5.out (by simp)
      replace hb := Lib.hid hb
      replace hXb := Lib.hid hXb
      clear g10 g8 g9 cF2 cF0 gY hX7 x0
      cases a5 with
      | true =>
        go_wp2_with fail
        refine (dkin_close hb.out (by omega) 1).mono ?_
        rintro e w11 hc
        obtain ⟨rfl, h11⟩ := close_one hc rfl
        clear hc
        unfold curV
        go_wp2_with fail
        have hE := dkin_find (dkIn_gr h11 (gr_alloc w11 (.cells #[.int .i64 1, .int .i64 (rows : Int), .int .i64 (size : Int), .int .i64 (ticks : Int), .string (txt F)] 30) none)) hv.out (by omega) (fun y hy => by cases hy) L (by rw [hL.out]; have := (slip_len hok.out).1; omega)
        refine hE.mono ?_
        rintro e w12 ⟨x, fr, ee, rfl, hf, g12⟩
        rw [hL.out] at hf
        obtain ⟨rfl, rfl, rfl⟩ := find_gone hf hok.out
        clear hf hE
        rw [cu]
        have h13 := dkIn_gr h11 (gr_trans (gr_alloc w11 (.cells #[.int .i64 1, .int .i64 (rows : Int), .int .i64 (size : Int), .int .i64 (ticks : Int), .string (txt F)] 30) none) (gr_trans g12 (gr_alloc w12 (.cells #[.int .i64 0, .int .i64 0, .int .i64 0, .int .i64 0, .string ⟨#[]⟩] 30) none)))
        replace h13 := Lib.hid h13
        clear h11 g12
        go_wp2_with fail
        refine (dkin_close h13.out (by omega) 1).mono ?_
        rintro e w14 hc
        obtain ⟨rfl, h14⟩ := close_gone hc
        clear hc
        rw [cu]
        replace h14 := Lib.hid h14
        go_wp2
        go_ret
        exact ⟨rfl, gr_below (gr_trans h14.out.gr (gr_alloc _ _ _))⟩
      | false =>
        go_wp2_with fail
        refine (dkin_tick hb.out tick (by omega) (by simp only; omega) (by omega)).mono ?_
        rintro e w11 ⟨v, A2, m, c2, rfl, hown, h11, g11⟩
        simp only [Int.zero_add] at hown h11
        by_cases hlt : ticks < tick
        · have hd : decide ((ticks : Int) < (tick : Int)) = true := decide_eq_true (by omega)
          simp only [List.filter_cons, List.filter_nil, hd, if_true, Bool.not_true, Bool.false_eq_true, if_false] at hown h11
          obtain rfl : 0 = m := dkIs_len h11.dk
          obtain ⟨A3, c3, rfl, _, _⟩ := own_openS hown
          have hXt : CuB w11 CB ⟨1, rows, size, ticks, F⟩ := gr_blk g11 hXb.out (by have := cu_ne_dk hXb.out hb.out.dk.blk; simp; omega)
          obtain ⟨x, B, o, hx, rfl, _, hc⟩ := rowS_elem curC_len (row_own hown) (by decide) (k := 0) (by simp)
          obtain rfl : x = ⟨1, rows, size, ticks, F⟩ := by simpa using hx.symm
          have hcl : ∀ W, Gr w11 W → W.cell? ⟨B, o + 0 * 5, none⟩ = some (.int .i64 1) ∧ W.cell? ⟨B, o + 0 * 5 + 1, none⟩ = some (.int .i64 (rows : Int)) ∧ W.cell? ⟨B, o + 0 * 5 + 2, none⟩ = some (.int .i64 (size : Int)) ∧ W.cell? ⟨B, o + 0 * 5 + 3, none⟩ = some (.int .i64 (ticks : Int)) ∧ W.cell? ⟨B, o + 0 * 5 + 4, none⟩ = some (.string (txt F)) := fun W g => ⟨gr_cell g (hc 0 (by decide)), gr_cell g (hc 1 (by decide)), gr_cell g (hc 2 (by decide)), gr_cell g (hc 3 (by decide)), gr_cell g (hc 4 (by decide))⟩
          simp only [List.length_cons, List.length_nil, Nat.zero_add] at hown ⊢
          have hE := dkin_find h11 hv.out (by omega) (fun y hy => by cases hy) L (by rw [hL.out]; have := (slip_len hok.out).1; omega)
          replace hcl := Lib.hid hcl
          replace hXt := Lib.hid hXt
          replace h11 := Lib.hid h11
          have hli : (tick : Int) > (ticks : Int) := by omega
          clear hc hx hown g11 hXb
          go_wp2_with fail
          refine hE.mono ?_
          rintro e w12 ⟨x, fr, ee, rfl, hf, g12⟩
          rw [hL.out] at hf
          obtain ⟨rfl, rfl, rfl⟩ := find_gone hf hok.out
          clear hf hE
          rw [cu]
          go_upto_region 24 with fail
          have g13 := gr_trans g12 (gr_alloc w12 (.cells #[.int .i64 0, .int .i64 0, .int .i64 0, .int .i64 0, .string ⟨#[]⟩] 30) none)
          generalize w12.alloc (.cells #[.int .i64 0, .int .i64 0, .int .i64 0, .int .i64 0, .string ⟨#[]⟩] 30) = We at g13 ⊢
          obtain ⟨l0, l1, l2, l3, l4⟩ := hcl.out We g13
          obtain ⟨y0, y1, y2, y3, y4⟩ := cub_cells (show CuB We CB ⟨1, rows, size, ticks, F⟩ from gr_blk g13 hXt.out (by simp))
          simp only [Nat.zero_mul, Nat.add_zero] at l0 l1 l2 l3 l4
          simp only at y0 y1 y2 y3 y4
          have hend := gr_trans h11.out.gr g13
          replace hend := Lib.hid hend
          go_quiet (fail)
          go_wp2
          go_ret
          exact ⟨rfl, gr_below (gr_trans hend.out (gr_drewN _ _ _))⟩
        · have hd : decide ((ticks : Int) < (tick : Int)) = false := decide_eq_false (by omega)
          simp only [List.filter_cons, List.filter_nil, hd, if_true, Bool.not_false, Bool.false_eq_true, if_false] at hown h11
          obtain rfl : 1 = m := dkIs_len h11.dk
          obtain ⟨A3, c3, rfl, _, _⟩ := own_openS hown
          simp only [List.length_nil] at hown ⊢
          have hE := dkin_find h11 hv.out (by omega) hop.out L (by rw [hL.out]; have := (slip_len hok.out).1; omega)
          replace h11 := Lib.hid h11
          have hnl : ¬ ((tick : Int) > (ticks : Int)) := by omega
          clear hown g11 hXb
          go_wp2_with fail
          refine hE.mono ?_
          rintro e w12 ⟨x, fr, ee, rfl, hf, g12⟩
          rw [hL.out] at hf
          have hf2 := find_one (R := rows) (S := size) hf rfl rfl rfl hok.out
          clear hf hE
          obtain ⟨rfl, rfl, rfl⟩ : x = cu0 ∧ fr = 0 ∧ ee = 11 := by
            rcases hf2 with ⟨_, ⟨h, _⟩ | ⟨_, h⟩⟩ | ⟨h, _⟩
            · exact absurd (hip.out.1 h) hp.out
            · exact h
            · exact absurd rfl h
          rw [cu]
          clear hf2
          go_wp2
          go_ret
          exact ⟨rfl, gr_below (gr_trans h11.out.gr (gr_trans g12 (gr_alloc _ _ _)))⟩
  · by_cases d0 : a0 < 0
    · go_enter Tryd.func6, Tryd.ntmps6
      go_wp2_with fail
      refine (alive_any _ hv).mono ?_
      rintro e W1 ⟨rfl, g1⟩
      go_wp2
      go_ret
      exact ⟨rfl, gr_below g1⟩
    by_cases d1 : 2000 < a0
    · go_enter Tryd.func6, Tryd.ntmps6
      go_wp2_with fail
      refine (alive_any _ hv).mono ?_
      rintro e W1 ⟨rfl, g1⟩
      go_wp2
      go_ret
      exact ⟨rfl, gr_below g1⟩
    by_cases d2 : a1 < 1
    · go_enter Tryd.func6, Tryd.ntmps6
      go_wp2_with fail
      refine (alive_any _ hv).mono ?_
      rintro e W1 ⟨rfl, g1⟩
      go_wp2
      go_ret
      exact ⟨rfl, gr_below g1⟩
    by_cases d3 : 100 < a1
    · go_enter Tryd.func6, Tryd.ntmps6
      go_wp2_with fail
      refine (alive_any _ hv).mono ?_
      rintro e W1 ⟨rfl, g1⟩
      go_wp2
      go_ret
      exact ⟨rfl, gr_below g1⟩
    by_cases d4 : a2 < 0
    · go_enter Tryd.func6, Tryd.ntmps6
      go_wp2_with fail
      refine (alive_any _ hv).mono ?_
      rintro e W1 ⟨rfl, g1⟩
      go_wp2
      go_ret
      exact ⟨rfl, gr_below g1⟩
    by_cases d5 : 1000 < a2
    · go_enter Tryd.func6, Tryd.ntmps6
      go_wp2_with fail
      refine (alive_any _ hv).mono ?_
      rintro e W1 ⟨rfl, g1⟩
      go_wp2
      go_ret
      exact ⟨rfl, gr_below g1⟩
    by_cases d6 : a3 < 0
    · go_enter Tryd.func6, Tryd.ntmps6
      go_wp2_with fail
      refine (alive_any _ hv).mono ?_
      rintro e W1 ⟨rfl, g1⟩
      go_wp2
      go_ret
      exact ⟨rfl, gr_below g1⟩
    by_cases d7 : 2000 < a3
    · go_enter Tryd.func6, Tryd.ntmps6
      go_wp2_with fail
      refine (alive_any _ hv).mono ?_
      rintro e W1 ⟨rfl, g1⟩
      go_wp2
      go_ret
      exact ⟨rfl, gr_below g1⟩
    by_cases d8 : a4 < 1
    · go_enter Tryd.func6, Tryd.ntmps6
      go_wp2_with fail
      refine (alive_any _ hv).mono ?_
      rintro e W1 ⟨rfl, g1⟩
      go_wp2
      go_ret
      exact ⟨rfl, gr_below g1⟩
    by_cases d9 : 2000 < a4
    · go_enter Tryd.func6, Tryd.ntmps6
      go_wp2_with fail
      refine (alive_any _ hv).mono ?_
      rintro e W1 ⟨rfl, g1⟩
      go_wp2
      go_ret
      exact ⟨rfl, gr_below g1⟩
    exact absurd (by omega) c



set_option maxRecDepth 100000 in
theorem door_met (os : Os) (args : Array Value) : laidMetH Tryd.prog Rows.deskSlipsRow.laid ((World.doorLaid Tryd.prog 62 os).forCall (fun _ _ => 0) ⟨#[], args, []⟩).memory :=
  laidMetH_of_parts3 (fuel := 8) (laidMet_of_run' 8 (by kernel_rfl) (by kernel_rfl)) (by kernel_rfl) (by kernel_rfl)

set_option maxRecDepth 100000 in
theorem lifted (os : Os) (started : os.Started) (H : Type) (enc : TypeId × Value → H) :
    ReturnsInHanded {} Tryd.checked os 6 .any (fun w args => (Rows.deskSlipsSpec.pre enc Tryd.prog Tryd.f6 [] false w args ∧ laidMetH Tryd.prog Rows.deskSlipsRow.laid w) ∧ sizedMet enc Tryd.prog Tryd.f6 (OpenSpec.ofChange Rows.deskSlipsSpec) false w args) (Rows.deskSlipsSpec.post enc Tryd.prog Tryd.f6 false true false false) := by
  refine returnsInHanded_of_change_and (C := Tryd.checked) (X := fun w _ => laidMetH Tryd.prog Rows.deskSlipsRow.laid w) (fun _ _ _ hh h => h.of_heap hh) own started (by kernel_rfl) Tryd.func6
    (ChangeSpec.witness_shaped (enc := enc) (C := Tryd.checked) (os := os) (X := fun w _ => laidMetH Tryd.prog Rows.deskSlipsRow.laid w) false (World.doorLaid Tryd.prog 62 os) #[.int .i64 0, .int .i64 0, .int .i64 0, .int .i64 0, .int .i64 0, .bool false] 8 rfl (World.shaped_of_RefB (by kernel_rfl) (by kernel_rfl)) (by kernel_rfl) (by kernel_rfl) (by kernel_rfl) (door_met os _)) ?_
  intro W base args ds gs before hval0 hW _ _ hL _
  have hval : ∀ (j : Nat) t v, Tryd.f6.params[j]? = some t → args[j]? = some v → Value.okWide Tryd.prog W .any base t v := hval0
  have hW' := hW
  obtain ⟨p, q, hA0, hV, rfl, hfz, hnd⟩ := hW
  have hA : DataW.TrodAll enc Tryd.prog W 0 (fun _ => true) true Tryd.f6.params.toList args.toList ds p := hA0
  rw [Tryd.params6] at hA hval
  obtain ⟨v0, vs0, d0, ds0, p0, q0, hargs, rfl, rfl, h0, r0⟩ := trodAll_cons hA
  obtain ⟨v1, vs1, d1, ds1, p1, q1, rfl, rfl, rfl, h1, r1⟩ := trodAll_cons r0
  obtain ⟨v2, vs2, d2, ds2, p2, q2, rfl, rfl, rfl, h2, r2⟩ := trodAll_cons r1
  obtain ⟨v3, vs3, d3, ds3, p3, q3, rfl, rfl, rfl, h3, r3⟩ := trodAll_cons r2
  obtain ⟨v4, vs4, d4, ds4, p4, q4, rfl, rfl, rfl, h4, r4⟩ := trodAll_cons r3
  obtain ⟨v5, vs5, d5, ds5, p5, q5, rfl, rfl, rfl, h5, r5⟩ := trodAll_cons r4
  obtain ⟨rfl, rfl, rfl⟩ := trodAll_nil r5
  obtain rfl : args = #[v0, v1, v2, v3, v4, v5] := by cases args; simp_all
  obtain ⟨rfl, rfl⟩ := trodVars_none hV
  obtain ⟨a0, rfl, rfl, rfl, w0⟩ := open_int Tryd.underlying3 (hval 0 3 v0 rfl rfl) h0
  obtain ⟨a1, rfl, rfl, rfl, w1⟩ := open_int Tryd.underlying3 (hval 1 3 v1 rfl rfl) h1
  obtain ⟨a2, rfl, rfl, rfl, w2⟩ := open_int Tryd.underlying3 (hval 2 3 v2 rfl rfl) h2
  obtain ⟨a3, rfl, rfl, rfl, w3⟩ := open_int Tryd.underlying3 (hval 3 3 v3 rfl rfl) h3
  obtain ⟨a4, rfl, rfl, rfl, w4⟩ := open_int Tryd.underlying3 (hval 4 3 v4 rfl rfl) h4
  obtain ⟨a5, rfl, rfl, rfl⟩ := open_bool Tryd.underlying4 (hval 5 4 v5 rfl rfl) h5
  clear hA0 hval0
  refine (walk W hL a0 w0 a1 w1 a2 w2 a3 w3 a4 w4 a5).mono fun e W' ⟨he, bel⟩ => ?_
  subst he
  exact ⟨_, rfl, _, _, _, [], _, [], hW', trodAll_mk1 (shut_bool Tryd.underlying4 _), (trodAll_cons_mk (shut_int Tryd.underlying3 w0) (trodAll_cons_mk (shut_int Tryd.underlying3 w1) (trodAll_cons_mk (shut_int Tryd.underlying3 w2) (trodAll_cons_mk (shut_int Tryd.underlying3 w3) (trodAll_cons_mk (shut_int Tryd.underlying3 w4) (trodAll_cons_mk (shut_bool Tryd.underlying4 a5) trodAll_mk0)))))), rfl, bel.frame _, fun h => by cases h⟩

theorem over : Rows.deskSlipsRow.holds Tryd.pinned (OpenSpec.ofChange Rows.deskSlipsSpec) :=
  OpenClaim.holds_of_wide 6 Tryd.f6 rfl rfl rfl rfl rfl rfl rfl ⟨rfl, rfl, rfl, rfl, rfl⟩ rfl rfl rfl rfl rfl (by kernel_rfl) Tryd.func6 (by kernel_rfl)
    (of_decide_eq_true (by kernel_rfl)) (by unfold Func.isWrapper; first | (rw [if_pos (by decide +kernel)]; kernel_rfl) | (rw [if_neg (by decide +kernel)]; exact ⟨rfl, rfl⟩))
    (fun os started H enc _ => lifted os started H enc)

/-- THE STATEMENT -/
theorem proved : Rows.DeskSlipsCardSaid :=
  Claim7.holds_tied_plain_at .later [] [.data, .data, .data, .sentinel, .sentinel] true (true, "66b0c359d6fb581784c11cb2420c86fad2346afcea5ac5b99d7e23e4d7398def") true
    over (fun _ h => by cases h) (by kernel_rfl) (fun _ h => by cases h) deskSlips_row_tie rfl ⟨rfl, rfl⟩ (by kernel_rfl) rfl
    (fun f fn hf hfn => by
      obtain rfl : f = 6 := Option.some.inj ((show Tryd.prog.funcNamed "leporello/leporellolaw22.DeskSlips" = some 6 by kernel_rfl).symm.trans hf) |>.symm
      obtain rfl : fn = Tryd.f6 := (Option.some.inj (Tryd.func6.symm.trans hfn)).symm
      exact ⟨by kernel_rfl, fun j t ht => by
        rw [Tryd.params6] at ht
        have hm : t ∈ [3, 3, 3, 3, 3, 4] := by simpa using Array.mem_of_getElem? ht
        have hall : ([3, 3, 3, 3, 3, 4].all fun u => !Tryd.prog.wantsStandIn u) = true := by kernel_rfl
        exact (show Tryd.prog.wantsStandIn t = false by simpa using List.all_eq_true.1 hall t hm)⟩)
    (by kernel_rfl)
#print axioms proved
end Go.Proofs.YtilbeoblppigeaaDoor.deskSlips

