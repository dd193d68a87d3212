/-
  DeskWalks holds of the program: for every input the call returns true and leaves what came in as it was. No condition.
-/
import Derived.Test.YtilbeoblppigeaaDoorRows
import Derived.Test.YtilbeoblppigeaaDoorCards
import Derived.Test.YtilbeoblppigeaaDoorTie
import Derived.LaidMore
import Derived.Stop.Joined
import Derived.Stop.LaidErr
import Derived.Lib.LaidTab
import Derived.SevenTiedAt
import Derived.Test.YtilbeoblppigeaaDoorDeskAlive
import Derived.Test.YtilbeoblppigeaaDoorSlipVars
import Derived.WalkKit
import Derived.ProofKit
import Derived.OpenShut
import Derived.ShutString
import Derived.ChangeOld
import Derived.Below
namespace Go.Proofs.YtilbeoblppigeaaDoor.deskWalks
open Go.ChangeShapes Go.WideShapes Go.ChangeAt Go.RowKit
open Go.ChangeMaps (open_string shut_string)
set_option linter.unusedVariables false

theorem own : ownKnob Tryd.prog.godebug = none := by kernel_rfl
theorem laidOut : laidOutB Tryd.prog = true := by kernel_rfl
set_option maxHeartbeats 8000000 in
set_option maxRecDepth 100000 in
theorem walk (w : World) (hL : laidMetH Tryd.prog Rows.deskWalksRow.laid w) (a0 : Int) (w0 : (Lit.int .i64 a0).wf = true) (a1 : Int) (w1 : (Lit.int .i64 a1).wf = true) :
    Calls Tryd.prog 3 #[.int .i64 a0, .int .i64 a1] w fun e w' => e = .returned (.bool true) ∧ Below w.heap.size w w' := by
  have hv : Vars w := vars_of hL
  clear hL w0 w1
  by_cases c : 0 ≤ a0 ∧ a0 ≤ 2000 ∧ 1 ≤ a1 ∧ a1 ≤ 100
  · obtain ⟨rows, rfl⟩ : ∃ n : Nat, a0 = n := ⟨a0.toNat, by omega⟩
    obtain ⟨size, rfl⟩ : ∃ n : Nat, a1 = n := ⟨a1.toNat, by omega⟩
    obtain ⟨c1, c2, c3, c4⟩ := c
    have hr : rows ≤ 2000 := by omega
    have hs : 0 < size := by omega
    have hs2 : size ≤ 100 := by omega
    have cF := fun W => fold0 W
    replace cF := Lib.hid cF
    replace hv := Lib.hid hv
    go_enter Tryd.func3, Tryd.ntmps3
    go_wp2_with fail
    refine (alive_any _ hv.out).mono ?_
    rintro e W1 ⟨rfl, g1⟩
    go_wp2_with fail
    refine (cF.out _).mono ?_
    rintro e W2 ⟨rfl, g2⟩
    go_wp2_with fail
    refine (dkin_new w W2 (gr_trans g1 g2)).mono ?_
    rintro e W3 ⟨D, rfl, h3⟩
    clear cF g1 g2
    replace h3 := Lib.hid h3
    go_wp2_with fail
    refine (dkin_open h3.out hv.out rows size 9 1 hr hs hs2 (by omega) (by simp only; omega) (by omega) rfl (by omega)).mono ?_
    rintro e W4 ⟨rfl, ⟨A, c, h4⟩, gS⟩
    have h4' : DkIn w W4 D ⟨2, 0, [⟨1, rows, size, 9, runL 1⟩], [], 0⟩ A 1 c := h4
    clear h4 gS h3
    unfold curV
    obtain ⟨F, hF⟩ : ∃ F, F = runL 1 := ⟨_, rfl⟩
    rw [← hF] at h4' ⊢
    have hop : ∀ y ∈ ([⟨1, rows, size, 9, F⟩] : List Cur), PgOk y := fun y hy => by
      rw [List.mem_singleton.1 hy]
      exact ⟨rows, size, rfl, rfl, hr, hs, hs2⟩
    have hN0 : 0 < pagesN rows size := by unfold pagesN; omega
    have hN1 := (pages_small hr hs hs2 hN0 (Nat.le_refl _))
    have okk : ∀ k, k < pagesN rows size → SlipOk 1 (k * size) := fun k hk => by
      refine ⟨by omega, by omega, ?_⟩
      rcases Nat.eq_zero_or_pos k with rfl | hk0
      · omega
      · have := (pages_more (rows := rows) hs hk0).1 hk; omega
    have cFd := fun W (g : Gr W4 W) (k : Nat) (hk : k < pagesN rows size) => dkin_find (dkIn_gr h4' g) hv.out (by omega) hop (slipL 1 (k * size)) (by have := (slip_len (okk k hk)).1; omega)
    have cN := fun W (g : Gr W4 W) (fr : Int) => dnext_any D 1 rows size 9 F fr W (by omega) hr hs hs2 (vars_gr hv.out (gr_trans h4'.gr g))
    have gw := h4'.gr
    have e10 : (⟨#[112, 49, 46, 48]⟩ : ByteArray) = txt (slipL 1 (0 * size)) := by
      rw [Nat.zero_mul]
      unfold slipL
      rw [Go.Lib.decDigits_one (show 1 < 10 by omega), Go.Lib.decDigits_one (show 0 < 10 by omega)]
      rfl
    have hfin : (rows : Int) ≤ ((pagesN rows size * size : Nat) : Int) ∧ ((pagesN rows size * size : Nat) : Int) < max (rows : Int) 1 + size := by
      have a1 := pages_more (rows := rows) (k := pagesN rows size) hs hN0
      have a2 : ¬ pagesN rows size * size < rows := fun h => Nat.lt_irrefl _ (a1.2 h)
      refine ⟨by omega, ?_⟩
      obtain ⟨q, hq⟩ : ∃ q, pagesN rows size = q + 1 := ⟨pagesN rows size - 1, by omega⟩
      rw [hq, Nat.succ_mul]
      rcases Nat.eq_zero_or_pos q with rfl | hq0
      · omega
      · have := (pages_more (rows := rows) (k := q) hs hq0).1 (by omega); omega
    obtain ⟨N, hN⟩ : ∃ N, N = pagesN rows size := ⟨_, rfl⟩
    rw [← hN] at hN0 hN1 hfin okk cFd
    replace hop := Lib.hid hop
    replace okk := Lib.hid okk
    replace cFd := Lib.hid cFd
    replace cN := Lib.hid cN
    replace gw := Lib.hid gw
    replace h4' := Lib.hid h4'
    replace hfin := Lib.hid hfin
    replace hN := Lib.hid hN
    replace hF := Lib.hid hF
    replace e10 := Lib.hid e10
    go_upto_region 9 with fail
    have hX : CuB (W4.alloc (.cells #[.int .i64 1, .int .i64 (rows : Int), .int .i64 (size : Int), .int .i64 9, .string (txt F)] 30)) W4.heap.size ⟨1, rows, size, 9, F⟩ := blk_new W4 _
    have gX := gr_alloc W4 (.cells #[.int .i64 1, .int .i64 (rows : Int), .int .i64 (size : Int), .int .i64 9, .string (txt F)] 30) none
    generalize W4.alloc (.cells #[.int .i64 1, .int .i64 (rows : Int), .int .i64 (size : Int), .int .i64 9, .string (txt F)] 30) = Wa at hX gX ⊢
    generalize W4.heap.size = CB at hX ⊢
    replace hX := Lib.hid hX
    replace gX := Lib.hid gX
    have hne : ∀ m n, (slipL m n).isEmpty = false := fun m n => rfl
    replace hne := Lib.hid hne
    rw [e10.out]
    go_wp2_with fail
    go_loopw [8, 9, 10] (fun sv av iv wr => ∃ k : Nat, k ≤ N ∧ iv = .int .i64 k ∧ av = .int .i64 (k * size : Nat) ∧ sv = .string (txt (if k < N then slipL 1 (k * size) else [])) ∧ Hid (Gr Wa wr)) (fun _ _ i _ => N + 1 - (intOf i).toNat)
    case atStart => exact ⟨0, Nat.zero_le _, rfl, by simp, by rw [if_pos hN0], gr_refl _ _⟩
    case round =>
      obtain ⟨k, hk, rfl, rfl, rfl, hg⟩ := hrel
      by_cases hlt : k < N
      · rw [if_pos hlt]
        have hcf := cFd.out wr (gr_trans gX.out hg.out) k hlt
        have hks : (k + 1) * size = k * size + size := by rw [Nat.succ_mul]
        have hkN : (k + 1) * size ≤ N * size := Nat.mul_le_mul_right _ hlt
        have hok := okk.out k hlt
        have hno := hne.out 1 (k * size)
        have hmem := fun (h : k < pagesN rows size) => pages_mem h
        have hfo := fun x fr e (h : FindIs 2 [⟨1, rows, size, 9, F⟩] (slipL 1 (k * size)) x fr e) => find_one (R := rows) (S := size) h rfl rfl rfl hok
        have hnx := fun W (g : Gr W4 W) => cN.out W g ((k * size : Nat) : Int)
        obtain ⟨T, hT⟩ : ∃ T, T = k * size := ⟨_, rfl⟩
        rw [← hT] at hcf hks hno hmem hfo hnx ⊢
        have hT2 : T ≤ 2200 := by omega
        have hinj : ∀ q, T = q * size → q = k := fun q h => Nat.eq_of_mul_eq_mul_right hs (h.symm.trans hT)
        obtain ⟨L, hL⟩ : ∃ L, L = slipL 1 T := ⟨_, rfl⟩
        rw [← hL] at hcf hno hfo ⊢
        replace hT := Lib.hid hT
        replace hL := Lib.hid hL
        replace hinj := Lib.hid hinj
        replace hcf := Lib.hid hcf
        replace hfo := Lib.hid hfo
        replace hmem := Lib.hid hmem
        replace hnx := Lib.hid hnx
        replace hok := Lib.hid hok
        go_wp2_with fail
        refine hcf.out.mono ?_
        rintro e w5 ⟨x, fr, ee, rfl, hf, g5⟩
        obtain ⟨rfl, rfl, rfl⟩ : x = ⟨1, rows, size, 9, F⟩ ∧ fr = T ∧ ee = 0 := by
          rcases hfo.out _ _ _ hf with ⟨_, ⟨_, h⟩ | ⟨h, _⟩⟩ | ⟨h, _⟩
          · exact h
          · exact absurd (hmem.out (by rw [← hN.out]; exact hlt)) h
          · exact absurd rfl h
        clear hf hcf hfo hmem
        unfold curV
        go_upto_region 14 with fail
        have hY : CuB (w5.alloc (.cells #[.int .i64 1, .int .i64 (rows : Int), .int .i64 (size : Int), .int .i64 9, .string (txt F)] 30)) w5.heap.size ⟨1, rows, size, 9, F⟩ := blk_new w5 _
        have gY := gr_trans g5 (gr_alloc w5 (.cells #[.int .i64 1, .int .i64 (rows : Int), .int .i64 (size : Int), .int .i64 9, .string (txt F)] 30) none)
        generalize w5.alloc (.cells #[.int .i64 1, .int .i64 (rows : Int), .int .i64 (size : Int), .int .i64 9, .string (txt F)] 30) = w6 at hY gY ⊢
        generalize w5.heap.size = YB at hY ⊢
        have hX6 : CuB w6 CB ⟨1, rows, size, 9, F⟩ := gr_blk (gr_trans hg.out gY) hX.out (by simp)
        obtain ⟨x0, x1, x2, x3, x4⟩ := cub_cells hX6
        obtain ⟨y0, y1, y2, y3, y4⟩ := cub_cells hY
        simp only at x0 x1 x2 x3 x4 y0 y1 y2 y3 y4
        have hk2 : ((2000 : Int) < (k : Int)) = False := eq_false (by omega)
        have hwT : IntKind.i64.wrap ((T : Int) + (size : Int)) = ((T + size : Nat) : Int) := by rw [IntWalk.i64_in _ (by omega)]; omega
        replace gY := Lib.hid gY
        clear hX6 hY g5
        go_wp2_with fail
        refine (hnx.out w6 (gr_trans gX.out (gr_trans hg.out gY.out))).mono ?_
        rintro e w7 ⟨⟨l, rfl, hl⟩, g7⟩
        clear hnx x0 x1 x2 x3 x4 y0 y1 y2 y3 y4
        have hl2 : l = if k + 1 < N then slipL 1 ((k + 1) * size) else [] := by
          rcases hl with ⟨q, hq, hq2, hl⟩ | ⟨h, hl⟩
          · obtain rfl := hinj.out q (by omega)
            rw [if_pos (by rw [hN.out]; exact hq2)]
            exact hl
          · rw [if_neg (fun hk1 => h k (by rw [← hN.out]; exact hk1) (by rw [hT.out]))]
            exact hl
        have hks2 : ((T : Int) + (size : Int)) = (((k + 1) * size : Nat) : Int) := by omega
        clear hl
        replace hl2 := Lib.hid hl2
        replace hks2 := Lib.hid hks2
        go_wp2
        go_roundw
        case rel => exact ⟨k + 1, by omega, by go_num, by rw [hks2.out], by rw [hl2.out], gr_trans hg.out (gr_trans gY.out g7)⟩
        case measure => simp [intOf]; omega
      · obtain rfl : k = N := by omega
        rw [if_neg (Nat.lt_irrefl _)]
        obtain ⟨q1, q2⟩ := hfin.out
        have q3 : IntKind.i64.wrap (max (rows : Int) 1 + (size : Int)) = max (rows : Int) 1 + (size : Int) := IntWalk.i64_in _ (by omega)
        go_wp2
        go_ret
        exact ⟨congrArg (fun b => Ending.returned (.bool b)) (decide_eq_true (by first | exact q2 | (rw [← Int.natCast_mul]; exact q2))), gr_below (gr_trans gw.out (gr_trans gX.out hg.out))⟩
  · by_cases c1 : a0 < 0
    · go_enter Tryd.func3, Tryd.ntmps3
      go_wp2_with fail
      refine (alive_any _ hv).mono ?_
      rintro e W1 ⟨rfl, g1⟩
      go_wp2
      go_ret
      exact ⟨rfl, gr_below g1⟩
    by_cases c2 : 2000 < a0
    · go_enter Tryd.func3, Tryd.ntmps3
      go_wp2_with fail
      refine (alive_any _ hv).mono ?_
      rintro e W1 ⟨rfl, g1⟩
      go_wp2
      go_ret
      exact ⟨rfl, gr_below g1⟩
    by_cases c3 : a1 < 1
    · go_enter Tryd.func3, Tryd.ntmps3
      go_wp2_with fail
      refine (alive_any _ hv).mono ?_
      rintro e W1 ⟨rfl, g1⟩
      go_wp2
      go_ret
      exact ⟨rfl, gr_below g1⟩
    by_cases c4 : 100 < a1
    · go_enter Tryd.func3, Tryd.ntmps3
      go_wp2_with fail
      refine (alive_any _ hv).mono ?_
      rintro e W1 ⟨rfl, g1⟩
      go_wp2
      go_ret
      exact ⟨rfl, gr_below g1⟩
    · omega


set_option maxRecDepth 100000 in
theorem door_met (os : Os) (args : Array Value) : laidMetH Tryd.prog Rows.deskWalksRow.laid ((World.doorLaid Tryd.prog 62 os).forCall (fun _ _ => 0) ⟨#[], args, []⟩).memory :=
  laidMetH_of_parts3 (fuel := 8) (laidMet_of_run' 8 (by kernel_rfl) (by kernel_rfl)) (by kernel_rfl) (by kernel_rfl)

set_option maxRecDepth 100000 in
theorem lifted (os : Os) (started : os.Started) (H : Type) (enc : TypeId × Value → H) :
    ReturnsInHanded {} Tryd.checked os 3 .any (fun w args => (Rows.deskWalksSpec.pre enc Tryd.prog Tryd.f3 [] false w args ∧ laidMetH Tryd.prog Rows.deskWalksRow.laid w) ∧ sizedMet enc Tryd.prog Tryd.f3 (OpenSpec.ofChange Rows.deskWalksSpec) false w args) (Rows.deskWalksSpec.post enc Tryd.prog Tryd.f3 false true false false) := by
  refine returnsInHanded_of_change_and (C := Tryd.checked) (X := fun w _ => laidMetH Tryd.prog Rows.deskWalksRow.laid w) (fun _ _ _ hh h => h.of_heap hh) own started (by kernel_rfl) Tryd.func3
    (ChangeSpec.witness_shaped (enc := enc) (C := Tryd.checked) (os := os) (X := fun w _ => laidMetH Tryd.prog Rows.deskWalksRow.laid w) false (World.doorLaid Tryd.prog 62 os) #[.int .i64 0, .int .i64 0] 8 rfl (World.shaped_of_RefB (by kernel_rfl) (by kernel_rfl)) (by kernel_rfl) (by kernel_rfl) (by kernel_rfl) (door_met os _)) ?_
  intro W base args ds gs before hval0 hW _ _ hL _
  have hval : ∀ (j : Nat) t v, Tryd.f3.params[j]? = some t → args[j]? = some v → Value.okWide Tryd.prog W .any base t v := hval0
  have hW' := hW
  obtain ⟨p, q, hA0, hV, rfl, hfz, hnd⟩ := hW
  have hA : DataW.TrodAll enc Tryd.prog W 0 (fun _ => true) true Tryd.f3.params.toList args.toList ds p := hA0
  rw [Tryd.params3] at hA hval
  obtain ⟨v0, vs0, d0, ds0, p0, q0, hargs, rfl, rfl, h0, r0⟩ := trodAll_cons hA
  obtain ⟨v1, vs1, d1, ds1, p1, q1, rfl, rfl, rfl, h1, r1⟩ := trodAll_cons r0
  obtain ⟨rfl, rfl, rfl⟩ := trodAll_nil r1
  obtain rfl : args = #[v0, v1] := by cases args; simp_all
  obtain ⟨rfl, rfl⟩ := trodVars_none hV
  obtain ⟨a0, rfl, rfl, rfl, w0⟩ := open_int Tryd.underlying3 (hval 0 3 v0 rfl rfl) h0
  obtain ⟨a1, rfl, rfl, rfl, w1⟩ := open_int Tryd.underlying3 (hval 1 3 v1 rfl rfl) h1
  clear hA0 hval0
  refine (walk W hL a0 w0 a1 w1).mono fun e W' ⟨he, bel⟩ => ?_
  subst he
  exact ⟨_, rfl, _, _, _, [], _, [], hW', trodAll_mk1 (shut_bool Tryd.underlying4 _), (trodAll_cons_mk (shut_int Tryd.underlying3 w0) (trodAll_cons_mk (shut_int Tryd.underlying3 w1) trodAll_mk0)), rfl, bel.frame _, fun h => by cases h⟩

theorem over : Rows.deskWalksRow.holds Tryd.pinned (OpenSpec.ofChange Rows.deskWalksSpec) :=
  OpenClaim.holds_of_wide 3 Tryd.f3 rfl rfl rfl rfl rfl rfl rfl ⟨rfl, rfl, rfl, rfl, rfl⟩ rfl rfl rfl rfl rfl (by kernel_rfl) Tryd.func3 (by kernel_rfl)
    (of_decide_eq_true (by kernel_rfl)) (by unfold Func.isWrapper; first | (rw [if_pos (by decide +kernel)]; kernel_rfl) | (rw [if_neg (by decide +kernel)]; exact ⟨rfl, rfl⟩))
    (fun os started H enc _ => lifted os started H enc)

/-- THE STATEMENT -/
theorem proved : Rows.DeskWalksCardSaid :=
  Claim7.holds_tied_plain_at .later [] [.data, .data, .data, .sentinel, .sentinel] true (true, "66b0c359d6fb581784c11cb2420c86fad2346afcea5ac5b99d7e23e4d7398def") true
    over (fun _ h => by cases h) (by kernel_rfl) (fun _ h => by cases h) deskWalks_row_tie rfl ⟨rfl, rfl⟩ (by kernel_rfl) rfl
    (fun f fn hf hfn => by
      obtain rfl : f = 3 := Option.some.inj ((show Tryd.prog.funcNamed "leporello/leporellolaw22.DeskWalks" = some 3 by kernel_rfl).symm.trans hf) |>.symm
      obtain rfl : fn = Tryd.f3 := (Option.some.inj (Tryd.func3.symm.trans hfn)).symm
      exact ⟨by kernel_rfl, fun j t ht => by
        rw [Tryd.params3] at ht
        have hm : t ∈ [3, 3] := by simpa using Array.mem_of_getElem? ht
        have hall : ([3, 3].all fun u => !Tryd.prog.wantsStandIn u) = true := by kernel_rfl
        exact (show Tryd.prog.wantsStandIn t = false by simpa using List.all_eq_true.1 hall t hm)⟩)
    (by kernel_rfl)
#print axioms proved
end Go.Proofs.YtilbeoblppigeaaDoor.deskWalks

