/-
  DeskIds holds of the program: for every input the call returns true and leaves what came in as it was. No condition.
-/
import Derived.Test.YtilbeoblppigeaaDoorRows
import Derived.Test.YtilbeoblppigeaaDoorCards
import Derived.Test.YtilbeoblppigeaaDoorTie
import Derived.LaidMore
import Derived.Stop.Joined
import Derived.Stop.LaidErr
import Derived.Lib.LaidTab
import Derived.SevenTiedAt
import Derived.Test.YtilbeoblppigeaaDoorDeskClose2
import Derived.Test.YtilbeoblppigeaaDoorSlipVars
import Derived.Test.YtilbeoblppigeaaDoorDyFoldN
import Derived.Test.YtilbeoblppigeaaDoorDyOpen
import Derived.Test.YtilbeoblppigeaaDoorDyLight
import Derived.WalkKit
import Derived.ProofKit
import Derived.OpenShut
import Derived.ShutString
import Derived.ChangeOld
import Derived.Below
namespace Go.Proofs.YtilbeoblppigeaaDoor.deskIds
open Go.ChangeShapes Go.WideShapes Go.ChangeAt Go.RowKit
open Go.ChangeMaps (open_string shut_string)
set_option linter.unusedVariables false

theorem own : ownKnob Tryd.prog.godebug = none := by kernel_rfl
theorem laidOut : laidOutB Tryd.prog = true := by kernel_rfl
/-- The desk's state of notes. -/
def dks (zs : List Nte) : DkS := ⟨(Dy.foldN zs).next, (Dy.foldN zs).now, (Dy.foldN zs).op, (Dy.foldN zs).seg, (Dy.foldN zs).pts⟩
theorem gr_apartB {w wi w' : World} {D b : Nat} {s : DkS} {A : Option Addr} {n c : Nat} {cs : Array Value} {t : TypeId} (h : DkIn w wi D s A n c) (g : GrS (TnD D (Value.slice A n c).ownBlock) wi w') (hb : wi.heap[b]? = some (.cells cs t (0, 0))) (hD : b ≠ D) (ho : (Value.slice A n c).ownBlock ≠ some b) : w'.heap[b]? = some (.cells cs t (0, 0)) :=
  grs_blk g hb (fun ht => by
    rcases ht with ht | ht
    · exact hD ht
    · exact ho ht)
theorem own_typ {w : World} {base size n b : Nat} {e t : TypeId} {v : Value} {xs : List Value} {cs : Array Value} {fr : Nat × Nat} (ho : w.ownsRow base e size v n xs) (hb : w.heap[b]? = some (.cells cs t fr)) (ht : e ≠ t) : v.ownBlock ≠ some b := by
  intro eq
  rcases ho.2 with ⟨hv, _⟩ | ⟨g, cap, cur, hv, _, hg, _⟩
  · rw [hv] at eq; cases eq
  · rw [hv] at eq
    have : g = b := by simpa [Value.ownBlock] using eq
    subst this
    rw [hb] at hg
    injection hg with h1
    injection h1 with _ h2
    exact ht h2.symm
set_option maxRecDepth 100000 in
theorem field_next (a b x y : Int) (B : Option Addr) (m d : Nat) (t : List UInt8) (W : World) : (Instr.field 27 (.agg #[.int .i64 a, .int .i64 b, .slice B m d, .string (txt t), .int .i64 y]) 0).run Tryd.prog W = .ok (.int .i64 a) W := rfl
set_option maxRecDepth 100000 in
theorem field_open (a b x y : Int) (B : Option Addr) (m d : Nat) (t : List UInt8) (W : World) : (Instr.field 27 (.agg #[.int .i64 a, .int .i64 b, .slice B m d, .string (txt t), .int .i64 y]) 2).run Tryd.prog W = .ok (.slice B m d) W := rfl
/-- Closing the one that was opened last. -/
theorem close_last {w w' : World} {D : Nat} {s : DkS} {C : Cur} {A : Option Addr} {n c : Nat} {e : Ending} (hop : ∀ y ∈ s.op, y.id < C.id) (h1 : 1 ≤ C.id) (h : ClosePost w D ⟨C.id + 1, s.now, s.op ++ [C], s.seg, s.pts⟩ A n c C.id e w') :
    e = .returned (.tuple #[curV C, .int .i64 0]) ∧ DkIn w w' D ⟨C.id + 1, s.now, s.op, s.seg, s.pts⟩ A (n - 1) c := by
  obtain ⟨x, ee, rfl, ⟨hne, _, ⟨v, hat⟩, _⟩ | ⟨rfl, k, hk, hid, _, _, hd⟩⟩ := h
  · exfalso
    rcases hat with ⟨h2, _⟩ | ⟨_, _, h3, _⟩ | ⟨_, _, h3, _⟩
    · simp only at h2; omega
    · exact h3 C (by simp) rfl
    · exact hne h3
  · simp only at hk hd
    have hkl : k = s.op.length := by
      have h2 := (List.getElem?_eq_some_iff.1 hk).1
      rw [List.length_append, List.length_singleton] at h2
      by_cases hlt : k < s.op.length
      · exfalso
        rw [List.getElem?_append_left hlt] at hk
        have := hop x (List.mem_of_getElem? hk)
        omega
      · omega
    subst hkl
    rw [List.getElem?_append_right (Nat.le_refl _), Nat.sub_self] at hk
    obtain rfl : C = x := by simpa using hk
    rw [List.eraseIdx_append_of_length_le (Nat.le_refl _), Nat.sub_self] at hd
    simp only [List.eraseIdx_zero, List.tail_cons, List.append_nil] at hd
    exact ⟨rfl, hd⟩
set_option maxHeartbeats 16000000 in
set_option maxRecDepth 100000 in
theorem walk (w : World) (hL : laidMetH Tryd.prog Rows.deskIdsRow.laid w) (a0 : Option Addr) (len0 cap0 : Nat) (z0 : List Nte) (w0 : Dy.IsNtes w a0 len0 cap0 z0) (a1 : Int) (w1 : (Lit.int .i64 a1).wf = true) (a2 : Bool) :
    Calls Tryd.prog 5 #[.slice a0 len0 cap0, .int .i64 a1, .bool a2] w fun e w' => e = .returned (.bool true) ∧ Below w.heap.size w w' := by
  have hv : Vars w := vars_of hL
  obtain ⟨hr0, hcap0, hcm0, _, hnil0⟩ := w0
  have cT0 := Dy.light_any a0 len0 cap0 z0 w (by omega) hr0
  clear hL w1
  by_cases c : 1 ≤ a1 ∧ a1 ≤ 60
  · obtain ⟨nn, rfl⟩ : ∃ n : Nat, a1 = n := ⟨a1.toNat, by omega⟩
    obtain ⟨c1, c2⟩ := c
    have cF := fun W (g : Gr w W) (hn : len0 ≤ 60) => Dy.dFold_any a0 len0 cap0 z0 W (row_gr hr0 g) (by omega)
    have hinv := Dy.foldN_inv z0
    have hnow := hinv.nw
    have hnx := hinv.nx
    have hops : ∀ y ∈ (Dy.foldN z0).op, y.id < (Dy.foldN z0).next := fun y hy => (hinv.ok y hy).2
    have hfl := Dy.foldN_len z0
    have hzl : z0.length = len0 := by have := hr0.1; rw [sR_len nteC 6 nteC_len] at this; omega
    replace hr0 := Lib.hid hr0
    replace cF := Lib.hid cF
    replace cT0 := Lib.hid cT0
    replace hv := Lib.hid hv
    replace hnow := Lib.hid hnow
    replace hnx := Lib.hid hnx
    replace hops := Lib.hid hops
    replace hfl := Lib.hid hfl
    replace hzl := Lib.hid hzl
    clear hinv
    go_enter Tryd.func5, Tryd.ntmps5
    go_wp2_with fail
    refine cT0.out.mono ?_
    rintro e W ⟨⟨bb0, rfl, hb0⟩, rfl⟩
    cases bb0 with
    | false =>
      go_wp2_with fail
      refine (alive_any _ hv.out).mono ?_
      rintro e W1 ⟨rfl, g1⟩
      go_wp2
      go_ret
      exact ⟨rfl, gr_below g1⟩
    | true =>
      have hn60 := hb0 rfl
      clear hb0
      replace hn60 := Lib.hid hn60
      go_wp2_with fail
      refine (alive_any _ hv.out).mono ?_
      rintro e W1 ⟨rfl, g1⟩
      go_wp2_with fail
      refine (cF.out _ g1 hn60.out).mono ?_
      rintro e W2 ⟨⟨A1, n1, cc1, rfl, hO1⟩, g2⟩
      have hs1 : (Dy.foldN z0).op.length = n1 := by have := hO1.1; rw [sR_len curC 5 curC_len] at this; omega
      have hn1 : n1 ≤ 60 := by have := hfl.out; have := hzl.out; have := hn60.out; omega
      have gA := gr_trans g1 g2
      have hnew1 := dkin_newS (w := w) (wi := W2) gA (dks z0) A1 n1 cc1 (by omega) (own_nilD hO1) (row_own hO1)
      unfold dks at hnew1
      simp only at hnew1
      replace hnew1 := Lib.hid hnew1
      replace hs1 := Lib.hid hs1
      replace hn1 := Lib.hid hn1
      clear hO1 g1 g2 gA
      go_wp2_with fail
      refine hnew1.out.mono ?_
      rintro e W3 ⟨D, A, cA, rfl, hX, _, _⟩
      clear hnew1
      have hX : DkIn w W3 D (dks z0) A n1 cA := hX
      unfold dks at hX
      generalize Dy.foldN z0 = S0 at *
      obtain ⟨next, now, op, seg, pts⟩ := S0
      simp only at hnow hnx hops hs1 hX
      have hX' : DkIn w W3 D ⟨next, now, op, seg, pts⟩ A n1 cA := hX
      have cS := dkin_state hX' (by have := hn1.out; omega)
      simp only at cS
      replace cS := Lib.hid cS
      replace hX' := Lib.hid hX'
      clear hX cF hr0 hfl hzl
      go_wp2_with fail
      refine cS.out.mono ?_
      rintro e W4 ⟨B4, d4, rfl, hO4, g4⟩
      go_upto_region 7 with fail
      have hSB : (W4.alloc (.cells #[.int .i64 next, .int .i64 now, .slice B4 n1 d4, .string (txt seg), .int .i64 pts] 27)).heap[W4.heap.size]? = some (.cells #[.int .i64 next, .int .i64 now, .slice B4 n1 d4, .string (txt seg), .int .i64 pts] 27 (0, 0)) := blk_new W4 _
      have hD5 := dkIn_gr (dkIn_gr hX'.out g4) (gr_alloc W4 (.cells #[.int .i64 next, .int .i64 now, .slice B4 n1 d4, .string (txt seg), .int .i64 pts] 27) none)
      have hDS : D < W4.heap.size := lt_of_blk (dkIn_gr hX'.out g4).dk.blk
      have hw5 : w.heap.size ≤ W4.heap.size := (dkIn_gr hX'.out g4).gr.size
      generalize W4.alloc (.cells #[.int .i64 next, .int .i64 now, .slice B4 n1 d4, .string (txt seg), .int .i64 pts] 27) = W5 at *
      generalize W4.heap.size = SB at *
      have s0 : W5.cell? ⟨SB, 0, none⟩ = some (.int .i64 next) := fcellD hSB rfl
      have s2 : W5.cell? ⟨SB, 2, none⟩ = some (.slice B4 n1 d4) := fcellD hSB rfl
      replace hSB := Lib.hid hSB
      replace hD5 := Lib.hid hD5
      replace hDS := Lib.hid hDS
      replace hw5 := Lib.hid hw5
      clear hO4 g4 hX hX' cS
      have fN := fun a b y B m d t W => field_next a b 0 y B m d t W
      have fO := fun a b y B m d t W => field_open a b 0 y B m d t W
      go_quiet (fail)
      rename_i nq
      have hD6 := dkIn_gr hD5.out (gr_drewN W5 nq none)
      have hS6 := gr_blk (gr_drewN W5 nq none) hSB.out (by simp)
      generalize W5.drewN nq = W6 at *
      replace hD6 := Lib.hid hD6
      replace hS6 := Lib.hid hS6
      clear s0 s2 hSB hD5
      go_wp2_with fail
      go_loopw [9, 10, 11] (fun ov nv iv wr => ∃ (k o : Nat) (nx : Int) (op' : List Cur) (A' : Option Addr) (c' : Nat), k ≤ nn ∧ iv = .int .i64 k ∧ ov = .int .i64 o ∧ nv = .int .i64 nx ∧ Hid (DkIn w wr D ⟨nx, now, op', seg, pts⟩ A' o c') ∧ Hid (∀ y ∈ op', y.id < nx) ∧ Hid (1 ≤ nx ∧ nx ≤ 1000001) ∧ Hid (o ≤ 60 + k) ∧ Hid (wr.heap[SB]? = some (.cells #[.int .i64 next, .int .i64 now, .slice B4 n1 d4, .string (txt seg), .int .i64 pts] 27 (0, 0)))) (fun _ _ iv _ => nn - (intOf iv).toNat)
      case atStart => exact ⟨0, n1, next, op, A, cA, Nat.zero_le _, rfl, rfl, rfl, hD6.out, hops, hnx.out, Lib.hid (by have := hn1.out; omega), hS6.out⟩
      case round =>
        obtain ⟨k, o, nx, op', A', c', hk, rfl, rfl, rfl, hD, hop', hnx', hob, hS⟩ := hrel
        have hnow' := hnow.out
        have hob' := hob.out
        have hnx'' := hnx'.out
        have t1 : wr.cell? ⟨SB, 1, none⟩ = some (.int .i64 now) := fcellD hS.out rfl
        by_cases hlt : k < nn
        · have hki : (k : Int) < (nn : Int) := by omega
          have hk0 : (0 : Int) ≤ (k : Int) := by omega
          by_cases hfull : 20 ≤ o ∨ 1000000 < nx
          · have cM := may_full D nx now pts A' o c' seg 5 2 0 wr hD.out.dk.blk (by omega) (by omega) (by omega) (by omega) (by omega) hfull
            have cO := fun W (g : Gr wr W) => dopen_full (dkIn_gr hD.out g) 5 2 0 (by omega) (by omega) (by omega) (by omega) (by simp only; omega) hfull
            have hgr := hD.out.gr
            replace cM := Lib.hid cM
            replace cO := Lib.hid cO
            replace hgr := Lib.hid hgr
            have hor : (decide ((20 : Int) ≤ (o : Int)) || decide ((1000000 : Int) < nx)) = true := by
              rcases hfull with h | h
              · simp; left; omega
              · simp; right; exact h
            clear hS hop' hob hnx' hD t1 hnow' hob' hnx''
            go_wp2_with fail
            refine cM.out.mono ?_
            rintro e w' ⟨rfl, rfl⟩
            go_wp2_with fail
            refine (cO.out _ (gr_refl _ _)).mono ?_
            rintro e W8 ⟨rfl, g8⟩
            rw [show curV cu0 = .agg #[.int .i64 0, .int .i64 0, .int .i64 0, .int .i64 0, .string ⟨#[]⟩] from rfl]
            rcases hfull with h20 | h20
            · have h20' : (20 : Int) ≤ (o : Int) := by omega
              go_wp2
              go_ret
              exact ⟨rfl, gr_below (gr_trans hgr.out (gr_trans g8 (gr_alloc _ _ _)))⟩
            · by_cases h20' : (20 : Int) ≤ (o : Int)
              · go_wp2
                go_ret
                exact ⟨rfl, gr_below (gr_trans hgr.out (gr_trans g8 (gr_alloc _ _ _)))⟩
              · go_wp2
                go_ret
                exact ⟨rfl, gr_below (gr_trans hgr.out (gr_trans g8 (gr_alloc _ _ _)))⟩
          · obtain ⟨id, rfl⟩ : ∃ id : Nat, nx = id := ⟨nx.toNat, by omega⟩
            have ho20 : ¬ (20 : Int) ≤ (o : Int) := by omega
            have hidb : 1 ≤ id ∧ id ≤ 1000000 := by omega
            replace hidb := Lib.hid hidb
            have hid1 : IntKind.i64.wrap ((id : Int) + 1) = (id : Int) + 1 := IntWalk.i64_in _ (by omega)
            have ho1 : IntKind.i64.wrap ((o : Int) + 1) = (o : Int) + 1 := IntWalk.i64_in _ (by omega)
            have ho2 : IntKind.i64.wrap ((o : Int) + 1 - 1) = (o : Int) := by rw [IntWalk.i64_in _ (by omega)]; omega
            have cM := may_ok D (id : Int) now pts A' o c' seg 5 2 0 wr hD.out.dk.blk (by omega) (by omega) (by omega) (by omega) (by omega) (by omega) (by omega)
            have cO := dkin_open hD.out hv.out 5 2 0 id (by omega) (by omega) (by omega) (by omega) (by simp only; omega) (by omega) rfl (by omega)
            obtain ⟨F, hF⟩ : ∃ F, F = runL id := ⟨_, rfl⟩
            simp only [Int.natCast_zero, Int.add_zero] at cO
            rw [← hF] at cO
            unfold curV at cO
            simp only at cO
            have hoD := own_typ hD.out.dk.own hS.out (by decide)
            replace cM := Lib.hid cM
            replace cO := Lib.hid cO
            replace hoD := Lib.hid hoD
            replace hF := Lib.hid hF
            clear hD hnx' hob hfull
            go_wp2_with fail
            refine cM.out.mono ?_
            rintro e w' ⟨rfl, rfl⟩
            go_wp2_with fail
            refine cO.out.mono ?_
            rintro e W7 ⟨rfl, ⟨A7, c7, hD7⟩, g7⟩
            have hS7 := grs_blk g7 hS.out (fun ht => by
              rcases ht with ht | ht
              · have := hDS.out; omega
              · exact hoD.out ht)
            have hD8 := dkIn_gr hD7 (gr_alloc W7 (.cells #[.int .i64 (id : Int), .int .i64 5, .int .i64 2, .int .i64 now, .string (txt F)] 30) none)
            have hS8 := gr_blk (gr_alloc W7 (.cells #[.int .i64 (id : Int), .int .i64 5, .int .i64 2, .int .i64 now, .string (txt F)] 30) none) hS7 (by simp)
            have hapC : (Value.slice A7 (o + 1) c7).ownBlock ≠ some W7.heap.size := fun e => by have := (hD7.dk.own.lt _ e).2; omega
            have hcd : W7.heap.size ≠ D := fun e => by have := lt_of_blk hD7.dk.blk; omega
            replace hapC := Lib.hid hapC
            replace hcd := Lib.hid hcd
            have hX8 := blk_new W7 (.cells #[.int .i64 (id : Int), .int .i64 5, .int .i64 2, .int .i64 now, .string (txt F)] 30)
            go_upto_region 17 with fail
            generalize W7.alloc (.cells #[.int .i64 (id : Int), .int .i64 5, .int .i64 2, .int .i64 now, .string (txt F)] 30) = WC at *
            generalize W7.heap.size = CB at *
            have hX8 : CuB WC CB ⟨id, 5, 2, now, F⟩ := hX8
            obtain ⟨x0, x1, x2, x3, x4⟩ := cub_cells hX8
            simp only at x0 x1 x2 x3 x4
            have u1 : WC.cell? ⟨SB, 1, none⟩ = some (.int .i64 now) := fcellD hS8 rfl
            have hops8 : ∀ y ∈ op' ++ [⟨id, 5, 2, now, F⟩], y.id < (id : Int) + 1 := fun y hy => by
              rcases List.mem_append.1 hy with hy | hy
              · have := hop'.out y hy; omega
              · rw [List.mem_singleton.1 hy]; show (id : Int) < _; omega
            replace hS8 := Lib.hid hS8
            replace hops8 := Lib.hid hops8
            replace hX8 := Lib.hid hX8
            clear g7 hS7 hS cM cO t1 hoD hD7
            cases a2 with
            | false =>
              have hD7 := hD8
              have hS7 := hS8
              clear hD8 hS8
              have cS1 := fun W (g : Gr WC W) => dkin_state (dkIn_gr hD7 g) (by omega)
              simp only at cS1
              replace cS1 := Lib.hid cS1
              replace hD7 := Lib.hid hD7
              skip
              go_wp2_with fail
              refine (cS1.out _ (gr_refl _ _)).mono ?_
              rintro e W8 ⟨B8, d8, rfl, hO8, g8⟩
              go_wp2_with fail
              refine (cS1.out _ g8).mono ?_
              rintro e W9 ⟨B9, d9, rfl, hO9, g9⟩
              have hDr := dkIn_gr hD7.out (gr_trans g8 g9)
              have hSr := gr_blk (gr_trans g8 g9) hS7.out (by simp)
              replace hDr := Lib.hid hDr
              replace hSr := Lib.hid hSr
              clear hO8 hO9 g8 g9 cS1 hD7 hS7
              go_wp2
              go_roundw
              case rel => exact ⟨k + 1, o + 1, (id : Int) + 1, _, _, _, by omega, by go_num, by go_num, by go_num, hDr.out, hops8.out, Lib.hid (by have := hidb.out; omega), Lib.hid (by omega), hSr.out⟩
              case measure => simp [intOf]; omega
            | true =>
              have cC := dkin_close2 hD8 (by omega) (id : Int)
              have hob8 : (Value.slice A7 (o + 1) c7).ownBlock ≠ some SB := own_typ hD8.dk.own hS8.out (by decide)
              have hob9 : (Value.slice A7 (o + 1) c7).ownBlock ≠ some CB := fun e => by
                have h1 := hX8.out
                unfold CuB at h1
                exact hapC.out e
              have hDC : CB ≠ D := hcd.out
              replace cC := Lib.hid cC
              replace hob8 := Lib.hid hob8
              replace hob9 := Lib.hid hob9
              replace hDC := Lib.hid hDC
              clear hD8
              go_wp2_with fail
              refine cC.out.mono ?_
              rintro e W9 ⟨hcl, g9⟩
              obtain ⟨rfl, hD9⟩ := close_last (C := ⟨(id : Int), 5, 2, now, F⟩) (s := ⟨(id : Int), now, op', seg, pts⟩) hop'.out (by have := hidb.out; show (1 : Int) ≤ (id : Int); omega) hcl
              rw [Nat.add_sub_cancel] at hD9
              have hS9 := grs_blk g9 hS8.out (fun ht => by
                rcases ht with ht | ht
                · have := hDS.out; omega
                · exact hob8.out ht)
              have hX9 : CuB W9 CB ⟨id, 5, 2, now, F⟩ := grs_blk g9 hX8.out (fun ht => by
                rcases ht with ht | ht
                · exact hDC.out ht
                · exact hob9.out ht)
              clear hcl cC x0 x1 x2 x3 x4 u1
              unfold curV
              simp only
              have hD10 := dkIn_gr hD9 (gr_alloc W9 (.cells #[.int .i64 (id : Int), .int .i64 5, .int .i64 2, .int .i64 now, .string (txt F)] 30) none)
              have hS10 := gr_blk (gr_alloc W9 (.cells #[.int .i64 (id : Int), .int .i64 5, .int .i64 2, .int .i64 now, .string (txt F)] 30) none) hS9 (by simp)
              have hX10 : CuB (W9.alloc (.cells #[.int .i64 (id : Int), .int .i64 5, .int .i64 2, .int .i64 now, .string (txt F)] 30)) CB ⟨id, 5, 2, now, F⟩ := gr_blk (gr_alloc W9 (.cells #[.int .i64 (id : Int), .int .i64 5, .int .i64 2, .int .i64 now, .string (txt F)] 30) none) hX9 (by simp)
              have hY10 := blk_new W9 (.cells #[.int .i64 (id : Int), .int .i64 5, .int .i64 2, .int .i64 now, .string (txt F)] 30)
              go_upto_region 23 with fail
              generalize W9.alloc (.cells #[.int .i64 (id : Int), .int .i64 5, .int .i64 2, .int .i64 now, .string (txt F)] 30) = W10 at *
              generalize W9.heap.size = YB at *
              have hY10 : CuB W10 YB ⟨id, 5, 2, now, F⟩ := hY10
              obtain ⟨x0, x1, x2, x3, x4⟩ := cub_cells hX10
              obtain ⟨y0, y1, y2, y3, y4⟩ := cub_cells hY10
              simp only at x0 x1 x2 x3 x4 y0 y1 y2 y3 y4
              have hD7 := hD10
              have hS7 := hS10
              replace hS7 := Lib.hid hS7
              have hids2 : ∀ y ∈ op', y.id < (id : Int) + 1 := fun y hy => by have := hop'.out y hy; omega
              replace hids2 := Lib.hid hids2
              clear hD9 hS9 hX9 hD10 hS10 hX10 hY10 hX8 hS8 g9 hob8 hob9 hDC
              have cS1 := fun W (g : Gr W10 W) => dkin_state (dkIn_gr hD7 g) (by omega)
              simp only at cS1
              replace cS1 := Lib.hid cS1
              replace hD7 := Lib.hid hD7
              skip
              go_wp2_with fail
              refine (cS1.out _ (gr_refl _ _)).mono ?_
              rintro e W8 ⟨B8, d8, rfl, hO8, g8⟩
              go_wp2_with fail
              refine (cS1.out _ g8).mono ?_
              rintro e W9 ⟨B9, d9, rfl, hO9, g9⟩
              have hDr := dkIn_gr hD7.out (gr_trans g8 g9)
              have hSr := gr_blk (gr_trans g8 g9) hS7.out (by simp)
              replace hDr := Lib.hid hDr
              replace hSr := Lib.hid hSr
              clear hO8 hO9 g8 g9 cS1 hD7 hS7
              go_wp2
              go_roundw
              case rel => exact ⟨k + 1, o, (id : Int) + 1, _, _, _, by omega, by go_num, by go_num, by go_num, hDr.out, hids2.out, Lib.hid (by have := hidb.out; omega), Lib.hid (by omega), hSr.out⟩
              case measure => simp [intOf]; omega
        · obtain rfl : k = nn := by omega
          have hgr := hD.out.gr
          replace hgr := Lib.hid hgr
          clear hD hop' hnx' hob hS t1
          go_wp2
          go_ret
          exact ⟨rfl, gr_below hgr.out⟩
  · by_cases d1 : a1 < 1
    · clear c
      replace hv := Lib.hid hv
      go_enter Tryd.func5, Tryd.ntmps5
      go_wp2_with fail
      refine cT0.mono ?_
      rintro e W ⟨⟨bb0, rfl, _⟩, rfl⟩
      clear hr0 cT0
      cases bb0 with
      | false =>
        go_wp2_with fail
        refine (alive_any _ hv.out).mono ?_
        rintro e W1 ⟨rfl, g1⟩
        go_wp2
        go_ret
        exact ⟨rfl, gr_below g1⟩
      | true =>
        go_wp2_with fail
        refine (alive_any _ hv.out).mono ?_
        rintro e W1 ⟨rfl, g1⟩
        go_wp2
        go_ret
        exact ⟨rfl, gr_below g1⟩
    · have d2 : 60 < a1 := by omega
      clear c
      replace hv := Lib.hid hv
      go_enter Tryd.func5, Tryd.ntmps5
      go_wp2_with fail
      refine cT0.mono ?_
      rintro e W ⟨⟨bb0, rfl, _⟩, rfl⟩
      clear hr0 cT0
      cases bb0 with
      | false =>
        go_wp2_with fail
        refine (alive_any _ hv.out).mono ?_
        rintro e W1 ⟨rfl, g1⟩
        go_wp2
        go_ret
        exact ⟨rfl, gr_below g1⟩
      | true =>
        go_wp2_with fail
        refine (alive_any _ hv.out).mono ?_
        rintro e W1 ⟨rfl, g1⟩
        go_wp2
        go_ret
        exact ⟨rfl, gr_below g1⟩



set_option maxRecDepth 100000 in
theorem door_met (os : Os) (args : Array Value) : laidMetH Tryd.prog Rows.deskIdsRow.laid ((World.doorLaid Tryd.prog 62 os).forCall (fun _ _ => 0) ⟨#[], args, []⟩).memory :=
  laidMetH_of_parts3 (fuel := 8) (laidMet_of_run' 8 (by kernel_rfl) (by kernel_rfl)) (by kernel_rfl) (by kernel_rfl)

set_option maxRecDepth 100000 in
theorem lifted (os : Os) (started : os.Started) (H : Type) (enc : TypeId × Value → H) :
    ReturnsInHanded {} Tryd.checked os 5 .any (fun w args => (Rows.deskIdsSpec.pre enc Tryd.prog Tryd.f5 [] false w args ∧ laidMetH Tryd.prog Rows.deskIdsRow.laid w) ∧ sizedMet enc Tryd.prog Tryd.f5 (OpenSpec.ofChange Rows.deskIdsSpec) false w args) (Rows.deskIdsSpec.post enc Tryd.prog Tryd.f5 false true false false) := by
  refine returnsInHanded_of_change_and (C := Tryd.checked) (X := fun w _ => laidMetH Tryd.prog Rows.deskIdsRow.laid w) (fun _ _ _ hh h => h.of_heap hh) own started (by kernel_rfl) Tryd.func5
    (ChangeSpec.witness_shaped (enc := enc) (C := Tryd.checked) (os := os) (X := fun w _ => laidMetH Tryd.prog Rows.deskIdsRow.laid w) false (World.doorLaid Tryd.prog 62 os) #[.slice none 0 0, .int .i64 0, .bool false] 8 rfl (World.shaped_of_RefB (by kernel_rfl) (by kernel_rfl)) (by kernel_rfl) (by kernel_rfl) (by kernel_rfl) (door_met os _)) ?_
  intro W base args ds gs before hval0 hW _ _ hL _
  have hval : ∀ (j : Nat) t v, Tryd.f5.params[j]? = some t → args[j]? = some v → Value.okWide Tryd.prog W .any base t v := hval0
  have hW' := hW
  obtain ⟨p, q, hA0, hV, rfl, hfz, hnd⟩ := hW
  have hA : DataW.TrodAll enc Tryd.prog W 0 (fun _ => true) true Tryd.f5.params.toList args.toList ds p := hA0
  rw [Tryd.params5] at hA hval
  obtain ⟨v0, vs0, d0, ds0, p0, q0, hargs, rfl, rfl, h0, r0⟩ := trodAll_cons hA
  obtain ⟨v1, vs1, d1, ds1, p1, q1, rfl, rfl, rfl, h1, r1⟩ := trodAll_cons r0
  obtain ⟨v2, vs2, d2, ds2, p2, q2, rfl, rfl, rfl, h2, r2⟩ := trodAll_cons r1
  obtain ⟨rfl, rfl, rfl⟩ := trodAll_nil r2
  obtain rfl : args = #[v0, v1, v2] := by cases args; simp_all
  obtain ⟨rfl, rfl⟩ := trodVars_none hV
  obtain ⟨a0, len0, cap0, rfl⟩ := okWide_slice Tryd.underlying38 (hval 0 38 v0 rfl rfl)
  have k0 := h0
  have lt0 : ∀ x ∈ p0, x.block < W.heap.size := by obtain ⟨m, hm⟩ := k0; exact DataW.trod_lt m _ _ _ hm
  obtain ⟨z0, w0⟩ := Dy.ntes_open h0
  obtain ⟨a1, rfl, rfl, rfl, w1⟩ := open_int Tryd.underlying3 (hval 1 3 v1 rfl rfl) h1
  obtain ⟨a2, rfl, rfl, rfl⟩ := open_bool Tryd.underlying4 (hval 2 4 v2 rfl rfl) h2
  clear hA0 hval0
  refine (walk W hL a0 len0 cap0 z0 w0 a1 w1 a2).mono fun e W' ⟨he, bel⟩ => ?_
  subst he
  exact ⟨_, rfl, _, _, _, [], _, [], hW', trodAll_mk1 (shut_bool Tryd.underlying4 _), (trodAll_cons_mk (Below.trod laidOut (by kernel_rfl) (of_decide_eq_true (by kernel_rfl)) k0 bel lt0) (trodAll_cons_mk (shut_int Tryd.underlying3 w1) (trodAll_cons_mk (shut_bool Tryd.underlying4 a2) trodAll_mk0))), rfl, bel.frame _, fun h => by cases h⟩

theorem over : Rows.deskIdsRow.holds Tryd.pinned (OpenSpec.ofChange Rows.deskIdsSpec) :=
  OpenClaim.holds_of_wide 5 Tryd.f5 rfl rfl rfl rfl rfl rfl rfl ⟨rfl, rfl, rfl, rfl, rfl⟩ rfl rfl rfl rfl rfl (by kernel_rfl) Tryd.func5 (by kernel_rfl)
    (of_decide_eq_true (by kernel_rfl)) (by unfold Func.isWrapper; first | (rw [if_pos (by decide +kernel)]; kernel_rfl) | (rw [if_neg (by decide +kernel)]; exact ⟨rfl, rfl⟩))
    (fun os started H enc _ => lifted os started H enc)

/-- THE STATEMENT -/
theorem proved : Rows.DeskIdsCardSaid :=
  Claim7.holds_tied_plain_at .later [] [.data, .data, .data, .sentinel, .sentinel] true (true, "66b0c359d6fb581784c11cb2420c86fad2346afcea5ac5b99d7e23e4d7398def") true
    over (fun _ h => by cases h) (by kernel_rfl) (fun _ h => by cases h) deskIds_row_tie rfl ⟨rfl, rfl⟩ (by kernel_rfl) rfl
    (fun f fn hf hfn => by
      obtain rfl : f = 5 := Option.some.inj ((show Tryd.prog.funcNamed "leporello/leporellolaw22.DeskIds" = some 5 by kernel_rfl).symm.trans hf) |>.symm
      obtain rfl : fn = Tryd.f5 := (Option.some.inj (Tryd.func5.symm.trans hfn)).symm
      exact ⟨by kernel_rfl, fun j t ht => by
        rw [Tryd.params5] at ht
        have hm : t ∈ [38, 3, 4] := by simpa using Array.mem_of_getElem? ht
        have hall : ([38, 3, 4].all fun u => !Tryd.prog.wantsStandIn u) = true := by kernel_rfl
        exact (show Tryd.prog.wantsStandIn t = false by simpa using List.all_eq_true.1 hall t hm)⟩)
    (by kernel_rfl)
#print axioms proved
end Go.Proofs.YtilbeoblppigeaaDoor.deskIds

