/-
  RowTells holds of the program: for every input the call returns true and leaves what came in as it was. No condition.
-/
import Derived.Test.YtcinhaaibnailaaGreatRows
import Derived.Test.YtcinhaaibnailaaGreatRowAlive
import Derived.Test.YtcinhaaibnailaaGreatRowOpen
import Derived.Test.YtcinhaaibnailaaGreatApartLabels
import Derived.Test.YtcinhaaibnailaaGreatLentLabels
import Derived.Test.YtcinhaaibnailaaGreatRefGet
import Derived.Test.YtcinhaaibnailaaGreatRefPut
import Derived.Test.YtcinhaaibnailaaGreatRowsLight
import Derived.WalkKit
import Derived.ProofKit
import Derived.OpenShut
import Derived.ShutString
import Derived.ChangeOld
import Derived.Below
namespace Go.Proofs.YtcinhaaibnailaaGreat.rowTells
open Go.ChangeShapes Go.WideShapes Go.ChangeAt Go.RowKit
open Go.ChangeMaps (open_string shut_string)
set_option linter.unusedVariables false

theorem own : ownKnob Tryz.prog.godebug = none := by kernel_rfl
theorem laidOut : laidOutB Tryz.prog = true := by kernel_rfl

theorem below_le {B B' : Nat} {w w' : World} (h : Below B w w') (hB : B' ≤ B) : Below B' w w' := ⟨h.os, h.tape, h.output, h.size, fun k hk => h.block k (Nat.lt_of_lt_of_le hk hB)⟩
theorem kept_new (w : World) : BkL.Kept (w.alloc (.cells (BkL.bkCells (.slice none 0 0) (.slice none 0 0)) 49)) w.heap.size ⟨none, 0, 0⟩ ⟨none, 0, 0⟩ [] [] :=
  ⟨blk_new w _, World.ownsRow_nil _ _ _ _, World.ownsRow_nil _ _ _ _, rfl, rfl, fun k h => by simp [Value.ownBlock] at h⟩
theorem kept_gr {w w' : World} {K : Nat} {T V : Lst} {ls cs : List Lst} (h : BkL.Kept w K T V ls cs) (g : Gr w w') : BkL.Kept w' K T V ls cs :=
  ⟨gr_blk g h.blk (by simp), h.hT.kept g (by cases T.v.ownBlock <;> simp), h.hV.kept g (by cases V.v.ownBlock <;> simp), h.nT, h.nV, h.ne⟩
theorem kept0 {w w' : World} {base size : Nat} {e : TypeId} {v : Value} {n : Nat} {xs : List Value} (h : w.ownsRow base e size v n xs) (g : Gr w w') : w'.ownsRow base e size v n xs := h.kept g (by cases v.ownBlock <;> simp)
theorem parted1 (a : Lst) : Parted [a] := by
  intro i j l m k hi hj _ _
  match i, j, hi, hj with
  | 0, 0, _, _ => rfl
  | i + 1, _, hi, _ => simp at hi
  | _, j + 1, _, hj => simp at hj
theorem parted2 {a b : Lst} (h : ∀ k, a.v.ownBlock = some k → b.v.ownBlock = some k → False) : Parted [a, b] := by
  intro i j l m k hi hj hl hm
  match i, j, hi, hj with
  | 0, 0, _, _ => rfl
  | 1, 1, _, _ => rfl
  | 0, 1, hi, hj =>
    obtain rfl : a = l := by simpa using hi
    obtain rfl : b = m := by simpa using hj
    exact absurd hm (fun hm => h k hl hm)
  | 1, 0, hi, hj =>
    obtain rfl : a = m := by simpa using hj
    obtain rfl : b = l := by simpa using hi
    exact absurd hl (fun hl => h k hm hl)
  | i + 2, _, hi, _ => simp at hi
  | _, j + 2, _, hj => simp at hj
/-- A row's block, as a row of one. -/
theorem own_one (w : World) (A : Option Addr) (n c : Nat) (v : Int) : (w.alloc (.cells #[.slice A n c, .int .i64 v] 24)).ownsRow w.heap.size 24 2 (.slice (some ⟨w.heap.size, 0, none⟩) 1 1) 1 [.slice A n c, .int .i64 v] :=
  World.ownsRow_lit (e := 24) (size := 2) w #[.slice A n c, .int .i64 v] 1 (Nat.le_refl _) (by unfold maxLen; omega) rfl
theorem own_one_cells {w : World} {base b : Nat} {x y : Value} (h : w.ownsRow base 24 2 (.slice (some ⟨b, 0, none⟩) 1 1) 1 [x, y]) : w.cell? ⟨b, 0, none⟩ = some x ∧ w.cell? ⟨b, 1, none⟩ = some y := ⟨h.cellAt 0 (by decide), h.cellAt 1 (by decide)⟩
/-- What a reading comes to, as values. -/
def gL (o : Option (Rw × List UInt8)) : List Lb := match o with | some (r, _) => r.l | none => []
def gV (o : Option (Rw × List UInt8)) : Int := match o with | some (r, _) => r.v | none => 0
def gT (o : Option (Rw × List UInt8)) : List UInt8 := match o with | some (_, t) => t | none => []
theorem get_post {b : List UInt8} {w w' : World} {e : Ending} (h : GetPost b w e w') : ∃ A c, e = .returned (.tuple #[.agg #[.slice A (gL (getR b)).length c, .int .i64 (gV (getR b))], .string (txt (gT (getR b))), .int .i64 (if (getR b).isSome then 0 else 2)]) ∧ w'.ownsRow w.heap.size 58 2 (.slice A (gL (getR b)).length c) (gL (getR b)).length (sR lblC (gL (getR b))) ∧ Gr w w' := by
  obtain ⟨h, g⟩ := h
  rcases h with ⟨r, t, A, c, h1, rfl, h2⟩ | ⟨h1, rfl⟩
  · rw [h1]; exact ⟨A, c, rfl, h2, g⟩
  · rw [h1]; exact ⟨none, 0, rfl, World.ownsRow_nil _ _ _ _, g⟩
theorem rget_post {b : List UInt8} {w w' : World} {e : Ending} (h : RefGetPost b w e w') : ∃ A c, e = .returned (.tuple #[.agg #[.slice A (gL (getR b)).length c, .int .i64 (gV (getR b))], .string (txt (gT (getR b))), .bool (getR b).isSome]) ∧ w'.ownsRow w.heap.size 58 2 (.slice A (gL (getR b)).length c) (gL (getR b)).length (sR lblC (gL (getR b))) ∧ Gr w w' := by
  obtain ⟨h, g⟩ := h
  rcases h with ⟨r, t, A, c, h1, rfl, h2⟩ | ⟨h1, rfl⟩
  · rw [h1]; exact ⟨A, c, rfl, h2, g⟩
  · rw [h1]; exact ⟨none, 0, rfl, World.ownsRow_nil _ _ _ _, g⟩
theorem gL_small (b : List UInt8) : (gL (getR b)).length < 256 := by
  cases h : getR b with
  | none => exact (by decide : (0 : Nat) < 256)
  | some p => obtain ⟨r, t⟩ := p; exact (getR_some h).2.2.1
set_option maxHeartbeats 40000000 in
set_option maxRecDepth 100000 in
theorem walk (w : World) (v0 : Value) (z0 : Rw) (w0 : IsRowV w v0 z0) (a1 : ByteArray) (w1 : a1.size ≤ maxLen) (a2 : Option Addr) (len2 cap2 : Nat) (z2 : List Rw) (w2 : IsRows w a2 len2 cap2 z2) :
    Calls Tryz.prog 3 #[v0, .string a1, .slice a2 len2 cap2] w fun e w' => e = .returned (.bool true) ∧ Below w.heap.size w w' := by
  obtain ⟨h0, rfl, k0⟩ := w0
  obtain ⟨hr2, hc21, hc22, _, _⟩ := w2
  have o0 := isHd_ok k0
  have hn0 : h0.n ≤ 9223372036854775807 := Nat.le_trans o0.le o0.small
  have r0 := k0.2.2
  have e0 := k0.1
  clear k0
  obtain ⟨b, rfl⟩ : ∃ b, a1 = txt b := ⟨_, (txt_of a1).symm⟩
  rw [txt_size] at w1
  unfold maxLen at w1
  obtain ⟨A0, n0, c0, u0⟩ := h0
  simp only at hn0 e0
  subst e0
  simp only [hdC]
  obtain ⟨zs, v⟩ := z0
  simp only at r0 o0 ⊢
  obtain ⟨W1, hW1⟩ : ∃ W1, W1 = w.alloc (.cells #[.slice A0 n0 c0, .int .i64 v] 24) := ⟨_, rfl⟩
  have g1 : Gr w W1 := by rw [hW1]; exact gr_alloc _ _ _
  have hA : ∀ j x, (#[.slice A0 n0 c0, .int .i64 v] : Array Value)[j]? = some x → W1.cell? ⟨w.heap.size, j, none⟩ = some x := fun j x hj => by rw [hW1, World.cell?_alloc_new]; exact hj
  have hc : ∀ w', Gr W1 w' → (w'.cell? ⟨w.heap.size, 0, none⟩ = some (.slice A0 n0 c0) ∧ w'.cell? ⟨w.heap.size, 1, none⟩ = some (.int .i64 v)) := fun w' g => ⟨gr_cell g (hA 0 _ rfl), gr_cell g (hA 1 _ rfl)⟩
  have hl0 := llight_any A0 n0 c0 zs W1 hn0 (row_gr o0.row g1)
  have hl2 := rlight_any a2 len2 cap2 z2 W1 (by omega) (rows_gr hr2 g1)
  have hlen2 : z2.length = len2 := hr2.1
  have hlen0 : zs.length = n0 := o0.n.symm
  replace o0 := Lib.hid o0
  replace hr2 := Lib.hid hr2
  replace hc := Lib.hid hc
  replace hl0 := Lib.hid hl0
  replace hl2 := Lib.hid hl2
  replace hlen0 := Lib.hid hlen0
  replace hlen2 := Lib.hid hlen2
  replace g1 := Lib.hid g1
  replace r0 := Lib.hid r0
  go_enter Tryz.func3, Tryz.ntmps3
  go_upto_region 1 with fail
  rw [← hW1]
  clear hW1 hA
  obtain ⟨q0, q1⟩ := hc.out W1 (gr_refl _ _)
  go_wp2_with fail
  refine hl0.out.mono ?_
  rintro e W2 ⟨⟨b0, rfl, hb0⟩, rfl⟩
  cases b0 with
  | false =>
    go_wp2_with fail
    refine (alive_any _).mono ?_
    rintro e w9 ⟨rfl, g9⟩
    go_wp2
    go_ret
    exact ⟨rfl, gr_below (gr_trans g1.out g9)⟩
  | true =>
    have hL0 := hb0 rfl
    replace hL0 := Lib.hid hL0
    clear hb0
    by_cases hb3 : 3000 < b.length
    · have hbi : (3000 : Int) < (b.length : Int) := by omega
      go_wp2_with fail
      refine (alive_any _).mono ?_
      rintro e w9 ⟨rfl, g9⟩
      go_wp2
      go_ret
      exact ⟨rfl, gr_below (gr_trans g1.out g9)⟩
    · have hbi : ((3000 : Int) < (b.length : Int)) = False := eq_false (by omega)
      go_wp2_with fail
      refine hl2.out.mono ?_
      rintro e W3 ⟨⟨b2, rfl, hb2⟩, rfl⟩
      cases b2 with
      | false =>
        go_wp2_with fail
        refine (alive_any _).mono ?_
        rintro e w9 ⟨rfl, g9⟩
        go_wp2
        go_ret
        exact ⟨rfl, gr_below (gr_trans g1.out g9)⟩
      | true =>
        obtain ⟨hn60, hL2⟩ := hb2 rfl
        rw [hlen2.out] at hn60
        replace hL2 := Lib.hid hL2
        clear hb2
        go_wp2_with fail
        refine (alive_any _).mono ?_
        rintro e W2 ⟨rfl, g2⟩
        clear q0 q1
        obtain ⟨q0, q1⟩ := hc.out W2 g2
        have hn20 : n0 ≤ 20 := by have := hL0.out.1; have := hlen0.out; omega
        have G2 := gr_trans g1.out g2
        have hlt := BkL.lentLabels_any A0 n0 c0 zs W2 (by omega) (row_gr o0.out.row G2)
        replace hlt := Lib.hid hlt
        replace g2 := Lib.hid g2
        go_wp2_with fail
        refine hlt.out.mono ?_
        rintro e W3 ⟨A1, c1, rfl, hm3, g3⟩
        have G3 := gr_trans g2.out g3
        clear q0 q1
        obtain ⟨q0, q1⟩ := hc.out W3 G3
        obtain ⟨Bm, om, hAm, hmk⟩ := lentS_mark BkL.bkC_len (by decide) hm3
        clear hmk
        have hp0 := put_any A1 n0 c1 zs v W3 (by omega) (by rw [hAm]; intro e; cases e) (BkL.lent_rowLabels hm3) (light_short hL0.out) r0.out
        unfold PutPost at hp0
        replace hm3 := Lib.hid hm3
        replace G3 := Lib.hid G3
        clear hlt g2 g3 G2 hAm
        obtain ⟨N, hN⟩ : ∃ N, N = costR ⟨zs, v⟩ := ⟨_, rfl⟩
        by_cases ok : okR ⟨zs, v⟩
        · rw [if_pos ok] at hp0
          obtain ⟨S, hS⟩ : ∃ S, S = rowL ⟨zs, v⟩ := ⟨_, rfl⟩
          have hSl : S.length ≤ 100000 := by rw [hS]; exact Nat.le_trans (rowL_le ok) (by decide)
          rw [← hS] at hp0
          replace hS := Lib.hid hS
          replace hp0 := Lib.hid hp0
          replace ok := Lib.hid ok
          go_wp2_with fail
          refine hp0.out.mono ?_
          rintro e W4 ⟨rfl, g4⟩
          have G4 := gr_trans G3.out g4
          clear q0 q1
          obtain ⟨q0, q1⟩ := hc.out W4 G4
          have hR := refRow_any A0 n0 c0 zs v W4 (by omega) (row_gr o0.out.row (gr_trans g1.out G4)) (fun x hx => by have := hL0.out.2 x hx; omega)
          rw [decide_eq_true ok.out] at hR
          have hm4 := Lib.hid (lentS_gr hm3.out g4)
          replace hR := Lib.hid hR
          replace G4 := Lib.hid G4
          clear hp0 hm3 G3 g4
          go_wp2_with fail
          refine hR.out.mono ?_
          rintro e W5 ⟨rfl, g5⟩
          have G5 := gr_trans G4.out g5
          clear q0 q1
          obtain ⟨q0, q1⟩ := hc.out W5 G5
          have hm5 := lentS_gr hm4.out g5
          have d0 : ∀ p : Grown W5, p.wd.cell? ⟨w.heap.size, 0, none⟩ = some (.slice A0 n0 c0) := fun p => cell_to q0 p
          have d1 : ∀ p : Grown W5, p.wd.cell? ⟨w.heap.size, 1, none⟩ = some (.int .i64 v) := fun p => cell_to q1 p
          have hrowP : ∀ p : Grown W5, Row p.wd A0 n0 2 (sR lblC zs) := fun p => row_gr o0.out.row (gr_trans g1.out (gr_trans G5 p.gr))
          have hC1 : ∀ p : Grown W5, Calls Tryz.prog 11 #[.agg #[.slice A0 n0 c0, .int .i64 v]] p.wd fun e w' => e = .returned (.int .i64 N) ∧ Gr p.wd w' := fun p => by rw [hN]; exact cost_any A0 n0 c0 zs v p.wd hL0.out (hrowP p)
          have hC2 : ∀ p : Grown W5, Calls Tryz.prog 12 #[.agg #[.slice A0 n0 c0, .int .i64 v]] p.wd fun e w' => e = .returned (.int .i64 N) ∧ Gr p.wd w' := fun p => by rw [hN]; exact refCost_any A0 n0 c0 zs v p.wd hL0.out (hrowP p)
          have hC3 : ∀ p : Grown W5, Calls Tryz.prog 13 #[.slice A1 n0 c1, .slice A0 n0 c0] p.wd fun e w' => e = .returned (.bool true) ∧ Gr p.wd w' := fun p => BkL.staysLabels_any A1 A0 n0 c1 c0 zs p.wd (by omega) (lentS_gr hm5 p.gr) (hrowP p)
          have hC4 : ∀ p : Grown W5, Calls Tryz.prog 10 #[.agg #[.slice A0 n0 c0, .int .i64 v]] p.wd fun e w' => e = .returned (.string (txt S)) ∧ Gr p.wd w' := fun p => by rw [hS.out]; exact refPut_any A0 n0 c0 zs v p.wd ok.out (hrowP p)
          replace hC4 := Lib.hid hC4
          replace hC1 := Lib.hid hC1
          replace hC2 := Lib.hid hC2
          replace hC3 := Lib.hid hC3
          replace G5 := Lib.hid G5
          clear q0 q1 hrowP hm5 hm4 hR G4 g5
          go_upto_region 6 with fail
          refine wp_region_quiet_gr (by kernel_rfl) (by kernel_rfl) ?_
          repeat (go_big_quiet_step (first | (go_at_call 10; exact calls_gr (hC4.out _)) | (go_at_call 11; exact calls_gr (hC1.out _)) | (go_at_call 12; exact calls_gr (hC2.out _)) | (go_at_call 13; exact calls_gr (hC3.out _))))
          refine wpQuiet_nil ?_
          intro W6 hw6
          obtain ⟨⟨wp6, g6⟩, rfl⟩ := hw6
          have G6 := gr_trans G5.out g6
          replace G6 := Lib.hid G6
          clear d0 d1 hC1 hC2 hC3 hC4 G5 g6
          go_upto_region 9 with fail
          obtain ⟨W7, hW7⟩ : ∃ W7, W7 = W6.alloc (.cells (BkL.bkCells (.slice none 0 0) (.slice none 0 0)) 49) := ⟨_, rfl⟩
          have hk7 := kept_new W6
          rw [← hW7] at hk7
          have hb7 : Below W6.heap.size W6 W7 := by rw [hW7]; exact gr_below (gr_alloc W6 _ none)
          have hW7s : W6.heap.size < W7.heap.size := by rw [hW7]; simp
          have cG := get_any b W7 (by omega)
          have hchg : ∀ (Q : Ending → World → Prop), Calls Tryz.prog 14 #[.string (txt b)] W7 Q → Calls Tryz.prog 14 #[.string (txt b)] (W6.alloc (.cells (BkL.bkCells (.slice none 0 0) (.slice none 0 0)) 49)) Q := fun Q h => by rw [← hW7]; exact h
          replace hk7 := Lib.hid hk7
          replace hb7 := Lib.hid hb7
          replace hW7 := Lib.hid hW7
          replace cG := Lib.hid cG
          replace hchg := Lib.hid hchg
          go_wp2_with fail
          refine hchg.out _ ?_
          refine cG.out.mono ?_
          intro e W8 hpost
          obtain ⟨xA, xc, rfl, hx8, g8⟩ := get_post hpost
          have hgs := gL_small b
          obtain ⟨B, hB⟩ : ∃ B, B = (getR b).isSome := ⟨_, rfl⟩
          obtain ⟨E, hE⟩ : ∃ E : Int, E = if (getR b).isSome then 0 else 2 := ⟨_, rfl⟩
          have hE2 : E = if B then 0 else 2 := by rw [hE, hB]
          rw [← hE]
          have cR : ∀ w, Calls Tryz.prog 15 #[.string (txt b)] w fun e w' => ∃ A c, e = .returned (.tuple #[.agg #[.slice A (gL (getR b)).length c, .int .i64 (gV (getR b))], .string (txt (gT (getR b))), .bool B]) ∧ w'.ownsRow w.heap.size 58 2 (.slice A (gL (getR b)).length c) (gL (getR b)).length (sR lblC (gL (getR b))) ∧ Gr w w' := fun w => by
            rw [hB]
            exact (refGet_any b w (by omega)).mono fun e w' h => rget_post h
          generalize gL (getR b) = L at *
          generalize gV (getR b) = V at *
          generalize gT (getR b) = T at *
          replace hB := Lib.hid hB
          replace hE2 := Lib.hid hE2
          clear hE hpost
          obtain ⟨W9, hW9⟩ : ∃ W9, W9 = W8.alloc (.cells #[.slice xA L.length xc, .int .i64 V] 24) := ⟨_, rfl⟩
          have hxo := own_one W8 xA L.length xc V
          rw [← hW9] at hxo
          have g9 : Gr W8 W9 := by rw [hW9]; exact gr_alloc _ _ _
          have hk9 := kept_gr hk7.out (gr_trans g8 g9)
          have hb9 := below_gr hb7.out (gr_trans g8 g9) hb7.out.size (by simp)
          have hx9 := kept0 hx8 g9
          have hxlt := hx8.lt
          have hbx : W6.heap.size ≤ W7.heap.size := hb7.out.size
          have h89 := g9.size
          have h78 := g8.size
          replace hxo := Lib.hid hxo
          replace hk9 := Lib.hid hk9
          replace hb9 := Lib.hid hb9
          replace hx9 := Lib.hid hx9
          replace hxlt := Lib.hid hxlt
          replace cR := Lib.hid cR
          clear hk7 hb7 cG hchg hx8 g8 g9
          go_upto_region 10 with fail
          rw [← hW9]
          replace hW9 := Lib.hid hW9
          go_wp2_with fail
          refine (cR.out _).mono ?_
          rintro e W10 ⟨yA, yc, rfl, hy10, g10⟩
          obtain ⟨W11, hW11⟩ : ∃ W11, W11 = W10.alloc (.cells #[.slice yA L.length yc, .int .i64 V] 24) := ⟨_, rfl⟩
          have hyo := own_one W10 yA L.length yc V
          rw [← hW11] at hyo
          have g11 : Gr W10 W11 := by rw [hW11]; exact gr_alloc _ _ _
          have gg := gr_trans g10 g11
          have hk11 := kept_gr hk9.out gg
          have hb11 := below_gr hb9.out gg hb9.out.size (by simp)
          have hx11 := kept0 hx9.out gg
          have hxo11 := kept0 hxo.out gg
          have hy11 := kept0 hy10 g11
          have hkeep := BkL.keep_any W6.heap.size ⟨none, 0, 0⟩ ⟨none, 0, 0⟩ [] [] ⟨xA, L.length, xc⟩ L W11 (by simp) rfl hk11 (by simp only; omega) (own_mono hx11 (Nat.zero_le _))
          obtain ⟨x0, _⟩ := own_one_cells hxo11
          have h8b := Nat.le_trans h89 gg.size
          replace hyo := Lib.hid hyo
          replace hk11 := Lib.hid hk11
          replace hb11 := Lib.hid hb11
          replace hx11 := Lib.hid hx11
          replace hxo11 := Lib.hid hxo11
          replace hy11 := Lib.hid hy11
          replace hkeep := Lib.hid hkeep
          clear hk9 hb9 hx9 hxo hy10 g10 g11 gg cR
          go_upto_region 11 with fail
          rw [← hW11]
          replace hW11 := Lib.hid hW11
          go_wp2_with fail
          refine hkeep.out.mono ?_
          rintro e W12 ⟨rfl, T1, V1, k1, hk12, hk1n, hk1o, hb12, ty12⟩
          have hx12 := ty12 _ _ _ _ _ _ (by decide) (by decide) hx11.out
          have hy12 := ty12 _ _ _ _ _ _ (by decide) (by decide) hy11.out
          obtain ⟨x0, x1⟩ := own_one_cells (ty12 _ _ _ _ _ _ (by decide) (by decide) hxo11.out)
          obtain ⟨y0, y1⟩ := own_one_cells (ty12 _ _ _ _ _ _ (by decide) (by decide) hyo.out)
          have hbel12 := hb11.out.trans hb12
          have hsm := BkL.same_yes xA yA L.length xc yc L W12 (by omega) (row_own hx12) (row_own hy12)
          have h8c := Nat.le_trans h8b hb12.size
          have hVV : (V == V) = true := beq_self_eq_true V
          replace hk12 := Lib.hid hk12
          replace hk1n := Lib.hid hk1n
          replace hk1o := Lib.hid hk1o
          replace hx12 := Lib.hid hx12
          replace hbel12 := Lib.hid hbel12
          replace hsm := Lib.hid hsm
          clear hkeep hk11 hb11 hx11 hy11 hxo11 hyo hb12 ty12 hy12
          cases B with
          | true =>
            obtain rfl : E = 0 := hE2.out
            go_wp2_with fail
            refine hsm.out.mono ?_
            rintro e W13 ⟨rfl, g13⟩
            have h8d := Nat.le_trans h8c g13.size
            have hk13 := kept_gr hk12.out g13
            have hx13 := kept0 hx12.out g13
            have hk1o13 := kept0 hk1o.out g13
            have hbel13 := below_gr hbel12.out g13 hbel12.out.size (by simp)
            have G13 := gr_trans G6.out (gr_of_below hbel13 (Nat.le_refl _))
            clear x0 x1 y0 y1 hk12 hx12 hk1o hbel12 hsm g13
            have hgt : getR (S ++ b) = some (⟨zs, v⟩, b) := by rw [hS.out]; exact getR_of ok.out (light_small hL0.out) b
            have cG2 := get_any (S ++ b) W13 (by rw [List.length_append]; omega)
            have hcat : (9223372036854775807 < S.length + b.length) = False := eq_false (by omega)
            have hap2 : txt S ++ txt b = txt (S ++ b) := txt_append _ _
            replace hgt := Lib.hid hgt
            replace cG2 := Lib.hid cG2
            replace hk13 := Lib.hid hk13
            replace hx13 := Lib.hid hx13
            replace hk1o13 := Lib.hid hk1o13
            replace hbel13 := Lib.hid hbel13
            replace G13 := Lib.hid G13
            go_wp2_with fail
            refine cG2.out.mono ?_
            rintro e W14 ⟨⟨r', t, zA, zc, hgr, rfl, hz14⟩ | ⟨hgr, rfl⟩, g14⟩
            · rw [hgt.out] at hgr
              injection hgr with hgr
              injection hgr with q2 q3
              subst q2 q3
              simp only at hz14 ⊢
              obtain ⟨W15, hW15⟩ : ∃ W15, W15 = W14.alloc (.cells #[.slice zA zs.length zc, .int .i64 v] 24) := ⟨_, rfl⟩
              have hzo := own_one W14 zA zs.length zc v
              rw [← hW15] at hzo
              have g15 : Gr W14 W15 := by rw [hW15]; exact gr_alloc _ _ _
              have gg := gr_trans g14 g15
              have hk15 := kept_gr hk13.out gg
              have hb15 := below_gr hbel13.out gg hbel13.out.size (by simp)
              have hx15 := kept0 hx13.out gg
              have hk1o15 := kept0 hk1o13.out gg
              have hz15 := kept0 hz14 g15
              have hzlt := hz14.lt
              have hkeep2 := BkL.keep_any W6.heap.size T1 V1 _ _ ⟨zA, zs.length, zc⟩ zs W15 (by simp) (by simp) hk15 (by simp only; have := hlen0.out; omega) (own_mono hz15 (Nat.zero_le _))
              obtain ⟨p0, _⟩ := own_one_cells hzo
              have hs13 : W8.heap.size ≤ W13.heap.size := h8d
              have hzl20 : zs.length ≤ 20 := hL0.out.1
              replace hzo := Lib.hid hzo
              replace hk15 := Lib.hid hk15
              replace hb15 := Lib.hid hb15
              replace hx15 := Lib.hid hx15
              replace hk1o15 := Lib.hid hk1o15
              replace hz15 := Lib.hid hz15
              replace hzlt := Lib.hid hzlt
              replace hkeep2 := Lib.hid hkeep2
              clear hk13 hbel13 hx13 hk1o13 hz14 g14 g15 gg cG2 hgt
              go_upto_region 16 with fail
              rw [← hW15]
              replace hW15 := Lib.hid hW15
              go_wp2_with fail
              refine hkeep2.out.mono ?_
              rintro e W16 ⟨rfl, T2, V2, k2, hk16, hk2n, hk2o, hb16, ty16⟩
              have hx16 := ty16 _ _ _ _ _ _ (by decide) (by decide) hx15.out
              have hz16 := ty16 _ _ _ _ _ _ (by decide) (by decide) hz15.out
              have hk1o16 := ty16 _ _ _ _ _ _ (by decide) (by decide) hk1o15.out
              obtain ⟨p0, p1⟩ := own_one_cells (ty16 _ _ _ _ _ _ (by decide) (by decide) hzo.out)
              have hbel16 := hb15.out.trans hb16
              have G16 := gr_trans G6.out (gr_of_below hbel16 (Nat.le_refl _))
              obtain ⟨q0, q1⟩ := hc.out W16 G16
              have hsm2 := sameLabels_any zA A0 zs.length n0 zc c0 zs zs W16 (by omega) (by omega) (row_own hz16) (row_gr o0.out.row (gr_trans g1.out G16))
              rw [decide_eq_true rfl] at hsm2
              have hvv : (v == v) = true := beq_self_eq_true v
              replace hk16 := Lib.hid hk16
              replace hk2n := Lib.hid hk2n
              replace hk2o := Lib.hid hk2o
              replace hx16 := Lib.hid hx16
              replace hz16 := Lib.hid hz16
              replace hk1o16 := Lib.hid hk1o16
              replace hbel16 := Lib.hid hbel16
              replace hsm2 := Lib.hid hsm2
              clear hkeep2 hk15 hb15 hx15 hz15 hzo hb16 ty16 hk1o15
              go_wp2_with fail
              refine hsm2.out.mono ?_
              rintro e W17 ⟨rfl, g17⟩
              have hk17 := kept_gr hk16.out g17
              have hx17 := kept0 hx16.out g17
              have hz17 := kept0 hz16.out g17
              have hk1o17 := kept0 hk1o16.out g17
              have hk2o17 := kept0 hk2o.out g17
              have hbel17 := below_gr hbel16.out g17 hbel16.out.size (by simp)
              clear hk16 hx16 hz16 hk1o16 hk2o hbel16 g17 hsm2 q0 q1 p0 p1 G16
              have hls : Parted [(⟨xA, L.length, xc⟩ : Lst), ⟨zA, zs.length, zc⟩] := parted2 (fun k h1 h2 => by
                have e1 := (hxlt.out k h1).2
                have e2 := (hzlt.out k h2).1
                omega)
              have hin : ∀ k, InL [(⟨xA, L.length, xc⟩ : Lst), ⟨zA, zs.length, zc⟩] k → W6.heap.size ≤ k := by
                rintro k ⟨l, hm, hb⟩
                simp only [List.mem_cons, List.not_mem_nil, or_false] at hm
                rcases hm with rfl | rfl
                · have := (hxlt.out k hb).1; omega
                · have := (hzlt.out k hb).1; omega
              have hap : ∀ W, Gr W17 W → Calls Tryz.prog 19 #[.pointer (some ⟨W6.heap.size, 0, none⟩)] W fun e w' => e = .returned (.bool true) ∧ GrS (InL [(⟨xA, L.length, xc⟩ : Lst), ⟨zA, zs.length, zc⟩]) W w' := fun W g => BkL.apart_any W6.heap.size T2 V2 [⟨xA, L.length, xc⟩, ⟨zA, zs.length, zc⟩] [k1, k2] W (by simp) rfl (kept_gr hk17 g) hls (fun j l c hl hc => by
                match j, hl, hc with
                | 0, hl, hc =>
                  obtain rfl : (⟨xA, L.length, xc⟩ : Lst) = l := by simpa using hl
                  obtain rfl : k1 = c := by simpa using hc
                  exact ⟨by simp only; omega, hk1n.out, L, own_mono (kept0 hx17 g) (Nat.zero_le _), own_mono (kept0 hk1o17 g) (Nat.zero_le _)⟩
                | 1, hl, hc =>
                  obtain rfl : (⟨zA, zs.length, zc⟩ : Lst) = l := by simpa using hl
                  obtain rfl : k2 = c := by simpa using hc
                  exact ⟨by simp only; omega, hk2n.out, zs, own_mono (kept0 hz17 g) (Nat.zero_le _), own_mono (kept0 hk2o17 g) (Nat.zero_le _)⟩
                | j + 2, hl, _ => simp at hl)
              have GE := gr_trans G6.out (gr_of_below hbel17 (Nat.le_refl _))
              have GE2 := gr_trans g1.out GE
              have hrl : ∀ r ∈ z2, r.l.length ≤ 1000000000 := fun r hr => by have := (hL2.out r hr).1; omega
              have hs1 := rsame_any a2 a2 len2 len2 cap2 cap2 z2 z2 W17 (by omega) (by omega) (rows_gr hr2.out GE2) (rows_gr hr2.out GE2) hrl hrl
              rw [decide_eq_true rfl] at hs1
              have hs2 : ∀ W, Gr W17 W → Calls Tryz.prog 18 #[.slice a2 len2 cap2, .slice none 0 0] W fun e w' => e = .returned (.bool (decide (len2 = 0))) ∧ Gr W w' := fun W g => by
                have h := rsame_any a2 none len2 0 cap2 0 z2 [] W (by omega) (by omega) (rows_gr hr2.out (gr_trans GE2 g)) (rows_nil _ _) hrl (by simp)
                have hd : decide (z2 = []) = decide (len2 = 0) := decide_eq_decide.2 (by rw [← hlen2.out, List.length_eq_zero_iff])
                rw [hd] at h
                exact h
              replace hs1 := Lib.hid hs1
              replace hs2 := Lib.hid hs2
              replace hap := Lib.hid hap
              replace hin := Lib.hid hin
              replace GE2 := Lib.hid GE2
              replace hbel17 := Lib.hid hbel17
              clear hk17 hx17 hz17 hk1o17 hk2o17 GE hrl
              go_wp2_with fail
              refine hs1.out.mono ?_
              rintro e W18 ⟨rfl, g18⟩
              go_wp2_with fail
              refine (hs2.out _ g18).mono ?_
              rintro e W19 ⟨rfl, g19⟩
              have hap2 := hap.out W19 (gr_trans g18 g19)
              have hbel19 := below_gr hbel17.out (gr_trans g18 g19) hbel17.out.size (by simp)
              replace hap2 := Lib.hid hap2
              replace hbel19 := Lib.hid hbel19
              clear hap hs1 hs2 g18 g19
              by_cases h0 : len2 = 0
              · have hd0 : decide (len2 = 0) = true := decide_eq_true h0
                have hd1 : ((len2 : Int) == 0) = true := eqT (by omega)
                replace h0 := Lib.hid h0
                go_wp2_with fail
                refine hap2.out.mono ?_
                rintro e W20 ⟨rfl, gs20⟩
                go_wp2
                go_ret
                exact ⟨rfl, (gr_below (gr_trans g1.out G6.out)).trans (below_le (below_grs hbel19.out gs20 hbel19.out.size hin.out) (gr_trans g1.out G6.out).size)⟩
              · have hd0 : decide (len2 = 0) = false := decide_eq_false h0
                have hd1 : ((len2 : Int) == 0) = false := eqF (by omega)
                replace h0 := Lib.hid h0
                go_wp2_with fail
                refine hap2.out.mono ?_
                rintro e W20 ⟨rfl, gs20⟩
                go_wp2
                go_ret
                exact ⟨rfl, (gr_below (gr_trans g1.out G6.out)).trans (below_le (below_grs hbel19.out gs20 hbel19.out.size hin.out) (gr_trans g1.out G6.out).size)⟩
            · rw [hgt.out] at hgr
              cases hgr
          | false =>
            obtain rfl : E = 2 := hE2.out
            go_wp2_with fail
            refine hsm.out.mono ?_
            rintro e W13 ⟨rfl, g13⟩
            have h8d := Nat.le_trans h8c g13.size
            have hk13 := kept_gr hk12.out g13
            have hx13 := kept0 hx12.out g13
            have hk1o13 := kept0 hk1o.out g13
            have hbel13 := below_gr hbel12.out g13 hbel12.out.size (by simp)
            have G13 := gr_trans G6.out (gr_of_below hbel13 (Nat.le_refl _))
            clear x0 x1 y0 y1 hk12 hx12 hk1o hbel12 hsm g13
            have hgt : getR (S ++ b) = some (⟨zs, v⟩, b) := by rw [hS.out]; exact getR_of ok.out (light_small hL0.out) b
            have cG2 := get_any (S ++ b) W13 (by rw [List.length_append]; omega)
            have hcat : (9223372036854775807 < S.length + b.length) = False := eq_false (by omega)
            have hap2 : txt S ++ txt b = txt (S ++ b) := txt_append _ _
            replace hgt := Lib.hid hgt
            replace cG2 := Lib.hid cG2
            replace hk13 := Lib.hid hk13
            replace hx13 := Lib.hid hx13
            replace hk1o13 := Lib.hid hk1o13
            replace hbel13 := Lib.hid hbel13
            replace G13 := Lib.hid G13
            go_wp2_with fail
            refine cG2.out.mono ?_
            rintro e W14 ⟨⟨r', t, zA, zc, hgr, rfl, hz14⟩ | ⟨hgr, rfl⟩, g14⟩
            · rw [hgt.out] at hgr
              injection hgr with hgr
              injection hgr with q2 q3
              subst q2 q3
              simp only at hz14 ⊢
              obtain ⟨W15, hW15⟩ : ∃ W15, W15 = W14.alloc (.cells #[.slice zA zs.length zc, .int .i64 v] 24) := ⟨_, rfl⟩
              have hzo := own_one W14 zA zs.length zc v
              rw [← hW15] at hzo
              have g15 : Gr W14 W15 := by rw [hW15]; exact gr_alloc _ _ _
              have gg := gr_trans g14 g15
              have hk15 := kept_gr hk13.out gg
              have hb15 := below_gr hbel13.out gg hbel13.out.size (by simp)
              have hx15 := kept0 hx13.out gg
              have hk1o15 := kept0 hk1o13.out gg
              have hz15 := kept0 hz14 g15
              have hzlt := hz14.lt
              have hkeep2 := BkL.keep_any W6.heap.size T1 V1 _ _ ⟨zA, zs.length, zc⟩ zs W15 (by simp) (by simp) hk15 (by simp only; have := hlen0.out; omega) (own_mono hz15 (Nat.zero_le _))
              obtain ⟨p0, _⟩ := own_one_cells hzo
              have hs13 : W8.heap.size ≤ W13.heap.size := h8d
              have hzl20 : zs.length ≤ 20 := hL0.out.1
              replace hzo := Lib.hid hzo
              replace hk15 := Lib.hid hk15
              replace hb15 := Lib.hid hb15
              replace hx15 := Lib.hid hx15
              replace hk1o15 := Lib.hid hk1o15
              replace hz15 := Lib.hid hz15
              replace hzlt := Lib.hid hzlt
              replace hkeep2 := Lib.hid hkeep2
              clear hk13 hbel13 hx13 hk1o13 hz14 g14 g15 gg cG2 hgt
              go_upto_region 16 with fail
              rw [← hW15]
              replace hW15 := Lib.hid hW15
              go_wp2_with fail
              refine hkeep2.out.mono ?_
              rintro e W16 ⟨rfl, T2, V2, k2, hk16, hk2n, hk2o, hb16, ty16⟩
              have hx16 := ty16 _ _ _ _ _ _ (by decide) (by decide) hx15.out
              have hz16 := ty16 _ _ _ _ _ _ (by decide) (by decide) hz15.out
              have hk1o16 := ty16 _ _ _ _ _ _ (by decide) (by decide) hk1o15.out
              obtain ⟨p0, p1⟩ := own_one_cells (ty16 _ _ _ _ _ _ (by decide) (by decide) hzo.out)
              have hbel16 := hb15.out.trans hb16
              have G16 := gr_trans G6.out (gr_of_below hbel16 (Nat.le_refl _))
              obtain ⟨q0, q1⟩ := hc.out W16 G16
              have hsm2 := sameLabels_any zA A0 zs.length n0 zc c0 zs zs W16 (by omega) (by omega) (row_own hz16) (row_gr o0.out.row (gr_trans g1.out G16))
              rw [decide_eq_true rfl] at hsm2
              have hvv : (v == v) = true := beq_self_eq_true v
              replace hk16 := Lib.hid hk16
              replace hk2n := Lib.hid hk2n
              replace hk2o := Lib.hid hk2o
              replace hx16 := Lib.hid hx16
              replace hz16 := Lib.hid hz16
              replace hk1o16 := Lib.hid hk1o16
              replace hbel16 := Lib.hid hbel16
              replace hsm2 := Lib.hid hsm2
              clear hkeep2 hk15 hb15 hx15 hz15 hzo hb16 ty16 hk1o15
              go_wp2_with fail
              refine hsm2.out.mono ?_
              rintro e W17 ⟨rfl, g17⟩
              have hk17 := kept_gr hk16.out g17
              have hx17 := kept0 hx16.out g17
              have hz17 := kept0 hz16.out g17
              have hk1o17 := kept0 hk1o16.out g17
              have hk2o17 := kept0 hk2o.out g17
              have hbel17 := below_gr hbel16.out g17 hbel16.out.size (by simp)
              clear hk16 hx16 hz16 hk1o16 hk2o hbel16 g17 hsm2 q0 q1 p0 p1 G16
              have hls : Parted [(⟨xA, L.length, xc⟩ : Lst), ⟨zA, zs.length, zc⟩] := parted2 (fun k h1 h2 => by
                have e1 := (hxlt.out k h1).2
                have e2 := (hzlt.out k h2).1
                omega)
              have hin : ∀ k, InL [(⟨xA, L.length, xc⟩ : Lst), ⟨zA, zs.length, zc⟩] k → W6.heap.size ≤ k := by
                rintro k ⟨l, hm, hb⟩
                simp only [List.mem_cons, List.not_mem_nil, or_false] at hm
                rcases hm with rfl | rfl
                · have := (hxlt.out k hb).1; omega
                · have := (hzlt.out k hb).1; omega
              have hap : ∀ W, Gr W17 W → Calls Tryz.prog 19 #[.pointer (some ⟨W6.heap.size, 0, none⟩)] W fun e w' => e = .returned (.bool true) ∧ GrS (InL [(⟨xA, L.length, xc⟩ : Lst), ⟨zA, zs.length, zc⟩]) W w' := fun W g => BkL.apart_any W6.heap.size T2 V2 [⟨xA, L.length, xc⟩, ⟨zA, zs.length, zc⟩] [k1, k2] W (by simp) rfl (kept_gr hk17 g) hls (fun j l c hl hc => by
                match j, hl, hc with
                | 0, hl, hc =>
                  obtain rfl : (⟨xA, L.length, xc⟩ : Lst) = l := by simpa using hl
                  obtain rfl : k1 = c := by simpa using hc
                  exact ⟨by simp only; omega, hk1n.out, L, own_mono (kept0 hx17 g) (Nat.zero_le _), own_mono (kept0 hk1o17 g) (Nat.zero_le _)⟩
                | 1, hl, hc =>
                  obtain rfl : (⟨zA, zs.length, zc⟩ : Lst) = l := by simpa using hl
                  obtain rfl : k2 = c := by simpa using hc
                  exact ⟨by simp only; omega, hk2n.out, zs, own_mono (kept0 hz17 g) (Nat.zero_le _), own_mono (kept0 hk2o17 g) (Nat.zero_le _)⟩
                | j + 2, hl, _ => simp at hl)
              have GE := gr_trans G6.out (gr_of_below hbel17 (Nat.le_refl _))
              have GE2 := gr_trans g1.out GE
              have hrl : ∀ r ∈ z2, r.l.length ≤ 1000000000 := fun r hr => by have := (hL2.out r hr).1; omega
              have hs1 := rsame_any a2 a2 len2 len2 cap2 cap2 z2 z2 W17 (by omega) (by omega) (rows_gr hr2.out GE2) (rows_gr hr2.out GE2) hrl hrl
              rw [decide_eq_true rfl] at hs1
              have hs2 : ∀ W, Gr W17 W → Calls Tryz.prog 18 #[.slice a2 len2 cap2, .slice none 0 0] W fun e w' => e = .returned (.bool (decide (len2 = 0))) ∧ Gr W w' := fun W g => by
                have h := rsame_any a2 none len2 0 cap2 0 z2 [] W (by omega) (by omega) (rows_gr hr2.out (gr_trans GE2 g)) (rows_nil _ _) hrl (by simp)
                have hd : decide (z2 = []) = decide (len2 = 0) := decide_eq_decide.2 (by rw [← hlen2.out, List.length_eq_zero_iff])
                rw [hd] at h
                exact h
              replace hs1 := Lib.hid hs1
              replace hs2 := Lib.hid hs2
              replace hap := Lib.hid hap
              replace hin := Lib.hid hin
              replace GE2 := Lib.hid GE2
              replace hbel17 := Lib.hid hbel17
              clear hk17 hx17 hz17 hk1o17 hk2o17 GE hrl
              go_wp2_with fail
              refine hs1.out.mono ?_
              rintro e W18 ⟨rfl, g18⟩
              go_wp2_with fail
              refine (hs2.out _ g18).mono ?_
              rintro e W19 ⟨rfl, g19⟩
              have hap2 := hap.out W19 (gr_trans g18 g19)
              have hbel19 := below_gr hbel17.out (gr_trans g18 g19) hbel17.out.size (by simp)
              replace hap2 := Lib.hid hap2
              replace hbel19 := Lib.hid hbel19
              clear hap hs1 hs2 g18 g19
              by_cases h0 : len2 = 0
              · have hd0 : decide (len2 = 0) = true := decide_eq_true h0
                have hd1 : ((len2 : Int) == 0) = true := eqT (by omega)
                replace h0 := Lib.hid h0
                go_wp2_with fail
                refine hap2.out.mono ?_
                rintro e W20 ⟨rfl, gs20⟩
                go_wp2
                go_ret
                exact ⟨rfl, (gr_below (gr_trans g1.out G6.out)).trans (below_le (below_grs hbel19.out gs20 hbel19.out.size hin.out) (gr_trans g1.out G6.out).size)⟩
              · have hd0 : decide (len2 = 0) = false := decide_eq_false h0
                have hd1 : ((len2 : Int) == 0) = false := eqF (by omega)
                replace h0 := Lib.hid h0
                go_wp2_with fail
                refine hap2.out.mono ?_
                rintro e W20 ⟨rfl, gs20⟩
                go_wp2
                go_ret
                exact ⟨rfl, (gr_below (gr_trans g1.out G6.out)).trans (below_le (below_grs hbel19.out gs20 hbel19.out.size hin.out) (gr_trans g1.out G6.out).size)⟩
            · rw [hgt.out] at hgr
              cases hgr
        · rw [if_neg ok] at hp0
          replace hp0 := Lib.hid hp0
          replace ok := Lib.hid ok
          go_wp2_with fail
          refine hp0.out.mono ?_
          rintro e W4 ⟨rfl, g4⟩
          have G4 := gr_trans G3.out g4
          clear q0 q1
          obtain ⟨q0, q1⟩ := hc.out W4 G4
          have hR := refRow_any A0 n0 c0 zs v W4 (by omega) (row_gr o0.out.row (gr_trans g1.out G4)) (fun x hx => by have := hL0.out.2 x hx; omega)
          rw [decide_eq_false ok.out] at hR
          have hm4 := Lib.hid (lentS_gr hm3.out g4)
          replace hR := Lib.hid hR
          replace G4 := Lib.hid G4
          clear hp0 hm3 G3 g4
          go_wp2_with fail
          refine hR.out.mono ?_
          rintro e W5 ⟨rfl, g5⟩
          have G5 := gr_trans G4.out g5
          clear q0 q1
          obtain ⟨q0, q1⟩ := hc.out W5 G5
          have hm5 := lentS_gr hm4.out g5
          have d0 : ∀ p : Grown W5, p.wd.cell? ⟨w.heap.size, 0, none⟩ = some (.slice A0 n0 c0) := fun p => cell_to q0 p
          have d1 : ∀ p : Grown W5, p.wd.cell? ⟨w.heap.size, 1, none⟩ = some (.int .i64 v) := fun p => cell_to q1 p
          have hrowP : ∀ p : Grown W5, Row p.wd A0 n0 2 (sR lblC zs) := fun p => row_gr o0.out.row (gr_trans g1.out (gr_trans G5 p.gr))
          have hC1 : ∀ p : Grown W5, Calls Tryz.prog 11 #[.agg #[.slice A0 n0 c0, .int .i64 v]] p.wd fun e w' => e = .returned (.int .i64 N) ∧ Gr p.wd w' := fun p => by rw [hN]; exact cost_any A0 n0 c0 zs v p.wd hL0.out (hrowP p)
          have hC2 : ∀ p : Grown W5, Calls Tryz.prog 12 #[.agg #[.slice A0 n0 c0, .int .i64 v]] p.wd fun e w' => e = .returned (.int .i64 N) ∧ Gr p.wd w' := fun p => by rw [hN]; exact refCost_any A0 n0 c0 zs v p.wd hL0.out (hrowP p)
          have hC3 : ∀ p : Grown W5, Calls Tryz.prog 13 #[.slice A1 n0 c1, .slice A0 n0 c0] p.wd fun e w' => e = .returned (.bool true) ∧ Gr p.wd w' := fun p => BkL.staysLabels_any A1 A0 n0 c1 c0 zs p.wd (by omega) (lentS_gr hm5 p.gr) (hrowP p)
          replace hC1 := Lib.hid hC1
          replace hC2 := Lib.hid hC2
          replace hC3 := Lib.hid hC3
          replace G5 := Lib.hid G5
          clear q0 q1 hrowP hm5 hm4 hR G4 g5
          go_upto_region 6 with fail
          refine wp_region_quiet_gr (by kernel_rfl) (by kernel_rfl) ?_
          repeat (go_big_quiet_step (first | (go_at_call 11; exact calls_gr (hC1.out _)) | (go_at_call 12; exact calls_gr (hC2.out _)) | (go_at_call 13; exact calls_gr (hC3.out _))))
          refine wpQuiet_nil ?_
          intro W6 hw6
          obtain ⟨⟨wp6, g6⟩, rfl⟩ := hw6
          have G6 := gr_trans G5.out g6
          replace G6 := Lib.hid G6
          clear d0 d1 hC1 hC2 hC3 G5 g6
          go_upto_region 9 with fail
          obtain ⟨W7, hW7⟩ : ∃ W7, W7 = W6.alloc (.cells (BkL.bkCells (.slice none 0 0) (.slice none 0 0)) 49) := ⟨_, rfl⟩
          have hk7 := kept_new W6
          rw [← hW7] at hk7
          have hb7 : Below W6.heap.size W6 W7 := by rw [hW7]; exact gr_below (gr_alloc W6 _ none)
          have hW7s : W6.heap.size < W7.heap.size := by rw [hW7]; simp
          have cG := get_any b W7 (by omega)
          have hchg : ∀ (Q : Ending → World → Prop), Calls Tryz.prog 14 #[.string (txt b)] W7 Q → Calls Tryz.prog 14 #[.string (txt b)] (W6.alloc (.cells (BkL.bkCells (.slice none 0 0) (.slice none 0 0)) 49)) Q := fun Q h => by rw [← hW7]; exact h
          replace hk7 := Lib.hid hk7
          replace hb7 := Lib.hid hb7
          replace hW7 := Lib.hid hW7
          replace cG := Lib.hid cG
          replace hchg := Lib.hid hchg
          go_wp2_with fail
          refine hchg.out _ ?_
          refine cG.out.mono ?_
          intro e W8 hpost
          obtain ⟨xA, xc, rfl, hx8, g8⟩ := get_post hpost
          have hgs := gL_small b
          obtain ⟨B, hB⟩ : ∃ B, B = (getR b).isSome := ⟨_, rfl⟩
          obtain ⟨E, hE⟩ : ∃ E : Int, E = if (getR b).isSome then 0 else 2 := ⟨_, rfl⟩
          have hE2 : E = if B then 0 else 2 := by rw [hE, hB]
          rw [← hE]
          have cR : ∀ w, Calls Tryz.prog 15 #[.string (txt b)] w fun e w' => ∃ A c, e = .returned (.tuple #[.agg #[.slice A (gL (getR b)).length c, .int .i64 (gV (getR b))], .string (txt (gT (getR b))), .bool B]) ∧ w'.ownsRow w.heap.size 58 2 (.slice A (gL (getR b)).length c) (gL (getR b)).length (sR lblC (gL (getR b))) ∧ Gr w w' := fun w => by
            rw [hB]
            exact (refGet_any b w (by omega)).mono fun e w' h => rget_post h
          generalize gL (getR b) = L at *
          generalize gV (getR b) = V at *
          generalize gT (getR b) = T at *
          replace hB := Lib.hid hB
          replace hE2 := Lib.hid hE2
          clear hE hpost
          obtain ⟨W9, hW9⟩ : ∃ W9, W9 = W8.alloc (.cells #[.slice xA L.length xc, .int .i64 V] 24) := ⟨_, rfl⟩
          have hxo := own_one W8 xA L.length xc V
          rw [← hW9] at hxo
          have g9 : Gr W8 W9 := by rw [hW9]; exact gr_alloc _ _ _
          have hk9 := kept_gr hk7.out (gr_trans g8 g9)
          have hb9 := below_gr hb7.out (gr_trans g8 g9) hb7.out.size (by simp)
          have hx9 := kept0 hx8 g9
          have hxlt := hx8.lt
          have hbx : W6.heap.size ≤ W7.heap.size := hb7.out.size
          have h89 := g9.size
          have h78 := g8.size
          replace hxo := Lib.hid hxo
          replace hk9 := Lib.hid hk9
          replace hb9 := Lib.hid hb9
          replace hx9 := Lib.hid hx9
          replace hxlt := Lib.hid hxlt
          replace cR := Lib.hid cR
          clear hk7 hb7 cG hchg hx8 g8 g9
          go_upto_region 10 with fail
          rw [← hW9]
          replace hW9 := Lib.hid hW9
          go_wp2_with fail
          refine (cR.out _).mono ?_
          rintro e W10 ⟨yA, yc, rfl, hy10, g10⟩
          obtain ⟨W11, hW11⟩ : ∃ W11, W11 = W10.alloc (.cells #[.slice yA L.length yc, .int .i64 V] 24) := ⟨_, rfl⟩
          have hyo := own_one W10 yA L.length yc V
          rw [← hW11] at hyo
          have g11 : Gr W10 W11 := by rw [hW11]; exact gr_alloc _ _ _
          have gg := gr_trans g10 g11
          have hk11 := kept_gr hk9.out gg
          have hb11 := below_gr hb9.out gg hb9.out.size (by simp)
          have hx11 := kept0 hx9.out gg
          have hxo11 := kept0 hxo.out gg
          have hy11 := kept0 hy10 g11
          have hkeep := BkL.keep_any W6.heap.size ⟨none, 0, 0⟩ ⟨none, 0, 0⟩ [] [] ⟨xA, L.length, xc⟩ L W11 (by simp) rfl hk11 (by simp only; omega) (own_mono hx11 (Nat.zero_le _))
          obtain ⟨x0, _⟩ := own_one_cells hxo11
          have h8b := Nat.le_trans h89 gg.size
          replace hyo := Lib.hid hyo
          replace hk11 := Lib.hid hk11
          replace hb11 := Lib.hid hb11
          replace hx11 := Lib.hid hx11
          replace hxo11 := Lib.hid hxo11
          replace hy11 := Lib.hid hy11
          replace hkeep := Lib.hid hkeep
          clear hk9 hb9 hx9 hxo hy10 g10 g11 gg cR
          go_upto_region 11 with fail
          rw [← hW11]
          replace hW11 := Lib.hid hW11
          go_wp2_with fail
          refine hkeep.out.mono ?_
          rintro e W12 ⟨rfl, T1, V1, k1, hk12, hk1n, hk1o, hb12, ty12⟩
          have hx12 := ty12 _ _ _ _ _ _ (by decide) (by decide) hx11.out
          have hy12 := ty12 _ _ _ _ _ _ (by decide) (by decide) hy11.out
          obtain ⟨x0, x1⟩ := own_one_cells (ty12 _ _ _ _ _ _ (by decide) (by decide) hxo11.out)
          obtain ⟨y0, y1⟩ := own_one_cells (ty12 _ _ _ _ _ _ (by decide) (by decide) hyo.out)
          have hbel12 := hb11.out.trans hb12
          have hsm := BkL.same_yes xA yA L.length xc yc L W12 (by omega) (row_own hx12) (row_own hy12)
          have h8c := Nat.le_trans h8b hb12.size
          have hVV : (V == V) = true := beq_self_eq_true V
          replace hk12 := Lib.hid hk12
          replace hk1n := Lib.hid hk1n
          replace hk1o := Lib.hid hk1o
          replace hx12 := Lib.hid hx12
          replace hbel12 := Lib.hid hbel12
          replace hsm := Lib.hid hsm
          clear hkeep hk11 hb11 hx11 hy11 hxo11 hyo hb12 ty12 hy12
          cases B with
          | true =>
            obtain rfl : E = 0 := hE2.out
            go_wp2_with fail
            refine hsm.out.mono ?_
            rintro e W13 ⟨rfl, g13⟩
            have h8d := Nat.le_trans h8c g13.size
            have hk13 := kept_gr hk12.out g13
            have hx13 := kept0 hx12.out g13
            have hk1o13 := kept0 hk1o.out g13
            have hbel13 := below_gr hbel12.out g13 hbel12.out.size (by simp)
            have G13 := gr_trans G6.out (gr_of_below hbel13 (Nat.le_refl _))
            clear x0 x1 y0 y1 hk12 hx12 hk1o hbel12 hsm g13
            have hin : ∀ k, InL [(⟨xA, L.length, xc⟩ : Lst)] k → W6.heap.size ≤ k := by
              rintro k ⟨l, hm, hb⟩
              rw [List.mem_singleton] at hm
              subst hm
              have := (hxlt.out k hb).1
              omega
            have hap : ∀ W, Gr W13 W → Calls Tryz.prog 19 #[.pointer (some ⟨W6.heap.size, 0, none⟩)] W fun e w' => e = .returned (.bool true) ∧ GrS (InL [(⟨xA, L.length, xc⟩ : Lst)]) W w' := fun W g => BkL.apart_any W6.heap.size T1 V1 [⟨xA, L.length, xc⟩] [k1] W (by simp) rfl (kept_gr hk13 g) (parted1 _) (fun j l c hl hc => by
              match j, hl, hc with
              | 0, hl, hc =>
                obtain rfl : (⟨xA, L.length, xc⟩ : Lst) = l := by simpa using hl
                obtain rfl : k1 = c := by simpa using hc
                exact ⟨by simp only; omega, hk1n.out, L, own_mono (kept0 hx13 g) (Nat.zero_le _), own_mono (kept0 hk1o13 g) (Nat.zero_le _)⟩
              | j + 1, hl, _ => simp at hl)
            have GE := gr_trans G6.out (gr_of_below hbel13 (Nat.le_refl _))
            have GE2 := gr_trans g1.out GE
            have hrl : ∀ r ∈ z2, r.l.length ≤ 1000000000 := fun r hr => by have := (hL2.out r hr).1; omega
            have hs1 := rsame_any a2 a2 len2 len2 cap2 cap2 z2 z2 W13 (by omega) (by omega) (rows_gr hr2.out GE2) (rows_gr hr2.out GE2) hrl hrl
            rw [decide_eq_true rfl] at hs1
            have hs2 : ∀ W, Gr W13 W → Calls Tryz.prog 18 #[.slice a2 len2 cap2, .slice none 0 0] W fun e w' => e = .returned (.bool (decide (len2 = 0))) ∧ Gr W w' := fun W g => by
              have h := rsame_any a2 none len2 0 cap2 0 z2 [] W (by omega) (by omega) (rows_gr hr2.out (gr_trans GE2 g)) (rows_nil _ _) hrl (by simp)
              have hd : decide (z2 = []) = decide (len2 = 0) := decide_eq_decide.2 (by rw [← hlen2.out, List.length_eq_zero_iff])
              rw [hd] at h
              exact h
            replace hs1 := Lib.hid hs1
            replace hs2 := Lib.hid hs2
            replace hap := Lib.hid hap
            replace hin := Lib.hid hin
            replace GE2 := Lib.hid GE2
            replace hbel13 := Lib.hid hbel13
            clear hk13 hx13 hk1o13 GE hrl
            go_wp2_with fail
            refine hs1.out.mono ?_
            rintro e W18 ⟨rfl, g18⟩
            go_wp2_with fail
            refine (hs2.out _ g18).mono ?_
            rintro e W19 ⟨rfl, g19⟩
            have hap2 := hap.out W19 (gr_trans g18 g19)
            have hbel19 := below_gr hbel13.out (gr_trans g18 g19) hbel13.out.size (by simp)
            replace hap2 := Lib.hid hap2
            replace hbel19 := Lib.hid hbel19
            clear hap hs1 hs2 g18 g19
            by_cases h0 : len2 = 0
            · have hd0 : decide (len2 = 0) = true := decide_eq_true h0
              have hd1 : ((len2 : Int) == 0) = true := eqT (by omega)
              replace h0 := Lib.hid h0
              go_wp2_with fail
              refine hap2.out.mono ?_
              rintro e W20 ⟨rfl, gs20⟩
              go_wp2
              go_ret
              exact ⟨rfl, (gr_below (gr_trans g1.out G6.out)).trans (below_le (below_grs hbel19.out gs20 hbel19.out.size hin.out) (gr_trans g1.out G6.out).size)⟩
            · have hd0 : decide (len2 = 0) = false := decide_eq_false h0
              have hd1 : ((len2 : Int) == 0) = false := eqF (by omega)
              replace h0 := Lib.hid h0
              go_wp2_with fail
              refine hap2.out.mono ?_
              rintro e W20 ⟨rfl, gs20⟩
              go_wp2
              go_ret
              exact ⟨rfl, (gr_below (gr_trans g1.out G6.out)).trans (below_le (below_grs hbel19.out gs20 hbel19.out.size hin.out) (gr_trans g1.out G6.out).size)⟩
          | false =>
            obtain rfl : E = 2 := hE2.out
            go_wp2_with fail
            refine hsm.out.mono ?_
            rintro e W13 ⟨rfl, g13⟩
            have h8d := Nat.le_trans h8c g13.size
            have hk13 := kept_gr hk12.out g13
            have hx13 := kept0 hx12.out g13
            have hk1o13 := kept0 hk1o.out g13
            have hbel13 := below_gr hbel12.out g13 hbel12.out.size (by simp)
            have G13 := gr_trans G6.out (gr_of_below hbel13 (Nat.le_refl _))
            clear x0 x1 y0 y1 hk12 hx12 hk1o hbel12 hsm g13
            have hin : ∀ k, InL [(⟨xA, L.length, xc⟩ : Lst)] k → W6.heap.size ≤ k := by
              rintro k ⟨l, hm, hb⟩
              rw [List.mem_singleton] at hm
              subst hm
              have := (hxlt.out k hb).1
              omega
            have hap : ∀ W, Gr W13 W → Calls Tryz.prog 19 #[.pointer (some ⟨W6.heap.size, 0, none⟩)] W fun e w' => e = .returned (.bool true) ∧ GrS (InL [(⟨xA, L.length, xc⟩ : Lst)]) W w' := fun W g => BkL.apart_any W6.heap.size T1 V1 [⟨xA, L.length, xc⟩] [k1] W (by simp) rfl (kept_gr hk13 g) (parted1 _) (fun j l c hl hc => by
              match j, hl, hc with
              | 0, hl, hc =>
                obtain rfl : (⟨xA, L.length, xc⟩ : Lst) = l := by simpa using hl
                obtain rfl : k1 = c := by simpa using hc
                exact ⟨by simp only; omega, hk1n.out, L, own_mono (kept0 hx13 g) (Nat.zero_le _), own_mono (kept0 hk1o13 g) (Nat.zero_le _)⟩
              | j + 1, hl, _ => simp at hl)
            have GE := gr_trans G6.out (gr_of_below hbel13 (Nat.le_refl _))
            have GE2 := gr_trans g1.out GE
            have hrl : ∀ r ∈ z2, r.l.length ≤ 1000000000 := fun r hr => by have := (hL2.out r hr).1; omega
            have hs1 := rsame_any a2 a2 len2 len2 cap2 cap2 z2 z2 W13 (by omega) (by omega) (rows_gr hr2.out GE2) (rows_gr hr2.out GE2) hrl hrl
            rw [decide_eq_true rfl] at hs1
            have hs2 : ∀ W, Gr W13 W → Calls Tryz.prog 18 #[.slice a2 len2 cap2, .slice none 0 0] W fun e w' => e = .returned (.bool (decide (len2 = 0))) ∧ Gr W w' := fun W g => by
              have h := rsame_any a2 none len2 0 cap2 0 z2 [] W (by omega) (by omega) (rows_gr hr2.out (gr_trans GE2 g)) (rows_nil _ _) hrl (by simp)
              have hd : decide (z2 = []) = decide (len2 = 0) := decide_eq_decide.2 (by rw [← hlen2.out, List.length_eq_zero_iff])
              rw [hd] at h
              exact h
            replace hs1 := Lib.hid hs1
            replace hs2 := Lib.hid hs2
            replace hap := Lib.hid hap
            replace hin := Lib.hid hin
            replace GE2 := Lib.hid GE2
            replace hbel13 := Lib.hid hbel13
            clear hk13 hx13 hk1o13 GE hrl
            go_wp2_with fail
            refine hs1.out.mono ?_
            rintro e W18 ⟨rfl, g18⟩
            go_wp2_with fail
            refine (hs2.out _ g18).mono ?_
            rintro e W19 ⟨rfl, g19⟩
            have hap2 := hap.out W19 (gr_trans g18 g19)
            have hbel19 := below_gr hbel13.out (gr_trans g18 g19) hbel13.out.size (by simp)
            replace hap2 := Lib.hid hap2
            replace hbel19 := Lib.hid hbel19
            clear hap hs1 hs2 g18 g19
            by_cases h0 : len2 = 0
            · have hd0 : decide (len2 = 0) = true := decide_eq_true h0
              have hd1 : ((len2 : Int) == 0) = true := eqT (by omega)
              replace h0 := Lib.hid h0
              go_wp2_with fail
              refine hap2.out.mono ?_
              rintro e W20 ⟨rfl, gs20⟩
              go_wp2
              go_ret
              exact ⟨rfl, (gr_below (gr_trans g1.out G6.out)).trans (below_le (below_grs hbel19.out gs20 hbel19.out.size hin.out) (gr_trans g1.out G6.out).size)⟩
            · have hd0 : decide (len2 = 0) = false := decide_eq_false h0
              have hd1 : ((len2 : Int) == 0) = false := eqF (by omega)
              replace h0 := Lib.hid h0
              go_wp2_with fail
              refine hap2.out.mono ?_
              rintro e W20 ⟨rfl, gs20⟩
              go_wp2
              go_ret
              exact ⟨rfl, (gr_below (gr_trans g1.out G6.out)).trans (below_le (below_grs hbel19.out gs20 hbel19.out.size hin.out) (gr_trans g1.out G6.out).size)⟩


set_option maxRecDepth 100000 in
theorem lifted (os : Os) (started : os.Started) (H : Type) (enc : TypeId × Value → H) :
    ReturnsInHanded {} Tryz.checked os 3 .any (Rows.rowTellsSpec.pre6 enc Tryz.prog Tryz.f3 Rows.rowTellsRow.domain false) (Rows.rowTellsSpec.post enc Tryz.prog Tryz.f3 false true false false) := by
  refine returnsInHanded_of_change (C := Tryz.checked) own started (by kernel_rfl) Tryz.func3
    (ChangeSpec.witness6 (enc := enc) (C := Tryz.checked) false ⟨#[], #[.agg #[.slice none 0 0, .int .i64 0], .string ByteArray.empty, .slice none 0 0], []⟩ 8 (by kernel_rfl) (by kernel_rfl) (by kernel_rfl) (by kernel_rfl)) ?_
  intro W base args ds gs before hval0 hW hcnd _
  have hval : ∀ (j : Nat) t v, Tryz.f3.params[j]? = some t → args[j]? = some v → Value.okWide Tryz.prog W .any base t v := hval0
  have hW' := hW
  obtain ⟨p, q, hA0, hV, rfl, hfz, hnd⟩ := hW
  have hA : DataW.TrodAll enc Tryz.prog W 0 (fun _ => true) true Tryz.f3.params.toList args.toList ds p := hA0
  rw [Tryz.params3] at hA hval
  obtain ⟨v0, vs0, d0, ds0, p0, q0, hargs, rfl, rfl, h0, r0⟩ := trodAll_cons hA
  obtain ⟨v1, vs1, d1, ds1, p1, q1, rfl, rfl, rfl, h1, r1⟩ := trodAll_cons r0
  obtain ⟨v2, vs2, d2, ds2, p2, q2, rfl, rfl, rfl, h2, r2⟩ := trodAll_cons r1
  obtain ⟨rfl, rfl, rfl⟩ := trodAll_nil r2
  obtain rfl : args = #[v0, v1, v2] := by cases args; simp_all
  obtain ⟨rfl, rfl⟩ := trodVars_none hV
  have k0 := h0
  have lt0 : ∀ x ∈ p0, x.block < W.heap.size := by obtain ⟨m, hm⟩ := k0; exact DataW.trod_lt m _ _ _ hm
  obtain ⟨z0, w0⟩ := row_open (hval 0 24 v0 rfl rfl) h0
  obtain ⟨a1, rfl, rfl, rfl, w1⟩ := open_string Tryz.underlying9 (hval 1 9 v1 rfl rfl) h1
  obtain ⟨a2, len2, cap2, rfl⟩ := okWide_slice Tryz.underlying25 (hval 2 25 v2 rfl rfl)
  have k2 := h2
  have lt2 : ∀ x ∈ p2, x.block < W.heap.size := by obtain ⟨m, hm⟩ := k2; exact DataW.trod_lt m _ _ _ hm
  obtain ⟨z2, w2⟩ := rows_open h2
  clear hA0 hval0
  refine (walk W v0 z0 w0 a1 w1 a2 len2 cap2 z2 w2).mono fun e W' ⟨he, bel⟩ => ?_
  subst he
  exact ⟨_, rfl, _, _, _, [], _, [], hW', trodAll_mk1 (shut_bool Tryz.underlying4 _), (trodAll_cons_mk (Below.trod laidOut (by kernel_rfl) (of_decide_eq_true (by kernel_rfl)) k0 bel lt0) (trodAll_cons_mk (shut_string Tryz.underlying9 w1) (trodAll_cons_mk (Below.trod laidOut (by kernel_rfl) (of_decide_eq_true (by kernel_rfl)) k2 bel lt2) trodAll_mk0))), rfl, bel.frame _, fun h => by cases h⟩

theorem over : Rows.rowTellsRow.holds Tryz.pinned (OpenSpec.ofChange Rows.rowTellsSpec) :=
  OpenClaim.holds_of_wide 3 Tryz.f3 rfl rfl rfl rfl rfl rfl rfl ⟨rfl, rfl, rfl, rfl, rfl⟩ rfl rfl rfl rfl rfl (by kernel_rfl) Tryz.func3 (by kernel_rfl)
    (of_decide_eq_true (by kernel_rfl)) (by unfold Func.isWrapper; first | (rw [if_pos (by decide +kernel)]; kernel_rfl) | (rw [if_neg (by decide +kernel)]; exact ⟨rfl, rfl⟩))
    (fun os started H enc _ => lifted os started H enc)

/-- THE STATEMENT -/
theorem proved : Rows.RowTellsSaid := over
#print axioms proved
end Go.Proofs.YtcinhaaibnailaaGreat.rowTells

