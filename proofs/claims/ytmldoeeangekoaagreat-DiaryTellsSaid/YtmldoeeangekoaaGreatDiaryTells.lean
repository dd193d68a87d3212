/-
  DiaryTells holds of the program: for every input the call returns true and leaves what came in as it was. No condition.
-/
import Derived.Test.YtmldoeeangekoaaGreatRows
import Derived.Test.YtmldoeeangekoaaGreatDiaryAlive
import Derived.Test.YtmldoeeangekoaaGreatDiaryLight
import Derived.Test.YtmldoeeangekoaaGreatDiaryOpen
import Derived.Test.YtmldoeeangekoaaGreatDiaryLay
import Derived.Test.YtmldoeeangekoaaGreatDiaryLift
import Derived.Test.YtmldoeeangekoaaGreatRDNX
import Derived.Test.YtmldoeeangekoaaGreatRFDX
import Derived.Test.YtmldoeeangekoaaGreatRefFewX
import Derived.Test.YtmldoeeangekoaaGreatDiarySame
import Derived.Test.YtmldoeeangekoaaGreatSameNtes
import Derived.Test.YtmldoeeangekoaaGreatBookCNX
import Derived.WalkKit
import Derived.ProofKit
import Derived.OpenShut
import Derived.ShutString
import Derived.ChangeOld
import Derived.Below
namespace Go.Proofs.YtmldoeeangekoaaGreat.diaryTells
open Go.ChangeShapes Go.WideShapes Go.ChangeAt Go.RowKit
open Go.ChangeMaps (open_string shut_string)
set_option linter.unusedVariables false

theorem own : ownKnob Tryz.prog.godebug = none := by kernel_rfl
theorem laidOut : laidOutB Tryz.prog = true := by kernel_rfl
theorem gr_keep {WK wr w' : World} {K : Nat} (hK : K = WK.heap.size) (g : Gr WK wr) (b : Below K wr w') : Gr WK w' := by
  subst hK
  exact gr_of_below ((gr_below g).trans b) (Nat.le_refl _)
/-- A state's block, as a row of one. -/
theorem own_st1 (w : World) (a b c d e : Value) : (w.alloc (.cells #[a, b, c, d, e] 54)).ownsRow w.heap.size 54 5 (.slice (some ⟨w.heap.size, 0, none⟩) 1 1) 1 [a, b, c, d, e] :=
  World.ownsRow_lit (e := 54) (size := 5) w #[a, b, c, d, e] 1 (Nat.le_refl _) (by unfold maxLen; omega) rfl
theorem own_st1_cells {w : World} {base b : Nat} {x y z u v : Value} (h : w.ownsRow base 54 5 (.slice (some ⟨b, 0, none⟩) 1 1) 1 [x, y, z, u, v]) : w.cell? ⟨b, 0, none⟩ = some x ∧ w.cell? ⟨b, 1, none⟩ = some y ∧ w.cell? ⟨b, 2, none⟩ = some z ∧ w.cell? ⟨b, 3, none⟩ = some u ∧ w.cell? ⟨b, 4, none⟩ = some v :=
  ⟨h.cellAt 0 (by decide), h.cellAt 1 (by decide), h.cellAt 2 (by decide), h.cellAt 3 (by decide), h.cellAt 4 (by decide)⟩
theorem few_len (s : StM) : (fewM s).length ≤ 3 + s.op.length := by
  have := few_lens s
  rw [few_parts, List.length_append, List.length_map]
  omega
theorem lay_any (x : Nte) (w : World) : Calls Tryz.prog 9 #[nteV x] w fun e w' => (∃ (S : List UInt8) (E : Int), e = .returned (.tuple #[.string (txt S), .int .i64 E]) ∧ (okN x → S = Crc.frm (noteL x) ∧ E = 0) ∧ (¬ okN x → S = [] ∧ E = 1)) ∧ Gr w w' := by
  by_cases h : okN x
  · refine (dlay_ok x w h).mono ?_
    rintro e w' ⟨rfl, g⟩
    exact ⟨⟨_, _, rfl, fun _ => ⟨rfl, rfl⟩, fun k => absurd h k⟩, g⟩
  · refine (dlay_bad x w h).mono ?_
    rintro e w' ⟨rfl, g⟩
    exact ⟨⟨_, _, rfl, fun k => absurd k h, fun _ => ⟨rfl, rfl⟩⟩, g⟩
abbrev DTS (wo : World) (Q P : Nat) (nx now pts : Int) (seg : List UInt8) (A1 : Option Addr) (n c1 : Nat) (A : Option Addr) (c : Nat) (w' : World) : Prop := Gr wo w' ∧ w'.cell? ⟨Q, 0, none⟩ = some (.int .i64 nx) ∧ w'.cell? ⟨Q, 1, none⟩ = some (.int .i64 now) ∧ w'.cell? ⟨Q, 2, none⟩ = some (.slice A1 n c1) ∧ w'.cell? ⟨Q, 3, none⟩ = some (.string (txt seg)) ∧ w'.cell? ⟨Q, 4, none⟩ = some (.int .i64 pts) ∧ w'.cell? ⟨P, 0, none⟩ = some (.int .i64 nx) ∧ w'.cell? ⟨P, 1, none⟩ = some (.int .i64 now) ∧ w'.cell? ⟨P, 2, none⟩ = some (.slice A n c) ∧ w'.cell? ⟨P, 3, none⟩ = some (.string (txt seg)) ∧ w'.cell? ⟨P, 4, none⟩ = some (.int .i64 pts)
theorem dts_gr {wo w1 w' : World} {Q P : Nat} {nx now pts : Int} {seg : List UInt8} {A1 : Option Addr} {n c1 : Nat} {A : Option Addr} {c : Nat} (h : DTS wo Q P nx now pts seg A1 n c1 A c w1) (g : Gr w1 w') : DTS wo Q P nx now pts seg A1 n c1 A c w' := by
  obtain ⟨h0, h1, h2, h3, h4, h5, h6, h7, h8, h9, h10⟩ := h
  exact ⟨gr_trans h0 g, gr_cell g h1, gr_cell g h2, gr_cell g h3, gr_cell g h4, gr_cell g h5, gr_cell g h6, gr_cell g h7, gr_cell g h8, gr_cell g h9, gr_cell g h10⟩
theorem cat_lenL : ∀ l : List (List UInt8), l.length ≤ (Crc.cat l).length
  | [] => Nat.le_refl _
  | a :: l => by
    have := cat_lenL l
    rw [Crc.cat_cons, List.length_append, Crc.frm_length, List.length_cons]
    omega
theorem notes_len (L : List UInt8) : (notesOf L).length ≤ L.length := by
  have h1 := readN_len (Crc.all L.length L).1
  have h2 := Crc.all_len L.length L
  have h3 := cat_lenL (Crc.all L.length L).1
  unfold notesOf
  omega
theorem inl_snoc {ls : List Lst} {x : Lst} {j : Nat} (h : InL (ls ++ [x]) j) : InL ls j ∨ x.v.ownBlock = some j := by
  obtain ⟨l, hm, hb⟩ := h
  rcases List.mem_append.1 hm with hm | hm
  · exact .inl ⟨l, hm, hb⟩
  · exact .inr (by rw [← List.mem_singleton.1 hm]; exact hb)
theorem folds_few {s : StM} (h : InvM s) : foldN (fewM s) = s := fold_few h
set_option maxHeartbeats 40000000 in
set_option maxRecDepth 100000 in
theorem walk (w : World) (a0 : Option Addr) (len0 cap0 : Nat) (z0 : List Nte) (w0 : IsNtes w a0 len0 cap0 z0) (a1 : ByteArray) (w1 : a1.size ≤ maxLen) :
    Calls Tryz.prog 3 #[.slice a0 len0 cap0, .string a1] w fun e w' => e = .returned (.bool true) ∧ Below w.heap.size w w' := by
  obtain ⟨L, rfl⟩ : ∃ L, a1 = txt L := ⟨_, (txt_of a1).symm⟩
  obtain ⟨hr0, hcap0, hcm0, _, hnil0⟩ := w0
  rw [txt_size] at w1
  have hl0 : z0.length = len0 := by have := hr0.1; rw [sR_len nteC 6 nteC_len] at this; omega
  have cT0 := light_any a0 len0 cap0 z0 w (by omega) hr0
  replace hr0 := Lib.hid hr0
  replace hl0 := Lib.hid hl0
  replace cT0 := Lib.hid cT0
  clear w1 hnil0
  go_enter Tryz.func3, Tryz.ntmps3
  go_wp2_with fail
  refine cT0.out.mono ?_
  rintro e W ⟨⟨bb0, rfl, hb0⟩, rfl⟩
  cases bb0 with
  | false =>
    go_wp2_with fail
    refine (alive_any _).mono ?_
    rintro e W9 ⟨rfl, g9⟩
    go_wp2
    go_ret
    exact ⟨rfl, gr_below g9⟩
  | true =>
  have hn60 := hb0 rfl
  clear hb0 cT0
  by_cases hL : 4000 < L.length
  · have hLi : (4000 : Int) < (L.length : Int) := by omega
    go_wp2_with fail
    refine (alive_any _).mono ?_
    rintro e W9 ⟨rfl, g9⟩
    go_wp2
    go_ret
    exact ⟨rfl, gr_below g9⟩
  have hLi : ((4000 : Int) < (L.length : Int)) = False := eq_false (by omega)
  have hL4 : L.length ≤ 4000 := by omega
  go_wp2_with fail
  refine (alive_any _).mono ?_
  rintro e W1 ⟨rfl, g1⟩
  have hr1 := row_gr hr0.out g1
  have cLn := fun W (g : Gr w W) => BkN.lentNotes_new a0 len0 cap0 z0 W (by omega) (row_gr hr0.out g)
  clear hLi hL
  replace hr1 := Lib.hid hr1
  replace g1 := Lib.hid g1
  replace cLn := Lib.hid cLn
  go_wp2_with fail
  refine (cLn.out _ g1.out).mono ?_
  rintro e W2 ⟨gM, cM, rfl, hM, g2, hMg⟩
  have G2 := gr_trans g1.out g2
  have hlen0 := hM.1
  replace hM := Lib.hid hM
  replace G2 := Lib.hid G2
  clear g2 cLn hr1 g1
  go_upto_block 0 with fail
  go_cut [6] (fun _iv wx => Hid (Gr W2 wx))
  case first =>
    go_wp2_with fail
    go_loopw [6] (fun iv wr => ∃ k : Nat, k ≤ len0 ∧ iv = .int .i64 k ∧ Hid (Gr W2 wr)) (fun iv _ => len0 - (intOf iv).toNat)
    case atStart => exact ⟨0, Nat.zero_le _, rfl, gr_refl _ _⟩
    case round =>
      obtain ⟨k, hk, rfl, hg⟩ := hrel
      by_cases hlt : k < len0
      · obtain ⟨x, B, o, hx, rfl, _, hc⟩ := rowS_elem nteC_len (row_gr hr0.out (gr_trans G2.out hg.out)) (by decide) hlt
        obtain ⟨x2, B2, o2, hx2, hB2, _, hc2⟩ := rowS_elem nteC_len (row_gr (BkN.lent_rowNotes hM.out) hg.out) (by decide) hlt
        obtain rfl : x = x2 := by rw [hx] at hx2; exact Option.some.inj hx2
        injection hB2 with hB3
        injection hB3 with hB4 hB5
        subst hB4 hB5
        have hki : (k : Int) < (len0 : Int) := by omega
        have hk0 : (0 : Int) ≤ (k : Int) := by omega
        have cN := fun W => refNote_any x W
        have cY := fun W => lay_any x W
        have cR := fun W => right_any x W
        have cD := fun W h => rlay_any x W h
        unfold nteV at cN cY cR cD
        obtain ⟨kd, ⟨id, rows, size, tl, file⟩⟩ := x
        simp only at cN cY cR cD
        have d0 : wr.cell? ⟨B, o + k * 6, none⟩ = some (.int .i64 kd) := hc 0 (by decide)
        have d1 : wr.cell? ⟨B, o + k * 6 + 1, none⟩ = some (.int .i64 id) := hc 1 (by decide)
        have d2 : wr.cell? ⟨B, o + k * 6 + 2, none⟩ = some (.int .i64 rows) := hc 2 (by decide)
        have d3 : wr.cell? ⟨B, o + k * 6 + 3, none⟩ = some (.int .i64 size) := hc 3 (by decide)
        have d4 : wr.cell? ⟨B, o + k * 6 + 4, none⟩ = some (.int .i64 tl) := hc 4 (by decide)
        have d5 : wr.cell? ⟨B, o + k * 6 + 5, none⟩ = some (.string (txt file)) := hc 5 (by decide)
        have e0 : wr.cell? ⟨gM, 0 + k * 6, none⟩ = some (.int .i64 kd) := hc2 0 (by decide)
        have e1 : wr.cell? ⟨gM, 0 + k * 6 + 1, none⟩ = some (.int .i64 id) := hc2 1 (by decide)
        have e2 : wr.cell? ⟨gM, 0 + k * 6 + 2, none⟩ = some (.int .i64 rows) := hc2 2 (by decide)
        have e3 : wr.cell? ⟨gM, 0 + k * 6 + 3, none⟩ = some (.int .i64 size) := hc2 3 (by decide)
        have e4 : wr.cell? ⟨gM, 0 + k * 6 + 4, none⟩ = some (.int .i64 tl) := hc2 4 (by decide)
        have e5 : wr.cell? ⟨gM, 0 + k * 6 + 5, none⟩ = some (.string (txt file)) := hc2 5 (by decide)
        simp only [Nat.zero_add] at e0 e1 e2 e3 e4 e5
        replace cN := Lib.hid cN
        replace cY := Lib.hid cY
        replace cR := Lib.hid cR
        replace cD := Lib.hid cD
        clear hc hc2 hx hx2
        have ALLC : ∀ W, Gr wr W → (W.cell? ⟨B, o + k * 6, none⟩ = some (.int .i64 kd) ∧ W.cell? ⟨B, o + k * 6 + 1, none⟩ = some (.int .i64 id) ∧ W.cell? ⟨B, o + k * 6 + 2, none⟩ = some (.int .i64 rows) ∧ W.cell? ⟨B, o + k * 6 + 3, none⟩ = some (.int .i64 size) ∧ W.cell? ⟨B, o + k * 6 + 4, none⟩ = some (.int .i64 tl) ∧ W.cell? ⟨B, o + k * 6 + 5, none⟩ = some (.string (txt file))) ∧ (W.cell? ⟨gM, k * 6, none⟩ = some (.int .i64 kd) ∧ W.cell? ⟨gM, k * 6 + 1, none⟩ = some (.int .i64 id) ∧ W.cell? ⟨gM, k * 6 + 2, none⟩ = some (.int .i64 rows) ∧ W.cell? ⟨gM, k * 6 + 3, none⟩ = some (.int .i64 size) ∧ W.cell? ⟨gM, k * 6 + 4, none⟩ = some (.int .i64 tl) ∧ W.cell? ⟨gM, k * 6 + 5, none⟩ = some (.string (txt file))) := fun W g => ⟨⟨gr_cell g d0, gr_cell g d1, gr_cell g d2, gr_cell g d3, gr_cell g d4, gr_cell g d5⟩, ⟨gr_cell g e0, gr_cell g e1, gr_cell g e2, gr_cell g e3, gr_cell g e4, gr_cell g e5⟩⟩
        replace ALLC := Lib.hid ALLC
        go_wp2_with fail
        refine (cN.out _).mono ?_
        rintro e W3 ⟨rfl, g3⟩
        clear d0 d1 d2 d3 d4 d5 e0 e1 e2 e3 e4 e5
        obtain ⟨⟨d0, d1, d2, d3, d4, d5⟩, ⟨e0, e1, e2, e3, e4, e5⟩⟩ := ALLC.out W3 g3
        go_wp2_with fail
        refine (cY.out _).mono ?_
        rintro e W4 ⟨⟨S, E, rfl, hS1, hS2⟩, g4⟩
        have G4 := gr_trans g3 g4
        clear d0 d1 d2 d3 d4 d5 e0 e1 e2 e3 e4 e5 g3 g4
        obtain ⟨⟨d0, d1, d2, d3, d4, d5⟩, ⟨e0, e1, e2, e3, e4, e5⟩⟩ := ALLC.out W4 G4
        have cR1 := cR.out
        by_cases hok : okN ⟨kd, ⟨id, rows, size, tl, file⟩⟩
        · obtain ⟨rfl, rfl⟩ := hS1 hok
          simp only [decide_eq_true hok] at cR1 ⊢
          have cD1 := fun W => cD.out W hok
          replace cD1 := Lib.hid cD1
          replace cR1 := Lib.hid cR1
          replace hok := Lib.hid hok
          clear hS1 hS2 cN cY cR cD
          generalize Crc.frm (noteL ⟨kd, ⟨id, rows, size, tl, file⟩⟩) = SS at *
          go_wp2_with fail
          refine (cR1.out _).mono ?_
          rintro e W5 ⟨rfl, g5⟩
          have G5 := gr_trans G4 g5
          clear d0 d1 d2 d3 d4 d5 e0 e1 e2 e3 e4 e5 G4 g5
          obtain ⟨⟨d0, d1, d2, d3, d4, d5⟩, ⟨e0, e1, e2, e3, e4, e5⟩⟩ := ALLC.out W5 G5
          go_wp2_with fail
          refine (cD1.out _).mono ?_
          rintro e W6 ⟨rfl, g6⟩
          have G6 := gr_trans hg.out (gr_trans G5 g6)
          clear d0 d1 d2 d3 d4 d5 e0 e1 e2 e3 e4 e5 G5 g6 ALLC
          replace G6 := Lib.hid G6
          go_wp2
          go_roundw
          case rel => exact ⟨k + 1, by omega, by go_num, G6⟩
          case measure => simp [intOf]; omega
        · obtain ⟨rfl, rfl⟩ := hS2 hok
          simp only [decide_eq_false hok] at cR1 ⊢
          replace cR1 := Lib.hid cR1
          replace hok := Lib.hid hok
          clear hS1 hS2 cN cY cR cD
          go_wp2_with fail
          refine (cR1.out _).mono ?_
          rintro e W5 ⟨rfl, g5⟩
          have G6 := gr_trans hg.out (gr_trans G4 g5)
          clear d0 d1 d2 d3 d4 d5 e0 e1 e2 e3 e4 e5 G4 g5 ALLC
          replace G6 := Lib.hid G6
          go_wp2
          go_roundw
          case rel => exact ⟨k + 1, by omega, by go_num, G6⟩
          case measure => simp [intOf]; omega
      · have hki : ((k : Int) < (len0 : Int)) = False := eq_false (by omega)
        go_wp2_with fail
        go_meet
        exact hg
  case rest =>
  obtain ⟨WK, hWK⟩ : ∃ WK, WK = wc := ⟨_, rfl⟩
  rw [← hWK] at hcut ⊢
  clear hWK
  have G3 := gr_trans G2.out hcut.out
  have hMc := lentS_gr hM.out hcut.out
  have hrL := row_gr hr0.out G3
  obtain ⟨K, hK⟩ : ∃ K, K = WK.heap.size := ⟨_, rfl⟩
  have hwK : w.heap.size ≤ K := by rw [hK]; exact G3.size
  obtain ⟨WB, hWB⟩ : ∃ WB, WB = WK.alloc (.cells #[.slice none 0 0, .slice none 0 0, .slice none 0 0, .slice none 0 0, .slice none 0 0, .slice none 0 0, .slice none 0 0, .slice none 0 0, .slice none 0 0, .slice none 0 0, .slice none 0 0, .slice none 0 0, .slice none 0 0, .slice none 0 0, .slice none 0 0, .slice none 0 0, .slice none 0 0, .slice none 0 0, .slice none 0 0, .slice none 0 0] 47) := ⟨_, rfl⟩
  have gB : Gr WK WB := by rw [hWB]; exact gr_alloc _ _ _
  have hB0 : CN.BCN WB K [] [] := by rw [hWB, hK]; exact CN.bcn_new WK
  have hnl := notes_len L
  replace hMc := Lib.hid hMc
  replace hrL := Lib.hid hrL
  replace G3 := Lib.hid G3
  replace hK := Lib.hid hK
  clear hM hcut G2 hr0
  go_upto_region 12 with fail
  rw [← hK.out, ← hWB]
  clear hWB
  replace gB := Lib.hid gB
  replace hB0 := Lib.hid hB0
  have hszB : Hid (w.heap.size ≤ WB.heap.size) := Nat.le_trans G3.out.size gB.out.size
  have cRd := dread_any L WB (by omega)
  have cRn := fun W => rnotes_any L W (by omega)
  unfold ReadPost at cRd cRn
  generalize notesOf L = nl at *
  generalize ((catN nl).length : Nat) = cl at *
  replace cRd := Lib.hid cRd
  replace cRn := Lib.hid cRn
  go_wp2_with fail
  refine cRd.out.mono ?_
  rintro e W4 ⟨xv, rfl, hx, g4⟩
  obtain ⟨xA, xc, rfl, -, -⟩ := own_openS hx
  replace hx := Lib.hid hx
  replace g4 := Lib.hid g4
  clear cRd
  go_wp2_with fail
  refine (cRn.out _).mono ?_
  rintro e W5 ⟨yv, rfl, hy, g5⟩
  obtain ⟨yA, yc, rfl, -, -⟩ := own_openS hy
  have hx5 := hx.out.kept g5 (Classical.em _)
  have hB5 := CN.bcn_gr (CN.bcn_gr hB0.out g4.out) g5
  have gK5 := gr_trans (gr_trans gB.out g4.out) g5
  have hkp := CN.bcn_notes hB5 ⟨xA, nl.length, xc⟩ nl (by decide) (by simp only; omega) (own_mono hx5 (Nat.zero_le _)) (by rintro k _ ⟨l, hm, _⟩; simp at hm)
  replace hkp := Lib.hid hkp
  replace hx5 := Lib.hid hx5
  replace hy := Lib.hid hy
  replace gK5 := Lib.hid gK5
  clear cRn hx g4 g5 hB0 hB5 gB
  go_wp2_with fail
  refine hkp.out.mono ?_
  rintro e W6 ⟨rfl, hB6, bel6, fr6⟩
  have hx6 := fr6 _ _ _ _ _ _ (by decide) (by decide) (own_mono hx5.out (Nat.zero_le _))
  have hy6 := fr6 _ _ _ _ _ _ (by decide) (by decide) (own_mono hy.out (Nat.zero_le _))
  have gK6 := gr_keep hK.out gK5.out bel6
  have hlow : ∀ j, InL [] j ∨ InL [(⟨xA, nl.length, xc⟩ : Lst)] j → w.heap.size ≤ j := by
    rintro j (⟨l, hm, _⟩ | ⟨l, hm, hb⟩)
    · simp at hm
    · obtain rfl := List.mem_singleton.1 hm
      exact Nat.le_trans hszB.out (hx5.out.lt j hb).1
  have cSN := fun W (g : Gr W6 W) => sameNtes_yes xA yA nl.length xc yc nl W (by omega) (row_gr (row_own hx6) g) (row_gr (row_own hy6) g)
  replace cSN := Lib.hid cSN
  replace hB6 := Lib.hid hB6
  replace gK6 := Lib.hid gK6
  replace hlow := Lib.hid hlow
  clear hkp hx6 hy6 hx5 hy bel6 fr6 gK5
  go_wp2_with fail
  refine (cSN.out _ (gr_refl _ _)).mono ?_
  rintro e W7 ⟨rfl, g7⟩
  have hB7 := CN.bcn_gr hB6.out g7
  have gK7 := gr_trans gK6.out g7
  have hinv := foldN_inv z0
  have cFl := rFoldL_any a0 len0 cap0 z0 W7 (row_gr hrL.out gK7) (by omega)
  have cFd := fun W (g : Gr WK W) => dFold_any (some ⟨gM, 0, none⟩) len0 cM z0 W (row_gr (BkN.lent_rowNotes hMc.out) g) (by omega)
  have hsl := foldN_len z0
  generalize foldN z0 = s0 at *
  obtain ⟨nx, now, op, seg, pts⟩ := s0
  simp only at cFl cFd hsl
  have hfw := folds_few hinv
  have hFl := few_len ⟨nx, now, op, seg, pts⟩
  simp only at hFl
  rw [hl0.out] at hsl
  have cNt := fun A n c W hr hn => dnotes_any ⟨nx, now, op, seg, pts⟩ A n c W hr hn hinv.nx
  have cFw := fun A n c W hr hn => rfew_any ⟨nx, now, op, seg, pts⟩ A n c W hr hn hinv
  simp only at cNt cFw
  replace cFl := Lib.hid cFl
  replace cFd := Lib.hid cFd
  replace cNt := Lib.hid cNt
  replace cFw := Lib.hid cFw
  replace hB7 := Lib.hid hB7
  replace gK7 := Lib.hid gK7
  replace hinv := Lib.hid hinv
  clear cSN hB6 gK6 g7
  go_wp2_with fail
  refine cFl.out.mono ?_
  rintro e W8 ⟨⟨A, n, c, rfl, hO⟩, g8⟩
  have hnl2 : op.length = n := by have := hO.1; rw [sR_len curC 5 curC_len] at this; omega
  subst hnl2
  obtain ⟨n, hn⟩ : ∃ n, n = op.length := ⟨_, rfl⟩
  rw [← hn] at hO hsl hFl ⊢
  have hP1 := own_st1 W8 (.int .i64 nx) (.int .i64 now) (.slice A n c) (.string (txt seg)) (.int .i64 pts)
  obtain ⟨P, hP⟩ : ∃ P, P = W8.heap.size := ⟨_, rfl⟩
  obtain ⟨W9, hW9⟩ : ∃ W9, W9 = W8.alloc (.cells #[.int .i64 nx, .int .i64 now, .slice A n c, .string (txt seg), .int .i64 pts] 54) := ⟨_, rfl⟩
  have g9 : Gr W8 W9 := by rw [hW9]; exact gr_alloc _ _ _
  rw [← hW9, ← hP] at hP1
  have hO9 := own_mono (hO.kept g9 (Classical.em _)) (Nat.zero_le _)
  have hP9 := own_mono hP1 (Nat.zero_le _)
  have hB9 := CN.bcn_gr (CN.bcn_gr hB7.out g8) g9
  have gK9 := gr_trans (gr_trans gK7.out g8) g9
  replace hn := Lib.hid hn
  replace hO9 := Lib.hid hO9
  replace hP9 := Lib.hid hP9
  replace hB9 := Lib.hid hB9
  replace gK9 := Lib.hid gK9
  clear cFl hB7 gK7 g8 g9 hP1 hO
  go_upto_region 18 with fail
  rw [← hW9, ← hP]
  clear hW9 hP
  go_upto_block 2 with fail
  go_cut [16] (fun _iv wx => ∃ lx ly : List Lst, Hid (lx.length ≤ 2 ∧ ly.length ≤ 3) ∧ Hid (CN.BCN wx K lx ly) ∧ Hid (Gr WK wx) ∧ Hid (∀ j, InL lx j ∨ InL ly j → w.heap.size ≤ j))
  case first =>
    go_wp2_with fail
    go_loopw [16] (fun iv wr => ∃ (k : Nat) (lx ly : List Lst), k ≤ 2 ∧ iv = .int .i64 k ∧ Hid (lx.length = k ∧ ly.length = k + 1) ∧ Hid (CN.BCN wr K lx ly) ∧ Hid (Gr WK wr) ∧ Hid (wr.ownsRow 0 54 5 (.slice (some ⟨P, 0, none⟩) 1 1) 1 [.int .i64 nx, .int .i64 now, .slice A n c, .string (txt seg), .int .i64 pts]) ∧ Hid (wr.ownsRow 0 28 5 (.slice A n c) n (sR curC op)) ∧ Hid (∀ j, InL lx j ∨ InL ly j → w.heap.size ≤ j)) (fun iv _ => 2 - (intOf iv).toNat)
    case atStart => exact ⟨0, [], [⟨xA, nl.length, xc⟩], by decide, rfl, Lib.hid ⟨rfl, rfl⟩, hB9, gK9, hP9, hO9, hlow⟩
    case round =>
      obtain ⟨k, lx, ly, hk, rfl, hll, hBr, hg, hPr, hOr, hlw⟩ := hrel
      by_cases hlt : k < 2
      · have hki : (k : Int) < 2 := by omega
        have hsz := hg.out.size
        have hwr : w.heap.size ≤ wr.heap.size := Nat.le_trans G3.out.size hsz
        replace hwr := Lib.hid hwr
        clear hsz
        go_wp2_with fail
        refine (cFd.out _ hg.out).mono ?_
        rintro e W2 ⟨⟨A1, n1, c1, rfl, hO1⟩, g2⟩
        have hnl3 : n1 = n := by have := hO1.1; rw [sR_len curC 5 curC_len] at this; have := hn.out; omega
        subst hnl3
        obtain ⟨W3, hW3⟩ : ∃ W3, W3 = W2.alloc (.cells #[.int .i64 nx, .int .i64 now, .slice A1 n1 c1, .string (txt seg), .int .i64 pts] 56) := ⟨_, rfl⟩
        have g3 : Gr W2 W3 := by rw [hW3]; exact gr_alloc _ _ _
        have hQ3 : W3.heap[W2.heap.size]? = some (.cells #[.int .i64 nx, .int .i64 now, .slice A1 n1 c1, .string (txt seg), .int .i64 pts] 56 (0, 0)) := by rw [hW3]; exact blk_new _ _
        obtain ⟨Q, hQ⟩ : ∃ Q, Q = W2.heap.size := ⟨_, rfl⟩
        rw [← hQ] at hQ3
        have hO3 := hO1.kept g3 (Classical.em _)
        have G23 := gr_trans g2 g3
        have hs3 := G23.size
        replace hs3 := Lib.hid hs3
        replace hO3 := Lib.hid hO3
        replace hQ3 := Lib.hid hQ3
        replace G23 := Lib.hid G23
        clear hO1 g2 g3
        go_upto_region 22 with fail
        rw [← hW3, ← hQ]
        clear hW3 hQ
        have q0 : W3.cell? ⟨Q, 0, none⟩ = some (.int .i64 nx) := fcell hQ3.out rfl
        have q1 : W3.cell? ⟨Q, 1, none⟩ = some (.int .i64 now) := fcell hQ3.out rfl
        have q2 : W3.cell? ⟨Q, 2, none⟩ = some (.slice A1 n1 c1) := fcell hQ3.out rfl
        have q3 : W3.cell? ⟨Q, 3, none⟩ = some (.string (txt seg)) := fcell hQ3.out rfl
        have q4 : W3.cell? ⟨Q, 4, none⟩ = some (.int .i64 pts) := fcell hQ3.out rfl
        have cN3 := cNt.out A1 n1 c1 W3 (row_own hO3.out) (by omega)
        replace cN3 := Lib.hid cN3
        go_wp2_with fail
        refine cN3.out.mono ?_
        rintro e W4 ⟨fv, rfl, hF, g4⟩
        unfold OwnN at hF
        obtain ⟨Af, cf, rfl, -, -⟩ := own_openS hF
        obtain ⟨FF, hFF⟩ : ∃ FF, FF = fewM ⟨nx, now, op, seg, pts⟩ := ⟨_, rfl⟩
        obtain ⟨nF, hnF⟩ : ∃ nF, nF = FF.length := ⟨_, rfl⟩
        have cF2 : ∀ W, Gr W4 W → Calls Tryz.prog 17 #[.slice Af nF cf] W fun e w' => (∃ A5 n5 c5, e = .returned (.agg #[.int .i64 nx, .int .i64 now, .slice A5 n5 c5, .string (txt seg), .int .i64 pts]) ∧ w'.ownsRow W.heap.size 28 5 (.slice A5 n5 c5) n5 (sR curC op)) ∧ Gr W w' := fun W g => by
          have h := dFold_any Af nF cf FF W (row_gr (row_own (by rw [hnF, hFF]; exact hF)) g) (by rw [hnF, hFF]; omega)
          rw [hFF, hfw] at h
          exact h
        have hFF60 : nF ≤ 100 := by rw [hnF, hFF]; omega
        have cW2 : ∀ W, Row W A n1 5 (sR curC op) → Calls Tryz.prog 21 #[.agg #[.int .i64 nx, .int .i64 now, .slice A n1 c, .string (txt seg), .int .i64 pts]] W fun e w' => ∃ v, e = .returned v ∧ w'.ownsRow W.heap.size 30 6 v nF (sR nteC FF) ∧ Gr W w' := fun W hr => by
          have h := cFw.out A n1 c W hr (by omega)
          rw [← hFF] at h
          unfold OwnN at h
          rw [← hnF] at h
          exact h
        rw [← hFF] at hF
        rw [← hnF] at hF
        rw [← hFF, ← hnF]
        obtain ⟨p0, p1, p2, p3, p4⟩ := own_st1_cells hPr.out
        have G4 := gr_trans G23.out g4
        have hS4 : DTS W4 Q P nx now pts seg A1 n1 c1 A c W4 := ⟨gr_refl _ _, gr_cell g4 q0, gr_cell g4 q1, gr_cell g4 q2, gr_cell g4 q3, gr_cell g4 q4, gr_cell G4 p0, gr_cell G4 p1, gr_cell G4 p2, gr_cell G4 p3, gr_cell G4 p4⟩
        have hO4 := hO3.out.kept g4 (Classical.em _)
        have hOw4 := hOr.out.kept G4 (Classical.em _)
        have hr1g : ∀ W, Gr W4 W → Row W A1 n1 5 (sR curC op) := fun W g => row_gr (row_own hO4) g
        have hrwg : ∀ W, Gr W4 W → Row W A n1 5 (sR curC op) := fun W g => row_gr (row_own hOw4) g
        have hrfg : ∀ W, Gr W4 W → Row W Af nF 6 (sR nteC FF) := fun W g => row_gr (row_own hF) g
        have cS1 := fun W (g : Gr W4 W) => stSame_yes nx now A1 A n1 c1 c seg pts op W (by omega) (hr1g W g) (hrwg W g)
        have cS2 := fun A5 c5 W (g : Gr W4 W) (hr : Row W A5 n1 5 (sR curC op)) => stSame_yes nx now A5 A n1 c5 c seg pts op W (by omega) hr (hrwg W g)
        have cSn := fun A6 c6 W (g : Gr W4 W) (hr : Row W A6 nF 6 (sR nteC FF)) => sameNtes_yes Af A6 nF cf c6 FF W (by omega) (hrfg W g) hr
        replace cF2 := Lib.hid cF2
        replace cW2 := Lib.hid cW2
        replace cS1 := Lib.hid cS1
        replace cS2 := Lib.hid cS2
        replace cSn := Lib.hid cSn
        replace hS4 := Lib.hid hS4
        replace hO4 := Lib.hid hO4
        replace hOw4 := Lib.hid hOw4
        replace hF := Lib.hid hF
        replace G4 := Lib.hid G4
        replace hrwg := Lib.hid hrwg
        replace hFF := Lib.hid hFF
        replace hnF := Lib.hid hnF
        clear hr1g hrfg q0 q1 q2 q3 q4 p0 p1 p2 p3 p4 cN3 g4 hO3 hQ3 G23
        go_upto_region 23 with fail
        go_cut [143] (fun bv wx => bv = .bool false ∧ Hid (Gr W4 wx))
        case first =>
          go_region_held3 (fun w' => Gr W4 w' ∧ w'.cell? ⟨Q, 0, none⟩ = some (.int .i64 nx) ∧ w'.cell? ⟨Q, 1, none⟩ = some (.int .i64 now) ∧ w'.cell? ⟨Q, 2, none⟩ = some (.slice A1 n1 c1) ∧ w'.cell? ⟨Q, 3, none⟩ = some (.string (txt seg)) ∧ w'.cell? ⟨Q, 4, none⟩ = some (.int .i64 pts) ∧ w'.cell? ⟨P, 0, none⟩ = some (.int .i64 nx) ∧ w'.cell? ⟨P, 1, none⟩ = some (.int .i64 now) ∧ w'.cell? ⟨P, 2, none⟩ = some (.slice A n1 c) ∧ w'.cell? ⟨P, 3, none⟩ = some (.string (txt seg)) ∧ w'.cell? ⟨P, 4, none⟩ = some (.int .i64 pts)) (first | exact dts_gr hS4.out (gr_drew W4 none) | exact dts_gr (by assumption) gP) (first
            | (go_at_call 19; refine (plain_any _ _ _ _ _ _ _ _).mono ?_; rintro e wP ⟨rfl, gP⟩)
            | (go_at_call 20; first
                | with_reducible refine (cS1.out _ (show DTS W4 Q P nx now pts seg A1 n1 c1 A c _ from by assumption).1).mono ?_
                | with_reducible refine (cS2.out A5 c5 _ (show DTS W4 Q P nx now pts seg A1 n1 c1 A c _ from by assumption).1 (row_gr (row_own hO5) gP)).mono ?_
               rintro e wP ⟨rfl, gP⟩)
            | (go_at_call 21; refine (cW2.out _ (hrwg.out _ (show DTS W4 Q P nx now pts seg A1 n1 c1 A c _ from by assumption).1)).mono ?_; rintro e wP ⟨v6, rfl, hF6, gP⟩; obtain ⟨A6, c6, rfl, -, -⟩ := own_openS hF6)
            | (go_at_call 15; refine (cSn.out A6 c6 _ (show DTS W4 Q P nx now pts seg A1 n1 c1 A c _ from by assumption).1 (row_own hF6)).mono ?_; rintro e wP ⟨rfl, gP⟩)
            | (go_at_call 17; refine (cF2.out _ (show DTS W4 Q P nx now pts seg A1 n1 c1 A c _ from by assumption).1).mono ?_; rintro e wP ⟨⟨A5, n5, c5, rfl, hO5⟩, gP⟩; have hn5 : n1 = n5 := (by have h9 := hO5.1; rw [sR_len curC 5 curC_len] at h9; have := hn.out; omega); subst hn5))
          all_goals
            go_wp2_with fail
            go_meet
            exact ⟨rfl, Lib.hid (gr_trans (gr_drew W4 none) (gr_trans (by assumption) (gr_trans (by assumption) (gr_trans (by assumption) (gr_trans (by assumption) (gr_trans (by assumption) (gr_trans (by assumption) gP)))))))⟩
        case rest =>
        obtain ⟨rfl, g5⟩ := hcut
        obtain ⟨W5, hW5⟩ : ∃ W5, W5 = wc := ⟨_, rfl⟩
        rw [← hW5] at g5 ⊢
        clear hW5
        have q2 : W5.cell? ⟨Q, 2, none⟩ = some (.slice A1 n1 c1) := gr_cell g5.out hS4.out.2.2.2.1
        have hO5 := hO4.out.kept g5.out (Classical.em _)
        have hF5 := hF.out.kept g5.out (Classical.em _)
        have hOw5 := hOw4.out.kept g5.out (Classical.em _)
        have hP5 := hPr.out.kept (gr_trans G4.out g5.out) (Classical.em _)
        have hB5 := CN.bcn_gr hBr.out (gr_trans G4.out g5.out)
        have gK5 := gr_trans hg.out (gr_trans G4.out g5.out)
        have hlt5 := CN.bcn_lt hBr.out
        have hkc := CN.bcn_cursors hB5 ⟨A1, n1, c1⟩ op (by have := hll.out; omega) (by simp only; omega) (own_mono hO5 (Nat.zero_le _)) (fun j hj hi => by have := hlt5.1 j hi; have := (hO5.lt j hj).1; omega)
        have hn1 : ∀ j, (Value.slice A1 n1 c1).ownBlock = some j → w.heap.size ≤ j := fun j hj => Nat.le_trans hwr.out (hO5.lt j hj).1
        have hn2 : ∀ j, (Value.slice Af nF cf).ownBlock = some j → w.heap.size ≤ j := fun j hj => Nat.le_trans hwr.out (Nat.le_trans hs3.out (hF5.lt j hj).1)
        have hn3 : ∀ j, (Value.slice Af nF cf).ownBlock = some j → ¬ InL ly j := fun j hj hi => by have := hlt5.2 j hi; have := (hF5.lt j hj).1; have := hs3.out; omega
        have hF5b := own_mono hF5 (Nat.zero_le _)
        replace hkc := Lib.hid hkc
        replace hn1 := Lib.hid hn1
        replace hn2 := Lib.hid hn2
        replace hn3 := Lib.hid hn3
        replace hF5b := Lib.hid hF5b
        replace hOw5 := Lib.hid hOw5
        replace hP5 := Lib.hid hP5
        replace gK5 := Lib.hid gK5
        clear hO5 hF5 hB5 hlt5 g5 cF2 cW2 cS1 cS2 cSn hS4 hO4 hOw4 hF G4 hrwg hPr hOr hg hBr hs3
        go_wp2_with fail
        refine hkc.out.mono ?_
        rintro e W6 ⟨rfl, hB6, bel6, fr6⟩
        have hF6 := fr6 _ _ _ _ _ _ (by decide) (by decide) hF5b.out
        have hP6 := fr6 _ _ _ _ _ _ (by decide) (by decide) hP5.out
        have hOw6 := fr6 _ _ _ _ _ _ (by decide) (by decide) hOw5.out
        have gK6 := gr_keep hK.out gK5.out bel6
        have hkn := CN.bcn_notes hB6 ⟨Af, nF, cf⟩ FF (by have := hll.out; omega) (by simp only; omega) hF6 hn3.out
        replace hkn := Lib.hid hkn
        replace hP6 := Lib.hid hP6
        replace hOw6 := Lib.hid hOw6
        replace gK6 := Lib.hid gK6
        clear hkc hB6 bel6 fr6 hF6 hP5 hOw5 gK5 hF5b q2
        go_wp2_with fail
        refine hkn.out.mono ?_
        rintro e W7 ⟨rfl, hB7, bel7, fr7⟩
        have hP7 := fr7 _ _ _ _ _ _ (by decide) (by decide) hP6.out
        have hOw7 := fr7 _ _ _ _ _ _ (by decide) (by decide) hOw6.out
        have gK7 := gr_keep hK.out gK6.out bel7
        have hlw7 : ∀ j, InL (lx ++ [(⟨A1, n1, c1⟩ : Lst)]) j ∨ InL (ly ++ [(⟨Af, nF, cf⟩ : Lst)]) j → w.heap.size ≤ j := by
          rintro j (h | h)
          · rcases inl_snoc h with h | h
            · exact hlw.out j (.inl h)
            · exact hn1.out j h
          · rcases inl_snoc h with h | h
            · exact hlw.out j (.inr h)
            · exact hn2.out j h
        replace hB7 := Lib.hid hB7
        replace hP7 := Lib.hid hP7
        replace hOw7 := Lib.hid hOw7
        replace gK7 := Lib.hid gK7
        replace hlw7 := Lib.hid hlw7
        clear hkn hP6 hOw6 gK6 bel7 fr7 hlw hn1 hn2 hn3
        go_wp2
        go_roundw
        case rel => exact ⟨k + 1, lx ++ [(⟨A1, n1, c1⟩ : Lst)], ly ++ [(⟨Af, nF, cf⟩ : Lst)], by omega, by go_num, Lib.hid (by have := hll.out; simp only [List.length_append, List.length_cons, List.length_nil]; omega), hB7, gK7, hP7, hOw7, hlw7⟩
        case measure => simp [intOf]; omega
      · have hki : ((k : Int) < 2) = False := eq_false (by omega)
        go_wp2_with fail
        go_meet
        exact ⟨lx, ly, Lib.hid (by have := hll.out; omega), hBr, hg, hlw⟩
  case rest =>
  obtain ⟨lx, ly, hll, hBr, hg, hlw⟩ := hcut
  obtain ⟨W5, hW5⟩ : ∃ W5, W5 = wc := ⟨_, rfl⟩
  rw [← hW5] at hg hBr ⊢
  clear hW5
  have cSt := BkN.staysNotes_any (some ⟨gM, 0, none⟩) a0 len0 cM cap0 z0 W5 (by omega) (lentS_gr hMc.out hg.out) (row_gr hrL.out hg.out)
  replace cSt := Lib.hid cSt
  clear cFd cNt cFw hP9 hO9 hB9 gK9
  go_wp2_with fail
  refine cSt.out.mono ?_
  rintro e W6 ⟨rfl, g6⟩
  have cAp := CN.bcn_apart (CN.bcn_gr hBr.out g6) (by have := hll.out; omega) (by have := hll.out; omega)
  have GG := gr_trans G3.out (gr_trans hg.out g6)
  replace cAp := Lib.hid cAp
  replace GG := Lib.hid GG
  clear cSt g6
  go_wp2_with fail
  refine cAp.out.mono ?_
  rintro e W8 ⟨rfl, g8⟩
  have hfin := below_grs (gr_below GG.out) g8 GG.out.size hlw.out
  replace hfin := Lib.hid hfin
  clear g8 cAp
  go_wp2
  go_ret
  exact ⟨rfl, hfin.out⟩



set_option maxRecDepth 100000 in
theorem lifted (os : Os) (started : os.Started) (H : Type) (enc : TypeId × Value → H) :
    ReturnsInHanded {} Tryz.checked os 3 .any (Rows.diaryTellsSpec.pre6 enc Tryz.prog Tryz.f3 Rows.diaryTellsRow.domain false) (Rows.diaryTellsSpec.post enc Tryz.prog Tryz.f3 false true false false) := by
  refine returnsInHanded_of_change (C := Tryz.checked) own started (by kernel_rfl) Tryz.func3
    (ChangeSpec.witness6 (enc := enc) (C := Tryz.checked) false ⟨#[], #[.slice none 0 0, .string ByteArray.empty], []⟩ 8 (by kernel_rfl) (by kernel_rfl) (by kernel_rfl) (by kernel_rfl)) ?_
  intro W base args ds gs before hval0 hW hcnd _
  have hval : ∀ (j : Nat) t v, Tryz.f3.params[j]? = some t → args[j]? = some v → Value.okWide Tryz.prog W .any base t v := hval0
  have hW' := hW
  obtain ⟨p, q, hA0, hV, rfl, hfz, hnd⟩ := hW
  have hA : DataW.TrodAll enc Tryz.prog W 0 (fun _ => true) true Tryz.f3.params.toList args.toList ds p := hA0
  rw [Tryz.params3] at hA hval
  obtain ⟨v0, vs0, d0, ds0, p0, q0, hargs, rfl, rfl, h0, r0⟩ := trodAll_cons hA
  obtain ⟨v1, vs1, d1, ds1, p1, q1, rfl, rfl, rfl, h1, r1⟩ := trodAll_cons r0
  obtain ⟨rfl, rfl, rfl⟩ := trodAll_nil r1
  obtain rfl : args = #[v0, v1] := by cases args; simp_all
  obtain ⟨rfl, rfl⟩ := trodVars_none hV
  obtain ⟨a0, len0, cap0, rfl⟩ := okWide_slice Tryz.underlying22 (hval 0 22 v0 rfl rfl)
  have k0 := h0
  have lt0 : ∀ x ∈ p0, x.block < W.heap.size := by obtain ⟨m, hm⟩ := k0; exact DataW.trod_lt m _ _ _ hm
  obtain ⟨z0, w0⟩ := ntes_open h0
  obtain ⟨a1, rfl, rfl, rfl, w1⟩ := open_string Tryz.underlying9 (hval 1 9 v1 rfl rfl) h1
  clear hA0 hval0
  refine (walk W a0 len0 cap0 z0 w0 a1 w1).mono fun e W' ⟨he, bel⟩ => ?_
  subst he
  exact ⟨_, rfl, _, _, _, [], _, [], hW', trodAll_mk1 (shut_bool Tryz.underlying4 _), (trodAll_cons_mk (Below.trod laidOut (by kernel_rfl) (of_decide_eq_true (by kernel_rfl)) k0 bel lt0) (trodAll_cons_mk (shut_string Tryz.underlying9 w1) trodAll_mk0)), rfl, bel.frame _, fun h => by cases h⟩

theorem over : Rows.diaryTellsRow.holds Tryz.pinned (OpenSpec.ofChange Rows.diaryTellsSpec) :=
  OpenClaim.holds_of_wide 3 Tryz.f3 rfl rfl rfl rfl rfl rfl rfl ⟨rfl, rfl, rfl, rfl, rfl⟩ rfl rfl rfl rfl rfl (by kernel_rfl) Tryz.func3 (by kernel_rfl)
    (of_decide_eq_true (by kernel_rfl)) (by unfold Func.isWrapper; first | (rw [if_pos (by decide +kernel)]; kernel_rfl) | (rw [if_neg (by decide +kernel)]; exact ⟨rfl, rfl⟩))
    (fun os started H enc _ => lifted os started H enc)

/-- THE STATEMENT -/
theorem proved : Rows.DiaryTellsSaid := over
#print axioms proved
end Go.Proofs.YtmldoeeangekoaaGreat.diaryTells

