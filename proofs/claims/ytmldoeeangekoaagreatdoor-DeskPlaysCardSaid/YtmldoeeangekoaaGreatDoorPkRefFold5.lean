/-
  The document's State: a note that opens. No condition but bounds.
-/
import Derived.Test.YtmldoeeangekoaaGreatDoorRdA
import Derived.Test.YtmldoeeangekoaaGreatDoorInsReg
import Derived.Test.YtmldoeeangekoaaGreatDoorDkB
import Derived.Lib.MinMax
import Derived.Deep.CutBlock
namespace Go.Proofs.YtmldoeeangekoaaGreatDoor
open Go.RowKit

/-- The state's block, whatever its list. -/
def SBs (SB : Nat) (nx now : Int) (seg : List UInt8) (pts : Int) (w : World) : Prop := ∃ u, w.heap[SB]? = some (.cells (rsC nx now u seg pts) 32 (0, 0))
/-- Nothing old has turned but the state's block, and the cursor is there. -/
abbrev S5 (wo : World) (SB XB : Nat) (nx now : Int) (seg : List UInt8) (pts : Int) (x : Cur) (w' : World) : Prop := GrB SB wo w' ∧ SBs SB nx now seg pts w' ∧ w'.cell? ⟨XB, 0, none⟩ = some (.int .i64 x.id) ∧ w'.cell? ⟨XB, 1, none⟩ = some (.int .i64 x.rows) ∧ w'.cell? ⟨XB, 2, none⟩ = some (.int .i64 x.size) ∧ w'.cell? ⟨XB, 3, none⟩ = some (.int .i64 x.tl) ∧ w'.cell? ⟨XB, 4, none⟩ = some (.string (txt x.file))
theorem s5_mk {wo w' : World} {SB XB : Nat} {nx now pts : Int} {seg : List UInt8} {x : Cur} (hx : CuB wo XB x) (hne : XB ≠ SB) (g : GrB SB wo w') (hs : SBs SB nx now seg pts w') : S5 wo SB XB nx now seg pts x w' := by
  have h : CuB w' XB x := gr_blk g hx (by simp; exact hne)
  obtain ⟨h0, h1, h2, h3, h4⟩ := cub_cells h
  exact ⟨g, hs, h0, h1, h2, h3, h4⟩
theorem sbs_grown {w w' : World} {SB : Nat} {nx now pts : Int} {seg : List UInt8} {row : Option Nat} (h : SBs SB nx now seg pts w) (g : w.grownBy w' row) (hr : some SB ≠ row) : SBs SB nx now seg pts w' := by
  obtain ⟨u, hu⟩ := h
  exact ⟨u, gr_blk g hu hr⟩
theorem s5_drew {wo w' : World} {SB XB : Nat} {nx now pts : Int} {seg : List UInt8} {x : Cur} (hx : CuB wo XB x) (hne : XB ≠ SB) (h : S5 wo SB XB nx now seg pts x w') : S5 wo SB XB nx now seg pts x w'.drew :=
  s5_mk hx hne (gr_trans h.1 (gr_more _ (gr_drew _ none))) (sbs_grown h.2.1 (gr_drew _ none) (by simp))
theorem s5_alloc {wo w' : World} {SB XB : Nat} {nx now pts : Int} {seg : List UInt8} {x : Cur} (hx : CuB wo XB x) (hne : XB ≠ SB) (h : S5 wo SB XB nx now seg pts x w') (ob : Obj) : S5 wo SB XB nx now seg pts x (w'.alloc ob) :=
  s5_mk hx hne (gr_trans h.1 (gr_more _ (gr_alloc _ _ none))) (sbs_grown h.2.1 (gr_alloc _ _ none) (by simp))
theorem grB_new {b : Nat} {w V V' : World} {row : Option Nat} (h : GrB b w V) (k : V.grownBy V' row) (hr : ∀ j, row = some j → w.heap.size ≤ j) : GrB b w V' :=
  ⟨by rw [k.os, h.os], by rw [k.tape, h.tape], by rw [k.output, h.output], Nat.le_trans h.size k.size, fun i hi hn => by rw [k.block i (Nat.lt_of_lt_of_le hi h.size) (fun e => by have := hr i (by first | exact e | exact e.symm); omega), h.block i hi hn]⟩
theorem s5_grown {wo w' w'' : World} {SB XB : Nat} {nx now pts : Int} {seg : List UInt8} {x : Cur} {row : Option Nat} (hx : CuB wo XB x) (hne : XB ≠ SB) (hlt : SB < wo.heap.size) (h : S5 wo SB XB nx now seg pts x w') (g : w'.grownBy w'' row) (hr : ∀ k, row = some k → wo.heap.size ≤ k) : S5 wo SB XB nx now seg pts x w'' :=
  s5_mk hx hne (grB_new h.1 g hr) (sbs_grown h.2.1 g (fun e => by have := hr _ e.symm; omega))
theorem s5_set {wo w' : World} {SB XB : Nat} {nx now pts : Int} {seg : List UInt8} {x : Cur} (hx : CuB wo XB x) (hne : XB ≠ SB) (h : S5 wo SB XB nx now seg pts x w') (v : Value) : S5 wo SB XB nx now seg pts x (w'.setCell ⟨SB, 2, none⟩ v) :=
  s5_mk hx hne (gr_trans h.1 (gr_set w' ⟨SB, 2, none⟩ v)) (by
    obtain ⟨u, hu⟩ := h.2.1
    exact ⟨v, blk_set hu 2 v⟩)
set_option maxHeartbeats 32000000 in
set_option maxRecDepth 100000 in
theorem rfold_open (nx now pts : Int) (A : Option Addr) (n c : Nat) (seg : List UInt8) (x : Nte) (zs : List Cur) (w : World) (hx : okOpen x) (hnn : n ≤ 100000) (hz : Row w A n 5 (sR curC zs)) :
    Calls Tryz.prog 21 #[.agg #[.int .i64 nx, .int .i64 now, .slice A n c, .string (txt seg), .int .i64 pts], .agg #[.int .i64 x.kind, .int .i64 x.c.id, .int .i64 x.c.rows, .int .i64 x.c.size, .int .i64 x.c.tl, .string (txt x.c.file)]] w fun e w' => ∃ v q, e = .returned (.agg #[.int .i64 (max nx (x.c.id + 1)), .int .i64 now, v, .string (txt seg), .int .i64 pts]) ∧ q ≤ (zs.filter fun y => !(y.id == x.c.id)).length ∧ (∀ y ∈ (zs.filter fun y => !(y.id == x.c.id)).take q, y.id < x.c.id) ∧ (∀ y, (zs.filter fun y => !(y.id == x.c.id))[q]? = some y → ¬ y.id < x.c.id) ∧ w'.ownsRow w.heap.size 52 5 v ((zs.filter fun y => !(y.id == x.c.id)).length + 1) (sR curC ((zs.filter fun y => !(y.id == x.c.id)).take q ++ [x.c] ++ (zs.filter fun y => !(y.id == x.c.id)).drop q)) ∧ Gr w w' := by
  obtain ⟨ii, hii, hz0, hz1, hz2⟩ := info_parts infoCuE
  have hl : zs.length = n := by have := hz.1; rw [sR_len curC 5 curC_len] at this; omega
  obtain ⟨fz, hfz⟩ : ∃ fz, fz = zs.filter (fun y => !(y.id == x.c.id)) := ⟨_, rfl⟩
  obtain ⟨M, hM⟩ : ∃ M, M = fz.length := ⟨_, rfl⟩
  rw [← hfz, ← hM]
  have hMn : M ≤ 100000 := by rw [hM, hfz]; exact Nat.le_trans (List.length_filter_le _ _) (by omega)
  replace hfz := Lib.hid hfz
  replace hM := Lib.hid hM
  replace hl := Lib.hid hl
  have hB := fb_new w nx now (.slice A n c) seg pts x
  obtain ⟨W1, hW1⟩ : ∃ W1, W1 = fbW w nx now (.slice A n c) seg pts x := ⟨_, rfl⟩
  rw [← hW1] at hB
  obtain ⟨g1, hs, hn, hr, hc⟩ := hB
  unfold rsC at hs
  have cN := fun W => refNote_any x W
  rw [decide_eq_true (show okN x from .inl hx)] at cN
  obtain ⟨hk, ⟨hi1, hi2⟩, -⟩ := hx
  have k1 : (x.kind == 1) = true := eqT hk
  replace hk := Lib.hid hk
  unfold nteV at cN
  replace cN := Lib.hid cN
  replace hW1 := Lib.hid hW1
  have n0 := fcellD hn (j := 0) rfl
  have n1 := fcellD hn (j := 1) rfl
  have n2 := fcellD hn (j := 2) rfl
  have n3 := fcellD hn (j := 3) rfl
  have n4 := fcellD hn (j := 4) rfl
  have n5 := fcellD hn (j := 5) rfl
  replace hn := Lib.hid hn
  replace hc := Lib.hid hc
  replace hs := Lib.hid hs
  replace hr := Lib.hid hr
  replace hz := Lib.hid hz
  go_enter Tryz.func21, Tryz.ntmps21
  go_upto_region 2 with fail
  change Code.wp _ _ _ _ (fbW w nx now (.slice A n c) seg pts x)
  rw [← hW1.out]
  go_wp2_with fail
  refine (cN.out _).mono ?_
  rintro e w2 ⟨rfl, g2⟩
  have hs2 := gr_blk g2 hs.out (by simp)
  have hr2 := gr_blk g2 hr.out (by simp)
  have hc2 := gr_blk g2 hc.out (by simp)
  have hn2 := gr_blk g2 hn.out (by simp)
  have p0 := fcellD hn2 (j := 0) rfl
  have q0 := fcellD hc2 (j := 0) rfl
  have y0 := fzeroD hs2 0
  have m0 := fcellD hs2 (j := 0) rfl
  have m1 := fcellD hs2 (j := 1) rfl
  have m2 := fcellD hs2 (j := 2) rfl
  have m3 := fcellD hs2 (j := 3) rfl
  have m4 := fcellD hs2 (j := 4) rfl
  have hwr : IntKind.i64.wrap (x.c.id + 1) = x.c.id + 1 := IntWalk.i64_in _ (by omega)
  clear n0 n1 n2 n3 n4 n5 cN
  obtain ⟨V2, hV2⟩ : ∃ V2, V2 = w2.setCell ⟨w.heap.size, 0, none⟩ (.int .i64 (max nx (x.c.id + 1))) := ⟨_, rfl⟩
  have gs := gr_set w2 ⟨w.heap.size, 0, none⟩ (.int .i64 (max nx (x.c.id + 1)))
  have hsV := blk_set hs2 0 (.int .i64 (max nx (x.c.id + 1)))
  rw [← hV2] at gs hsV
  go_upto_region 8 with fail
  rw [← hV2]
  have hrV := gr_blk gs hr2 (by simp)
  have hcV := gr_blk gs hc2 (by simp)
  have gV : Gr w V2 := gr_of_below ((gr_below (gr_trans g1 g2)).grown gs (gr_trans g1 g2).size (fun k hk => by cases hk; exact Nat.le_refl _)) (Nat.le_refl _)
  clear hV2 gs hs2 hr2 hc2 hn2 p0 q0 y0 m0 m1 m2 m3 m4 g2
  have hcz := lt_of_blk hcV
  have cW := fun W (g : Gr V2 W) => without_any A n c zs x.c.id W hnn (row_gr hz.out (gr_trans gV g))
  rw [← hfz.out, ← hM.out] at cW
  replace cW := Lib.hid cW
  generalize hmx : max nx (x.c.id + 1) = mx at *
  replace hmx := Lib.hid hmx
  obtain ⟨SB, hSB⟩ : ∃ SB, SB = w.heap.size := ⟨_, rfl⟩
  obtain ⟨RB, hRB⟩ : ∃ RB, RB = w.heap.size + 1 + 1 := ⟨_, rfl⟩
  obtain ⟨XB, hXB⟩ : ∃ XB, XB = w.heap.size + 1 + 1 + 1 := ⟨_, rfl⟩
  have hcz2 : XB < V2.heap.size := by omega
  rw [← hXB, ← hRB, ← hSB]
  replace hcV : CuB V2 XB x.c := by rw [hXB]; exact hcV
  replace hsV : V2.heap[SB]? = some (.cells #[.int .i64 mx, .int .i64 now, .slice A n c, .string (txt seg), .int .i64 pts] 32 (0, 0)) := by rw [hSB]; exact hsV
  replace hrV : V2.heap[RB]? = some (.cells #[.int .i64 0, .int .i64 0, .slice none 0 0, .string ⟨#[]⟩, .int .i64 0] 32 (0, 0)) := by rw [hRB]; exact hrV
  have hsz2 : SB < V2.heap.size := by omega
  have hne : XB ≠ SB := by omega
  have hrs : SB ≤ RB := by omega
  have hrne : RB ≠ SB := by omega
  replace hSB := Lib.hid hSB
  clear hcz hcz2
  clear hXB hRB
  have hXB := Lib.hid hne
  have hRB := Lib.hid hrs
  have m2 : V2.cell? ⟨SB, 2, none⟩ = some (.slice A n c) := fcellD hsV rfl
  have q0 : V2.cell? ⟨XB, 0, none⟩ = some (.int .i64 x.c.id) := (cub_cells hcV).1
  replace hsz2 := Lib.hid hsz2
  replace hrne := Lib.hid hrne
  clear hne hrs
  replace hcV := Lib.hid hcV
  replace hsV := Lib.hid hsV
  replace hrV := Lib.hid hrV
  replace gV := Lib.hid gV
  clear hs hr hc hn hz g1 hW1
  go_wp2_with fail
  refine (cW.out _ (gr_refl _ _)).mono ?_
  rintro e w3 ⟨v, rfl, hv, g3⟩
  obtain ⟨A3, c3, rfl, hMc, hcm, hnone⟩ := own_sliceS hv
  have hS3 := gr_blk g3 hsV.out (by simp)
  have hR3 := gr_blk g3 hrV.out (by simp)
  have hX3 : CuB w3 XB x.c := gr_blk g3 hcV.out (by simp)
  have gW3 := gr_trans gV.out g3
  replace hv := Lib.hid hv
  replace hnone := Lib.hid hnone
  replace hS3 := Lib.hid hS3
  replace hR3 := Lib.hid hR3
  replace hX3 := Lib.hid hX3
  replace gW3 := Lib.hid gW3
  clear cW m2 q0 g3 gV hsV hrV hcV
  go_upto_block 1 with fail
  go_cut [7] (fun qv wx => ∃ q : Nat, q ≤ M ∧ qv = .int .i64 q ∧ Hid (∀ y ∈ fz.take q, y.id < x.c.id) ∧ Hid (∀ y, fz[q]? = some y → ¬ y.id < x.c.id) ∧ Hid (Gr w3 wx))
  case first =>
    go_wp2_with fail
    go_loopw [7] (fun iv wr => ∃ q : Nat, q ≤ M ∧ iv = .int .i64 q ∧ Hid (∀ y ∈ fz.take q, y.id < x.c.id) ∧ Hid (Gr w3 wr)) (fun iv _ => M - (intOf iv).toNat)
    case atStart => exact ⟨0, Nat.zero_le _, rfl, (by intro y hy; simp at hy), gr_refl _ _⟩
    case round =>
      obtain ⟨q, hq, rfl, hle, hg⟩ := hrel
      have hq0 : (0 : Int) ≤ (q : Int) := by omega
      have hqc : (q : Int) ≤ (c3 : Int) := by omega
      have hqk : (q : Int) ≤ (M : Int) := by omega
      have d0 : wr.cell? ⟨XB, 0, none⟩ = some (.int .i64 x.c.id) := gr_cell hg.out (cub_cells hX3.out).1
      by_cases hlt : q < M
      · obtain ⟨y, gB, oB, hy, rfl, hgl, hb⟩ := rowS_elem curC_len (row_own (hv.out.kept hg.out (Classical.em _))) (by decide) hlt
        have b0 : wr.cell? ⟨gB, oB + q * 5, none⟩ = some (.int .i64 y.id) := hb 0 (by decide)
        have hqi : (q : Int) < (M : Int) := by omega
        clear hb hgl
        by_cases he : y.id < x.c.id
        · obtain ⟨j1, j2⟩ := List.getElem?_eq_some_iff.1 hy
          have hle2 : ∀ u ∈ fz.take (q + 1), u.id < x.c.id := fun u hu => by
            rw [List.take_succ_eq_append_getElem j1, j2] at hu
            rcases List.mem_append.1 hu with hu | hu
            · exact hle.out u hu
            · rw [List.mem_singleton.1 hu]; exact he
          replace hle2 := Lib.hid hle2
          clear hy j1 j2
          go_wp2_with fail
          go_quiet (fail)
          rename_i nq
          have gD := gr_trans hg.out (gr_drewN wr nq none)
          generalize wr.drewN nq = W5 at *
          replace gD := Lib.hid gD
          clear hg d0 b0
          go_wp2
          go_roundw
          case rel => exact ⟨q + 1, by omega, by go_num, hle2, gD⟩
          case measure => simp [intOf]; omega
        · have hge : ∀ u, fz[q]? = some u → ¬ u.id < x.c.id := fun u hu => by rw [hy] at hu; rw [← Option.some.inj hu]; exact he
          have heq : (y.id < x.c.id) = False := eq_false he
          replace hge := Lib.hid hge
          clear hy
          go_wp2_with fail
          go_quiet (fail)
          rename_i nq
          have gD := gr_trans hg.out (gr_drewN wr nq none)
          generalize wr.drewN nq = W5 at *
          replace gD := Lib.hid gD
          clear hg d0 b0 he heq hqi
          go_wp2_with fail
          go_meet
          exact ⟨q, hq, rfl, hle, hge, gD⟩
      · have hqe : q = M := by omega
        have hqf : ((q : Int) < (M : Int)) = False := eq_false (by omega)
        have hge : ∀ u, fz[q]? = some u → ¬ u.id < x.c.id := fun u hu => by have := (List.getElem?_eq_some_iff.1 hu).1; have := hM.out; omega
        replace hge := Lib.hid hge
        replace hqe := Lib.hid hqe
        go_wp2_with fail
        go_quiet (fail)
        rename_i nq
        have gD := gr_trans hg.out (gr_drewN wr nq none)
        generalize wr.drewN nq = W5 at *
        replace gD := Lib.hid gD
        clear hg d0 hlt hqf
        go_wp2_with fail
        go_meet
        exact ⟨q, hq, rfl, hle, hge, gD⟩
  case rest =>
  obtain ⟨q, hq, rfl, hle, hge, hg⟩ := hcut
  have hq0 : (0 : Int) ≤ (q : Int) := by omega
  have hqc : (q : Int) ≤ (c3 : Int) := by omega
  have hqk : (q : Int) ≤ (M : Int) := by omega
  obtain ⟨W5, hW5⟩ : ∃ W5, W5 = wc := ⟨_, rfl⟩
  rw [← hW5]
  rw [← hW5] at hg
  clear hW5
  have gD := hg.out
  have hv5 := hv.out.kept gD (Classical.em _)
  have gW5 := gr_trans gW3.out gD
  have hX5 : CuB W5 XB x.c := gr_blk gD hX3.out (by simp)
  have hS5 := gr_blk gD hS3.out (by simp)
  have hR5 := gr_blk gD hR3.out (by simp)
  have hSW := lt_of_blk hS5
  have hvS : (Value.slice A3 M c3).ownBlock ≠ some SB := fun e => by
    have h1 := (hv5.lt _ e).1
    have h2 := hsz2.out
    omega
  have hb0 : S5 W5 SB XB mx now seg pts x.c W5 := s5_mk hX5 hXB.out (gr_more _ (gr_refl _ _)) ⟨_, hS5⟩
  replace hv5 := Lib.hid hv5
  replace gW5 := Lib.hid gW5
  replace hX5 := Lib.hid hX5
  replace hS5 := Lib.hid hS5
  replace hR5 := Lib.hid hR5
  replace hSW := Lib.hid hSW
  replace hvS := Lib.hid hvS
  have hrt : ∀ w', GrB SB W5 w' → Row w' A3 q 5 (sR curC (fz.take q)) := fun w' g => by rw [sR_take curC 5 curC_len]; exact row_take (row_own (hv5.out.kept g (.inr hvS.out))) q hq
  have hrd : ∀ w', GrB SB W5 w' → Row w' (if c3 = q then A3 else Option.map (fun z => z.add (q * 5)) A3) (M - q) 5 (sR curC (fz.drop q)) := fun w' g => row_rest curC_len (by decide) (row_own (hv5.out.kept g (.inr hvS.out))) hq hMc
  have hao : ∀ _u : Unit, (if c3 = q then A3 else Option.map (fun z => z.add (q * 5)) A3) = none → c3 - q = 0 := fun _ h => by
    have h9 := hnone.out
    cases A3 with
    | none => have := h9 rfl; omega
    | some a' => split at h <;> simp at h
  replace hrt := Lib.hid hrt
  replace hrd := Lib.hid hrd
  replace hao := Lib.hid hao
  clear gD hg hv
  go_wp2_with fail
  go_region_held3 (fun w' => GrB SB W5 w' ∧ SBs SB mx now seg pts w' ∧ w'.cell? ⟨XB, 0, none⟩ = some (.int .i64 x.c.id) ∧ w'.cell? ⟨XB, 1, none⟩ = some (.int .i64 x.c.rows) ∧ w'.cell? ⟨XB, 2, none⟩ = some (.int .i64 x.c.size) ∧ w'.cell? ⟨XB, 3, none⟩ = some (.int .i64 x.c.tl) ∧ w'.cell? ⟨XB, 4, none⟩ = some (.string (txt x.c.file))) (first | assumption | exact s5_drew hX5.out hXB.out (by assumption) | exact s5_alloc hX5.out hXB.out (by assumption) _ | exact s5_set hX5.out hXB.out (by assumption) _) (first | (refine step_append_rowS (o := ⟨some 57, _, _, _, _, _⟩) (by rfl) _ _ 28 (by rfl) W5.heap.size 52 ii (.agg #[.int .i64 0, .int .i64 0, .int .i64 0, .int .i64 0, .string ⟨#[]⟩]) 5 48 Tryz.underlying28 hii hz0 hz1 hz2 rfl (by decide) (.slice none 0 0) (0) ([]) (by rfl) (by exact World.ownsRow_nil _ _ _ _) _ _ _ (sR curC (fz.take q)) (by rfl) (by exact hnone.out) (by exact hrt.out _ ((show S5 W5 SB XB mx now seg pts x.c _ from by assumption)).1) (curs_ones _) (q) (sR curC (fz.take q)) (by omega) (by rfl) (by unfold maxLen; omega) (by omega) (by exact ((show S5 W5 SB XB mx now seg pts x.c _ from by assumption)).1.size) ?_; intro v1 W6 hown1 hgrow1; have hsf1 := s5_grown hX5.out hXB.out hSW.out (show S5 W5 SB XB mx now seg pts x.c _ from by assumption) hgrow1 (by simp [Value.ownBlock])) | (refine step_append_rowS (o := ⟨some 60, _, _, _, _, _⟩) (by rfl) _ _ 28 (by rfl) W5.heap.size 52 ii (.agg #[.int .i64 0, .int .i64 0, .int .i64 0, .int .i64 0, .string ⟨#[]⟩]) 5 48 Tryz.underlying28 hii hz0 hz1 hz2 rfl (by decide) v1 (q) (sR curC (fz.take q)) (by rfl) (by first | exact hown1 | exact hown1.alloc _ | exact (hown1.kept (gr_drew W6 none) (Classical.em _)).alloc _ | exact (hown1.alloc _).kept (gr_drew _ none) (Classical.em _)) _ _ _ (curC x.c) (by rfl) (by intro e; cases e) (by first | exact row_newS curC_len W6 x.c 52 | exact row_gr (by exact row_heapS (w := W5.alloc (.cells (curC x.c).toArray 52)) (by rfl) (row_newS curC_len W5 x.c 52)) hgrow1 | exact row_gr (row_newS curC_len W6 x.c 52) (gr_drew _ none)) (cur_ones _) (q + 1) (sR curC (fz.take q ++ [x.c])) (by omega) (by rw [sR_append, sR_one]) (by unfold maxLen; omega) (by omega) (by exact ((show S5 W5 SB XB mx now seg pts x.c _ from by assumption)).1.size) ?_; intro v2 W7 hown2 hgrow2; have hsf2 := s5_grown hX5.out hXB.out hSW.out (show S5 W5 SB XB mx now seg pts x.c _ from by assumption) hgrow2 (fun j hj => (hown1.lt j hj).1)) | (refine step_append_rowS (o := ⟨some 64, _, _, _, _, _⟩) (by rfl) _ _ 28 (by rfl) W5.heap.size 52 ii (.agg #[.int .i64 0, .int .i64 0, .int .i64 0, .int .i64 0, .string ⟨#[]⟩]) 5 48 Tryz.underlying28 hii hz0 hz1 hz2 rfl (by decide) v2 (q + 1) (sR curC (fz.take q ++ [x.c])) (by rfl) (by first | exact hown2 | exact hown2.kept (gr_drew W7 none) (Classical.em _)) _ _ _ (sR curC (fz.drop q)) (by rfl) (by exact hao.out ()) (by exact hrd.out _ ((show S5 W5 SB XB mx now seg pts x.c _ from by assumption)).1) (curs_ones _) (M + 1) (sR curC (fz.take q ++ [x.c] ++ fz.drop q)) (by omega) (by rw [sR_append curC (fz.take q ++ [x.c])]) (by unfold maxLen; omega) (by omega) (by exact ((show S5 W5 SB XB mx now seg pts x.c _ from by assumption)).1.size) ?_; intro v3 W8 hown3 hgrow3; have hsf3 := s5_grown hX5.out hXB.out hSW.out (show S5 W5 SB XB mx now seg pts x.c _ from by assumption) hgrow3 (fun j hj => (hown2.lt j hj).1); obtain ⟨A9, c9, rfl, -, -, -⟩ := own_sliceS hown3; obtain ⟨uu, huu⟩ := hsf3.2.1; have hz3 := fzeroD huu 2; have hc3 := fcellD huu (j := 2) rfl))
  all_goals
    rename GrB SB W5 _ ∧ _ => hHd
    clear hHd
    unfold rsC at huu
    obtain ⟨V4, hV4⟩ : ∃ V4, V4 = W8.setCell ⟨SB, 2, none⟩ (.slice A9 (M + 1) c9) := ⟨_, rfl⟩
    have gB8 := hsf3.1
    have gs4 := gr_set W8 ⟨SB, 2, none⟩ (.slice A9 (M + 1) c9)
    have hs4 := blk_set huu 2 (.slice A9 (M + 1) c9)
    rw [← hV4] at gs4 hs4
    have hr4 := gr_blk (gr_trans gB8 gs4) hR5.out (by simp; exact hrne.out)
    have hv4 := hown3.kept gs4 (by
      rcases Classical.em ((Value.slice A9 (M + 1) c9).ownBlock = some SB) with q | q
      · have := (hown3.lt _ q).1; have := hSW.out; omega
      · exact .inr q)
    have gW4 : Gr w V4 := gr_of_below ((gr_below gW5.out).grown (gr_trans gB8 gs4) gW5.out.size (fun k hk => by cases hk; rw [hSB.out]; exact Nat.le_refl _)) (Nat.le_refl _)
    have m0 : V4.cell? ⟨SB, 0, none⟩ = some (.int .i64 mx) := fcellD hs4 rfl
    have m1 : V4.cell? ⟨SB, 1, none⟩ = some (.int .i64 now) := fcellD hs4 rfl
    have m2 : V4.cell? ⟨SB, 2, none⟩ = some (.slice A9 (M + 1) c9) := fcellD hs4 rfl
    have m3 : V4.cell? ⟨SB, 3, none⟩ = some (.string (txt seg)) := fcellD hs4 rfl
    have m4 : V4.cell? ⟨SB, 4, none⟩ = some (.int .i64 pts) := fcellD hs4 rfl
    have hth := rs_there hr4
    have hsame := World.rangeAt_setCells_same V4 RB 0 [.int .i64 mx, .int .i64 now, .slice A9 (M + 1) c9, .string (txt seg), .int .i64 pts] hth
    have hgs := gr_setCells V4 RB 0 [.int .i64 mx, .int .i64 now, .slice A9 (M + 1) c9, .string (txt seg), .int .i64 pts]
    have r0 := hsame 0 _ rfl
    have r1 := hsame 1 _ rfl
    have r2 := hsame 2 _ rfl
    have r3 := hsame 3 _ rfl
    have r4 := hsame 4 _ rfl
    simp only [Nat.zero_add] at r0 r1 r2 r3 r4
    have hgf : Gr w (V4.setCells RB 0 [.int .i64 mx, .int .i64 now, .slice A9 (M + 1) c9, .string (txt seg), .int .i64 pts]) := gr_of_below ((gr_below gW4).grown hgs gW4.size (fun k hk => by cases hk; rw [← hSB.out]; exact hRB.out)) (Nat.le_refl _)
    have hvf := own_mono (hv4.kept hgs (by
      rcases Classical.em ((Value.slice A9 (M + 1) c9).ownBlock = some RB) with q | q
      · have := (hv4.lt _ q).1; have := lt_of_blk hR5.out; omega
      · exact .inr q)) gW5.out.size
    replace hgf := Lib.hid hgf
    replace hvf := Lib.hid hvf
    clear hsame hgs hv4 gW4 gs4 hs4 hr4 gB8 huu hz3 hc3 hown3 hgrow3 hown2 hgrow2 hown1 hgrow1 hsf1 hsf2 hsf3 hb0
    replace hq := Lib.hid hq
    replace hMc := Lib.hid hMc
    clear hcm hq0 hqc hqk hnn hMn hi1 hi2 hwr
    clear hrt hrd hao hX5 hS5 hR5 hSW hvS hv5 gW5 hS3 hR3 hX3 gW3
    generalize (if c3 = q then A3 else Option.map (fun z => z.add (q * 5)) A3) = AA at *
    go_upto_region 25 with fail
    rw [← hV4]
    clear hV4
    go_wp2_with (refine wpList_store_mid (op := ⟨none, _, _, _, _, _⟩) rfl 32 _ _ rfl RB 0 #[.int .i64 mx, .int .i64 now, .slice A9 (M + 1) c9, .string (txt seg), .int .i64 pts] rfl rfl hth infoRSt (by simp [Value.oneCell']) ?_)
    (try simp only [Exit.inBlock, Exit.then])
    refine bodyPost_ret (by simp [results, Tryz.results21, go_sem, r0, r1, r2, r3, r4]; try rfl) rfl ?_
    exact ⟨_, by rw [hmx.out], q, hq.out, hle.out, hge.out, by have h9 := hvf.out; rw [show fz.take q ++ [x.c] ++ fz.drop q = fz.take q ++ x.c :: fz.drop q by simp] at h9; exact h9, hgf.out⟩
end Go.Proofs.YtmldoeeangekoaaGreatDoor
