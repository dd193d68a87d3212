/-
  Fix, Get, Delete, Rename, Power, New of a chest. No condition but bounds.
-/
import Derived.Test.YtbkhopfoabdeiaaChestE
namespace Go.Proofs.Ytbkhopfoabdeiaa
open Go.RowKit Go.Maps

set_option maxHeartbeats 8000000 in
set_option maxRecDepth 100000 in
theorem fix_any {w wi : World} {C M : Nat} {q dd : Int} {fs : Fs} {off : Bool} (h : ChIs w wi C M q fs off dd) (hf : fs.length < 1000000) (l : List UInt8) (f : Fl) (hll : l.length ≤ 1000000) (hg : getF fs l = some f) (hfl : f.b.length ≤ 1000000000000) :
    Calls Try.prog 27 #[.pointer (some ⟨C, 0, none⟩), .string (txt l)] wi fun e w' => e = .returned (.tuple #[]) ∧ ChIs w w' C M q (putF l ⟨f.b, f.b.length⟩ fs) off dd ∧ GrS (TnC C M) wi w' := by
  obtain ⟨fb, fx⟩ := f
  simp only at hfl
  have hlk := look1 h.map l hll
  rw [hg] at hlk
  have c1 := (chb_cells h.blk).2.1
  simp only [Option.getD_some] at hlk
  unfold flV at hlk
  simp only at hlk
  replace h := Lib.hid h
  clear hg
  go_enter Try.func27, Try.ntmps27
  go_upto_region 2 with fail
  have g4 : Gr wi (wi.alloc (.cells #[.string (txt fb), .int .i64 fb.length] 47)) := gr_alloc _ _ _
  have a0 : (wi.alloc (.cells #[.string (txt fb), .int .i64 fb.length] 47)).heap[wi.heap.size]? = some (.cells #[.string (txt fb), .int .i64 fb.length] 47 (0, 0)) := blk_new wi _
  have h4 := ch_gr h.out g4
  have hg4 : GrS (TnC C M) wi _ := tnC_gr g4
  generalize wi.alloc (.cells #[.string (txt fb), .int .i64 fb.length] 47) = W4 at *
  have c1 := (chb_cells h4.blk).2.1
  have b0 : W4.cell? ⟨wi.heap.size, 0, none⟩ = some (.string (txt fb)) := fcellC a0 rfl
  have b1 : W4.cell? ⟨wi.heap.size, 1, none⟩ = some (.int .i64 fb.length) := fcellC a0 rfl
  obtain ⟨W5, hrun, hm5, g5⟩ := store1 (mapF_gr h4.map (gr_drew W4 none)) l ⟨fb, fb.length⟩ hll hf
  unfold flV at hrun
  simp only at hrun
  have h5 := ch_map (ch_gr h4 (gr_drew W4 none)) g5 hm5
  have hg5 := grS_step (grS_step hg4 (tnC_gr (gr_drew W4 none))) (tnC_M g5)
  replace h5 := Lib.hid h5
  replace hg5 := Lib.hid hg5
  clear hm5 g5 h4 hg4 a0 g4 h hlk
  go_region
  go_end0
  exact ⟨rfl, h5.out, hg5.out⟩
set_option maxHeartbeats 8000000 in
set_option maxRecDepth 100000 in
theorem fixx_any {w wi : World} {C M : Nat} {q dd : Int} {fs : Fs} (h : ChIs w wi C M q fs false dd) (hd : 0 ≤ dd ∧ dd ≤ 1000000000) (hf : fs.length < 1000000) (l : List UInt8) (f : Fl) (hl : okNm l = true) (hg : getF fs l = some f) (hfl : f.b.length ≤ 1000000000000) :
    Calls Try.prog 11 #[.pointer (some ⟨C, 0, none⟩), .string (txt l)] wi fun e w' => e = .returned (.int .i64 0) ∧ ChIs w w' C M q (putF l ⟨f.b, f.b.length⟩ fs) false (dd + 1) ∧ GrS (TnC C M) wi w' := by
  have hll := okNm_len hl
  have cT := there0 h l (by omega)
  rw [whyC_ok hg hl] at cT
  replace cT := Lib.hid cT
  replace hg := Lib.hid hg
  clear h
  go_enter Try.func11, Try.ntmps11
  go_wp2_with fail
  refine cT.out.mono ?_
  rintro e W2 ⟨rfl, h2, g2⟩
  have hg2 := tnC_gr (C := C) (M := M) g2
  have cS := snags_any C M q dd false _ h2.blk
  have cX := fix_any h2 hf l f (by omega) hg.out hfl
  replace cS := Lib.hid cS
  replace cX := Lib.hid cX
  replace hg2 := Lib.hid hg2
  clear h2 g2 cT
  go_wp2_with fail
  refine cS.out.mono ?_
  rintro e w' ⟨rfl, rfl⟩
  go_wp2_with fail
  refine cX.out.mono ?_
  rintro e W3 ⟨rfl, h3, g3⟩
  have cD := done_any h3 hd
  have hg3 := grS_step hg2.out g3
  replace cD := Lib.hid cD
  replace hg3 := Lib.hid hg3
  clear h3 g3 hg2
  go_wp2_with fail
  refine cD.out.mono ?_
  rintro e W6 ⟨rfl, h6, g6⟩
  replace h6 := Lib.hid h6
  replace g6 := Lib.hid g6
  go_wp2
  go_ret
  exact ⟨rfl, h6.out, grS_step hg3.out g6.out⟩
set_option maxHeartbeats 8000000 in
set_option maxRecDepth 100000 in
theorem get_any {w wi : World} {C M : Nat} {q dd : Int} {fs : Fs} (h : ChIs w wi C M q fs false dd) (l : List UInt8) (hll : l.length ≤ 1000000) :
    Calls Try.prog 14 #[.pointer (some ⟨C, 0, none⟩), .string (txt l)] wi fun e w' => e = .returned (.tuple #[.string (txt (match getF fs l with | some f => f.b | none => [])), .int .i64 (if (getF fs l).isSome then 0 else 7)]) ∧ Gr wi w' := by
  have cN := none_any C M q dd false _ h.blk
  have hlk := look2 h.map l hll
  obtain ⟨_, c1, c2, _⟩ := chb_cells h.blk
  replace cN := Lib.hid cN
  clear h
  cases hgf : getF fs l with
  | none =>
    rw [hgf] at hlk
    clear hgf
    go_enter Try.func14, Try.ntmps14
    simp only [Option.getD_none, Option.isSome_none] at hlk
    unfold flV at hlk
    simp only at hlk
    go_wp2_with fail
    refine cN.out.mono ?_
    rintro e w' ⟨rfl, rfl⟩
    go_wp2
    go_ret2
    exact ⟨rfl, gr_alloc _ _ _⟩
  | some f =>
    obtain ⟨fb, fx⟩ := f
    rw [hgf] at hlk
    clear hgf
    go_enter Try.func14, Try.ntmps14
    simp only [Option.getD_some, Option.isSome_some] at hlk
    unfold flV at hlk
    simp only at hlk
    go_wp2_with fail
    refine cN.out.mono ?_
    rintro e w' ⟨rfl, rfl⟩
    go_wp2
    go_ret2
    exact ⟨rfl, gr_alloc _ _ _⟩
set_option maxRecDepth 100000 in
theorem on_any (C M : Nat) (q dd : Int) (off : Bool) (W : World) (h : ChB W C M q off dd) : Calls Try.prog 21 #[.pointer (some ⟨C, 0, none⟩)] W fun e w' => e = .returned (.bool (!off)) ∧ W = w' := by
  have cN := none_any C M q dd off _ h
  obtain ⟨_, c1, c2, _⟩ := chb_cells h
  replace cN := Lib.hid cN
  clear h
  cases off with
  | true =>
    go_enter Try.func21, Try.ntmps21
    go_wp2_with fail
    refine cN.out.mono ?_
    rintro e w' ⟨rfl, rfl⟩
    go_wp2
    go_ret
    exact ⟨rfl, rfl⟩
  | false =>
    go_enter Try.func21, Try.ntmps21
    go_wp2_with fail
    refine cN.out.mono ?_
    rintro e w' ⟨rfl, rfl⟩
    go_wp2
    go_ret
    exact ⟨rfl, rfl⟩
set_option maxRecDepth 100000 in
theorem deeds_any (C M : Nat) (q dd : Int) (off : Bool) (W : World) (h : ChB W C M q off dd) : Calls Try.prog 22 #[.pointer (some ⟨C, 0, none⟩)] W fun e w' => e = .returned (.int .i64 dd) ∧ W = w' := by
  have cN := none_any C M q dd off _ h
  obtain ⟨_, _, _, _, _, _, c6⟩ := chb_cells h
  replace cN := Lib.hid cN
  clear h
  go_enter Try.func22, Try.ntmps22
  go_wp2_with fail
  refine cN.out.mono ?_
  rintro e w' ⟨rfl, rfl⟩
  go_wp2
  go_ret
  exact ⟨rfl, rfl⟩
set_option maxRecDepth 100000 in
theorem power_any {w wi : World} {C M : Nat} {q dd : Int} {fs : Fs} (h : ChIs w wi C M q fs true dd) : Calls Try.prog 13 #[.pointer (some ⟨C, 0, none⟩)] wi fun e w' => e = .returned (.bool true) ∧ ChIs w w' C M q fs false dd ∧ GrS (TnC C M) wi w' := by
  have cN := none_any C M q dd true _ h.blk
  obtain ⟨_, c1, c2, _⟩ := chb_cells h.blk
  have f2 := fzeroC h.blk 2
  have hg : GrB C wi (wi.setCell ⟨C, 2, none⟩ (.bool false)) := gr_set wi ⟨C, 2, none⟩ _
  have hb : ChB (wi.setCell ⟨C, 2, none⟩ (.bool false)) C M q false dd := blk_set h.blk 2 _
  have hfin := ch_blk h hg hb
  have hgs : GrS (TnC C M) wi _ := tnC_C hg
  replace hfin := Lib.hid hfin
  replace hgs := Lib.hid hgs
  replace cN := Lib.hid cN
  clear h hg hb
  go_enter Try.func13, Try.ntmps13
  go_wp2_with fail
  refine cN.out.mono ?_
  rintro e w' ⟨rfl, rfl⟩
  go_wp2
  go_ret
  exact ⟨rfl, hfin.out, hgs.out⟩
set_option maxRecDepth 100000 in
theorem cnew_any (w wi : World) (hg : Gr w wi) (q : Int) (hq : 0 ≤ q ∧ q ≤ 1000000) : Calls Try.prog 8 #[.int .i64 q] wi fun e w' => ∃ C M, e = .returned (.pointer (some ⟨C, 0, none⟩)) ∧ ChIs w w' C M q [] false 0 ∧ Gr wi w' := by
  have e1 : max q 0 = q := by omega
  have e2 : min q 1000000 = q := by omega
  have hmm := @run_makeMap Try.prog
  have g1 : Gr wi (wi.alloc (.map #[] 0)) := gr_alloc _ _ _
  have hsz : (wi.alloc (.map #[] 0)).heap.size = wi.heap.size + 1 := by simp
  have hm := mapF_new wi
  replace g1 := Lib.hid g1
  replace hm := Lib.hid hm
  replace hg := Lib.hid hg
  replace hsz := Lib.hid hsz
  clear hq
  go_enter Try.func8, Try.ntmps8
  go_wp2
  go_ret
  have hb := blk_new (wi.alloc (.map #[] 0)) (.cells #[.int .i64 q, .map (some wi.heap.size), .bool false, .bool false, .int .i64 0, .slice none 0 0, .int .i64 0] 44)
  rw [hsz.out] at hb
  have g2 := gr_trans g1.out (gr_alloc (wi.alloc (.map #[] 0)) (.cells #[.int .i64 q, .map (some wi.heap.size), .bool false, .bool false, .int .i64 0, .slice none 0 0, .int .i64 0] 44) none)
  have := hg.out.size
  exact ⟨wi.heap.size + 1, wi.heap.size, rfl, ⟨gr_trans hg.out g2, hb, mapF_gr hm.out (gr_alloc _ _ _), by omega, by omega⟩, g2⟩
set_option maxHeartbeats 8000000 in
set_option maxRecDepth 100000 in
theorem delete_any {w wi : World} {C M : Nat} {q dd : Int} {fs : Fs} (h : ChIs w wi C M q fs false dd) (hd : 0 ≤ dd ∧ dd ≤ 1000000000) (l : List UInt8) (f : Fl) (hl : okNm l = true) (hg : getF fs l = some f) :
    Calls Try.prog 17 #[.pointer (some ⟨C, 0, none⟩), .string (txt l)] wi fun e w' => e = .returned (.int .i64 0) ∧ ChIs w w' C M q (delF l fs) false (dd + 1) ∧ GrS (TnC C M) wi w' := by
  have hll := okNm_len hl
  have cT := there0 h l (by omega)
  rw [whyC_ok hg hl] at cT
  replace cT := Lib.hid cT
  have hlM : l.length ≤ 1000000 := by omega
  replace hlM := Lib.hid hlM
  clear h hg hll
  go_enter Try.func17, Try.ntmps17
  go_wp2_with fail
  refine cT.out.mono ?_
  rintro e W2 ⟨rfl, h2, g2⟩
  have hg2 := tnC_gr (C := C) (M := M) g2
  have cS := snags_any C M q dd false _ h2.blk
  have c1 := (chb_cells h2.blk).2.1
  replace cS := Lib.hid cS
  replace h2 := Lib.hid h2
  replace hg2 := Lib.hid hg2
  clear g2 cT
  go_wp2_with fail
  refine cS.out.mono ?_
  rintro e w' ⟨rfl, rfl⟩
  go_wp2_with (at_delete; refine wpList_drop1 rfl _ _ rfl M fs rfl h2.out.map l rfl hlM.out ?_; intro W3 hm3 g3; go_frame)
  have h3 := ch_map h2.out g3 hm3
  have hg3 := grS_step hg2.out (tnC_M g3)
  have cD := done_any h3 hd
  replace cD := Lib.hid cD
  replace hg3 := Lib.hid hg3
  clear h3 g3 hg2 hm3 c1 h2
  go_wp2_with fail
  refine cD.out.mono ?_
  rintro e W6 ⟨rfl, h6, g6⟩
  replace h6 := Lib.hid h6
  replace g6 := Lib.hid g6
  go_wp2
  go_ret
  exact ⟨rfl, h6.out, grS_step hg3.out g6.out⟩
end Go.Proofs.Ytbkhopfoabdeiaa
