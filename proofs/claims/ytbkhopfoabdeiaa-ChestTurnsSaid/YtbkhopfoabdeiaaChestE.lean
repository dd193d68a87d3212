/-
  Append of a chest with power. No condition but bounds.
-/
import Derived.Test.YtbkhopfoabdeiaaChestD
namespace Go.Proofs.Ytbkhopfoabdeiaa
open Go.RowKit Go.Maps

theorem whyC_ok {fs : Fs} {l : List UInt8} {f : Fl} (hg : getF fs l = some f) (hl : okNm l = true) : whyC fs [] l = 0 := by
  unfold whyC
  rw [hg]
  simp [hl]
theorem okNm_len {l : List UInt8} (hl : okNm l = true) : l.length ≤ 60 := by unfold okNm at hl; simp at hl; exact hl.2
/-- there, with no further name. -/
theorem there0 {w wi : World} {C M : Nat} {q dd : Int} {fs : Fs} (h : ChIs w wi C M q fs false dd) (l : List UInt8) (hl : l.length ≤ 1000000) :
    Calls Try.prog 26 #[.pointer (some ⟨C, 0, none⟩), .string (txt l), .slice none 0 0] wi fun e w' => e = .returned (.int .i64 (whyC fs [] l)) ∧ ChIs w w' C M q fs false dd ∧ Gr wi w' :=
  there_any h l hl none 0 0 [] (by omega) (by intro s hs; cases hs) (World.ownsRow_nil _ _ _ _)
set_option maxHeartbeats 8000000 in
set_option maxRecDepth 100000 in
theorem append_any {w wi : World} {C M : Nat} {q dd : Int} {fs : Fs} (h : ChIs w wi C M q fs false dd) (hd : 0 ≤ dd ∧ dd ≤ 1000000000) (hf : fs.length < 1000000) (hq : 0 ≤ q ∧ q ≤ 1000000) (hs : sumF fs ≤ 1000000000000) (l b : List UInt8) (f : Fl) (hl : okNm l = true) (hg : getF fs l = some f) (hfl : f.b.length ≤ 1000000000000) (hb : b.length ≤ 1000000000000) :
    Calls Try.prog 10 #[.pointer (some ⟨C, 0, none⟩), .string (txt l), .string (txt b)] wi fun e w' => ∃ ee, e = .returned (.int .i64 ee) ∧ ((q < sumF fs + b.length ∧ ee = 8 ∧ ChIs w w' C M q fs false dd) ∨ (sumF fs + b.length ≤ q ∧ ee = 0 ∧ ChIs w w' C M q (putF l ⟨f.b ++ b, f.fx⟩ fs) false (dd + 1))) ∧ GrS (TnC C M) wi w' := by
  have hll := okNm_len hl
  have cT := there0 h l (by omega)
  rw [whyC_ok hg hl] at cT
  have hsub : IntKind.i64.wrap (q - (sumF fs : Int)) = q - (sumF fs : Int) := IntWalk.i64_in _ (by omega)
  have hstr : (9223372036854775807 < f.b.length + b.length) = False := eq_false (by omega)
  obtain ⟨fb, fx⟩ := f
  simp only at hstr hfl
  replace cT := Lib.hid cT
  replace hll := Lib.hid hll
  replace hg := Lib.hid hg
  clear h
  go_enter Try.func10, Try.ntmps10
  go_wp2_with fail
  refine cT.out.mono ?_
  rintro e W2 ⟨rfl, h2, g2⟩
  have hg2 := tnC_gr (C := C) (M := M) g2
  have d0 : ∀ p : Grown W2, p.wd.cell? ⟨C, 0, none⟩ = some (.int .i64 q) := fun p => cell_to (chb_cells h2.blk).1 p
  have cU := fun W (g : Gr W2 W) => used_any C M q dd false fs W (ch_gr h2 g).blk (ch_gr h2 g).map hs
  replace cU := Lib.hid cU
  replace h2 := Lib.hid h2
  replace hg2 := Lib.hid hg2
  clear g2 cT
  go_upto_region 4 with fail
  refine wp_region_quiet_gr (by kernel_rfl) (by kernel_rfl) ?_
  repeat (go_big_quiet_step ((go_at_call 15; exact calls_gr (cU.out _ (Grown.gr _)))))
  refine wpQuiet_nil ?_
  intro w3 hw3
  obtain ⟨⟨W3, g3⟩, rfl⟩ := hw3
  have h3 := ch_gr h2.out g3
  have hg3 := grS_step hg2.out (tnC_gr g3)
  replace h3 := Lib.hid h3
  replace hg3 := Lib.hid hg3
  clear d0 cU h2 hg2 g3
  by_cases hfull : q < (sumF fs : Int) + (b.length : Int)
  · have e1 : q - (sumF fs : Int) < (b.length : Int) := by omega
    replace hfull := Lib.hid hfull
    go_wp2
    go_ret
    exact ⟨8, rfl, .inl ⟨hfull.out, rfl, h3.out⟩, hg3.out⟩
  · have e1 : ¬ q - (sumF fs : Int) < (b.length : Int) := by omega
    have hfull' : (sumF fs : Int) + (b.length : Int) ≤ q := by omega
    replace hfull' := Lib.hid hfull'
    clear hfull
    have cS := snags_any C M q dd false _ h3.out.blk
    have hlk := look1 h3.out.map l (by have := hll.out; omega)
    rw [hg.out] at hlk
    have c1 := (chb_cells h3.out.blk).2.1
    simp only [Option.getD_some] at hlk
    unfold flV at hlk
    simp only at hlk
    replace cS := Lib.hid cS
    go_wp2_with fail
    refine cS.out.mono ?_
    rintro e w' ⟨rfl, rfl⟩
    go_upto_region 9 with fail
    have g4 : Gr w3 (w3.alloc (.cells #[.string (txt (fb ++ b)), .int .i64 fx] 47)) := gr_alloc _ _ _
    have a0 : (w3.alloc (.cells #[.string (txt (fb ++ b)), .int .i64 fx] 47)).heap[w3.heap.size]? = some (.cells #[.string (txt (fb ++ b)), .int .i64 fx] 47 (0, 0)) := blk_new w3 _
    have h4 := ch_gr h3.out g4
    have hg4 := grS_step hg3.out (tnC_gr g4)
    generalize w3.alloc (.cells #[.string (txt (fb ++ b)), .int .i64 fx] 47) = W4 at *
    have c1 := (chb_cells h4.blk).2.1
    have b0 : W4.cell? ⟨w3.heap.size, 0, none⟩ = some (.string (txt (fb ++ b))) := fcellC a0 rfl
    have b1 : W4.cell? ⟨w3.heap.size, 1, none⟩ = some (.int .i64 fx) := fcellC a0 rfl
    replace h4 := Lib.hid h4
    replace hg4 := Lib.hid hg4
    have hlM : l.length ≤ 1000000 := by have := hll.out; omega
    replace hlM := Lib.hid hlM
    clear a0 g4 h3 hg3 cS hlk
    obtain ⟨W5, hrun, hm5, g5⟩ := store1 (mapF_gr h4.out.map (gr_drew W4 none)) l ⟨fb ++ b, fx⟩ hlM.out hf
    unfold flV at hrun
    simp only at hrun
    have h5 := ch_map (ch_gr h4.out (gr_drew W4 none)) g5 hm5
    have hg5 := grS_step (grS_step hg4.out (tnC_gr (gr_drew W4 none))) (tnC_M g5)
    have cD := done_any h5 hd
    replace cD := Lib.hid cD
    replace hg5 := Lib.hid hg5
    clear hm5 g5 h4 hg4 h5
    go_region
    go_wp2_with fail
    refine cD.out.mono ?_
    rintro e W6 ⟨rfl, h6, g6⟩
    replace h6 := Lib.hid h6
    replace g6 := Lib.hid g6
    go_wp2
    go_ret
    exact ⟨0, rfl, .inr ⟨hfull'.out, rfl, h6.out⟩, grS_step hg5.out g6.out⟩
end Go.Proofs.Ytbkhopfoabdeiaa
