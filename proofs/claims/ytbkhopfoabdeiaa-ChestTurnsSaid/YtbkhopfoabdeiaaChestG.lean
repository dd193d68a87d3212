/-
  Rename of a chest; all names of its files. No condition but bounds.
-/
import Derived.Test.YtbkhopfoabdeiaaChestF
import Derived.Test.YtbkhopfoabdeiaaShelf
namespace Go.Proofs.Ytbkhopfoabdeiaa
open Go.RowKit Go.Maps Go.Sort

set_option maxHeartbeats 8000000 in
set_option maxRecDepth 100000 in
theorem rename_any {w wi : World} {C M : Nat} {q dd : Int} {fs : Fs} (h : ChIs w wi C M q fs false dd) (hd : 0 ≤ dd ∧ dd ≤ 1000000000) (hf : fs.length < 1000000) (l m : List UInt8) (f : Fl) (hl : okNm l = true) (hm : okNm m = true) (hg : getF fs l = some f) :
    Calls Try.prog 18 #[.pointer (some ⟨C, 0, none⟩), .string (txt l), .string (txt m)] wi fun e w' => e = .returned (.int .i64 0) ∧ ChIs w w' C M q (putF m f (delF l fs)) false (dd + 1) ∧ GrS (TnC C M) wi w' := by
  have hll := okNm_len hl
  have hml := okNm_len hm
  obtain ⟨fb, fx⟩ := f
  obtain ⟨W1, hW1⟩ : ∃ W1, W1 = wi.alloc (.cells #[.string (txt m)] 9) := ⟨_, rfl⟩
  have g1 : Gr wi W1 := by rw [hW1]; exact gr_alloc _ _ _
  have h1 := ch_gr h g1
  have ho : W1.ownsRow w.heap.size 9 1 (.slice (some ⟨wi.heap.size, 0, none⟩) 1 1) 1 ([m].map strV) := by rw [hW1]; exact own_mono (own_one1 wi m) h.gr.size
  have cT := there_any h1 l (by omega) (some ⟨wi.heap.size, 0, none⟩) 1 1 [m] (by omega) (by intro s hs; rw [List.mem_singleton.1 hs]; omega) ho
  have hwhy : whyC fs [m] l = 0 := by
    unfold whyC
    rw [hg]
    simp [hl, hm]
  rw [hwhy] at cT
  have hlM : l.length ≤ 1000000 := by omega
  have hmM : m.length ≤ 1000000 := by omega
  have hfl : (delF l fs).length < 1000000 := by
    have := List.length_filter_le (fun p : List UInt8 × Fl => !(p.1 == l)) fs
    unfold delF
    omega
  replace cT := Lib.hid cT
  replace g1 := Lib.hid g1
  replace hlM := Lib.hid hlM
  replace hmM := Lib.hid hmM
  replace hg := Lib.hid hg
  clear h h1 ho hwhy hll hml
  go_enter Try.func18, Try.ntmps18
  go_wp2_with fail
  rw [← hW1]
  clear hW1
  refine cT.out.mono ?_
  rintro e W2 ⟨rfl, h2, g2⟩
  have hG2 : Gr wi W2 := gr_overC g1.out (show GrB wi.heap.size W1 W2 from g2) (Nat.le_refl _)
  have hg2 := tnC_gr (C := C) (M := M) hG2
  have cS := snags_any C M q dd false _ h2.blk
  have hlk := look1 h2.map l hlM.out
  rw [hg.out] at hlk
  simp only [Option.getD_some] at hlk
  unfold flV at hlk
  simp only at hlk
  have c1 := (chb_cells h2.blk).2.1
  replace cS := Lib.hid cS
  replace h2 := Lib.hid h2
  replace hg2 := Lib.hid hg2
  clear g2 cT hG2 g1
  go_wp2_with fail
  refine cS.out.mono ?_
  rintro e w' ⟨rfl, rfl⟩
  go_upto_region 6 with fail
  have g3 : Gr W2 (W2.alloc (.cells #[.string (txt fb), .int .i64 fx] 47)) := gr_alloc _ _ _
  have a0 : (W2.alloc (.cells #[.string (txt fb), .int .i64 fx] 47)).heap[W2.heap.size]? = some (.cells #[.string (txt fb), .int .i64 fx] 47 (0, 0)) := blk_new W2 _
  have h3 := ch_gr h2.out g3
  have hg3 := grS_step hg2.out (tnC_gr g3)
  generalize W2.alloc (.cells #[.string (txt fb), .int .i64 fx] 47) = W3 at *
  have c1 := (chb_cells h3.blk).2.1
  replace h3 := Lib.hid h3
  replace hg3 := Lib.hid hg3
  replace a0 := Lib.hid a0
  clear cS hlk h2 hg2 g3
  go_wp2_with (at_delete; refine wpList_drop1 rfl _ _ rfl M fs rfl h3.out.map l rfl hlM.out ?_; intro W4 hm4 g4; go_frame)
  have h4 := ch_map h3.out g4 hm4
  have hg4 := grS_step hg3.out (tnC_M g4)
  have a4 : W4.heap[W2.heap.size]? = some (.cells #[.string (txt fb), .int .i64 fx] 47 (0, 0)) := gr_blk g4 a0.out (by
    intro e
    have e := Option.some.inj e
    obtain ⟨es, clock, hb, _⟩ := h3.out.map
    rw [← e, a0.out] at hb
    cases hb)
  have c1 := (chb_cells h4.blk).2.1
  have b0 : W4.cell? ⟨W2.heap.size, 0, none⟩ = some (.string (txt fb)) := fcellC a4 rfl
  have b1 : W4.cell? ⟨W2.heap.size, 1, none⟩ = some (.int .i64 fx) := fcellC a4 rfl
  obtain ⟨W5, hrun, hm5, g5⟩ := store1 (mapF_gr h4.map (gr_drew W4 none)) m ⟨fb, fx⟩ hmM.out hfl
  unfold flV at hrun
  simp only at hrun
  have h5 := ch_map (ch_gr h4 (gr_drew W4 none)) g5 hm5
  have hg5 := grS_step (grS_step hg4 (tnC_gr (gr_drew W4 none))) (tnC_M g5)
  have cD := done_any h5 hd
  replace cD := Lib.hid cD
  replace hg5 := Lib.hid hg5
  clear hm5 g5 h4 hg4 h5 a4 a0 g4 hm4 h3 hg3
  go_region
  go_wp2_with fail
  refine cD.out.mono ?_
  rintro e W6 ⟨rfl, h6, g6⟩
  replace h6 := Lib.hid h6
  replace g6 := Lib.hid g6
  go_wp2
  go_ret
  exact ⟨rfl, h6.out, grS_step hg5.out g6.out⟩
/-- slices.Sort's two contracts, inside the fence that asks nothing. -/
theorem sortsC (m : Nat) : AnyZ.SortsIn Try.prog Try.sortedA_ren Fence.wide m :=
  ⟨fun blk off cap ss W hH hblk hsz => callsIn_wide.2 (Try.slices_Sort_string blk off cap ss W hH hblk hsz),
   fun p cap W => callsIn_wide.2 (Try.slices_Sort_string_none p cap W)⟩
theorem size_D (fs : Fs) : Maps.size (DataW.map (fs.map entF)) = fs.length := by
  show (fs.map entF).length = _
  rw [List.length_map]
theorem strKeys_F (fs : Fs) : strKeys (DataW.map (fs.map entF)) = fs.map (·.1) := by
  show (fs.map entF).map (fun p => strOf p.1) = _
  rw [List.map_map]
  rfl
set_option maxHeartbeats 8000000 in
set_option maxRecDepth 100000 in
theorem names_any (C M : Nat) (q dd : Int) (off : Bool) (fs : Fs) (W : World) (h : ChB W C M q off dd) (hm : MapF W M fs) (hn : fs.length ≤ 100000) :
    Calls Try.prog 28 #[.pointer (some ⟨C, 0, none⟩)] W fun e w' => ∃ A n c, ∃ ss : List (List UInt8), e = .returned (.slice A n c) ∧ ss.Perm (fs.map (·.1)) ∧ ss.length = n ∧ w'.ownsRow W.heap.size 9 1 (.slice A n c) n (ss.map strV) ∧ Gr W w' := by
  have hbl := World.ownsMap.lt hm
  have hseq : SeqGives Fence.wide 2 Try.prog 35 #[.pointer (some ⟨W.heap.size, 0, none⟩)] encStr (fun ss : List (List UInt8) => ss.Perm (strKeys (DataW.map (fs.map entF)))) (Maps.size (DataW.map (fs.map entF))) (W.alloc (.cells #[.map (some M)] 41)) :=
    AnyZ.keys_gives (ρ := Try.keysA_ren) { Try.keysA with } Fence.wide _ trivial rfl (by omega) W.heap.size M fs.length (DataW.map (fs.map entF)) _ (by simp) (by simp) (by
      obtain ⟨es, clock, hb, Ft, hs, hD⟩ := hm
      exact ⟨es, clock, (Below.heap_alloc _ _ M hbl).trans hb, Ft, hs, hD⟩)
  have cK : Calls Try.prog 32 #[Value.map (some M)] W fun e w' => e = .returned (.func (.func 35) #[] #[.pointer (some ⟨W.heap.size, 0, none⟩)]) ∧ w' = W.alloc (.cells #[.map (some M)] 41) := (callsIn_wide (n := 5)).1 (AnyZ.keys_in Try.keysA Fence.wide 5 trivial rfl (some M) W)
  have cS := AnyZ.sorted_in Try.sortedA Fence.wide 5 trivial trivial trivial trivial rfl (by omega) (sortsC _) (enters_of Try.func34 (by kernel_rfl) rfl) 35 #[.pointer (some ⟨W.heap.size, 0, none⟩)] trivial (enters_of Try.func35 (by kernel_rfl) rfl) _ _ (by rw [size_D]; unfold maxLen; omega) (by rw [size_D]; omega) _ hseq
  change CallsIn _ _ Try.prog 31 _ _ _ at cS
  have cS := (callsIn_wide (n := 5)).1 cS
  obtain ⟨_, c1, _⟩ := chb_cells h
  have g1 : Gr W (W.alloc (.cells #[.map (some M)] 41)) := gr_alloc _ _ _
  replace cS := Lib.hid cS
  replace cK := Lib.hid cK
  replace g1 := Lib.hid g1
  clear h hm hseq
  go_enter Try.func28, Try.ntmps28
  go_wp2_with fail
  refine cK.out.mono ?_
  rintro e w' ⟨rfl, rfl⟩
  go_wp2_with fail
  refine cS.out.mono ?_
  rintro e W2 ⟨v, ss, rfl, hS, hrow, _, hb⟩
  rw [strKeys_F] at hS
  obtain ⟨A, c, rfl, _⟩ : ∃ A c, v = .slice A ss.length c ∧ True := by
    rcases hrow.2 with ⟨rfl, h0⟩ | ⟨g, cap, cur, rfl, _⟩
    · exact ⟨none, 0, by rw [h0], trivial⟩
    · exact ⟨_, _, rfl, trivial⟩
  have hp : (ss.mergeSort (fun x y => decide (x ≤ y))).Perm (fs.map (·.1)) := (List.mergeSort_perm _ _).trans hS
  have hl : (ss.mergeSort (fun x y => decide (x ≤ y))).length = ss.length := List.length_mergeSort _
  have hrow2 := own_mono hrow g1.out.size
  have hG := gr_trans g1.out (gr_of_below hb (Nat.le_refl _))
  replace hp := Lib.hid hp
  replace hl := Lib.hid hl
  replace hrow2 := Lib.hid hrow2
  replace hG := Lib.hid hG
  clear hrow hb hS cS cK
  go_wp2
  go_ret
  exact ⟨A, ss.length, c, ss.mergeSort (fun x y => decide (x ≤ y)), rfl, hp.out, hl.out, hrow2.out, hG.out⟩
set_option maxHeartbeats 8000000 in
set_option maxRecDepth 100000 in
theorem nnames_any {w wi : World} {C M : Nat} {q dd : Int} {fs : Fs} (h : ChIs w wi C M q fs false dd) (hn : fs.length ≤ 100000) :
    Calls Try.prog 16 #[.pointer (some ⟨C, 0, none⟩)] wi fun e w' => ∃ A n c, ∃ ss : List (List UInt8), e = .returned (.slice A n c) ∧ ss.Perm (fs.map (·.1)) ∧ ss.length = n ∧ w'.ownsRow wi.heap.size 9 1 (.slice A n c) n (ss.map strV) ∧ Gr wi w' := by
  have cO := on_any C M q dd false _ h.blk
  have cN := names_any C M q dd false fs _ h.blk h.map hn
  replace cO := Lib.hid cO
  replace cN := Lib.hid cN
  clear h
  go_enter Try.func16, Try.ntmps16
  go_wp2_with fail
  refine cO.out.mono ?_
  rintro e w' ⟨rfl, rfl⟩
  go_wp2_with fail
  refine cN.out.mono ?_
  rintro e W2 ⟨A, n, c, ss, rfl, hp, hl, hrow, hG⟩
  replace hp := Lib.hid hp
  replace hl := Lib.hid hl
  replace hrow := Lib.hid hrow
  replace hG := Lib.hid hG
  go_wp2
  go_ret
  exact ⟨A, n, c, ss, rfl, hp.out, hl.out, hrow.out, hG.out⟩
end Go.Proofs.Ytbkhopfoabdeiaa
