/-
  The deeds of a chest with power: a file is made, added to, looked at; how many bytes all files have. No condition but bounds.
-/
import Derived.Test.YtbkhopfoabdeiaaChestA
namespace Go.Proofs.Ytbkhopfoabdeiaa
open Go.RowKit Go.Maps

theorem infoStr : (Try.prog.info? 9).map (fun i => (i.zero, i.size, i.bytes)) = some (some (.string ⟨#[]⟩), 1, 16) := by kernel_rfl
/-- A row of one or two names, built. -/
theorem row1 (w : World) (l : List UInt8) : Row (w.alloc (.cells #[.string (txt l)] 9)) (some ⟨w.heap.size, 0, none⟩) 1 1 ([l].map strV) := row_new w #[.string (txt l)] 9 1 rfl
theorem row2 (w : World) (l m : List UInt8) : Row (w.alloc (.cells #[.string (txt l), .string (txt m)] 9)) (some ⟨w.heap.size, 0, none⟩) 2 1 ([l, m].map strV) := row_new w #[.string (txt l), .string (txt m)] 9 2 rfl
theorem grS_alloc {S : Nat → Prop} {w w' : World} (h : Gr w w') : GrS S w w' := ⟨h.os, h.tape, h.output, h.size, fun i hi _ => h.block i hi (by simp)⟩
theorem grS_step {S : Nat → Prop} {w V V' : World} (h : GrS S w V) (k : GrS S V V') : GrS S w V' :=
  ⟨by rw [k.os, h.os], by rw [k.tape, h.tape], by rw [k.output, h.output], Nat.le_trans h.size k.size, fun i hi hn => by rw [k.block i (Nat.lt_of_lt_of_le hi h.size) hn, h.block i hi hn]⟩
set_option maxHeartbeats 4000000 in
set_option maxRecDepth 100000 in
theorem create_any {w wi : World} {C M : Nat} {q dd : Int} {fs : Fs} (h : ChIs w wi C M q fs false dd) (hd : 0 ≤ dd ∧ dd ≤ 1000000000) (hf : fs.length < 1000000) (l : List UInt8) (hl : okNm l = true) :
    Calls Try.prog 9 #[.pointer (some ⟨C, 0, none⟩), .string (txt l)] wi fun e w' => e = .returned (.int .i64 0) ∧ ChIs w w' C M q (putF l ⟨[], 0⟩ fs) false (dd + 1) ∧ GrS (TnC C M) wi w' := by
  have hll : l.length ≤ 60 := by unfold okNm at hl; simp at hl; exact hl.2
  have hall : ([l].all okNm) = true := by simp [hl]
  have g1 : Gr wi (wi.alloc (.cells #[.string (txt l)] 9)) := gr_alloc _ _ _
  have h1 := ch_gr h g1
  have cM := may_any C M q dd (some ⟨wi.heap.size, 0, none⟩) 1 1 [l] _ h1.blk (row1 wi l) (by omega) (by intro s hs; rw [List.mem_singleton.1 hs]; omega)
  rw [hall] at cM
  simp only [if_true] at cM
  have cS := snags_any C M q dd false _ h1.blk
  obtain ⟨W1, hW1⟩ : ∃ W1, W1 = wi.alloc (.cells #[.string (txt l)] 9) := ⟨_, rfl⟩
  rw [← hW1] at cM cS g1 h1
  have c1 := (chb_cells h1.blk).2.1
  replace cM := Lib.hid cM
  replace cS := Lib.hid cS
  replace h1 := Lib.hid h1
  replace g1 := Lib.hid g1
  clear h hall
  go_enter Try.func9, Try.ntmps9
  go_wp2_with fail
  rw [← hW1]
  clear hW1
  refine cM.out.mono ?_
  rintro e w' ⟨rfl, rfl⟩
  go_wp2_with fail
  refine cS.out.mono ?_
  rintro e w' ⟨rfl, rfl⟩
  go_wp2_with (at_mapUpdate; refine wpList_store1 rfl _ _ _ rfl M fs rfl h1.out.map l ⟨[], 0⟩ rfl rfl (by omega) hf ?_; intro W2 hm2 g2)
  have h2 := ch_map h1.out g2 hm2
  have gs := grS_step (S := TnC C M) (tnC_gr g1.out) (tnC_M g2)
  replace gs := Lib.hid gs
  replace h2 := Lib.hid h2
  clear g2 hm2 c1
  go_wp2_with fail
  refine (done_any h2.out hd).mono ?_
  rintro e W3 ⟨rfl, h3, g3⟩
  replace h3 := Lib.hid h3
  replace g3 := Lib.hid g3
  go_wp2
  go_ret
  exact ⟨rfl, h3.out, grS_step gs.out g3.out⟩
end Go.Proofs.Ytbkhopfoabdeiaa
