/-
  The first call of the laws of chapter 21. No condition.
-/
import Derived.Test.YtmldoeeangekoaaGreatDiaryFold3
import Derived.Test.YtmldoeeangekoaaGreatDiaryCutMath
namespace Go.Proofs.YtmldoeeangekoaaGreat
open Go.RowKit

def alN : Nte := ⟨1, ⟨3, 5, 2, 9, [114, 117, 110, 45, 51]⟩⟩
theorem alN_ok : okOpen alN := by decide
theorem al_frm : catN [alN] = Crc.frm (noteL alN) := by simp [catN, Crc.cat]
theorem al_len : (Crc.frm (noteL alN)).length = 32 := by rw [Crc.frm_length, noteL_len]; rfl
theorem al_read : notesOf (Crc.frm (noteL alN) ++ [120]) = [alN] := by
  have := notes_cat (l := [alN]) (fun x hx => by simp at hx; subst hx; exact Or.inl alN_ok) (R := [120]) (by decide)
  rwa [al_frm] at this
set_option maxHeartbeats 8000000 in
set_option maxRecDepth 100000 in
theorem alive_any (w : World) : Calls Tryz.prog 6 #[] w fun e w' => e = .returned (.bool true) ∧ Gr w w' := by
  have cL := fun W => dlay_ok alN W (Or.inl alN_ok)
  have cR := fun W => dread_any (Crc.frm (noteL alN) ++ [120]) W (by rw [List.length_append, al_len]; decide)
  unfold ReadPost at cR
  rw [al_read, al_frm, al_len] at cR
  have cF := fun B W h1 h2 => dFold1 B alN W alN_ok h1 h2
  have hl := al_len
  generalize Crc.frm (noteL alN) = F at *
  unfold nteV at cL
  have hrow : sR nteC [alN] = [.int .i64 1, .int .i64 3, .int .i64 5, .int .i64 2, .int .i64 9, .string (txt [114, 117, 110, 45, 51])] := rfl
  have hnt : nteC alN = [.int .i64 1, .int .i64 3, .int .i64 5, .int .i64 2, .int .i64 9, .string (txt [114, 117, 110, 45, 51])] := rfl
  rw [hrow] at cR
  rw [hnt] at cF
  simp only [alN] at cL cF
  have hbig : (9223372036854775807 < F.length + 1) = False := by rw [hl]; simp
  replace cL := Lib.hid cL
  replace cR := Lib.hid cR
  replace cF := Lib.hid cF
  clear hrow hnt
  go_enter Tryz.func6, Tryz.ntmps6
  go_wp2_with fail
  refine (cL.out _).mono ?_
  rintro e W2 ⟨rfl, g2⟩
  have nc : ∀ j v, (#[.int .i64 1, .int .i64 3, .int .i64 5, .int .i64 2, .int .i64 9, .string (txt [114, 117, 110, 45, 51])] : Array Value)[j]? = some v → W2.cell? ⟨w.heap.size, j, none⟩ = some v := fun j v hj => gr_cell g2 (by rw [World.cell?_alloc_new]; exact hj)
  have G2 : Gr w W2 := gr_trans (gr_alloc _ _ _) g2
  replace nc := Lib.hid nc
  replace G2 := Lib.hid G2
  clear g2
  go_wp2_with fail
  refine (cR.out _).mono ?_
  rintro e W3 ⟨v, rfl, hv, g3⟩
  obtain ⟨lA, lc, rfl, _, _⟩ := own_openS hv
  have hlr := row_own hv
  have G3 : Gr w W3 := gr_trans G2.out g3
  have nc3 : ∀ j v, (#[.int .i64 1, .int .i64 3, .int .i64 5, .int .i64 2, .int .i64 9, .string (txt [114, 117, 110, 45, 51])] : Array Value)[j]? = some v → W3.cell? ⟨w.heap.size, j, none⟩ = some v := fun j v hj => gr_cell g3 (nc.out j v hj)
  have n0 := nc3 0 _ rfl
  have n1 := nc3 1 _ rfl
  have n2 := nc3 2 _ rfl
  have n3 := nc3 3 _ rfl
  have n4 := nc3 4 _ rfl
  have n5 := nc3 5 _ rfl
  obtain ⟨LB, lo, rfl, _, l0⟩ := hlr.2 0 _ rfl
  have lq : ∀ j u, [.int .i64 1, .int .i64 3, .int .i64 5, .int .i64 2, .int .i64 9, .string (txt [114, 117, 110, 45, 51])][j]? = some u → W3.cell? ⟨LB, lo + j, none⟩ = some u := fun j u hj => by
    obtain ⟨B', o', e', _, hc⟩ := hlr.2 j u hj
    have e2 := Option.some.inj e'
    injection e2 with e3 e4
    subst e3 e4
    exact hc
  clear hv l0 nc hlr
  replace nc3 := Lib.hid nc3
  replace lq := Lib.hid lq
  replace G3 := Lib.hid G3
  clear g3 G2
  go_wp2_with fail
  refine (cF.out _ _ (by simp) (fun j hj => by
    rw [World.cell?_alloc_new, ← List.getElem?_toArray])).mono ?_
  rintro e W5 ⟨⟨A, cap, rfl⟩, g5⟩
  have g35 : Gr W3 W5 := gr_trans (gr_alloc _ _ _) g5
  obtain ⟨W6, hW6⟩ : ∃ W6, W6 = W5.alloc (.cells #[.int .i64 4, .int .i64 0, .slice A 1 cap, .string ⟨#[]⟩, .int .i64 0] 56) := ⟨_, rfl⟩
  have g56 : Gr W5 W6 := by rw [hW6]; exact gr_alloc _ _ _
  have s0 : W6.cell? ⟨W5.heap.size, 0, none⟩ = some (.int .i64 4) := by rw [hW6, World.cell?_alloc_new]; rfl
  have s2 : W6.cell? ⟨W5.heap.size, 2, none⟩ = some (.slice A 1 cap) := by rw [hW6, World.cell?_alloc_new]; rfl
  have g36 := gr_trans g35 g56
  have a0 := gr_cell g36 (nc3.out 0 _ rfl)
  have a1 := gr_cell g36 (nc3.out 1 _ rfl)
  have a2 := gr_cell g36 (nc3.out 2 _ rfl)
  have a3 := gr_cell g36 (nc3.out 3 _ rfl)
  have a4 := gr_cell g36 (nc3.out 4 _ rfl)
  have a5 := gr_cell g36 (nc3.out 5 _ rfl)
  have b0 : W6.cell? ⟨LB, lo, none⟩ = some (.int .i64 1) := gr_cell g36 (lq.out 0 _ rfl)
  have b1 := gr_cell g36 (lq.out 1 _ rfl)
  have b2 := gr_cell g36 (lq.out 2 _ rfl)
  have b3 := gr_cell g36 (lq.out 3 _ rfl)
  have b4 := gr_cell g36 (lq.out 4 _ rfl)
  have b5 := gr_cell g36 (lq.out 5 _ rfl)
  have hFi : (F.length : Int) = 32 := by rw [hl]; rfl
  have G6 := gr_trans G3.out g36
  replace G6 := Lib.hid G6
  clear g36 g56 g35 g5 n0 n1 n2 n3 n4 n5 nc3 lq hbig cL cR cF
  go_upto_region 5 with fail
  rw [← hW6]
  clear hW6
  go_wp2_with fail
  go_quiet (fail)
  go_wp2
  go_ret
  exact ⟨rfl, gr_trans G6.out (gr_drewN _ _ _)⟩
end Go.Proofs.YtmldoeeangekoaaGreat
