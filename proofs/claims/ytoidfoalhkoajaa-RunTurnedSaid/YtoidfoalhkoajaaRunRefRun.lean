/-
  The document's file of rows. No condition but that the rows may be, and how many.
-/
import Derived.Test.YtoidfoalhkoajaaRunAll
import Derived.Test.YtoidfoalhkoajaaGuardFrm
import Derived.Test.YtoidfoalhkoajaaRefPut
namespace Go.Proofs.Ytoidfoalhkoajaa
open Go.RowKit

theorem part_snoc {rs : List Rw} {lo t : Nat} {r : Rw} (h : rs[t]? = some r) (hlo : lo ≤ t) : flatL ((rs.take (t + 1)).drop lo) = flatL ((rs.take t).drop lo) ++ rowL r := by
  obtain ⟨h1, h2⟩ := List.getElem?_eq_some_iff.1 h
  rw [take_snocR h, List.drop_append_of_le_length (by rw [List.length_take]; omega)]
  simp [flatL]
theorem part_nil (rs : List Rw) (lo : Nat) : flatL ((rs.take lo).drop lo) = [] := by
  rw [List.drop_of_length_le (by rw [List.length_take]; omega)]
  rfl
def upB (rs : List Rw) (j : Nat) : List UInt8 := Crc.cat (firstB rs.length :: (List.range j).map (blkB rs))
theorem upB_step (rs : List Rw) (j : Nat) : upB rs (j + 1) = upB rs j ++ Crc.frm (blkB rs j) := by
  unfold upB
  rw [List.range_succ, List.map_append, ← List.cons_append, List.map_singleton, Crc.cat_snoc]
theorem upB_all (rs : List Rw) : upB rs (nbR rs.length) ++ Crc.frm endB = fileB rs := by
  unfold upB fileB partsB blksB
  rw [List.drop_zero, ← List.cons_append, Crc.cat_snoc]
theorem upB_le {rs : List Rw} (h : ∀ r ∈ rs, okR r) (j : Nat) : (upB rs j).length ≤ 12010 * (j + 1) := by
  have h1 := cat_le (firstB rs.length :: (List.range j).map (blkB rs)) (fun x hx => by
    rcases List.mem_cons.1 hx with rfl | hx
    · simp [firstB]
    · obtain ⟨i, _, rfl⟩ := List.mem_map.1 hx
      have := blkB_le h i
      omega)
  simp only [List.length_cons, List.length_map, List.length_range] at h1
  exact h1
theorem part_le {rs : List Rw} (h : ∀ r ∈ rs, okR r) (lo t : Nat) : (flatL ((rs.take t).drop lo)).length ≤ 1463 * rs.length := by
  have h1 := flatL_le ((rs.take t).drop lo) (fun r hr => h r (List.mem_of_mem_take (List.mem_of_mem_drop hr)))
  have h2 : ((rs.take t).drop lo).length ≤ rs.length := by rw [List.length_drop, List.length_take]; omega
  omega
theorem upB_zero (rs : List Rw) : upB rs 0 = Crc.frm (firstB rs.length) := by simp [upB, Crc.cat]
set_option maxHeartbeats 16000000 in
set_option maxRecDepth 100000 in
theorem refRun_any (A : Option Addr) (n c : Nat) (rs : List Rw) (w : World) (hn : n ≤ 2000) (hr : Rows w A n rs) (hok : ∀ r ∈ rs, okR r) :
    Calls Try.prog 15 #[.slice A n c] w fun e w' => e = .returned (.string (txt (fileB rs))) ∧ Gr w w' := by
  have hl : rs.length = n := hr.1
  have hH := refHigh2 n w (by omega)
  rw [Crc.be2] at hH
  have hF := fun W => refFrame_any (firstB n) W (by simp [firstB])
  have hE := fun W => refFrame_any endB W (by decide)
  have hall := upB_all rs
  have hz := upB_zero rs
  have hst := upB_step rs
  rw [hl] at hall hz
  obtain ⟨R, hR⟩ : ∃ R, R = fileB rs := ⟨_, rfl⟩
  rw [← hR] at hall ⊢
  replace hr := Lib.hid hr
  replace hok := Lib.hid hok
  replace hl := Lib.hid hl
  replace hH := Lib.hid hH
  replace hF := Lib.hid hF
  replace hE := Lib.hid hE
  replace hall := Lib.hid hall
  replace hz := Lib.hid hz
  replace hst := Lib.hid hst
  clear hR
  go_enter Try.func15, Try.ntmps15
  go_wp2_with fail
  refine hH.out.mono ?_
  rintro e w2 ⟨rfl, g2⟩
  have hf1 : txt (firstB n) = ⟨#[76, 69, 80]⟩ ++ txt [UInt8.ofNat (n / 256), UInt8.ofNat n] := rfl
  have hF2 := hF.out w2
  rw [hf1] at hF2
  replace hF2 := Lib.hid hF2
  clear hf1 hF hH
  go_wp2_with fail
  first | refine hF2.out.mono ?_ | skip
  rintro e w3 ⟨rfl, g3⟩
  rw [← hz.out]
  have G3 := gr_trans g2 g3
  replace G3 := Lib.hid G3
  clear hF2 hz g2 g3
  go_wp2_with fail
  go_loopw [3, 4] (fun sv iv wr => ∃ (j : Nat), sv = .string (txt (upB rs j)) ∧ iv = .int .i64 (8 * (j : Int)) ∧ Hid (j ≤ nbR n) ∧ Hid (Gr w wr)) (fun _ iv _ => n + 8 - (intOf iv).toNat)
  case atStart => exact ⟨0, rfl, rfl, Lib.hid (Nat.zero_le _), G3⟩
  case round =>
    obtain ⟨j, rfl, rfl, hj, hg⟩ := hrel
    have hjb : j ≤ 300 := by have := hj.out; unfold nbR at this; omega
    by_cases hlt : 8 * j < n
    · have hltI : ((8 * j : Nat) : Int) < (n : Int) := by omega
      have hltJ : 8 * (j : Int) < (n : Int) := by omega
      have hj1 : j + 1 ≤ nbR n := by unfold nbR; omega
      have hpz := part_nil rs (8 * j)
      replace hj1 := Lib.hid hj1
      replace hpz := Lib.hid hpz
      go_wp2
      go_loopw [5, 6] (fun bv iv wq => ∃ (t : Nat), bv = .string (txt (flatL ((rs.take t).drop (8 * j)))) ∧ iv = .int .i64 (t : Int) ∧ Hid (8 * j ≤ t) ∧ Hid (t ≤ 8 * j + 8) ∧ Hid (t ≤ n) ∧ Hid (Gr w wq)) (fun _ iv _ => n - (intOf iv).toNat)
      case atStart => exact ⟨8 * j, by rw [hpz.out]; rfl, by go_num, Lib.hid (Nat.le_refl _), Lib.hid (by omega), Lib.hid (by omega), hg⟩
      case round =>
        obtain ⟨t, rfl, rfl, ht1, ht2, ht3, hg2⟩ := hrel
        have ht1' := ht1.out
        have ht3' := ht3.out
        by_cases hin : t < 8 * j + 8 ∧ t < n
        · obtain ⟨hi1, hi2⟩ := hin
          obtain ⟨⟨rl, rv⟩, ⟨Ah, nh, ch, vh⟩, gA, oA, hre, hk1, rfl, c0, c1⟩ := rows_at (rows_gr hr.out hg2.out) hi2
          have hev := hk1.v
          simp only at hev c0 c1
          subst hev
          have hP := refPut_any Ah nh ch rl vh _ (hok.out _ (List.mem_of_getElem? hre)) hk1.row
          have hsn := part_snoc hre ht1'
          have hfb : (flatL ((rs.take t).drop (8 * j))).length + (rowL ⟨rl, vh⟩).length ≤ 3000000 := by
            have h1 := part_le hok.out (8 * j) (t + 1)
            rw [hsn, List.length_append, hl.out] at h1
            omega
          have hti1 : (t : Int) < 8 * (j : Int) + 8 := by omega
          have hti2 : (t : Int) < (n : Int) := by omega
          have hti0 : (0 : Int) ≤ (t : Int) := by omega
          replace hP := Lib.hid hP
          replace hsn := Lib.hid hsn
          clear hk1 hre
          go_wp2_with fail
          refine hP.out.mono ?_
          rintro e w5 ⟨rfl, g5⟩
          have G5 := gr_trans hg2.out g5
          replace G5 := Lib.hid G5
          clear hP c0 c1 hg2 g5
          go_wp2
          go_roundw
          case rel => exact ⟨t + 1, by rw [hsn.out], by go_num, Lib.hid (by omega), Lib.hid hi1, Lib.hid hi2, G5⟩
          case measure => simp [intOf]; omega
        · have htt : t = min (8 * j + 8) n := by have := ht2.out; omega
          have hblk : flatL ((rs.take t).drop (8 * j)) = blkB rs j := by
            rw [htt, ← hl.out, blkR_part]
            rfl
          have hFb := fun W => refFrame_any (blkB rs j) W (by have := blkB_le hok.out j; omega)
          rw [hblk]
          have hst2 := hst.out j
          have hub : (upB rs j).length + ((blkB rs j).length + 10) ≤ 10000000 := by
            have h1 := upB_le hok.out j
            have h2 := blkB_le hok.out j
            omega
          replace hFb := Lib.hid hFb
          replace hst2 := Lib.hid hst2
          replace htt := Lib.hid htt
          clear hblk ht1 ht2 ht3 hpz
          by_cases h8 : t < 8 * j + 8
          · have hti1 : (t : Int) < 8 * (j : Int) + 8 := by omega
            have hti2 : ¬ (t : Int) < (n : Int) := by have := htt.out; omega
            clear hin h8
            go_wp2_with fail
            refine (hFb.out _).mono ?_
            rintro e w5 ⟨rfl, g5⟩
            have G5 := gr_trans hg2.out g5
            replace G5 := Lib.hid G5
            clear hFb hg2 g5
            go_wp2
            go_roundw
            case rel => exact ⟨j + 1, by rw [hst2.out], by go_num, hj1, G5⟩
            case measure => simp [intOf]; omega
          · have hti1 : ¬ (t : Int) < 8 * (j : Int) + 8 := by omega
            clear hin h8
            go_wp2_with fail
            refine (hFb.out _).mono ?_
            rintro e w5 ⟨rfl, g5⟩
            have G5 := gr_trans hg2.out g5
            replace G5 := Lib.hid G5
            clear hFb hg2 g5
            go_wp2
            go_roundw
            case rel => exact ⟨j + 1, by rw [hst2.out], by go_num, hj1, G5⟩
            case measure => simp [intOf]; omega
    · have hjn : j = nbR n := by have := hj.out; unfold nbR at this ⊢; omega
      have hltI : ¬ (8 * (j : Int)) < (n : Int) := by omega
      have hltJ : ¬ 8 * (j : Int) < (n : Int) := by omega
      have hE2 := hE.out wr
      have hub : (upB rs j).length ≤ 10000000 := by
        have h1 := upB_le hok.out j
        omega
      have hE3 : endB.length = 3 := rfl
      have he : txt endB = ⟨#[69, 78, 68]⟩ := rfl
      rw [he] at hE2
      replace hE2 := Lib.hid hE2
      replace hjn := Lib.hid hjn
      clear he hE hlt
      go_wp2_with fail
      refine hE2.out.mono ?_
      rintro e w5 ⟨rfl, g5⟩
      have G5 := gr_trans hg.out g5
      replace G5 := Lib.hid G5
      clear hE2 hg g5
      go_wp2
      go_ret
      refine ⟨?_, G5.out⟩
      rw [← hall.out, ← hjn.out]
      rfl
end Go.Proofs.Ytoidfoalhkoajaa
