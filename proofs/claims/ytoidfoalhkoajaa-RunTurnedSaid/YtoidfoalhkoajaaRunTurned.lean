/-
  RunTurned holds of the program: for every input the call returns true and leaves what came in as it was. No condition.
-/
import Derived.Test.YtoidfoalhkoajaaRows
import Derived.Test.YtoidfoalhkoajaaRunTurnMath
import Derived.Test.YtoidfoalhkoajaaRunRefRun
import Derived.Test.YtoidfoalhkoajaaRowOpen
import Derived.WalkKit
import Derived.ProofKit
import Derived.OpenShut
import Derived.ShutString
import Derived.ChangeOld
import Derived.Below
namespace Go.Proofs.Ytoidfoalhkoajaa.runTurned
open Go.ChangeShapes Go.WideShapes Go.ChangeAt Go.RowKit
open Go.ChangeMaps (open_string shut_string)
set_option linter.unusedVariables false

theorem own : ownKnob Try.prog.godebug = none := by kernel_rfl
theorem laidOut : laidOutB Try.prog = true := by kernel_rfl
set_option maxHeartbeats 64000000 in
set_option maxRecDepth 100000 in
theorem walk (w : World) (a0 : Option Addr) (len0 cap0 : Nat) (z0 : List Rw) (w0 : IsRows w a0 len0 cap0 z0) (a1 : Int) (w1 : (Lit.int .i64 a1).wf = true) (a2 : Int) (w2 : (Lit.int .i64 a2).wf = true) (a3 : Int) (w3 : (Lit.int .i64 a3).wf = true) :
    Calls Try.prog 5 #[.slice a0 len0 cap0, .int .i64 a1, .int .i64 a2, .int .i64 a3] w fun e w' => e = .returned (.bool true) ∧ Below w.heap.size w w' := by
  obtain ⟨hr0, hc1, hc2, hb0, hn0⟩ := w0
  have x1 := rng_i64 w1
  have x3 := rng_i64 w3
  have hl0 := rlight_any a0 len0 cap0 z0 w (by omega) hr0
  have hzl0 : z0.length = len0 := hr0.1
  replace hr0 := Lib.hid hr0
  replace hl0 := Lib.hid hl0
  replace hzl0 := Lib.hid hzl0
  replace x1 := Lib.hid x1
  clear hb0 hn0 hc1 hc2 w1 w2 w3
  go_enter Try.func5, Try.ntmps5
  go_wp2_with fail
  refine hl0.out.mono ?_
  rintro e W2 ⟨⟨b0, rfl, hb0⟩, rfl⟩
  cases b0 with
  | false =>
    go_wp2_with fail
    refine (alive_any _).mono ?_
    rintro e w2 ⟨rfl, g2⟩
    go_wp2
    go_ret
    exact ⟨rfl, gr_below g2⟩
  | true =>
    obtain ⟨hn60, hL0⟩ := hb0 rfl
    rw [hzl0.out] at hn60
    replace hL0 := Lib.hid hL0
    clear hb0 hl0
    by_cases hs1 : a2 < 0
    · go_wp2_with fail
      refine (alive_any _).mono ?_
      rintro e w2 ⟨rfl, g2⟩
      go_wp2
      go_ret
      exact ⟨rfl, gr_below g2⟩
    · by_cases hs2 : a3 < 0
      · go_wp2_with fail
        refine (alive_any _).mono ?_
        rintro e w2 ⟨rfl, g2⟩
        go_wp2
        go_ret
        exact ⟨rfl, gr_below g2⟩
      · obtain ⟨fr, rfl⟩ : ∃ fr : Nat, a2 = fr := ⟨a2.toNat, by omega⟩
        obtain ⟨N, rfl⟩ : ∃ N : Nat, a3 = N := ⟨a3.toNat, by omega⟩
        go_wp2_with fail
        refine (alive_any _).mono ?_
        rintro e w2 ⟨rfl, g2⟩
        have ht0 := tidyRs_any a0 len0 cap0 z0 w2 hn60 (rows_gr hr0.out g2) hL0.out
        replace ht0 := Lib.hid ht0
        replace g2 := Lib.hid g2
        clear hr0 hzl0
        go_wp2_with fail
        refine ht0.out.mono ?_
        rintro e w3 ⟨⟨A, m, c, rs, rfl, hm60, hR⟩, g3⟩
        have G3 := gr_trans g2.out g3
        have cM := rgt_make hR (by omega)
        unfold MakePost at cM
        replace cM := Lib.hid cM
        replace hR := Lib.hid hR
        replace G3 := Lib.hid G3
        clear ht0 g3 g2
        go_wp2_with fail
        refine cM.out.mono ?_
        rintro e w4 ⟨rfl, g4⟩
        have hR4 := rgt_gr hR.out g4
        have G4 := gr_trans G3.out g4
        have hrl : rs.length = m := hR4.rows.1
        have hcap : m ≤ c := hR4.cap
        have hnil := hR4.nil
        replace hR4 := Lib.hid hR4
        replace G4 := Lib.hid G4
        replace hrl := Lib.hid hrl
        clear cM hR G3 g4
        by_cases hF : (fileB rs).length ≤ 60000
        · rw [if_pos hF]
          by_cases hfm : fr ≤ m
          · have hfmI : ¬ (fr : Int) > (m : Int) := by omega
            obtain ⟨q1, hq1⟩ : ∃ q1, q1 = min N m := ⟨_, rfl⟩
            obtain ⟨tt, htt⟩ : ∃ tt, tt = fr + min N (m - fr) := ⟨_, rfl⟩
            obtain ⟨wl, hwl⟩ : ∃ wl, wl = tt - fr := ⟨_, rfl⟩
            have f1 : min (N : Int) (m : Int) = (q1 : Int) := by omega
            have f2 : min (m : Int) ((fr : Int) + (q1 : Int)) = (tt : Int) := by omega
            have f3 : tt - fr = wl := hwl.symm
            have f4 : fr ≤ tt := by omega
            have f5 : tt ≤ c := by omega
            have hq60 : q1 ≤ 60 := by omega
            have htm : tt ≤ m := by omega
            have hwl2 : fr + wl = tt := by omega
            have hmn : tt = fr + min N (rs.length - fr) := by rw [hrl.out]; exact htt
            have hlenF : 28 ≤ (fileB rs).length := by
              have h1 := file_first rs
              rw [h1, List.length_append, Crc.frm_length]
              have h2 : 13 ≤ (restB rs 0).length := by
                unfold restB
                rw [Crc.cat_snoc, List.length_append, Crc.frm_length]
                simp [endB]
              simp only [firstB, List.length_cons, List.length_nil]
              omega
            have hturn := fun (K : Nat) (x : UInt8) (hx : (fileB rs)[K / 8]? = some x) => turned_page hR4.out.ok (by rw [hrl.out]; omega) hx (N := N) (by rw [hrl.out]; exact hfm) hmn
            have hup : ∀ r, r ≤ nbR rs.length → Crc.cat ((partsB rs).take (r + 1)) = upB rs r := fun r hr => by
              unfold partsB upB blksB
              rw [List.take_succ_cons, List.take_append_of_le_length (by simpa using hr), List.drop_zero, ← List.map_take, List.take_range, Nat.min_eq_left hr]
            have hrp : roundsP fr tt ≤ nbR rs.length := by rw [hrl.out]; unfold roundsP nbR; split <;> omega
            have hup2 := hup _ hrp
            have hU0 : (upB rs 0).length = 15 := by rw [upB_zero, Crc.frm_length]; rfl
            have hcatl : ∀ l : List UInt8, l.length = (fileB rs).length → l.length ≤ 1000000 := fun l h => by omega
            replace hturn := Lib.hid hturn
            replace hup2 := Lib.hid hup2
            replace hU0 := Lib.hid hU0
            replace htt := Lib.hid htt
            replace hwl := Lib.hid hwl
            replace hq1 := Lib.hid hq1
            replace hmn := Lib.hid hmn
            replace htm := Lib.hid htm
            replace hwl2 := Lib.hid hwl2
            clear hup hrp hs1 hs2 hn60 hL0
            generalize fileB rs = F at *
            have cz : ((F.length : Int) == 0) = false := eqF (by omega)
            go_upto_region 7 with fail
            go_cut [11] (fun s5 wx => ∃ K : Nat, s5 = .int .i64 K ∧ K < 8 * F.length ∧ w4 = wx)
            case first =>
              go_wp2_with fail
              go_meet
              obtain ⟨K, hK, hl⟩ := cut_place a1 (8 * F.length) (by omega) (by omega)
              refine ⟨K, ?_, hl, rfl⟩
              rw [← hK]
              simp
            case rest =>
              obtain ⟨K, rfl, hK, rfl⟩ := hcut
              have hcv := run_to_bytes (P := Try.prog) 9 36 5 (txt F) Try.underlying9 Try.underlying36 Try.underlying5 w4
              have hg2 := bW_gr 5 w4 (txt F)
              have hbt := bW_bts 5 w4 (txt F)
              rw [txt_data] at hbt
              obtain ⟨b, hb⟩ : ∃ b, b = w4.heap.size := ⟨_, rfl⟩
              rw [← hb] at hcv hbt
              rw [txt_size] at hcv
              generalize bW 5 w4 (txt F) = W2 at *
              generalize bC 5 w4 (txt F) = cc at *
              have hJ : K / 8 < F.length := by omega
              obtain ⟨x, hx⟩ : ∃ x, F[K / 8]? = some x := ⟨_, List.getElem?_eq_getElem hJ⟩
              obtain ⟨hans, hah, hrd⟩ := hturn.out K x hx
              have hlenF2 : (F.set (K / 8) (Crc.flipB x (K % 8))).length = F.length := List.length_set
              have hc := bts_cell hbt hx
              have hf := bts_free hbt (j := K / 8) hJ
              unfold byteV at hc
              have hv1 := Crc.flip_walk8 x (K % 8)
              have hbt1 : Bts 5 (W2.setCell ⟨b, K / 8, none⟩ (byteV (Crc.flipB x (K % 8)))).drew b (F.set (K / 8) (Crc.flipB x (K % 8))) := bts_keep (bts_set hbt _ _) (gr_drew _ none) (by simp)
              unfold byteV at hbt1
              have H3 : Below w4.heap.size w4 (W2.setCell ⟨b, K / 8, none⟩ (Value.int .u8 ((Crc.flipB x (K % 8)).toNat : Int))).drew := ((gr_below hg2).setCell (Nat.le_of_eq hb.symm) _).drew
              replace H3 := Lib.hid (gr_of_below H3 (Nat.le_refl _))
              replace hbt1 := Lib.hid hbt1
              replace hbt := Lib.hid hbt
              replace hx := Lib.hid hx
              replace hans := Lib.hid hans
              replace hah := Lib.hid hah
              replace hrd := Lib.hid hrd
              replace hb := Lib.hid hb
              clear hturn hg2
              go_wp2_with fail
              clear hcv
              go_region
              go_upto_region 10 with fail
              generalize hW3 : (W2.setCell ⟨b, K / 8, none⟩ (Value.int .u8 ((Crc.flipB x (K % 8)).toNat : Int))).drew = W3 at *
              clear hc hf hv1 hW3
              generalize F.set (K / 8) (Crc.flipB x (K % 8)) = C at *
              have hCl : C.length ≤ 1000000 := by omega
              have hcv1 : ∀ W, Gr W3 W → (convert 36 9 (.slice (some ⟨b, 0, none⟩) F.length cc)).run Try.prog W = .ok (.string (txt C)) W := fun W g => run_of_bytes (P := Try.prog) 36 9 5 Try.underlying36 Try.underlying5 Try.underlying9 (bts_gr hbt1.out g) cc F.length hlenF2.symm
              have cP := rpage_any C fr N W3 hCl (by omega) (by omega)
              have cR := fun W => rread_any C W hCl
              rw [hrd.out] at cR
              unfold ReadPost at cR
              simp only at cR
              have hcvA := hcv1 W3 (gr_refl _ _)
              replace hcv1 := Lib.hid hcv1
              replace cP := Lib.hid cP
              replace cR := Lib.hid cR
              replace hlenF2 := Lib.hid hlenF2
              clear hbt hbt1 hrd
              have hRW := rows_gr hR4.out.rows H3.out
              have hpart := rows_part hRW (lo := fr) (hi := tt) htm.out
              rw [hwl.out.symm] at hpart
              have hpdef : (rs.take tt).drop fr = pageR rs fr tt := rfl
              rw [hpdef] at hpart
              have hpl : (pageR rs fr tt).length = wl := hpart.1
              have hpok : ∀ r ∈ pageR rs fr tt, okR r := fun r hr => hR4.out.ok r (List.mem_of_mem_take (List.mem_of_mem_drop hr))
              replace hpart := Lib.hid hpart
              replace hpl := Lib.hid hpl
              replace hpok := Lib.hid hpok
              clear hpdef hRW
              go_cut [13] (fun s5 wx => ∃ (A5 : Option Addr) (c5 : Nat), s5 = .slice A5 wl c5 ∧ Hid (Rows W3 A5 wl (pageR rs fr tt)) ∧ W3 = wx)
              case first =>
                cases A with
                | none =>
                  clear hnil
                  go_wp2_with fail
                  go_meet
                  exact ⟨_, _, rfl, hpart, rfl⟩
                | some ad =>
                  clear hnil
                  by_cases hfc : fr < c
                  · go_wp2_with fail
                    go_meet
                    exact ⟨_, _, rfl, hpart, rfl⟩
                  · obtain rfl : c = fr := by omega
                    have hw0 : wl = 0 := by have h1 := hwl2.out; have h2 := htm.out; omega
                    have hp0 : pageR rs c tt = [] := List.length_eq_zero_iff.1 (by rw [hpl.out, hw0])
                    have hrn : Rows W3 (some ad) wl (pageR rs c tt) := by rw [hw0, hp0]; exact rows_nil _ _
                    replace hrn := Lib.hid hrn
                    clear hw0 hp0
                    go_wp2_with fail
                    go_meet
                    exact ⟨_, _, rfl, hrn, rfl⟩
              case rest =>
                obtain ⟨A5, c5, rfl, hW5, rfl⟩ := hcut
                have hkw : wrap64 ((K : Int) / 8) = (K : Int) / 8 := by unfold wrap64; omega
                replace hkw := Lib.hid hkw
                clear f1 f2 f3 f4 f5 hpart hnil hcatl hlenF cz hF hK hJ hCl hq60 hcap hfm x3
                have hah2 := hah.out
                rw [hup2.out] at hah2
                have hwl60 : wl ≤ 60 := by have h1 := hwl2.out; have h2 := htm.out; omega
                rcases hans.out with h | h
                · have cP2 := cP.out
                  rw [h] at cP2 hah2
                  unfold PagePost at cP2
                  simp only at cP2
                  have hahead := Lib.hid hah2
                  replace cP2 := Lib.hid cP2
                  clear h hans hah cP hah2
                  go_wp2_with fail
                  refine cP2.out.mono ?_
                  rintro e w5 ⟨rfl, g5⟩
                  have hcvB := hcv1.out w5 g5
                  clear hcvA
                  go_wp2_with fail
                  refine (cR.out _).mono ?_
                  rintro e w6 ⟨rfl, g6⟩
                  have G9 := gr_trans H3.out (gr_trans g5 g6)
                  replace G9 := Lib.hid G9
                  clear hcvB cR cP2 hcv1 g5 g6 hW5
                  go_wp2
                  go_loopw [18, 19] (fun uv iv wr => ∃ (j : Nat), uv = .int .i64 ((upB rs j).length : Int) ∧ iv = .int .i64 (8 * (j : Int)) ∧ Hid (j ≤ roundsP fr tt) ∧ Hid (Gr w4 wr)) (fun _ iv _ => m + 8 - (intOf iv).toNat)
                  case atStart => exact ⟨0, by rw [hU0.out]; rfl, rfl, Lib.hid (Nat.zero_le _), G9⟩
                  case round =>
                    obtain ⟨j, rfl, rfl, hj, hg⟩ := hrel
                    have hjb : j ≤ 300 := by have := hj.out; have h2 := htm.out; unfold roundsP at this; split at this <;> omega
                    by_cases hin : 8 * j < tt ∧ fr < tt
                    · obtain ⟨hi1, hi2⟩ := hin
                      have hb1 : 8 * (j : Int) < (m : Int) := by have := htm.out; omega
                      have hb2 : 8 * (j : Int) < (fr : Int) + (wl : Int) := by have := hwl2.out; omega
                      have hb3 : 0 < wl := by have := hwl2.out; omega
                      have hj1 : j + 1 ≤ roundsP fr tt := by unfold roundsP; rw [if_pos hi2]; omega
                      have hpz := part_nil rs (8 * j)
                      replace hj1 := Lib.hid hj1
                      replace hpz := Lib.hid hpz
                      replace hi1 := Lib.hid hi1
                      replace hi2 := Lib.hid hi2
                      go_wp2
                      go_loopw [20, 21] (fun bv iv wq => ∃ (t : Nat), bv = .string (txt (flatL ((rs.take t).drop (8 * j)))) ∧ iv = .int .i64 (t : Int) ∧ Hid (8 * j ≤ t) ∧ Hid (t ≤ 8 * j + 8) ∧ Hid (t ≤ m) ∧ Hid (Gr w4 wq)) (fun _ iv _ => m - (intOf iv).toNat)
                      case atStart => exact ⟨8 * j, by rw [hpz.out]; rfl, by go_num, Lib.hid (Nat.le_refl _), Lib.hid (by omega), Lib.hid (by have := hi1.out; have := htm.out; omega), hg⟩
                      case round =>
                        obtain ⟨t, rfl, rfl, ht1, ht2, ht3, hg2⟩ := hrel
                        have ht1' := ht1.out
                        have ht3' := ht3.out
                        by_cases hin2 : t < 8 * j + 8 ∧ t < m
                        · obtain ⟨hk1, hk2⟩ := hin2
                          obtain ⟨⟨rl, rv⟩, ⟨Ah, nh, ch, vh⟩, gA, oA, hre, hko, rfl, c0, c1⟩ := rows_at (rows_gr hR4.out.rows hg2.out) hk2
                          have hev := hko.v
                          simp only at hev c0 c1
                          subst hev
                          have hP := refPut_any Ah nh ch rl vh _ (hR4.out.ok _ (List.mem_of_getElem? hre)) hko.row
                          have hsn := part_snoc hre ht1'
                          have hfb : (flatL ((rs.take t).drop (8 * j))).length + (rowL ⟨rl, vh⟩).length ≤ 3000000 := by
                            have h1 := part_le hR4.out.ok (8 * j) (t + 1)
                            rw [hsn, List.length_append, hrl.out] at h1
                            omega
                          have hti1 : (t : Int) < 8 * (j : Int) + 8 := by omega
                          have hti2 : (t : Int) < (m : Int) := by omega
                          have hti0 : (0 : Int) ≤ (t : Int) := by omega
                          replace hP := Lib.hid hP
                          replace hsn := Lib.hid hsn
                          clear hko hre
                          go_wp2_with fail
                          refine hP.out.mono ?_
                          rintro e w9 ⟨rfl, g9⟩
                          have H9 := gr_trans hg2.out g9
                          replace H9 := Lib.hid H9
                          clear hP c0 c1 hg2 g9
                          go_wp2
                          go_roundw
                          case rel => exact ⟨t + 1, by rw [hsn.out], by go_num, Lib.hid (by omega), Lib.hid hk1, Lib.hid hk2, H9⟩
                          case measure => simp [intOf]; omega
                        · have htt9 : t = min (8 * j + 8) m := by have := ht2.out; omega
                          have hblk : flatL ((rs.take t).drop (8 * j)) = blkB rs j := by
                            rw [htt9, ← hrl.out, blkR_part]
                            rfl
                          rw [hblk]
                          have hst2 : (upB rs (j + 1)).length = (upB rs j).length + ((blkB rs j).length + 10) := by
                            rw [upB_step, List.length_append, Crc.frm_length]
                          have hub : (upB rs j).length + ((blkB rs j).length + 10) ≤ 10000000 := by
                            have h1 := upB_le hR4.out.ok j
                            have h2 := blkB_le hR4.out.ok j
                            omega
                          replace hst2 := Lib.hid hst2
                          replace htt9 := Lib.hid htt9
                          clear hblk ht1 ht2 ht3 hpz
                          by_cases h8 : t < 8 * j + 8
                          · have hti1 : (t : Int) < 8 * (j : Int) + 8 := by omega
                            have hti2 : ¬ (t : Int) < (m : Int) := by have := htt9.out; omega
                            clear hin2 h8
                            go_wp2
                            go_roundw
                            case rel => exact ⟨j + 1, by rw [hst2.out]; go_num, by go_num, hj1, hg2⟩
                            case measure => simp [intOf]; omega
                          · have hti1 : ¬ (t : Int) < 8 * (j : Int) + 8 := by omega
                            clear hin2 h8
                            go_wp2
                            go_roundw
                            case rel => exact ⟨j + 1, by rw [hst2.out]; go_num, by go_num, hj1, hg2⟩
                            case measure => simp [intOf]; omega
                    · have hjr : j = roundsP fr tt := by
                        have := hj.out
                        unfold roundsP at this ⊢
                        by_cases hF9 : fr < tt
                        · rw [if_pos hF9] at this ⊢
                          have h2 : ¬ 8 * j < tt := fun h => hin ⟨h, hF9⟩
                          omega
                        · rw [if_neg hF9] at this ⊢
                          omega
                      obtain ⟨U, hUe⟩ : ∃ U, U = (upB rs j).length := ⟨_, rfl⟩
                      rw [← hUe]
                      rw [hjr] at hUe
                      replace hUe := Lib.hid hUe
                      replace hjr := Lib.hid hjr
                      by_cases hA9 : 8 * j < m
                      · have hb1 : 8 * (j : Int) < (m : Int) := by omega
                        by_cases hB9 : 8 * j < tt
                        · have hw0 : wl = 0 := by have := hwl2.out; have h2 : ¬ fr < tt := fun h => hin ⟨hB9, h⟩; omega
                          subst hw0
                          have hb2 : 8 * (j : Int) < (fr : Int) := by have := hwl2.out; omega
                          clear hin hA9 hB9
                          have hlt9 : K / 8 < U := by
                            apply Classical.byContradiction
                            intro hn
                            have h1 := hahead.out (by rw [← hUe.out]; omega)
                            cases h1
                          have hcI : (K : Int) / 8 < (U : Int) := by omega
                          have hKw := hkw.out
                          go_wp2
                          go_ret
                          exact ⟨rfl, gr_below (gr_trans G4.out hg.out)⟩
                        · have hb2 : ¬ 8 * (j : Int) < (fr : Int) + (wl : Int) := by have := hwl2.out; omega
                          clear hin hA9 hB9
                          have hlt9 : K / 8 < U := by
                            apply Classical.byContradiction
                            intro hn
                            have h1 := hahead.out (by rw [← hUe.out]; omega)
                            cases h1
                          have hcI : (K : Int) / 8 < (U : Int) := by omega
                          have hKw := hkw.out
                          go_wp2
                          go_ret
                          exact ⟨rfl, gr_below (gr_trans G4.out hg.out)⟩
                      · have hb1 : ¬ 8 * (j : Int) < (m : Int) := by omega
                        clear hin hA9
                        have hlt9 : K / 8 < U := by
                          apply Classical.byContradiction
                          intro hn
                          have h1 := hahead.out (by rw [← hUe.out]; omega)
                          cases h1
                        have hcI : (K : Int) / 8 < (U : Int) := by omega
                        have hKw := hkw.out
                        go_wp2
                        go_ret
                        exact ⟨rfl, gr_below (gr_trans G4.out hg.out)⟩
                · have cP2 := cP.out
                  rw [h] at cP2
                  unfold PagePost at cP2
                  simp only at cP2
                  rw [hpl.out] at cP2
                  replace cP2 := Lib.hid cP2
                  clear h hans hah cP hah2
                  go_wp2_with fail
                  refine cP2.out.mono ?_
                  rintro e w5 ⟨⟨A6, c6, rfl, hO6⟩, g5⟩
                  have hcvB := hcv1.out w5 g5
                  have cS := fun W (g : Gr w5 W) => bookRows_any A6 A5 wl wl c6 c5 (pageR rs fr tt) (pageR rs fr tt) W (by omega) (by omega) (ownRs_rows (ownRs_gr hO6 g) hpl.out) (rows_gr hW5.out (gr_trans g5 g)) (ok_small hpok.out) (ok_small hpok.out)
                  simp only [decide_true] at cS
                  replace cS := Lib.hid cS
                  clear hcvA hO6
                  go_wp2_with fail
                  refine (cR.out _).mono ?_
                  rintro e w6 ⟨rfl, g6⟩
                  have cS2 := cS.out w6 g6
                  replace cS2 := Lib.hid cS2
                  clear hcvB cR cP2 hcv1 hW5 cS
                  go_wp2_with fail
                  refine cS2.out.mono ?_
                  rintro e w7 ⟨rfl, g7⟩
                  have G9 := gr_trans H3.out (gr_trans g5 (gr_trans g6 g7))
                  replace G9 := Lib.hid G9
                  clear cS2 g5 g6 g7
                  go_wp2
                  go_loopw [18, 19] (fun uv iv wr => ∃ (j : Nat), uv = .int .i64 ((upB rs j).length : Int) ∧ iv = .int .i64 (8 * (j : Int)) ∧ Hid (j ≤ roundsP fr tt) ∧ Hid (Gr w4 wr)) (fun _ iv _ => m + 8 - (intOf iv).toNat)
                  case atStart => exact ⟨0, by rw [hU0.out]; rfl, rfl, Lib.hid (Nat.zero_le _), G9⟩
                  case round =>
                    obtain ⟨j, rfl, rfl, hj, hg⟩ := hrel
                    have hjb : j ≤ 300 := by have := hj.out; have h2 := htm.out; unfold roundsP at this; split at this <;> omega
                    by_cases hin : 8 * j < tt ∧ fr < tt
                    · obtain ⟨hi1, hi2⟩ := hin
                      have hb1 : 8 * (j : Int) < (m : Int) := by have := htm.out; omega
                      have hb2 : 8 * (j : Int) < (fr : Int) + (wl : Int) := by have := hwl2.out; omega
                      have hb3 : 0 < wl := by have := hwl2.out; omega
                      have hj1 : j + 1 ≤ roundsP fr tt := by unfold roundsP; rw [if_pos hi2]; omega
                      have hpz := part_nil rs (8 * j)
                      replace hj1 := Lib.hid hj1
                      replace hpz := Lib.hid hpz
                      replace hi1 := Lib.hid hi1
                      replace hi2 := Lib.hid hi2
                      go_wp2
                      go_loopw [20, 21] (fun bv iv wq => ∃ (t : Nat), bv = .string (txt (flatL ((rs.take t).drop (8 * j)))) ∧ iv = .int .i64 (t : Int) ∧ Hid (8 * j ≤ t) ∧ Hid (t ≤ 8 * j + 8) ∧ Hid (t ≤ m) ∧ Hid (Gr w4 wq)) (fun _ iv _ => m - (intOf iv).toNat)
                      case atStart => exact ⟨8 * j, by rw [hpz.out]; rfl, by go_num, Lib.hid (Nat.le_refl _), Lib.hid (by omega), Lib.hid (by have := hi1.out; have := htm.out; omega), hg⟩
                      case round =>
                        obtain ⟨t, rfl, rfl, ht1, ht2, ht3, hg2⟩ := hrel
                        have ht1' := ht1.out
                        have ht3' := ht3.out
                        by_cases hin2 : t < 8 * j + 8 ∧ t < m
                        · obtain ⟨hk1, hk2⟩ := hin2
                          obtain ⟨⟨rl, rv⟩, ⟨Ah, nh, ch, vh⟩, gA, oA, hre, hko, rfl, c0, c1⟩ := rows_at (rows_gr hR4.out.rows hg2.out) hk2
                          have hev := hko.v
                          simp only at hev c0 c1
                          subst hev
                          have hP := refPut_any Ah nh ch rl vh _ (hR4.out.ok _ (List.mem_of_getElem? hre)) hko.row
                          have hsn := part_snoc hre ht1'
                          have hfb : (flatL ((rs.take t).drop (8 * j))).length + (rowL ⟨rl, vh⟩).length ≤ 3000000 := by
                            have h1 := part_le hR4.out.ok (8 * j) (t + 1)
                            rw [hsn, List.length_append, hrl.out] at h1
                            omega
                          have hti1 : (t : Int) < 8 * (j : Int) + 8 := by omega
                          have hti2 : (t : Int) < (m : Int) := by omega
                          have hti0 : (0 : Int) ≤ (t : Int) := by omega
                          replace hP := Lib.hid hP
                          replace hsn := Lib.hid hsn
                          clear hko hre
                          go_wp2_with fail
                          refine hP.out.mono ?_
                          rintro e w9 ⟨rfl, g9⟩
                          have H9 := gr_trans hg2.out g9
                          replace H9 := Lib.hid H9
                          clear hP c0 c1 hg2 g9
                          go_wp2
                          go_roundw
                          case rel => exact ⟨t + 1, by rw [hsn.out], by go_num, Lib.hid (by omega), Lib.hid hk1, Lib.hid hk2, H9⟩
                          case measure => simp [intOf]; omega
                        · have htt9 : t = min (8 * j + 8) m := by have := ht2.out; omega
                          have hblk : flatL ((rs.take t).drop (8 * j)) = blkB rs j := by
                            rw [htt9, ← hrl.out, blkR_part]
                            rfl
                          rw [hblk]
                          have hst2 : (upB rs (j + 1)).length = (upB rs j).length + ((blkB rs j).length + 10) := by
                            rw [upB_step, List.length_append, Crc.frm_length]
                          have hub : (upB rs j).length + ((blkB rs j).length + 10) ≤ 10000000 := by
                            have h1 := upB_le hR4.out.ok j
                            have h2 := blkB_le hR4.out.ok j
                            omega
                          replace hst2 := Lib.hid hst2
                          replace htt9 := Lib.hid htt9
                          clear hblk ht1 ht2 ht3 hpz
                          by_cases h8 : t < 8 * j + 8
                          · have hti1 : (t : Int) < 8 * (j : Int) + 8 := by omega
                            have hti2 : ¬ (t : Int) < (m : Int) := by have := htt9.out; omega
                            clear hin2 h8
                            go_wp2
                            go_roundw
                            case rel => exact ⟨j + 1, by rw [hst2.out]; go_num, by go_num, hj1, hg2⟩
                            case measure => simp [intOf]; omega
                          · have hti1 : ¬ (t : Int) < 8 * (j : Int) + 8 := by omega
                            clear hin2 h8
                            go_wp2
                            go_roundw
                            case rel => exact ⟨j + 1, by rw [hst2.out]; go_num, by go_num, hj1, hg2⟩
                            case measure => simp [intOf]; omega
                    · have hjr : j = roundsP fr tt := by
                        have := hj.out
                        unfold roundsP at this ⊢
                        by_cases hF9 : fr < tt
                        · rw [if_pos hF9] at this ⊢
                          have h2 : ¬ 8 * j < tt := fun h => hin ⟨h, hF9⟩
                          omega
                        · rw [if_neg hF9] at this ⊢
                          omega
                      obtain ⟨U, hUe⟩ : ∃ U, U = (upB rs j).length := ⟨_, rfl⟩
                      rw [← hUe]
                      rw [hjr] at hUe
                      replace hUe := Lib.hid hUe
                      replace hjr := Lib.hid hjr
                      by_cases hA9 : 8 * j < m
                      · have hb1 : 8 * (j : Int) < (m : Int) := by omega
                        by_cases hB9 : 8 * j < tt
                        · have hw0 : wl = 0 := by have := hwl2.out; have h2 : ¬ fr < tt := fun h => hin ⟨hB9, h⟩; omega
                          subst hw0
                          have hb2 : 8 * (j : Int) < (fr : Int) := by have := hwl2.out; omega
                          clear hin hA9 hB9
                          by_cases hlt9 : K / 8 < U
                          · have hcI : (K : Int) / 8 < (U : Int) := by omega
                            have hKw := hkw.out
                            go_wp2
                            go_ret
                            exact ⟨rfl, gr_below (gr_trans G4.out hg.out)⟩
                          · have hcI : ¬ (K : Int) / 8 < (U : Int) := by omega
                            have hKw := hkw.out
                            go_wp2
                            go_ret
                            exact ⟨rfl, gr_below (gr_trans G4.out hg.out)⟩
                        · have hb2 : ¬ 8 * (j : Int) < (fr : Int) + (wl : Int) := by have := hwl2.out; omega
                          clear hin hA9 hB9
                          by_cases hlt9 : K / 8 < U
                          · have hcI : (K : Int) / 8 < (U : Int) := by omega
                            have hKw := hkw.out
                            go_wp2
                            go_ret
                            exact ⟨rfl, gr_below (gr_trans G4.out hg.out)⟩
                          · have hcI : ¬ (K : Int) / 8 < (U : Int) := by omega
                            have hKw := hkw.out
                            go_wp2
                            go_ret
                            exact ⟨rfl, gr_below (gr_trans G4.out hg.out)⟩
                      · have hb1 : ¬ 8 * (j : Int) < (m : Int) := by omega
                        clear hin hA9
                        by_cases hlt9 : K / 8 < U
                        · have hcI : (K : Int) / 8 < (U : Int) := by omega
                          have hKw := hkw.out
                          go_wp2
                          go_ret
                          exact ⟨rfl, gr_below (gr_trans G4.out hg.out)⟩
                        · have hcI : ¬ (K : Int) / 8 < (U : Int) := by omega
                          have hKw := hkw.out
                          go_wp2
                          go_ret
                          exact ⟨rfl, gr_below (gr_trans G4.out hg.out)⟩
          · have hfmI : (fr : Int) > (m : Int) := by omega
            go_wp2
            go_ret
            exact ⟨rfl, gr_below G4.out⟩
        · rw [if_neg hF]
          go_wp2
          go_ret
          exact ⟨rfl, gr_below G4.out⟩


set_option maxRecDepth 100000 in
theorem lifted (os : Os) (started : os.Started) (H : Type) (enc : TypeId × Value → H) :
    ReturnsInHanded {} Try.checked os 5 .any (Rows.runTurnedSpec.pre6 enc Try.prog Try.f5 Rows.runTurnedRow.domain false) (Rows.runTurnedSpec.post enc Try.prog Try.f5 false true false false) := by
  refine returnsInHanded_of_change (C := Try.checked) own started (by kernel_rfl) Try.func5
    (ChangeSpec.witness6 (enc := enc) (C := Try.checked) false ⟨#[], #[.slice none 0 0, .int .i64 0, .int .i64 0, .int .i64 0], []⟩ 8 (by kernel_rfl) (by kernel_rfl) (by kernel_rfl) (by kernel_rfl)) ?_
  intro W base args ds gs before hval0 hW hcnd _
  have hval : ∀ (j : Nat) t v, Try.f5.params[j]? = some t → args[j]? = some v → Value.okWide Try.prog W .any base t v := hval0
  have hW' := hW
  obtain ⟨p, q, hA0, hV, rfl, hfz, hnd⟩ := hW
  have hA : DataW.TrodAll enc Try.prog W 0 (fun _ => true) true Try.f5.params.toList args.toList ds p := hA0
  rw [Try.params5] at hA hval
  obtain ⟨v0, vs0, d0, ds0, p0, q0, hargs, rfl, rfl, h0, r0⟩ := trodAll_cons hA
  obtain ⟨v1, vs1, d1, ds1, p1, q1, rfl, rfl, rfl, h1, r1⟩ := trodAll_cons r0
  obtain ⟨v2, vs2, d2, ds2, p2, q2, rfl, rfl, rfl, h2, r2⟩ := trodAll_cons r1
  obtain ⟨v3, vs3, d3, ds3, p3, q3, rfl, rfl, rfl, h3, r3⟩ := trodAll_cons r2
  obtain ⟨rfl, rfl, rfl⟩ := trodAll_nil r3
  obtain rfl : args = #[v0, v1, v2, v3] := by cases args; simp_all
  obtain ⟨rfl, rfl⟩ := trodVars_none hV
  obtain ⟨a0, len0, cap0, rfl⟩ := okWide_slice Try.underlying23 (hval 0 23 v0 rfl rfl)
  have k0 := h0
  have lt0 : ∀ x ∈ p0, x.block < W.heap.size := by obtain ⟨m, hm⟩ := k0; exact DataW.trod_lt m _ _ _ hm
  obtain ⟨z0, w0⟩ := rows_open h0
  obtain ⟨a1, rfl, rfl, rfl, w1⟩ := open_int Try.underlying3 (hval 1 3 v1 rfl rfl) h1
  obtain ⟨a2, rfl, rfl, rfl, w2⟩ := open_int Try.underlying3 (hval 2 3 v2 rfl rfl) h2
  obtain ⟨a3, rfl, rfl, rfl, w3⟩ := open_int Try.underlying3 (hval 3 3 v3 rfl rfl) h3
  clear hA0 hval0
  refine (walk W a0 len0 cap0 z0 w0 a1 w1 a2 w2 a3 w3).mono fun e W' ⟨he, bel⟩ => ?_
  subst he
  exact ⟨_, rfl, _, _, _, [], _, [], hW', trodAll_mk1 (shut_bool Try.underlying4 _), (trodAll_cons_mk (Below.trod laidOut (by kernel_rfl) (of_decide_eq_true (by kernel_rfl)) k0 bel lt0) (trodAll_cons_mk (shut_int Try.underlying3 w1) (trodAll_cons_mk (shut_int Try.underlying3 w2) (trodAll_cons_mk (shut_int Try.underlying3 w3) trodAll_mk0)))), rfl, bel.frame _, fun h => by cases h⟩

theorem over : Rows.runTurnedRow.holds Try.pinned (OpenSpec.ofChange Rows.runTurnedSpec) :=
  OpenClaim.holds_of_wide 5 Try.f5 rfl rfl rfl rfl rfl rfl rfl ⟨rfl, rfl, rfl, rfl, rfl⟩ rfl rfl rfl rfl rfl (by kernel_rfl) Try.func5 (by kernel_rfl)
    (of_decide_eq_true (by kernel_rfl)) (by unfold Func.isWrapper; first | (rw [if_pos (by decide +kernel)]; kernel_rfl) | (rw [if_neg (by decide +kernel)]; exact ⟨rfl, rfl⟩))
    (fun os started H enc _ => lifted os started H enc)

/-- THE STATEMENT -/
theorem proved : Rows.RunTurnedSaid := over
#print axioms proved
end Go.Proofs.Ytoidfoalhkoajaa.runTurned

