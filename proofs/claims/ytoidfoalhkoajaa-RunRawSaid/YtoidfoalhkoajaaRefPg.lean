/-
  The document's Count and Page of a file, of whatever bytes. No condition but a bound on the length.
-/
import Derived.Test.YtoidfoalhkoajaaRefPgMath
import Derived.Test.YtoidfoalhkoajaaRefTake
import Derived.Test.YtoidfoalhkoajaaRefGet
namespace Go.Proofs.Ytoidfoalhkoajaa
open Go.RowKit

def CountPost (b : List UInt8) (w : World) (e : Ending) (w' : World) : Prop :=
  (match openB b with
  | some (n, t) => e = .returned (.tuple #[.int .i64 n, .string (txt t), .bool true])
  | none => e = .returned (.tuple #[.int .i64 0, .string ⟨#[]⟩, .bool false])) ∧ Gr w w'
set_option maxHeartbeats 4000000 in
set_option maxRecDepth 100000 in
theorem refCount_any (L : List UInt8) (w : World) (hL : L.length ≤ 1000000) : Calls Try.prog 21 #[.string (txt L)] w (CountPost L w) := by
  have cT := refTake_any L w hL
  unfold TakePost at cT
  unfold CountPost openB
  rcases hc : Crc.take L with ⟨x, t, c⟩
  rw [hc] at cT
  simp only at cT ⊢
  by_cases h0 : c = 0
  · subst h0
    by_cases h5 : x.length = 5
    · have x3 : (txt x).extract 0 3 = txt (x.take 3) := str_eq (by rw [Lib.extract_data, txt_data]; rfl)
      have x5 : (txt x).extract 3 5 = txt (x.drop 3) := by
        have := ext_end (txt x) 3
        rw [txt_size, txt_data, h5] at this
        exact str_eq this
      have hsz : (txt x).size = 5 := by rw [txt_size, h5]
      have cV : ∀ W, Calls Try.prog 41 #[.string (txt (x.drop 3))] W fun e w' => e = .returned (.int .i64 (dvN (x.drop 3))) ∧ W = w' := fun W => rvalue13_any (x.drop 3) W (by rw [List.length_drop]; omega)
      have hv := valN_lt (x.drop 3)
      rw [List.length_drop, h5] at hv
      by_cases hpre : x.take 3 = [76, 69, 80]
      · rw [hpre] at x3
        have hq : (txt [76, 69, 80] != ⟨#[76, 69, 80]⟩) = false := by decide
        rw [show txt [76, 69, 80] = ⟨#[76, 69, 80]⟩ from rfl] at x3
        replace cT := Lib.hid cT
        replace cV := Lib.hid cV
        by_cases hn : dvN (x.drop 3) ≤ 2000
        · rw [if_pos ⟨rfl, h5, hpre, hn⟩]
          have hnI : ¬ (2000 : Int) < ((dvN (x.drop 3) : Nat) : Int) := by omega
          clear hpre hc h5 hn hv
          generalize dvN (x.drop 3) = N at *
          generalize x.drop 3 = X3 at *
          generalize txt x = X at *
          go_enter Try.func21, Try.ntmps21
          go_wp2_with fail
          refine cT.out.mono ?_
          rintro e2 w2 ⟨rfl, g2⟩
          go_wp2_with (go_at_call 41; refine (cV.out _).mono ?_; rintro e w' ⟨rfl, rfl⟩)
          go_ret3
          exact ⟨rfl, g2⟩
        · rw [if_neg (fun h => hn h.2.2.2)]
          have hnI : (2000 : Int) < ((dvN (x.drop 3) : Nat) : Int) := by omega
          clear hpre hc h5 hn hv
          generalize dvN (x.drop 3) = N at *
          generalize x.drop 3 = X3 at *
          generalize txt x = X at *
          go_enter Try.func21, Try.ntmps21
          go_wp2_with fail
          refine cT.out.mono ?_
          rintro e2 w2 ⟨rfl, g2⟩
          go_wp2_with (go_at_call 41; refine (cV.out _).mono ?_; rintro e w' ⟨rfl, rfl⟩)
          go_ret3
          exact ⟨rfl, g2⟩
      · rw [if_neg (fun h => hpre h.2.2.1)]
        obtain ⟨T, hT⟩ : ∃ T, T = x.take 3 := ⟨_, rfl⟩
        rw [← hT] at hpre x3
        replace cT := Lib.hid cT
        clear hc h5 hv cV x5
        clear hT
        generalize txt x = X at *
        go_enter Try.func21, Try.ntmps21
        go_wp2_with fail
        refine cT.out.mono ?_
        rintro e2 w2 ⟨rfl, g2⟩
        go_wp2_with fail
        go_ret3
        exact ⟨rfl, g2⟩
    · rw [if_neg (fun h => h5 h.2.1)]
      have h5I : ((x.length : Int) == 5) = false := eqF (by omega)
      have h5J : ((x.length : Int) != 5) = true := by simp only [bne, h5I, Bool.not_false]
      replace cT := Lib.hid cT
      clear hc
      go_enter Try.func21, Try.ntmps21
      go_wp2_with fail
      refine cT.out.mono ?_
      rintro e2 w2 ⟨rfl, g2⟩
      go_wp2_with fail
      go_ret3
      exact ⟨rfl, g2⟩
  · rw [if_neg (fun h => h0 h.1)]
    have h0I : ((c : Int) == 0) = false := eqF (by omega)
    have h0J : ((c : Int) != 0) = true := by simp only [bne, h0I, Bool.not_false]
    replace cT := Lib.hid cT
    clear hc
    go_enter Try.func21, Try.ntmps21
    go_wp2_with fail
    refine cT.out.mono ?_
    rintro e2 w2 ⟨rfl, g2⟩
    go_wp2_with fail
    go_ret3
    exact ⟨rfl, g2⟩
set_option maxHeartbeats 16000000 in
set_option maxRecDepth 100000 in
theorem refPage_any (L : List UInt8) (fr n : Int) (w : World) (hL : L.length ≤ 1000000) (hfr : -9223372036854775808 ≤ fr ∧ fr ≤ 9223372036854775807) (hn : -9223372036854775808 ≤ n ∧ n ≤ 9223372036854775807) : Calls Try.prog 10 #[.string (txt L), .int .i64 fr, .int .i64 n] w (PagePost (pageAns L fr n) w) := by
  obtain ⟨ii, hi, hz0, hz1, hz2⟩ := info_parts infoRow3
  have cO := refCount_any L w hL
  unfold CountPost at cO
  obtain ⟨R, hR⟩ : ∃ R, R = pageAns L fr n := ⟨_, rfl⟩
  rw [← hR]
  unfold pageAns at hR
  cases ho : openB L with
  | none =>
    rw [ho] at cO hR
    simp only at cO hR
    rw [hR]
    replace cO := Lib.hid cO
    clear ho hR
    go_enter Try.func10, Try.ntmps10
    go_wp2_with fail
    refine cO.out.mono ?_
    rintro e2 w2 ⟨rfl, g2⟩
    go_wp2_with fail
    go_ret2
    exact ⟨rfl, g2⟩
  | some p =>
    obtain ⟨al, rest⟩ := p
    rw [ho] at cO hR
    simp only at cO hR
    have hal : al ≤ 2000 ∧ rest.length ≤ 1000000 := by
      unfold openB at ho
      split at ho
      · next h =>
        injection ho with ho
        injection ho with h1 h2
        have := take_less h.1
        subst h1 h2
        exact ⟨h.2.2.2, by omega⟩
      · cases ho
    obtain ⟨hal, hrl⟩ := hal
    replace cO := Lib.hid cO
    clear ho
    by_cases hbad : fr < 0 ∨ (al : Int) < fr ∨ n < 0
    · rw [if_pos hbad] at hR
      rw [hR]
      clear hR
      by_cases b1 : fr < 0
      · go_enter Try.func10, Try.ntmps10
        go_wp2_with fail
        refine cO.out.mono ?_
        rintro e2 w2 ⟨rfl, g2⟩
        clear hbad
        go_wp2_with fail
        go_ret2
        exact ⟨rfl, g2⟩
      · by_cases b2 : (al : Int) < fr
        · go_enter Try.func10, Try.ntmps10
          go_wp2_with fail
          refine cO.out.mono ?_
          rintro e2 w2 ⟨rfl, g2⟩
          clear hbad
          go_wp2_with fail
          go_ret2
          exact ⟨rfl, g2⟩
        · have b3 : n < 0 := by omega
          go_enter Try.func10, Try.ntmps10
          go_wp2_with fail
          refine cO.out.mono ?_
          rintro e2 w2 ⟨rfl, g2⟩
          clear hbad
          go_wp2_with fail
          go_ret2
          exact ⟨rfl, g2⟩
    · rw [if_neg hbad] at hR
      obtain ⟨F, rfl⟩ : ∃ F : Nat, fr = F := ⟨fr.toNat, by omega⟩
      obtain ⟨N, rfl⟩ : ∃ N : Nat, n = N := ⟨n.toNat, by omega⟩
      obtain ⟨tt, htt⟩ : ∃ tt, tt = F + min N (al - F) := ⟨_, rfl⟩
      simp only [Int.toNat_natCast] at hR
      rw [← htt] at hR
      have hFal : F ≤ al := by omega
      have htal : tt ≤ al := by omega
      have e1 : ¬ (al : Int) < (F : Int) := by omega
      have e0 : ¬ al < F := by omega
      clear hbad
      replace hR := Lib.hid hR
      go_enter Try.func10, Try.ntmps10
      go_wp2_with fail
      refine cO.out.mono ?_
      rintro e9 w2 ⟨rfl, g2⟩
      replace g2 := Lib.hid g2
      clear cO
      go_upto_if 45 with fail
      go_cut [11] (fun c W => c = .int .i64 (tt : Int) ∧ Hid (Gr w W))
      case first =>
        by_cases hN : N < al - F
        · have e5 : (N : Int) < (al : Int) - (F : Int) := by omega
          have e6 : (F : Int) + (N : Int) = (tt : Int) := by omega
          replace htt := Lib.hid htt
          clear hN
          go_wp2_with fail
          go_meet
          exact ⟨(by first | rfl | (rw [e6]; done) | (rw [← e6]; done)), g2⟩
        · have e5 : ¬ (N : Int) < (al : Int) - (F : Int) := by omega
          have e6 : al = tt := by omega
          replace htt := Lib.hid htt
          replace e6 := Lib.hid e6
          clear hN
          go_wp2_with fail
          go_meet
          exact ⟨by rw [e6.out], g2⟩
      case rest =>
        clear g2
        obtain ⟨rfl, g2⟩ := hcut
        clear e0 e1 htt
        go_wp2_with fail
        go_loopw [9, 12, 13] (fun rv ov av wr => ∃ (j : Nat) (rs : List UInt8) (n : Nat) (out : List Rw) (A : Option Addr) (c : Nat), av = .int .i64 (8 * (j : Int)) ∧ rv = .string (txt rs) ∧ ov = .slice A n c ∧ Hid (out.length = n) ∧ Hid (j ≤ roundsP F tt) ∧ Hid (rs.length ≤ 1000000) ∧ Hid (n ≤ 8 * j) ∧ Hid (stP al F tt rest j = some (rs, out)) ∧ Hid (OwnRs wr w.heap.size (.slice A n c) out) ∧ Hid (Gr w wr)) (fun _ _ av _ => tt + 8 - (intOf av).toNat)
        case atStart => exact ⟨0, rest, 0, [], none, 0, rfl, rfl, rfl, Lib.hid rfl, Lib.hid (Nat.zero_le _), Lib.hid hrl, Lib.hid (Nat.zero_le _), Lib.hid rfl, Lib.hid (ownRs_nil _ _), g2⟩
        case round =>
          obtain ⟨j, rs, n0, out, A, c, rfl, rfl, rfl, hlen, hj, hrs, hol, hst, ho, hg⟩ := hrel
          by_cases hlt : 8 * j < tt ∧ F < tt
          · obtain ⟨hl1, hl2⟩ := hlt
            have hI1 : 8 * (j : Int) < (tt : Int) := by omega
            have hI2 : (F : Int) < (tt : Int) := by omega
            have hj1 : j + 1 ≤ roundsP F tt := by unfold roundsP; rw [if_pos hl2]; omega
            have cT := refTake_any rs wr hrs.out
            unfold TakePost at cT
            have hst1 := fun h hs => stP_blk hst.out h hs
            have hst2 := stP_step hst.out
            have htl := fun h => take_less (L := rs) h
            rcases hc : Crc.take rs with ⟨x, t, cd⟩
            rw [hc] at cT hst1 htl hst2
            simp only at cT hst1 htl hst2
            replace cT := Lib.hid cT
            replace hst1 := Lib.hid hst1
            replace hst2 := Lib.hid hst2
            replace htl := Lib.hid htl
            replace hj1 := Lib.hid hj1
            clear hc hst
            by_cases hcd : cd = 0
            · subst hcd
              have htl' := htl.out rfl
              have hrs' := hrs.out
              have hxl : x.length ≤ 1000000 := by omega
              have htl2 : t.length ≤ 1000000 := by omega
              by_cases hskip : 8 * j + 8 ≤ F
              · have hsI : 8 * (j : Int) + 8 ≤ (F : Int) := by omega
                have hst3 := hst2.out
                rw [if_pos rfl, if_pos hskip] at hst3
                replace hst3 := Lib.hid hst3
                clear hst1 htl hskip hst2
                go_wp2_with fail
                refine cT.out.mono ?_
                rintro e9 w3 ⟨rfl, g3⟩
                have ho3 := ownRs_gr ho.out g3
                have hg3 := gr_trans hg.out g3
                replace ho3 := Lib.hid ho3
                replace hg3 := Lib.hid hg3
                clear g3 ho hg cT
                go_wp2
                go_roundw
                case rel => exact ⟨j + 1, t, n0, out, A, c, by go_num, rfl, rfl, hlen, hj1, Lib.hid htl2, Lib.hid (by have := hol.out; omega), hst3, ho3, hg3⟩
                case measure => simp [intOf]; omega
              · have hsI : ¬ 8 * (j : Int) + 8 ≤ (F : Int) := by omega
                obtain ⟨m8, hm8⟩ : ∃ m8, m8 = min 8 (al - 8 * j) := ⟨_, rfl⟩
                have hst3 := hst1.out rfl hskip
                rw [← hm8] at hst3
                have hm88 : m8 ≤ 8 := by omega
                replace hm8 := Lib.hid hm8
                replace hst3 := Lib.hid hst3
                clear hst1 htl hst2 htl' hrs'
                go_wp2_with fail
                refine cT.out.mono ?_
                rintro e9 w3 ⟨rfl, g3⟩
                have ho3 := ownRs_gr ho.out g3
                have hg3 := gr_trans hg.out g3
                replace ho3 := Lib.hid ho3
                replace hg3 := Lib.hid hg3
                clear g3 ho hg cT
                go_wp2_with fail
                go_loopw [12, 14, 17] (fun ov fv kv wr => ∃ (q n2 : Nat) (l : List Rw) (r : List UInt8) (A : Option Addr) (c : Nat), ov = .slice A n2 c ∧ fv = .string (txt r) ∧ kv = .int .i64 (8 * (j : Int) + (q : Int)) ∧ Hid ((out ++ sliceR l F tt j).length = n2) ∧ Hid (q ≤ m8) ∧ Hid (getN q x = some (l, r)) ∧ Hid (OwnRs wr w.heap.size (.slice A n2 c) (out ++ sliceR l F tt j)) ∧ Hid (Gr w wr)) (fun _ _ kv _ => al + 8 - (intOf kv).toNat)
                case atStart => exact ⟨0, n0, [], x, A, c, rfl, rfl, by simp, Lib.hid (by rw [sliceR_nil, List.append_nil]; exact hlen.out), Lib.hid (Nat.zero_le _), Lib.hid rfl, Lib.hid (by rw [sliceR_nil, List.append_nil]; exact ho3.out), hg3⟩
                case round =>
                  obtain ⟨q, n2, l, r, A2, c2, rfl, rfl, rfl, hln2, hq, hget, ho4, hg4⟩ := hrel
                  have hgl := getN_len hget.out
                  obtain ⟨hlq, hrx⟩ := hgl
                  have hrl : r.length ≤ 1000000 := by omega
                  have hn2 : n2 ≤ 1000000 := by
                    have h1 := sliceR_le l F tt j
                    have h2 := hln2.out
                    have h3 := hol.out
                    have h4 := hlen.out
                    have h5 := hq.out
                    rw [List.length_append] at h2
                    omega
                  by_cases hqm : q < m8
                  · have k1 : 8 * (j : Int) + (q : Int) < 8 * (j : Int) + 8 := by omega
                    have k2 : 8 * (j : Int) + (q : Int) < (al : Int) := by have := hm8.out; omega
                    have cG := fun W (g : Gr wr W) => refGet_any r W hrl
                    replace cG := Lib.hid cG
                    replace hlq := Lib.hid hlq
                    replace hrx := Lib.hid hrx
                    go_wp2_with fail
                    refine (cG.out wr (gr_refl _ _)).mono ?_
                    rintro e9 w5 ⟨⟨x1, t1, Ag, cg, hgr, rfl, hown⟩ | ⟨hgr, rfl⟩, g5⟩
                    · have hget2 := getN_some hget.out hgr
                      go_upto_region 22 with fail
                      obtain ⟨w6, hw6⟩ : ∃ w6, w6 = w5.alloc (.cells #[.slice Ag x1.l.length cg, .int .i64 x1.v] 40) := ⟨_, rfl⟩
                      have g6 : Gr w5 w6 := by rw [hw6]; exact gr_alloc _ _ _
                      have d0 : w6.cell? ⟨w5.heap.size, 0, none⟩ = some (.slice Ag x1.l.length cg) := by rw [hw6, World.cell?_alloc_new]; rfl
                      have d1 : w6.cell? ⟨w5.heap.size, 1, none⟩ = some (.int .i64 x1.v) := by rw [hw6, World.cell?_alloc_new]; rfl
                      have ho6 := ownRs_gr ho4.out (gr_trans g5 g6)
                      have G6 := gr_trans hg4.out (gr_trans g5 g6)
                      by_cases hin : F ≤ 8 * j + q ∧ 8 * j + q < tt
                      · have k3 : (F : Int) ≤ 8 * (j : Int) + (q : Int) := by omega
                        have k4 : 8 * (j : Int) + (q : Int) < (tt : Int) := by omega
                        have hsl : out ++ sliceR (l ++ [x1]) F tt j = (out ++ sliceR l F tt j) ++ [x1] := by rw [sliceR_in (by rw [hlq.out]; exact hin.1) (by rw [hlq.out]; exact hin.2), List.append_assoc]
                        have hk1 : OwnHd w6 w.heap.size ⟨Ag, x1.l.length, cg, x1.v⟩ x1 := ⟨rfl, rfl, (own_mono hown hg4.out.size).kept g6 (Classical.em _)⟩
                        obtain ⟨hs2, hh, ho2⟩ := ho6
                        rw [hln2.out] at ho2
                        have hrs6 := ownRows_snoc hh hk1
                        rw [← hsl] at hrs6
                        have hln3 : (out ++ sliceR (l ++ [x1]) F tt j).length = n2 + 1 := by rw [hsl, List.length_append, hln2.out]; rfl
                        have G7 := gr_trans G6 (gr_alloc w6 (.cells (hdC ⟨Ag, x1.l.length, cg, x1.v⟩).toArray 40) none)
                        have hs6 := G7.size
                        rw [← hw6]
                        replace hrs6 := Lib.hid hrs6
                        replace ho2 := Lib.hid ho2
                        replace G7 := Lib.hid G7
                        replace hs6 := Lib.hid hs6
                        replace hln3 := Lib.hid hln3
                        replace hget2 := Lib.hid hget2
                        clear hw6 hk1 hh ho4 hg4 hget g5 g6 G6 hown hgr cG hsl hin
                        go_wp2_with (at_builtin; refine wpList_append_row rfl _ _ 23 rfl w.heap.size 40 ii (.agg #[.slice none 0 0, .int .i64 0]) 2 32 Try.underlying23 hi hz0 hz1 hz2 rfl (by decide) (.slice A2 n2 c2) n2 (sR hdC hs2) rfl (ho2.out.alloc _) (some ⟨w6.heap.size, 0, none⟩) 1 1 (hdC ⟨Ag, x1.l.length, cg, x1.v⟩) rfl (by intro e; cases e) (row_newS hdC_len w6 ⟨Ag, x1.l.length, cg, x1.v⟩ 40) (hdC_ones _) (n2 + 1) (sR hdC (hs2 ++ [⟨Ag, x1.l.length, cg, x1.v⟩])) rfl (by rw [sR_append, sR_one]) (by unfold maxLen; omega) (by omega) hs6.out ?_; intro v7 w7 hown7 hgrow7; obtain ⟨A7, c7, rfl, _, _, _⟩ := own_sliceS hown7)
                        have hr7 := ownRows_kept (ownRows_gr hrs6.out (gr_alloc w6 (.cells (hdC ⟨Ag, x1.l.length, cg, x1.v⟩).toArray 40) none)) (ho2.out.alloc _) hgrow7
                        have G8 : Gr w w7 := gr_of_below ((gr_below G7.out).grown hgrow7 G7.out.size (fun q hq => (ho2.out.lt q hq).1)) (Nat.le_refl _)
                        have hfin : OwnRs w7 w.heap.size (.slice A7 (n2 + 1) c7) (out ++ sliceR (l ++ [x1]) F tt j) := ⟨_, hr7, by rw [hln3.out]; exact hown7⟩
                        replace hfin := Lib.hid hfin
                        replace G8 := Lib.hid G8
                        clear hgrow7 hrs6 ho2 G7 hs6 hr7 hown7
                        go_wp2
                        go_roundw
                        case rel => exact ⟨q + 1, n2 + 1, l ++ [x1], t1, A7, c7, rfl, rfl, by go_num, hln3, Lib.hid (by omega), hget2, hfin, G8⟩
                        case measure => simp [intOf]; omega
                      · have hsl : sliceR (l ++ [x1]) F tt j = sliceR l F tt j := sliceR_out (by rw [hlq.out]; exact hin)
                        have hln3 : (out ++ sliceR (l ++ [x1]) F tt j).length = n2 := by rw [hsl]; exact hln2.out
                        rw [← hsl] at ho6
                        rw [← hw6]
                        replace ho6 := Lib.hid ho6
                        replace G6 := Lib.hid G6
                        replace hln3 := Lib.hid hln3
                        replace hget2 := Lib.hid hget2
                        clear hw6 ho4 hg4 hget g5 g6 hown hgr cG hsl
                        by_cases hF : F ≤ 8 * j + q
                        · have k3 : (F : Int) ≤ 8 * (j : Int) + (q : Int) := by omega
                          have k4 : ¬ 8 * (j : Int) + (q : Int) < (tt : Int) := by omega
                          clear hin
                          go_wp2
                          go_roundw
                          case rel => exact ⟨q + 1, n2, l ++ [x1], t1, A2, c2, rfl, rfl, by go_num, hln3, Lib.hid (by omega), hget2, ho6, G6⟩
                          case measure => simp [intOf]; omega
                        · have k3 : ¬ (F : Int) ≤ 8 * (j : Int) + (q : Int) := by omega
                          clear hin
                          go_wp2
                          go_roundw
                          case rel => exact ⟨q + 1, n2, l ++ [x1], t1, A2, c2, rfl, rfl, by go_num, hln3, Lib.hid (by omega), hget2, ho6, G6⟩
                          case measure => simp [intOf]; omega
                    · have hbn := blkA_stop hget.out hgr hqm
                      have hst4 := hst3.out
                      rw [hbn] at hst4
                      have hpn := pageB_none hst4 hj1.out
                      have hR2 := hR.out
                      rw [hpn] at hR2
                      simp only at hR2
                      replace hR2 := Lib.hid hR2
                      have G5 := gr_trans hg4.out g5
                      replace G5 := Lib.hid G5
                      clear hbn hst4 hpn hR hst3 hget hgr hg4 g5 ho4 cG
                      go_wp2
                      go_ret2
                      rw [hR2.out]
                      exact ⟨rfl, gr_trans G5.out (gr_alloc _ _ _)⟩
                  · obtain rfl : q = m8 := by have := hq.out; omega
                    have k12 : q = 8 ∨ 8 * j + q = al := by have := hm8.out; omega
                    by_cases hre : r = []
                    · subst hre
                      have hst4 := hst3.out
                      rw [blkA_yes hget.out] at hst4
                      simp only [Option.map_some] at hst4
                      have e0 : txt [] = ⟨#[]⟩ := rfl
                      rw [e0]
                      have hn8 : n2 ≤ 8 * (j + 1) := by
                        have h1 := sliceR_le l F tt j
                        have h2 := hln2.out
                        have h3 := hol.out
                        have h4 := hlen.out
                        rw [List.length_append] at h2
                        omega
                      replace hn8 := Lib.hid hn8
                      replace hst4 := Lib.hid hst4
                      replace hlq := Lib.hid hlq
                      clear hst3 hget hrx
                      by_cases hq8 : q = 8
                      · subst hq8
                        clear k12
                        go_wp2
                        go_roundw
                        case rel => exact ⟨j + 1, t, n2, _, A2, c2, by go_num, rfl, rfl, hln2, hj1, Lib.hid htl2, hn8, hst4, ho4, hg4⟩
                        case measure => simp [intOf]; omega
                      · have k1 : 8 * (j : Int) + (q : Int) < 8 * (j : Int) + 8 := by omega
                        have k2 : ¬ 8 * (j : Int) + (q : Int) < (al : Int) := by omega
                        clear k12
                        go_wp2
                        go_roundw
                        case rel => exact ⟨j + 1, t, n2, _, A2, c2, by go_num, rfl, rfl, hln2, hj1, Lib.hid htl2, hn8, hst4, ho4, hg4⟩
                        case measure => simp [intOf]; omega
                    · have hbn := blkA_more hget.out hre
                      have hst4 := hst3.out
                      rw [hbn] at hst4
                      have hpn := pageB_none hst4 hj1.out
                      have hR2 := hR.out
                      rw [hpn] at hR2
                      simp only at hR2
                      replace hR2 := Lib.hid hR2
                      have hre2 : r.isEmpty = false := by cases r with | nil => exact absurd rfl hre | cons _ _ => rfl
                      clear hbn hst4 hpn hR hst3 hget hre hrx hlq
                      by_cases hq8 : q = 8
                      · subst hq8
                        clear k12
                        go_wp2
                        go_ret2
                        rw [hR2.out]
                        exact ⟨rfl, hg4.out⟩
                      · have k1 : 8 * (j : Int) + (q : Int) < 8 * (j : Int) + 8 := by omega
                        have k2 : ¬ 8 * (j : Int) + (q : Int) < (al : Int) := by omega
                        clear k12
                        go_wp2
                        go_ret2
                        rw [hR2.out]
                        exact ⟨rfl, hg4.out⟩
            · have h0J : ((cd : Int) != 0) = true := by simp [hcd]
              have h0K : ((cd : Int) == 0) = false := eqF (by omega)
              have hnone := hst2.out
              rw [if_neg hcd] at hnone
              have hpn := pageB_none hnone hj1.out
              have hR2 := hR.out
              rw [hpn] at hR2
              simp only at hR2
              replace hR2 := Lib.hid hR2
              have hgo := hg.out
              replace hgo := Lib.hid hgo
              clear hst1 hst2 htl hnone hpn hcd hR hg ho hol
              go_wp2_with fail
              refine cT.out.mono ?_
              rintro e9 w3 ⟨rfl, g3⟩
              go_wp2
              go_ret2
              rw [hR2.out]
              exact ⟨rfl, gr_trans hgo.out g3⟩
          · have hjr : j = roundsP F tt := by
              have := hj.out
              unfold roundsP at this ⊢
              by_cases hF : F < tt
              · rw [if_pos hF] at this ⊢
                have h2 : ¬ 8 * j < tt := fun h => hlt ⟨h, hF⟩
                omega
              · rw [if_neg hF] at this ⊢
                omega
            have hpb : pageB al F tt rest = some out := by
              unfold pageB
              rw [← hjr, hst.out]
              rfl
            have hR2 := hR.out
            rw [hpb] at hR2
            simp only at hR2
            replace hR2 := Lib.hid hR2
            clear hst hpb hR hjr hj hol hrs
            by_cases h8 : 8 * j < tt
            · have hF : ¬ (F : Int) < (tt : Int) := fun h => hlt ⟨h8, by omega⟩
              have h8I : 8 * (j : Int) < (tt : Int) := by omega
              clear hlt
              go_wp2
              go_ret2
              rw [hR2.out]
              exact ⟨⟨A, c, by rw [hlen.out]; rfl, by rw [hlen.out]; exact ho.out⟩, hg.out⟩
            · have h8I : ¬ 8 * (j : Int) < (tt : Int) := by omega
              clear hlt
              go_wp2
              go_ret2
              rw [hR2.out]
              exact ⟨⟨A, c, by rw [hlen.out]; rfl, by rw [hlen.out]; exact ho.out⟩, hg.out⟩
end Go.Proofs.Ytoidfoalhkoajaa
