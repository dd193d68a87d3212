/-
  The document's Get: the row with which bytes begin, and the rest, or that there is none. No condition but a bound on the length.
-/
import Derived.Test.YtoidfoalhkoajaaRefGetMath
import Derived.Test.YtoidfoalhkoajaaRefNum
import Derived.Test.YtoidfoalhkoajaaRefRow
import Derived.Test.YtoidfoalhkoajaaLabelShort
namespace Go.Proofs.Ytoidfoalhkoajaa
open Go.RowKit

def RefGetPost (b : List UInt8) (w : World) (e : Ending) (w' : World) : Prop :=
  ((∃ r t A c, getR b = some (r, t) ∧ e = .returned (.tuple #[.agg #[.slice A r.l.length c, .int .i64 r.v], .string (txt t), .bool true]) ∧ w'.ownsRow w.heap.size 76 2 (.slice A r.l.length c) r.l.length (sR lblC r.l)) ∨
    (getR b = none ∧ e = .returned (.tuple #[.agg #[.slice none 0 0, .int .i64 0], .string ⟨#[]⟩, .bool false]))) ∧ Gr w w'
set_option maxHeartbeats 16000000 in
set_option maxRecDepth 100000 in
theorem refGet_any (b : List UInt8) (w : World) (hb : b.length ≤ 1000000) : Calls Try.prog 23 #[.string (txt b)] w (RefGetPost b w) := by
  obtain ⟨ii, hi, hz0, hz1, hz2⟩ := info_parts infoLb
  obtain ⟨W1, hW1⟩ : ∃ W1, W1 = w.alloc (.cells #[.slice none 0 0, .int .i64 0] 40) := ⟨_, rfl⟩
  obtain ⟨W0, hW0⟩ : ∃ W0, W0 = W1.alloc (.cells #[.slice none 0 0, .int .i64 0] 40) := ⟨_, rfl⟩
  have e1 : W1.heap.size = w.heap.size + 1 := by rw [hW1]; simp
  have hres : RwB W1 w.heap.size none 0 0 0 := by rw [hW1]; exact blk_new w _
  have g1 : Gr w W1 := by rw [hW1]; exact gr_alloc _ _ _
  have g0 : Gr W1 W0 := by rw [hW0]; exact gr_alloc _ _ _
  have st : GtAt w W0 [] none 0 0 := by
    refine ⟨gr_blk g0 hres (by simp), ?_, World.ownsRow_nil _ _ _ _, gr_below (gr_trans g1 g0), by rw [hW0]; simp; omega⟩
    have := blk_new W1 (.cells #[.slice none 0 0, .int .i64 0] 40)
    rw [← hW0, e1] at this
    exact this
  replace st := Lib.hid st
  go_enter Try.func23, Try.ntmps23
  go_upto_region 1 with fail
  rw [← hW1]
  clear hW1
  replace hW0 := Lib.hid hW0
  by_cases hbn : b = []
  · have hbe : b.isEmpty = true := by rw [hbn]; rfl
    have hth := rwb_there hres
    have hsame := World.rangeAt_setCells_same W1 w.heap.size 0 [.slice none 0 0, .int .i64 0] hth
    have r0 := hsame 0 _ rfl
    have r1' := hsame 1 _ rfl
    simp only [Nat.zero_add] at r0 r1'
    have hgs := gr_setCells W1 w.heap.size 0 [.slice none 0 0, .int .i64 0]
    have hgf : Gr w (W1.setCells w.heap.size 0 [.slice none 0 0, .int .i64 0]) := gr_of_below (below_gr (gr_below g1) hgs (by omega) (by intro k hk; cases hk; exact Nat.le_refl _)) (Nat.le_refl _)
    have hno2 : getR b = none := by rw [hbn]; rfl
    replace hno2 := Lib.hid hno2
    replace hgf := Lib.hid hgf
    clear hsame hgs hW0 hbn
    go_wp2_with (refine wpList_store_mid (op := ⟨none, _, _, _, _, _⟩) rfl 40 _ _ rfl w.heap.size 0 #[.slice none 0 0, .int .i64 0] rfl rfl hth infoRw (by simp [Value.oneCell']) ?_)
    (try simp only [Exit.inBlock, Exit.then])
    refine bodyPost_ret (by simp [results, Try.results23, go_sem, r0, r1']; try rfl) rfl ?_
    exact ⟨.inr ⟨hno2.out, rfl⟩, hgf.out⟩
  · have hbe : b.isEmpty = false := by rw [List.isEmpty_eq_false_iff]; exact hbn
    have hbl : 0 < b.length := List.length_pos_iff.2 hbn
    obtain ⟨n, hn⟩ : ∃ n, n = (b[0]).toNat := ⟨_, rfl⟩
    have hn256 : n < 256 := by rw [hn]; exact (b[0]).toNat_lt
    have hst : getR b = restR n [] (b.drop 1) := by
      rw [hn]
      cases b with
      | nil => exact absurd rfl hbn
      | cons c t => exact getR_rest c t
    have hget : (txt b)[0]'(by rw [txt_size]; exact hbl) = b[0] := by show b.toArray[0] = b[0]; simp
    replace hst := Lib.hid hst
    clear hres g1 g0
    go_upto_region 4 with fail
    rw [← hW0.out]
    clear hW0 hbe e1
    go_wp2_with fail
    go_loopw [7, 8] (fun pv iv wr => ∃ (p i : Nat) (L : List Lb) (A : Option Addr) (c : Nat), p ≤ b.length ∧ i ≤ 2 * n ∧ pv = .int .i64 p ∧ iv = .int .i64 i ∧ Hid (GtAt w wr L A c 0) ∧ Hid (ShortL2 L) ∧ Hid (InvG b n i p L)) (fun _ iv _ => 2 * n - (intOf iv).toNat)
    case atStart => exact ⟨1, 0, [], none, 0, by omega, Nat.zero_le _, rfl, rfl, st.out, (by intro x hx; simp at hx), .inl ⟨0, rfl, Nat.zero_le _, rfl, hst.out⟩⟩
    case round =>
      obtain ⟨p, i, L, A, c, hp, hi2, rfl, rfl, hgt, hsh, hinv⟩ := hrel
      by_cases hlt : i < 2 * n
      · have hii : (i : Int) < 2 * (n : Int) := by omega
        by_cases hpl : p < b.length
        · have hpi : (p : Int) < (b.length : Int) := by omega
          have hpd : decide ((b.length : Int) ≤ (p : Int)) = false := decide_eq_false (by omega)
          obtain ⟨m, hm⟩ : ∃ m, m = (b[p]).toNat := ⟨_, rfl⟩
          have hm256 : m < 256 := by rw [hm]; exact (b[p]).toNat_lt
          have hbt := (b[p]).toNat_lt
          have hpb : p < 1000000 := by omega
          have hget : (txt b)[p]'(by rw [txt_size]; exact hpl) = b[p] := by show b.toArray[p] = b[p]; simp
          have hta := takeT_at hpl
          rw [← hm] at hta
          by_cases hq : p + 1 + m ≤ b.length
          · rw [if_pos hq] at hta
            rw [hm] at hta hq
            clear hm hm256
            generalize b[p] = ch at *
            clear m
            obtain ⟨s, hs⟩ : ∃ s, s = (b.drop (p + 1)).take ch.toNat := ⟨_, rfl⟩
            have hsl : s.length = ch.toNat := by rw [hs, List.length_take, List.length_drop]; omega
            have hex : (txt b).extract (p + 1) (p + 1 + ch.toNat) = txt s := str_eq (by rw [Lib.extract_data, txt_data, hs]; congr 1; omega)
            rw [← hs, ← hsl] at hta
            have hs256 : s.length < 256 := by omega
            have hqb : p + 1 + s.length ≤ b.length := by omega
            have hqi : (p : Int) + 1 + (ch.toNat : Int) ≤ (b.length : Int) := by omega
            replace hta := Lib.hid hta
            replace hsl := Lib.hid hsl
            obtain ⟨o0, o1, of0, of1⟩ := rwb_cells hgt.out.out
            have hshs : ∀ z : Lb, z.n.length < 256 → z.v.length < 256 → ∀ M : List Lb, ShortL2 M → ShortL2 (M ++ [z]) := fun z h1 h2 M hM y hy => by
              rcases List.mem_append.1 hy with hy | hy
              · exact hM y hy
              · rw [List.mem_singleton.1 hy]; exact ⟨h1, h2⟩
            clear hs
            rcases hinv.out with ⟨k, hik, hkn, hLk, he⟩ | ⟨k, L0, x, hik, hkn, hLe, hLk, he⟩
            · have hmod : ((i : Int) % 2 == 0) = true := by rw [beq_iff_eq]; omega
              have hL8 : L.length ≤ 255 := by omega
              have hkn2 : k < n := by omega
              have hnx : getR b = restV (n - k - 1) L s (b.drop (p + 1 + s.length)) := by
                obtain ⟨q, hq⟩ : ∃ q, n - k = q + 1 := ⟨n - k - 1, by omega⟩
                rw [he, hq, restR_V hta.out]
                rfl
              replace hnx := Lib.hid hnx
              replace hik := Lib.hid hik
              replace hLk := Lib.hid hLk
              replace hshs := Lib.hid hshs
              clear he hinv o1 of1
              go_wp2_with (at_builtin; (refine wpList_append_own _ rfl _ _ 38 rfl (w.heap.size + 2) 76 ii (.agg #[.string ⟨#[]⟩, .string ⟨#[]⟩]) 2 32 Try.underlying38 hi hz0 hz1 hz2 rfl (by decide) (.slice A L.length c) L.length (sR lblC L) rfl (hgt.out.own.alloc _) ⟨wr.heap.size, 0, none⟩ 1 1 (lblC ⟨s, []⟩) rfl ?c0 ?c1 ?c2 ?c3 ?c4 ?c5 ?_); rotate_right; intro v' w6 hown6 hgrow _nl; clear _nl; obtain ⟨A6, c6, rfl, _, _⟩ := own_openS hown6; have hap := gtAt_app hgt.out hown6 hgrow; obtain ⟨p0, p1, pf0, pf1⟩ := rwb_cells hap.1; have st7 := hap.2; clear hap hown6 hgrow; replace st7 := Lib.hid st7)
              case c0 => rfl
              case c1 =>
                intro j u hj
                match j, hj with
                | 0, hj => simp [lblC] at hj; subst hj; rw [add_plain, World.cell?_alloc_new]; rfl
                | 1, hj => simp [lblC] at hj; subst hj; rw [add_plain, World.cell?_alloc_new]; rfl
                | j + 2, hj => simp [lblC] at hj
              case c2 => exact lblC_ones _
              case c3 => unfold maxLen; omega
              case c4 => omega
              case c5 => have := hgt.out.size; simp; omega
              go_roundw
              case rel => exact ⟨p + 1 + s.length, i + 1, L ++ [(⟨s, []⟩ : Lb)], A6, c6, by omega, by omega, by go_num, by go_num, st7.out, hshs.out _ (by show s.length < 256; omega) (by show ([] : List UInt8).length < 256; decide) _ hsh.out, .inr ⟨k, L, s, by have := hik.out; omega, hkn2, rfl, hLk.out, hnx.out⟩⟩
              case measure => simp [intOf]; omega
            · have hmod : ((i : Int) % 2 == 0) = false := by rw [beq_eq_false_iff_ne]; omega
              subst hLe
              obtain ⟨g, rfl, hfz, ⟨old, hold⟩, st7⟩ := gtAt_val hgt.out s
              have hl1 : (L0 ++ [(⟨x, []⟩ : Lb)]).length = L0.length + 1 := by simp
              rw [hl1] at o0
              have hL8 : L0.length < 255 := by omega
              have hnx : getR b = restR (n - (k + 1)) (L0 ++ [⟨x, s⟩]) (b.drop (p + 1 + s.length)) := by
                rw [he, restV_some hta.out]
                rfl
              have hxl : x.length < 256 := (hsh.out ⟨x, []⟩ (by simp)).1
              replace hnx := Lib.hid hnx
              replace hik := Lib.hid hik
              replace hLk := Lib.hid hLk
              replace st7 := Lib.hid st7
              replace hshs := Lib.hid hshs
              clear he hinv o1 of1 hl1
              go_wp2
              go_roundw
              case rel => exact ⟨p + 1 + s.length, i + 1, L0 ++ [(⟨x, s⟩ : Lb)], _, c, by omega, by omega, by go_num, by go_num, st7.out, hshs.out _ hxl (by show s.length < 256; omega) _ (fun y hy => hsh.out y (List.mem_append_left _ hy)), .inl ⟨k + 1, by have := hik.out; omega, by omega, by have := hLk.out; simp; omega, hnx.out⟩⟩
              case measure => simp [intOf]; omega
          · rw [if_neg hq] at hta
            have hqi : (b.length : Int) < (p : Int) + 1 + (m : Int) := by omega
            have hno := invG_no hinv.out hlt hta
            rw [hm] at hq hqi
            clear hta hinv hm hm256
            have hth := rwb_there hgt.out.res
            have hsame := World.rangeAt_setCells_same wr w.heap.size 0 [.slice none 0 0, .int .i64 0] hth
            have r0 := hsame 0 _ rfl
            have r1' := hsame 1 _ rfl
            simp only [Nat.zero_add] at r0 r1'
            have hgs := gr_setCells wr w.heap.size 0 [.slice none 0 0, .int .i64 0]
            have hgf : Gr w (wr.setCells w.heap.size 0 [.slice none 0 0, .int .i64 0]) := gr_of_below (below_gr hgt.out.bel hgs (Nat.le_trans (by omega) hgt.out.size) (by intro k hk; cases hk; exact Nat.le_refl _)) (Nat.le_refl _)
            replace hno := Lib.hid hno
            replace hgf := Lib.hid hgf
            clear hsame hgs
            go_wp2_with (refine wpList_store_mid (op := ⟨none, _, _, _, _, _⟩) rfl 40 _ _ rfl w.heap.size 0 #[.slice none 0 0, .int .i64 0] rfl rfl hth infoRw (by simp [Value.oneCell']) ?_)
            (try simp only [Exit.inBlock, Exit.then])
            refine bodyPost_ret (by simp [results, Try.results23, go_sem, r0, r1']; try rfl) rfl ?_
            exact ⟨.inr ⟨hno.out, rfl⟩, hgf.out⟩
        · have hpi : (b.length : Int) ≤ (p : Int) := by omega
          have hno := invG_no hinv.out hlt (takeT_end (by omega))
          clear hinv
          have hth := rwb_there hgt.out.res
          have hsame := World.rangeAt_setCells_same wr w.heap.size 0 [.slice none 0 0, .int .i64 0] hth
          have r0 := hsame 0 _ rfl
          have r1' := hsame 1 _ rfl
          simp only [Nat.zero_add] at r0 r1'
          have hgs := gr_setCells wr w.heap.size 0 [.slice none 0 0, .int .i64 0]
          have hgf : Gr w (wr.setCells w.heap.size 0 [.slice none 0 0, .int .i64 0]) := gr_of_below (below_gr hgt.out.bel hgs (Nat.le_trans (by omega) hgt.out.size) (by intro k hk; cases hk; exact Nat.le_refl _)) (Nat.le_refl _)
          replace hno := Lib.hid hno
          replace hgf := Lib.hid hgf
          clear hsame hgs
          go_wp2_with (refine wpList_store_mid (op := ⟨none, _, _, _, _, _⟩) rfl 40 _ _ rfl w.heap.size 0 #[.slice none 0 0, .int .i64 0] rfl rfl hth infoRw (by simp [Value.oneCell']) ?_)
          (try simp only [Exit.inBlock, Exit.then])
          refine bodyPost_ret (by simp [results, Try.results23, go_sem, r0, r1']; try rfl) rfl ?_
          exact ⟨.inr ⟨hno.out, rfl⟩, hgf.out⟩
      · obtain rfl : i = 2 * n := by omega
        have hki : ∃ k, n = k ∧ L.length = k ∧ getR b = finR L (b.drop p) := by
          rcases hinv.out with ⟨k, hik, hkn, hLk, he⟩ | ⟨k, L0, x, hik, hkn, hLe, hLk, he⟩
          · obtain rfl : n = k := by omega
            rw [Nat.sub_self] at he
            exact ⟨n, rfl, hLk, by rw [he]; show finR (L ++ []) _ = _; rw [List.append_nil]⟩
          · omega
        obtain ⟨k, hnk, hLk, he⟩ := hki
        have hLn : L.length ≤ 255 := by omega
        clear hinv hnk hLk
        by_cases h6 : p + 6 ≤ b.length
        · have h6i : (p : Int) + 6 ≤ (b.length : Int) := by omega
          have hpb : p < 1000000 := by omega
          obtain ⟨t6, ht6⟩ : ∃ t6, t6 = (b.drop p).take 6 := ⟨_, rfl⟩
          have hex : (txt b).extract p (p + 6) = txt t6 := str_eq (by rw [Lib.extract_data, txt_data, ht6]; congr 1; omega)
          have hexr : (txt b).extract (p + 6) b.length = txt (b.drop (p + 6)) := by
            have := ext_end (txt b) (p + 6)
            rw [txt_size] at this
            exact str_eq this
          have hl6 : t6.length = 6 := by rw [ht6, List.length_take, List.length_drop]; omega
          have hv := dvN_lt t6
          rw [hl6] at hv
          obtain ⟨N, hN⟩ : ∃ N, N = dvN t6 := ⟨_, rfl⟩
          rw [← hN] at hv
          obtain ⟨V, hV⟩ : ∃ V : Int, V = (N : Int) - 1000000000000 := ⟨_, rfl⟩
          have hfin : getR b = if okR ⟨L, V⟩ then some (⟨L, V⟩, b.drop (p + 6)) else none := by
            rw [he]
            unfold finR
            rw [← ht6, ← hN, ← hV, List.drop_drop]
            by_cases ho : okR ⟨L, V⟩
            · rw [if_pos ⟨by rw [List.length_drop]; omega, ho⟩, if_pos ho]
            · rw [if_neg (fun k => ho k.2), if_neg ho]
          have hval := refNum_any t6 wr (by omega)
          rw [← hN] at hval
          have hVr : -9223372036854775808 ≤ V ∧ V ≤ 9223372036854775807 := by omega
          replace hV := Lib.hid hV
          replace hval := Lib.hid hval
          replace hfin := Lib.hid hfin
          clear he ht6 hN
          go_wp2_with fail
          refine hval.out.mono ?_
          rintro e w2 ⟨rfl, rfl⟩
          obtain ⟨o0, o1, of0, of1⟩ := rwb_cells hgt.out.out
          have st3 := gtAt_v hgt.out V
          clear hval
          replace st3 := Lib.hid st3
          go_upto_region 19 with fail
          rw [← hV.out]
          generalize wr.setCell ⟨w.heap.size + 1, 1, none⟩ (.int .i64 V) = w3 at *
          clear o0 o1 of0 of1
          obtain ⟨o0, o1, of0, of1⟩ := rwb_cells st3.out.out
          have hR := refRow_any A L.length c L V w3 (by omega) (row_own st3.out.own) (fun x hx => by have := hsh.out x hx; omega)
          by_cases hok : okR ⟨L, V⟩
          · rw [decide_eq_true hok] at hR
            have hyes := hfin.out
            rw [if_pos hok] at hyes
            replace hyes := Lib.hid hyes
            replace hR := Lib.hid hR
            replace hok := Lib.hid hok
            clear hfin
            go_wp2_with fail
            refine hR.out.mono ?_
            rintro e w4 ⟨rfl, g4⟩
            have st4 := gtAt_gr st3.out g4
            clear hR g4 o0 o1 of0 of1
            obtain ⟨o0, o1, of0, of1⟩ := rwb_cells st4.out
            obtain ⟨p0, p1, pf0, pf1⟩ := rwb_cells st4.res
            replace st4 := Lib.hid st4
            go_upto_region 21 with fail
            go_region
            all_goals
              have g5 : GrB w.heap.size w4 (((w4.setCell ⟨w.heap.size, 0, none⟩ (.slice A L.length c)).setCell ⟨w.heap.size, 1, none⟩ (.int .i64 V)).drew) := gr_trans (gr_trans (gr_set w4 ⟨w.heap.size, 0, none⟩ _) (gr_set _ ⟨w.heap.size, 1, none⟩ _)) (gr_drew _ _)
              have h5 : RwB (((w4.setCell ⟨w.heap.size, 0, none⟩ (.slice A L.length c)).setCell ⟨w.heap.size, 1, none⟩ (.int .i64 V)).drew) w.heap.size A L.length c V := blk_set (blk_set st4.out.res 0 _) 1 _
              generalize ((w4.setCell ⟨w.heap.size, 0, none⟩ (.slice A L.length c)).setCell ⟨w.heap.size, 1, none⟩ (.int .i64 V)).drew = w5 at *
              have ho5 := own_mono (st4.out.own.kept g5 (.inr (fun e => by have := (st4.out.own.lt _ e).1; omega))) (show w.heap.size ≤ w.heap.size + 2 by omega)
              have hgf : Gr w w5 := gr_of_below (below_gr st4.out.bel g5 (Nat.le_trans (by omega) st4.out.size) (by intro k hk; cases hk; exact Nat.le_refl _)) (Nat.le_refl _)
              have r0 := (rwb_cells h5).1
              have r1' := (rwb_cells h5).2.1
              replace ho5 := Lib.hid ho5
              replace hgf := Lib.hid hgf
              clear h5 g5 st4 p0 p1 pf0 pf1 o0 o1 of0 of1
              go_wp2
              (try simp only [Exit.inBlock, Exit.then])
              refine bodyPost_ret (by simp [results, Try.results23, go_sem, r0, r1']; try rfl) rfl ?_
              exact ⟨.inl ⟨⟨L, V⟩, _, A, c, hyes.out, by rw [hexr], ho5.out⟩, hgf.out⟩
          · rw [decide_eq_false hok] at hR
            have hno := hfin.out
            rw [if_neg hok] at hno
            replace hR := Lib.hid hR
            replace hok := Lib.hid hok
            clear hfin
            go_wp2_with fail
            refine hR.out.mono ?_
            rintro e w4 ⟨rfl, g4⟩
            have st4 := gtAt_gr st3.out g4
            replace st4 := Lib.hid st4
            clear hR g4 o0 o1 of0 of1
            have hth := rwb_there st4.out.res
            have hsame := World.rangeAt_setCells_same w4 w.heap.size 0 [.slice none 0 0, .int .i64 0] hth
            have r0 := hsame 0 _ rfl
            have r1' := hsame 1 _ rfl
            simp only [Nat.zero_add] at r0 r1'
            have hgs := gr_setCells w4 w.heap.size 0 [.slice none 0 0, .int .i64 0]
            have hgf : Gr w (w4.setCells w.heap.size 0 [.slice none 0 0, .int .i64 0]) := gr_of_below (below_gr st4.out.bel hgs (Nat.le_trans (by omega) st4.out.size) (by intro k hk; cases hk; exact Nat.le_refl _)) (Nat.le_refl _)
            replace hno := Lib.hid hno
            replace hgf := Lib.hid hgf
            clear hsame hgs
            go_wp2_with (refine wpList_store_mid (op := ⟨none, _, _, _, _, _⟩) rfl 40 _ _ rfl w.heap.size 0 #[.slice none 0 0, .int .i64 0] rfl rfl hth infoRw (by simp [Value.oneCell']) ?_)
            (try simp only [Exit.inBlock, Exit.then])
            refine bodyPost_ret (by simp [results, Try.results23, go_sem, r0, r1']; try rfl) rfl ?_
            exact ⟨.inr ⟨hno.out, rfl⟩, hgf.out⟩
        · have h6i : (b.length : Int) < (p : Int) + 6 := by omega
          have hpb : p ≤ 1000000 := by omega
          have hno : getR b = none := by
            rw [he]
            unfold finR
            rw [if_neg (fun k => h6 (by have := k.1; rw [List.length_drop] at this; omega))]
          clear he
          have hth := rwb_there hgt.out.res
          have hsame := World.rangeAt_setCells_same wr w.heap.size 0 [.slice none 0 0, .int .i64 0] hth
          have r0 := hsame 0 _ rfl
          have r1' := hsame 1 _ rfl
          simp only [Nat.zero_add] at r0 r1'
          have hgs := gr_setCells wr w.heap.size 0 [.slice none 0 0, .int .i64 0]
          have hgf : Gr w (wr.setCells w.heap.size 0 [.slice none 0 0, .int .i64 0]) := gr_of_below (below_gr hgt.out.bel hgs (Nat.le_trans (by omega) hgt.out.size) (by intro k hk; cases hk; exact Nat.le_refl _)) (Nat.le_refl _)
          replace hno := Lib.hid hno
          replace hgf := Lib.hid hgf
          clear hsame hgs
          go_wp2_with (refine wpList_store_mid (op := ⟨none, _, _, _, _, _⟩) rfl 40 _ _ rfl w.heap.size 0 #[.slice none 0 0, .int .i64 0] rfl rfl hth infoRw (by simp [Value.oneCell']) ?_)
          (try simp only [Exit.inBlock, Exit.then])
          refine bodyPost_ret (by simp [results, Try.results23, go_sem, r0, r1']; try rfl) rfl ?_
          exact ⟨.inr ⟨hno.out, rfl⟩, hgf.out⟩
end Go.Proofs.Ytoidfoalhkoajaa
