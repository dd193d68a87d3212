/-
  What the document's Tidy and Right answer of labels. No condition but bounds on the lengths.
-/
import Derived.Test.YtbnacoakjhhndaaGreatRefTidyMath
import Derived.Test.YtbnacoakjhhndaaGreatRefLabel
import Derived.Test.YtbnacoakjhhndaaGreatInsReg
import Derived.Test.YtbnacoakjhhndaaGreatGlyphRefName
namespace Go.Proofs.YtbnacoakjhhndaaGreat
open Go.RowKit

def RefTidyPost (n : Nat) (zs : List Lb) (w : World) (e : Ending) (w' : World) : Prop :=
  ((∃ v z1, e = .returned (.tuple #[v, .bool true]) ∧ z1.Perm zs ∧ Rising z1 ∧ okTidy zs ∧ w'.ownsRow w.heap.size 77 2 v n (sR lblC z1)) ∨ (e = .returned (.tuple #[.slice none 0 0, .bool false]) ∧ ¬ okTidy zs)) ∧ Gr w w'
theorem take_snoc {zs : List Lb} {k : Nat} {x : Lb} (hx : zs[k]? = some x) : zs.take (k + 1) = zs.take k ++ [x] := by
  obtain ⟨h1, h2⟩ := List.getElem?_eq_some_iff.1 hx
  rw [List.take_succ_eq_append_getElem h1, h2]
set_option maxHeartbeats 32000000 in
set_option maxRecDepth 100000 in
theorem refTidy_any (A : Option Addr) (n c : Nat) (zs : List Lb) (w : World) (hn : n ≤ 1000000000) (hz : Row w A n 2 (sR lblC zs)) (hsh : ∀ x ∈ zs, x.n.length ≤ 1000000 ∧ x.v.length ≤ 1000000) :
    Calls Tryz.prog 106 #[.slice A n c] w (RefTidyPost n zs w) := by
  obtain ⟨ii, hi, hz0, hz1, hz2⟩ := info_parts infoLb
  have hl : zs.length = n := by have := hz.1; rw [sR_len lblC 2 lblC_len] at this; omega
  replace hl := Lib.hid hl
  replace hz := Lib.hid hz
  replace hsh := Lib.hid hsh
  go_enter Tryz.func106, Tryz.ntmps106
  by_cases h8 : n ≤ 8
  · have h8i : ((8 : Int) < (n : Int)) = False := eq_false (by omega)
    go_wp2
    go_loopw [4, 5] (fun ov iv wr => ∃ (k : Nat) (z1 : List Lb) (A' : Option Addr) (c' : Nat), k ≤ n ∧ iv = .int .i64 k ∧ ov = .slice A' k c' ∧ Hid (z1.Perm (zs.take k)) ∧ Hid (Rising z1) ∧ Hid (∀ x ∈ zs.take k, okLb x) ∧ Hid (wr.ownsRow w.heap.size 77 2 (.slice A' k c') k (sR lblC z1)) ∧ Hid (Gr w wr)) (fun _ iv _ => n - (intOf iv).toNat)
    case atStart => exact ⟨0, [], none, 0, Nat.zero_le _, rfl, rfl, (by show List.Perm _ _; simp), trivial, (by intro x hx; simp at hx), World.ownsRow_nil _ _ _ _, gr_refl _ _⟩
    case round =>
      obtain ⟨k, z1, A', c', hk, rfl, rfl, hp, hri, hokl, ho, hg⟩ := hrel
      have hz1l : z1.length = k := by rw [hp.out.length_eq, List.length_take, hl.out]; omega
      obtain ⟨A'', c'', hve, hkc, hcm, hnone⟩ := own_sliceS ho.out
      injection hve with e1 _ e2
      subst e1 e2
      replace hnone := Lib.hid hnone
      by_cases hlt : k < n
      · obtain ⟨x, gA, oA, hx, rfl, _, ha⟩ := rowS_elem lblC_len (row_gr hz.out hg.out) (by decide) hlt
        obtain ⟨a0, a1⟩ := two_cells ha
        have hki : (k : Int) < (n : Int) := by omega
        have hk0 : (0 : Int) ≤ (k : Int) := by omega
        have hxm := List.mem_of_getElem? hx
        obtain ⟨hx1, hx2⟩ := hsh.out x hxm
        have hnm : ∀ W, Calls Tryz.prog 116 #[.string (txt x.n)] W fun e w' => e = .returned (.bool (isName x.n)) ∧ Gr W w' := fun W => refName_any x.n W (by omega)
        have hbad : ¬ okLb x → ¬ okTidy zs := fun h kk => h (kk.2.1 x hxm)
        replace hbad := Lib.hid hbad
        have a0' := a0
        have a1' := a1
        replace a0' := Lib.hid a0'
        replace a1' := Lib.hid a1'
        replace hx := Lib.hid hx
        clear ha
        by_cases hn1 : isName x.n = true
        · rw [hn1] at hnm
          replace hnm := Lib.hid hnm
          go_wp2_with fail
          refine (hnm.out _).mono ?_
          rintro e w2 ⟨rfl, g2⟩
          have c0 := gr_cell g2 a0
          have c1 := gr_cell g2 a1
          clear a0 a1
          by_cases hv : x.v = []
          · have hv2 : x.v.isEmpty = true := by rw [hv]; rfl
            have hno := hbad.out (fun q => by have := q.2.1; rw [hv] at this; simp at this)
            replace hno := Lib.hid hno
            replace hv := Lib.hid hv
            go_wp2
            go_ret2
            exact ⟨.inr ⟨rfl, hno.out⟩, gr_trans hg.out g2⟩
          · have hv2 : x.v.isEmpty = false := by rw [List.isEmpty_eq_false_iff]; exact hv
            have hvl : 1 ≤ x.v.length := Nat.pos_of_ne_zero (fun q => hv (List.eq_nil_of_length_eq_zero q))
            replace hv := Lib.hid hv
            by_cases hv60 : 60 < x.v.length
            · have hvi : (60 : Int) < (x.v.length : Int) := by omega
              have hno := hbad.out (fun q => by have := q.2.2; omega)
              replace hno := Lib.hid hno
              go_wp2
              go_ret2
              exact ⟨.inr ⟨rfl, hno.out⟩, gr_trans hg.out g2⟩
            · have hvi : ((60 : Int) < (x.v.length : Int)) = False := eq_false (by omega)
              have hgood : okLb x := ⟨hn1, hvl, by omega⟩
              have hokn : ∀ y ∈ zs.take (k + 1), okLb y := fun y hy => by
                rw [take_snoc hx.out] at hy
                rcases List.mem_append.1 hy with hy | hy
                · exact hokl.out y hy
                · rw [List.mem_singleton.1 hy]; exact hgood
              have ho2 := ho.out.kept g2 (Classical.em _)
              have G2 := gr_trans hg.out g2
              replace hokn := Lib.hid hokn
              replace hgood := Lib.hid hgood
              replace ho2 := Lib.hid ho2
              replace G2 := Lib.hid G2
              clear hbad hokl g2 a0' a1'
              go_wp2
              replace c0 := Lib.hid c0
              replace c1 := Lib.hid c1
              go_loopw [6] (fun jv W => ∃ q : Nat, q ≤ k ∧ jv = .int .i64 q ∧ Hid (∀ y ∈ z1.take q, ltT y.n x.n) ∧ Hid (Gr w2 W)) (fun jv _ => k - (intOf jv).toNat)
              case atStart => exact ⟨0, Nat.zero_le _, rfl, (by intro y hy; simp at hy), gr_refl _ _⟩
              case round =>
                obtain ⟨q, hq, rfl, hle, hgi⟩ := hrel
                have hq0 : (0 : Int) ≤ (q : Int) := by omega
                have hqc : (q : Int) ≤ (c' : Int) := by omega
                have hqk' : (q : Int) ≤ (k : Int) := by omega
                have d0 : ∀ p : Grown wr, p.wd.cell? ⟨gA, oA + k * 2, none⟩ = some (.string (txt x.n)) := fun p => cell_to (gr_cell hgi.out c0.out) p
                by_cases hqk : q < k
                · obtain ⟨y, gB, oB, hy, rfl, _, hb⟩ := rowS_elem lblC_len (row_own (ho2.out.kept hgi.out (Classical.em _))) (by decide) hqk
                  obtain ⟨b0, b1⟩ := two_cells hb
                  have hqi : (q : Int) < (k : Int) := by omega
                  have d1 : ∀ p : Grown wr, p.wd.cell? ⟨gB, oB + q * 2, none⟩ = some (.string (txt y.n)) := fun p => cell_to b0 p
                  clear hb
                  replace b0 := Lib.hid b0
                  replace b1 := Lib.hid b1
                  by_cases hlt2 : ltT y.n x.n
                  · have hls : Op.bytesLess y.n x.n = true := by rw [less_eq]; exact decide_eq_true hlt2
                    have hle2 : ∀ u ∈ z1.take (q + 1), ltT u.n x.n := fun u hu => by
                      rw [take_snoc hy] at hu
                      rcases List.mem_append.1 hu with hu | hu
                      · exact hle.out u hu
                      · rw [List.mem_singleton.1 hu]; exact hlt2
                    replace hle2 := Lib.hid hle2
                    replace hlt2 := Lib.hid hlt2
                    clear hy
                    go_wp2_with fail
                    refine wp_region_quiet_gr (by kernel_rfl) (by kernel_rfl) ?_
                    repeat (go_big_quiet_step (fail))
                    refine wpQuiet_nil ?_
                    intro wq hwq
                    obtain ⟨⟨wp, gq⟩, rfl⟩ := hwq
                    go_wp2
                    go_roundw
                    case rel => exact ⟨q + 1, by omega, by go_num, hle2.out, gr_trans hgi.out gq⟩
                    case measure => simp [intOf]; omega
                  · have hls : Op.bytesLess y.n x.n = false := by rw [less_eq]; exact decide_eq_false hlt2
                    go_wp2_with fail
                    refine wp_region_quiet_gr (by kernel_rfl) (by kernel_rfl) ?_
                    repeat (go_big_quiet_step (fail))
                    refine wpQuiet_nil ?_
                    intro wq hwq
                    obtain ⟨⟨wp, gq⟩, rfl⟩ := hwq
                    have d0' : ∀ p : Grown wq, p.wd.cell? ⟨gA, oA + k * 2, none⟩ = some (.string (txt x.n)) := fun p => cell_to (gr_cell (gr_trans hgi.out gq) c0.out) p
                    have d1' : ∀ p : Grown wq, p.wd.cell? ⟨gB, oB + q * 2, none⟩ = some (.string (txt y.n)) := fun p => cell_to (gr_cell gq b0.out) p
                    clear d0 d1 hls
                    by_cases hyx : y.n = x.n
                    · have hq2 : (y.n == x.n) = true := by rw [hyx]; exact beq_self_eq_true _
                      have hno := not_tidy_dup hp.out hx.out (List.mem_of_getElem? hy) hyx
                      replace hno := Lib.hid hno
                      replace hyx := Lib.hid hyx
                      clear hlt2
                      go_wp2_with fail
                      refine wp_region_quiet_gr (by kernel_rfl) (by kernel_rfl) ?_
                      repeat (go_big_quiet_step (fail))
                      refine wpQuiet_nil ?_
                      intro wo3 hW3
                      obtain ⟨⟨wp2, gq2⟩, rfl⟩ := hW3
                      go_wp2
                      go_ret2
                      exact ⟨.inr ⟨rfl, hno.out⟩, gr_trans G2.out (gr_trans hgi.out (gr_trans gq gq2))⟩
                    · have hq2 : (y.n == x.n) = false := beq_eq_false_iff_ne.2 hyx
                      have hxy : ltT x.n y.n := by
                        rcases ltT_tri x.n y.n with h | h | h
                        · exact h
                        · exact absurd h.symm hyx
                        · exact absurd h hlt2
                      have hrn := rising_ins hri.out hle.out (fun u hu => by rw [hy] at hu; rw [← Option.some.inj hu]; exact hxy)
                      have hpn : (z1.take q ++ [x] ++ z1.drop q).Perm (zs.take (k + 1)) := by rw [take_snoc hx.out]; exact (ins_perm q x).trans (hp.out.append_right [x])
                      replace hrn := Lib.hid hrn
                      replace hpn := Lib.hid hpn
                      clear hlt2 hyx hxy hy
                      go_wp2_with fail
                      refine wp_region_quiet_gr (by kernel_rfl) (by kernel_rfl) ?_
                      repeat (go_big_quiet_step (fail))
                      refine wpQuiet_nil ?_
                      intro wo3 hW3
                      obtain ⟨⟨wp2, gq2⟩, rfl⟩ := hW3
                      have hg23 := gr_trans hgi.out (gr_trans gq gq2)
                      have h0 := gr_cell hg23 c0.out
                      have h1 := gr_cell hg23 c1.out
                      have ho3 := ho2.out.kept hg23 (Classical.em _)
                      have hrt : Row wo3 (some ⟨gB, oB, none⟩) q 2 (sR lblC (z1.take q)) := by rw [sR_take lblC 2 lblC_len]; exact row_take (row_own ho3) q hq
                      have hrd : ∀ _u : Unit, Row wo3 (if c' = q then some ⟨gB, oB, none⟩ else some ⟨gB, oB + q * 2, none⟩) (k - q) 2 (sR lblC (z1.drop q)) := fun _ => by
                        have h9 := row_rest lblC_len (by decide) (row_own ho3) hq hkc
                        by_cases hcq : c' = q
                        · rw [if_pos hcq] at h9 ⊢; exact h9
                        · rw [if_neg hcq] at h9 ⊢
                          rw [show (Option.map (fun z => z.add (q * 2)) (some (⟨gB, oB, none⟩ : Addr))) = some ⟨gB, oB + q * 2, none⟩ from congrArg some (add_plain gB oB (q * 2))] at h9
                          exact h9
                      have hao : ∀ _u : Unit, (if c' = q then some (⟨gB, oB, none⟩ : Addr) else some ⟨gB, oB + q * 2, none⟩) = none → c' - q = 0 := fun _ h => by split at h <;> cases h
                      have hGw := gr_trans G2.out hg23
                      replace h0 := Lib.hid h0
                      replace h1 := Lib.hid h1
                      replace hrt := Lib.hid hrt
                      replace hrd := Lib.hid hrd
                      replace hao := Lib.hid hao
                      replace hGw := Lib.hid hGw
                      clear d0' d1' hq2 ho3 hg23 gq gq2
                      go_wp2_with fail
                      have hb0 : SL wo3 gA (oA + k * 2) (.string (txt x.n)) (.string (txt x.v)) wo3 := sl_of h0.out h1.out (gr_refl _ _)
                      go_region_held3 (fun w' => Gr wo3 w' ∧ w'.cell? ⟨gA, oA + k * 2, none⟩ = some (.string (txt x.n)) ∧ w'.cell? ⟨gA, oA + k * 2 + 1, none⟩ = some (.string (txt x.v))) (first | assumption | exact sl_drew (wo := wo3) (B := gA) (o := oA + k * 2) (u0 := .string (txt x.n)) (u1 := .string (txt x.v)) (by assumption) | exact sl_alloc (wo := wo3) (B := gA) (o := oA + k * 2) (u0 := .string (txt x.n)) (u1 := .string (txt x.v)) (by assumption) _) (first | (refine step_append_rowS (o := ⟨some 79, _, _, _, _, _⟩) (by rfl) _ _ 32 (by rfl) wo3.heap.size 77 ii (.agg #[.string ⟨#[]⟩, .string ⟨#[]⟩]) 2 32 Tryz.underlying32 hi hz0 hz1 hz2 rfl (by decide) (.slice none 0 0) (0) ([]) (by rfl) (by exact World.ownsRow_nil _ _ _ _) _ _ _ (sR lblC (z1.take q)) (by rfl) (by exact hnone.out) (by exact row_gr hrt.out (sl_gr (show SL wo3 gA (oA + k * 2) (.string (txt x.n)) (.string (txt x.v)) _ from by assumption))) (lbls_ones _) (q) (sR lblC (z1.take q)) (by omega) (by rfl) (by unfold maxLen; omega) (by omega) (by exact (sl_gr (show SL wo3 gA (oA + k * 2) (.string (txt x.n)) (.string (txt x.v)) _ from by assumption)).size) ?_; intro v1 W1 hown1 hgrow1; have hsf1 := sl_grown h0.out h1.out (show SL wo3 gA (oA + k * 2) (.string (txt x.n)) (.string (txt x.v)) _ from by assumption) hgrow1 (by simp [Value.ownBlock])) | (refine step_append_rowS (o := ⟨some 85, _, _, _, _, _⟩) (by rfl) _ _ 32 (by rfl) wo3.heap.size 77 ii (.agg #[.string ⟨#[]⟩, .string ⟨#[]⟩]) 2 32 Tryz.underlying32 hi hz0 hz1 hz2 rfl (by decide) v1 (q) (sR lblC (z1.take q)) (by rfl) (by first | exact hown1 | exact hown1.alloc _ | exact (hown1.kept (gr_drew W1 none) (Classical.em _)).alloc _ | exact (hown1.alloc _).kept (gr_drew _ none) (Classical.em _)) _ _ _ (lblC x) (by rfl) (by intro e; cases e) (by first | exact row_newS lblC_len W1 x 77 | exact row_gr (by exact row_heapS (w := wo3.alloc (.cells (lblC x).toArray 77)) (by rfl) (row_newS lblC_len wo3 x 77)) hgrow1 | exact row_gr (row_newS lblC_len W1 x 77) (gr_drew _ none)) (lblC_ones _) (q + 1) (sR lblC (z1.take q ++ [x])) (by omega) (by rw [sR_append, sR_one]) (by unfold maxLen; omega) (by omega) (by exact (sl_gr (show SL wo3 gA (oA + k * 2) (.string (txt x.n)) (.string (txt x.v)) _ from by assumption)).size) ?_; intro v2 W2 hown2 hgrow2; have hsf2 := sl_grown h0.out h1.out (show SL wo3 gA (oA + k * 2) (.string (txt x.n)) (.string (txt x.v)) _ from by assumption) hgrow2 (fun j hj => (hown1.lt j hj).1)) | (refine step_append_rowS (o := ⟨some 89, _, _, _, _, _⟩) (by rfl) _ _ 32 (by rfl) wo3.heap.size 77 ii (.agg #[.string ⟨#[]⟩, .string ⟨#[]⟩]) 2 32 Tryz.underlying32 hi hz0 hz1 hz2 rfl (by decide) v2 (q + 1) (sR lblC (z1.take q ++ [x])) (by rfl) (by first | exact hown2 | exact hown2.kept (gr_drew W2 none) (Classical.em _)) _ _ _ (sR lblC (z1.drop q)) (by rfl) (by exact hao.out ()) (by exact row_gr (hrd.out ()) (sl_gr (show SL wo3 gA (oA + k * 2) (.string (txt x.n)) (.string (txt x.v)) _ from by assumption))) (lbls_ones _) (k + 1) (sR lblC (z1.take q ++ [x] ++ z1.drop q)) (by omega) (by rw [sR_append lblC (z1.take q ++ [x])]) (by unfold maxLen; omega) (by omega) (by exact (sl_gr (show SL wo3 gA (oA + k * 2) (.string (txt x.n)) (.string (txt x.v)) _ from by assumption)).size) ?_; intro v3 W3 hown3 hgrow3; have hsf3 := sl_grown h0.out h1.out (show SL wo3 gA (oA + k * 2) (.string (txt x.n)) (.string (txt x.v)) _ from by assumption) hgrow3 (fun j hj => (hown2.lt j hj).1)))
                      all_goals
                        obtain ⟨A3, c3, rfl, hc31, _, hn3⟩ := own_sliceS hown3
                        have hG3 := sl_gr (wo := wo3) (B := gA) (o := oA + k * 2) (u0 := .string (txt x.n)) (u1 := .string (txt x.v)) hsf3
                        have hG4 := gr_trans hGw.out hG3
                        have hown4 := own_mono hown3 hGw.out.size
                        replace hG4 := Lib.hid hG4
                        replace hown4 := Lib.hid hown4
                        clear hown3 hgrow3 hown2 hgrow2 hown1 hgrow1 hsf1 hsf2 hsf3 hb0 hG3
                        go_wp2
                        go_roundw
                        case rel => exact ⟨k + 1, z1.take q ++ [x] ++ z1.drop q, A3, c3, by omega, by go_num, rfl, hpn.out, hrn.out, hokn.out, hown4.out, hG4.out⟩
                        case measure => simp [intOf]; omega
                · have hqe : q = k := by omega
                  have hqf : ((q : Int) < (k : Int)) = False := eq_false (by omega)
                  have hqf2 : (q < k) = False := eq_false hqk
                  have hrn := rising_ins hri.out hle.out (fun u hu => by have := (List.getElem?_eq_some_iff.1 hu).1; omega)
                  have hpn : (z1.take q ++ [x] ++ z1.drop q).Perm (zs.take (k + 1)) := by rw [take_snoc hx.out]; exact (ins_perm q x).trans (hp.out.append_right [x])
                  replace hrn := Lib.hid hrn
                  replace hpn := Lib.hid hpn
                  replace hqe := Lib.hid hqe
                  go_wp2_with fail
                  refine wp_region_quiet_gr (by kernel_rfl) (by kernel_rfl) ?_
                  repeat (go_big_quiet_step (fail))
                  refine wpQuiet_nil ?_
                  intro wq hwq
                  obtain ⟨⟨wp, gq⟩, rfl⟩ := hwq
                  clear d0
                  go_wp2_with fail
                  refine wp_region_quiet_gr (by kernel_rfl) (by kernel_rfl) ?_
                  repeat (go_big_quiet_step (fail))
                  refine wpQuiet_nil ?_
                  intro wo3 hW3
                  obtain ⟨⟨wp2, gq2⟩, rfl⟩ := hW3
                  have hg23 := gr_trans hgi.out (gr_trans gq gq2)
                  have h0 := gr_cell hg23 c0.out
                  have h1 := gr_cell hg23 c1.out
                  have ho3 := ho2.out.kept hg23 (Classical.em _)
                  have hrt : Row wo3 A' q 2 (sR lblC (z1.take q)) := by rw [sR_take lblC 2 lblC_len]; exact row_take (row_own ho3) q hq
                  have hrd : ∀ _u : Unit, Row wo3 (if c' = q then A' else Option.map (fun z => z.add (q * 2)) A') (k - q) 2 (sR lblC (z1.drop q)) := fun _ => row_rest lblC_len (by decide) (row_own ho3) hq hkc
                  have hao : ∀ _u : Unit, (if c' = q then A' else Option.map (fun z => z.add (q * 2)) A') = none → c' - q = 0 := fun _ h => by
                    have h9 := hnone.out
                    cases A' with
                    | none => have := h9 rfl; omega
                    | some a' => split at h <;> simp at h
                  have hGw := gr_trans G2.out hg23
                  replace h0 := Lib.hid h0
                  replace h1 := Lib.hid h1
                  replace hrt := Lib.hid hrt
                  replace hrd := Lib.hid hrd
                  replace hao := Lib.hid hao
                  replace hGw := Lib.hid hGw
                  clear ho3 hg23 gq gq2
                  go_wp2_with fail
                  have hb0 : SL wo3 gA (oA + k * 2) (.string (txt x.n)) (.string (txt x.v)) wo3 := sl_of h0.out h1.out (gr_refl _ _)
                  go_region_held3 (fun w' => Gr wo3 w' ∧ w'.cell? ⟨gA, oA + k * 2, none⟩ = some (.string (txt x.n)) ∧ w'.cell? ⟨gA, oA + k * 2 + 1, none⟩ = some (.string (txt x.v))) (first | assumption | exact sl_drew (wo := wo3) (B := gA) (o := oA + k * 2) (u0 := .string (txt x.n)) (u1 := .string (txt x.v)) (by assumption) | exact sl_alloc (wo := wo3) (B := gA) (o := oA + k * 2) (u0 := .string (txt x.n)) (u1 := .string (txt x.v)) (by assumption) _) (first | (refine step_append_rowS (o := ⟨some 79, _, _, _, _, _⟩) (by rfl) _ _ 32 (by rfl) wo3.heap.size 77 ii (.agg #[.string ⟨#[]⟩, .string ⟨#[]⟩]) 2 32 Tryz.underlying32 hi hz0 hz1 hz2 rfl (by decide) (.slice none 0 0) (0) ([]) (by rfl) (by exact World.ownsRow_nil _ _ _ _) _ _ _ (sR lblC (z1.take q)) (by rfl) (by exact hnone.out) (by exact row_gr hrt.out (sl_gr (show SL wo3 gA (oA + k * 2) (.string (txt x.n)) (.string (txt x.v)) _ from by assumption))) (lbls_ones _) (q) (sR lblC (z1.take q)) (by omega) (by rfl) (by unfold maxLen; omega) (by omega) (by exact (sl_gr (show SL wo3 gA (oA + k * 2) (.string (txt x.n)) (.string (txt x.v)) _ from by assumption)).size) ?_; intro v1 W1 hown1 hgrow1; have hsf1 := sl_grown h0.out h1.out (show SL wo3 gA (oA + k * 2) (.string (txt x.n)) (.string (txt x.v)) _ from by assumption) hgrow1 (by simp [Value.ownBlock])) | (refine step_append_rowS (o := ⟨some 85, _, _, _, _, _⟩) (by rfl) _ _ 32 (by rfl) wo3.heap.size 77 ii (.agg #[.string ⟨#[]⟩, .string ⟨#[]⟩]) 2 32 Tryz.underlying32 hi hz0 hz1 hz2 rfl (by decide) v1 (q) (sR lblC (z1.take q)) (by rfl) (by first | exact hown1 | exact hown1.alloc _ | exact (hown1.kept (gr_drew W1 none) (Classical.em _)).alloc _ | exact (hown1.alloc _).kept (gr_drew _ none) (Classical.em _)) _ _ _ (lblC x) (by rfl) (by intro e; cases e) (by first | exact row_newS lblC_len W1 x 77 | exact row_gr (by exact row_heapS (w := wo3.alloc (.cells (lblC x).toArray 77)) (by rfl) (row_newS lblC_len wo3 x 77)) hgrow1 | exact row_gr (row_newS lblC_len W1 x 77) (gr_drew _ none)) (lblC_ones _) (q + 1) (sR lblC (z1.take q ++ [x])) (by omega) (by rw [sR_append, sR_one]) (by unfold maxLen; omega) (by omega) (by exact (sl_gr (show SL wo3 gA (oA + k * 2) (.string (txt x.n)) (.string (txt x.v)) _ from by assumption)).size) ?_; intro v2 W2 hown2 hgrow2; have hsf2 := sl_grown h0.out h1.out (show SL wo3 gA (oA + k * 2) (.string (txt x.n)) (.string (txt x.v)) _ from by assumption) hgrow2 (fun j hj => (hown1.lt j hj).1)) | (refine step_append_rowS (o := ⟨some 89, _, _, _, _, _⟩) (by rfl) _ _ 32 (by rfl) wo3.heap.size 77 ii (.agg #[.string ⟨#[]⟩, .string ⟨#[]⟩]) 2 32 Tryz.underlying32 hi hz0 hz1 hz2 rfl (by decide) v2 (q + 1) (sR lblC (z1.take q ++ [x])) (by rfl) (by first | exact hown2 | exact hown2.kept (gr_drew W2 none) (Classical.em _)) _ _ _ (sR lblC (z1.drop q)) (by rfl) (by exact hao.out ()) (by exact row_gr (hrd.out ()) (sl_gr (show SL wo3 gA (oA + k * 2) (.string (txt x.n)) (.string (txt x.v)) _ from by assumption))) (lbls_ones _) (k + 1) (sR lblC (z1.take q ++ [x] ++ z1.drop q)) (by omega) (by rw [sR_append lblC (z1.take q ++ [x])]) (by unfold maxLen; omega) (by omega) (by exact (sl_gr (show SL wo3 gA (oA + k * 2) (.string (txt x.n)) (.string (txt x.v)) _ from by assumption)).size) ?_; intro v3 W3 hown3 hgrow3; have hsf3 := sl_grown h0.out h1.out (show SL wo3 gA (oA + k * 2) (.string (txt x.n)) (.string (txt x.v)) _ from by assumption) hgrow3 (fun j hj => (hown2.lt j hj).1)))
                  all_goals
                    obtain ⟨A3, c3, rfl, hc31, _, hn3⟩ := own_sliceS hown3
                    have hG3 := sl_gr (wo := wo3) (B := gA) (o := oA + k * 2) (u0 := .string (txt x.n)) (u1 := .string (txt x.v)) hsf3
                    have hG4 := gr_trans hGw.out hG3
                    have hown4 := own_mono hown3 hGw.out.size
                    replace hG4 := Lib.hid hG4
                    replace hown4 := Lib.hid hown4
                    clear hown3 hgrow3 hown2 hgrow2 hown1 hgrow1 hsf1 hsf2 hsf3 hb0 hG3
                    go_wp2
                    go_roundw
                    case rel => exact ⟨k + 1, z1.take q ++ [x] ++ z1.drop q, A3, c3, by omega, by go_num, rfl, hpn.out, hrn.out, hokn.out, hown4.out, hG4.out⟩
                    case measure => simp [intOf]; omega
        · have hn0 : isName x.n = false := by simpa using hn1
          rw [hn0] at hnm
          have hno := hbad.out (fun q => hn1 q.1)
          replace hno := Lib.hid hno
          replace hnm := Lib.hid hnm
          go_wp2_with fail
          refine (hnm.out _).mono ?_
          rintro e w2 ⟨rfl, g2⟩
          go_wp2
          go_ret2
          exact ⟨.inr ⟨rfl, hno.out⟩, gr_trans hg.out g2⟩
      · obtain rfl : k = n := by omega
        have hpz := hp.out
        rw [List.take_of_length_le (by rw [hl.out]; exact Nat.le_refl _)] at hpz
        have hokz := hokl.out
        rw [List.take_of_length_le (by rw [hl.out]; exact Nat.le_refl _)] at hokz
        have htd := okTidy_of (by rw [hl.out]; exact h8) hpz hri.out hokz
        replace htd := Lib.hid htd
        replace hpz := Lib.hid hpz
        clear hokz
        go_wp2
        go_ret2
        exact ⟨.inl ⟨_, z1, rfl, hpz.out, hri.out, htd.out, ho.out⟩, hg.out⟩
  · have h8i : (8 : Int) < (n : Int) := by omega
    have hnt : ¬ okTidy zs := fun k => by have := k.1; rw [hl.out] at this; omega
    replace hnt := Lib.hid hnt
    go_wp2
    go_ret2
    exact ⟨.inr ⟨rfl, hnt.out⟩, gr_refl _ _⟩
end Go.Proofs.YtbnacoakjhhndaaGreat
