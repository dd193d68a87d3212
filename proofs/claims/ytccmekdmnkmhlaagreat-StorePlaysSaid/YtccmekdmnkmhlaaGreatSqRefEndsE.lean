/-
  The document's Ends: again and again. No condition but a bound.
-/
import Derived.Test.YtccmekdmnkmhlaaGreatAMX
namespace Go.Proofs.YtccmekdmnkmhlaaGreat
open Go.RowKit

/-- What follows the last statement of a sequence, as a variable. -/
theorem wp_thenE {P : Program} {c : Code} {Q : Exit → Act → World → Prop} {a : Act} {w : World} (h : ∀ K : Act → World → Prop, (∀ a w, Q .normal a w → K a w) → c.wp P (Exit.then K Q) a w) : c.wp P Q a w :=
  Code.wp_mono (fun e a w hq => by cases e <;> exact hq) (h (Q .normal) (fun _ _ h => h))
theorem grB_newE {P b : Nat} {w V V' : World} (h : GrB P w V) (k : GrB b V V') (hb : w.heap.size ≤ b) : GrB P w V' :=
  ⟨by rw [k.os, h.os], by rw [k.tape, h.tape], by rw [k.output, h.output], Nat.le_trans h.size k.size, fun i hi hn => by rw [k.block i (Nat.lt_of_lt_of_le hi h.size) (by simp; omega), h.block i hi hn]⟩
theorem any_take {l : List Bool} {k : Nat} {b : Bool} (h : l[k]? = some b) : (l.take (k + 1)).any id = ((l.take k).any id || b) := by
  rw [List.take_add_one, h, List.any_append]
  simp
theorem anyE_no {l : List Bool} (h : l.any id = false) : ∀ j : Nat, l[j]? ≠ some true := fun j hj => by
  have := List.any_eq_false.1 h true (List.mem_of_getElem? hj)
  simp at this
theorem anyE_yes {l : List Bool} (h : l.any id = true) : ∃ j : Nat, l[j]? = some true := by
  obtain ⟨b, hb, h1⟩ := List.any_eq_true.1 h
  have : b = true := h1
  subst this
  exact List.getElem?_of_mem hb
/-- How many of block I's first N are not true. -/
def cntW (w : World) (I N : Nat) : Nat := cntF ((List.range N).map fun k => match w.cell? ⟨I, k, none⟩ with | some (.bool b) => b | _ => false)
theorem cntW_at {w : World} {I N : Nat} {bs : List Bool} (h : BoolAt w I bs) (hl : bs.length = N) : cntW w I N = cntF bs := by
  unfold cntW
  congr 1
  apply List.ext_getElem?
  intro k
  rw [List.getElem?_map]
  by_cases hk : k < N
  · obtain ⟨b, hb⟩ := at_some (l := bs) (j := k) (by omega)
    rw [List.getElem?_range hk, Option.map_some, bool_cell h hb, hb]
  · rw [List.getElem?_eq_none (by rw [List.length_range]; omega), List.getElem?_eq_none (by omega)]
    rfl
def flagN : Value → Nat
  | .bool true => 1
  | _ => 0
/-- While new ones are looked for: k places have been looked at. -/
structure InI (out fr now out1 fr1 : List Bool) (N k : Nat) : Prop where
  lo : out1.length = N
  lf : fr1.length = N
  ao : ∀ (j : Nat) (a b : Bool), j < k → out[j]? = some a → now[j]? = some b → out1[j]? = some (a || b)
  af : ∀ (j : Nat) (a b : Bool), j < k → out[j]? = some a → now[j]? = some b → fr1[j]? = some (b && !a)
  bo : ∀ j : Nat, k ≤ j → out1[j]? = out[j]?
  bf : ∀ j : Nat, k ≤ j → j < N → fr1[j]? = some false
theorem inI_same {out fr now out1 fr1 : List Bool} {N k : Nat} {a b : Bool} (h : InI out fr now out1 fr1 N k) (hk : k < N) (ha : out[k]? = some a) (hb : now[k]? = some b) (hab : (b && !a) = false) : InI out fr now out1 fr1 N (k + 1) := by
  refine ⟨h.lo, h.lf, fun j a' b' hj h1 h2 => ?_, fun j a' b' hj h1 h2 => ?_, fun j hj => h.bo j (by omega), fun j hj hn => h.bf j (by omega) hn⟩
  · by_cases hjk : j = k
    · subst hjk
      rw [ha] at h1; rw [hb] at h2
      obtain rfl := Option.some.inj h1
      obtain rfl := Option.some.inj h2
      rw [h.bo j (Nat.le_refl _), ha]
      cases a <;> cases b <;> simp_all
    · exact h.ao j a' b' (by omega) h1 h2
  · by_cases hjk : j = k
    · subst hjk
      rw [ha] at h1; rw [hb] at h2
      obtain rfl := Option.some.inj h1
      obtain rfl := Option.some.inj h2
      rw [h.bf j (Nat.le_refl _) hk, hab]
    · exact h.af j a' b' (by omega) h1 h2
theorem inI_new {out fr now out1 fr1 : List Bool} {N k : Nat} (h : InI out fr now out1 fr1 N k) (hk : k < N) (ha : out[k]? = some false) (hb : now[k]? = some true) : InI out fr now (out1.set k true) (fr1.set k true) N (k + 1) := by
  refine ⟨by rw [List.length_set, h.lo], by rw [List.length_set, h.lf], fun j a' b' hj h1 h2 => ?_, fun j a' b' hj h1 h2 => ?_, fun j hj => by rw [List.getElem?_set_ne (by omega)]; exact h.bo j (by omega), fun j hj hn => by rw [List.getElem?_set_ne (by omega)]; exact h.bf j (by omega) hn⟩
  · by_cases hjk : j = k
    · subst hjk
      rw [ha] at h1; rw [hb] at h2
      obtain rfl := Option.some.inj h1
      obtain rfl := Option.some.inj h2
      rw [List.getElem?_set_self (by rw [h.lo]; exact hk)]; rfl
    · rw [List.getElem?_set_ne (by omega)]
      exact h.ao j a' b' (by omega) h1 h2
  · by_cases hjk : j = k
    · subst hjk
      rw [ha] at h1; rw [hb] at h2
      obtain rfl := Option.some.inj h1
      obtain rfl := Option.some.inj h2
      rw [List.getElem?_set_self (by rw [h.lf]; exact hk)]; rfl
    · rw [List.getElem?_set_ne (by omega)]
      exact h.af j a' b' (by omega) h1 h2
theorem any_set {l : List Bool} {k : Nat} (h : k < l.length) : (l.set k true).any id = true := by
  rw [List.any_eq_true]
  exact ⟨true, List.mem_of_getElem? (List.getElem?_set_self h), rfl⟩
theorem inI_cnt {out fr now out1 fr1 : List Bool} {N : Nat} (h : InI out fr now out1 fr1 N N) (hl : out.length = N) (hn : now.length = N) : 2 * cntF out1 + flagN (.bool (fr1.any id)) < 2 * cntF out + 1 := by
  have up : ∀ k : Nat, out[k]? = some true → out1[k]? = some true := fun k hk => by
    have hk2 := (List.getElem?_eq_some_iff.1 hk).1
    obtain ⟨b, hb⟩ := at_some (l := now) (j := k) (by omega)
    rw [h.ao k true b (by omega) hk hb]
    rfl
  have hle := cnt_le (l := out) (l' := out1) (by rw [hl, h.lo]) up
  cases hany : fr1.any id with
  | false => show 2 * cntF out1 + 0 < _; omega
  | true =>
    obtain ⟨k, hk⟩ := anyE_yes hany
    have hk2 := (List.getElem?_eq_some_iff.1 hk).1
    rw [h.lf] at hk2
    obtain ⟨b, hb⟩ := at_some (l := now) (j := k) (by omega)
    obtain ⟨a, ha⟩ := at_some (l := out) (j := k) (by omega)
    rw [h.af k a b hk2 ha hb] at hk
    have h1 : (b && !a) = true := Option.some.inj hk
    have h2 : a = false := by cases a <;> simp_all
    subst h2
    have h3 : b = true := by simpa using h1
    subst h3
    have hlt := cnt_lt (l := out) (l' := out1) (by rw [hl, h.lo]) up ⟨k, ha, by rw [h.ao k false true hk2 ha hb]; rfl⟩
    show 2 * cntF out1 + 1 < _
    omega
/-- What again and again starts from. -/
def StartIs (x : T) (s : List Int) (mk st : List Bool) : Bool → Prop
  | true => st = mk
  | false => EndsIs x s mk st
set_option maxHeartbeats 16000000 in
set_option maxRecDepth 100000 in
theorem ends_c6 (X : Nat) (pA : Option Addr) (np pc : Nat) (ps : List Prt) (s : List Int) (sA : Option Addr) (sc : Nat) (n : Nat) (p : Prt) (hp : ps[n]? = some p) (hsl : s.length ≤ 1000000) (a : Nat) (nn ag : Bool) (hk : p.k = 6 ∧ p.a = (a : Int) ∧ p.least = (if nn then 0 else 1) ∧ p.once = !ag) (hna : nn = true ∨ ag = true) (x : T) (IHx : EndsC X pA np pc ps s sA sc x a) : EndsC X pA np pc ps s sA sc (.rep x nn ag) n := by
  intro mk I c w hE hnode hI hmk
  have hnx := node_rep hnode hp hk.2.1
  replace hnx := Lib.hid hnx
  obtain ⟨ii, hi, hz0, hz1, hz2⟩ := info_parts infoBool
  obtain ⟨N, hN⟩ : ∃ N, N = s.length + 1 := ⟨_, rfl⟩
  have hnp : n < np := by
    have h1 := (List.getElem?_eq_some_iff.1 hp).1
    have h2 := hE.prow.1
    rw [sR_len prtC 9 prtC_len] at h2
    omega
  obtain ⟨p', B, o, hp', hBo, _, hc⟩ := rowS_elem prtC_len hE.prow (by decide) hnp
  obtain rfl : p' = p := by
    have h1 : ps[n]? = some p' := hp'
    rw [hp] at h1
    exact (Option.some.inj h1).symm
  subst hBo
  obtain ⟨pk, pr, lA, ln, lc, hA, hn, hcc, pno, qa, qb, least, once⟩ := p'
  simp only at hk
  replace hk := Lib.hid hk
  have e0 : w.cell? ⟨B, o + n * 9, none⟩ = some (.int .i64 pk) := hc 0 (by decide)
  have e1 : w.cell? ⟨B, o + n * 9 + 1, none⟩ = some (.int .i32 pr) := hc 1 (by decide)
  have e2 : w.cell? ⟨B, o + n * 9 + 2, none⟩ = some (.slice lA ln lc) := hc 2 (by decide)
  have e3 : w.cell? ⟨B, o + n * 9 + 3, none⟩ = some (.slice hA hn hcc) := hc 3 (by decide)
  have e4 : w.cell? ⟨B, o + n * 9 + 4, none⟩ = some (.bool pno) := hc 4 (by decide)
  have e5 : w.cell? ⟨B, o + n * 9 + 5, none⟩ = some (.int .i64 qa) := hc 5 (by decide)
  have e6 : w.cell? ⟨B, o + n * 9 + 6, none⟩ = some (.int .i64 qb) := hc 6 (by decide)
  have e7 : w.cell? ⟨B, o + n * 9 + 7, none⟩ = some (.int .i64 least) := hc 7 (by decide)
  have e8 : w.cell? ⟨B, o + n * 9 + 8, none⟩ = some (.bool once) := hc 8 (by decide)
  clear hc
  have hni : (n : Int) < (np : Int) := by omega
  have hn0 : (0 : Int) ≤ (n : Int) := by omega
  have hN0 : 0 < N := by omega
  have hNm : N ≤ 1000001 := by omega
  have hIlt := lt_of_blk hI
  have kx := hE.cell
  have hb64 : -9223372036854775808 ≤ (s.length : Int) + 1 ∧ (s.length : Int) + 1 ≤ 9223372036854775807 := by omega
  have hNq : (s.length : Int) + 1 = (N : Int) := by omega
  have hNi : IntKind.i64.wrap ((s.length : Int) + 1) = (N : Int) := (IntWalk.i64_in _ hb64).trans hNq
  clear hb64 hNq
  rw [← hN] at hmk ⊢
  replace hN := Lib.hid hN
  replace hE := Lib.hid hE
  replace hI := Lib.hid hI
  replace hnode := Lib.hid hnode
  replace hp := Lib.hid hp
  replace hmk := Lib.hid hmk
  replace hIlt := Lib.hid hIlt
  clear hp'
  go_enter Tryz.func128, Tryz.ntmps128
  go_upto_region 2 with (at_make; refine wpList_make_full _ rfl _ _ 129 rfl w.heap.size 4 ii (.bool false) 1 Tryz.underlying129 hi hz0 hz1 .i64 .i64 N N N rfl rfl rfl rfl ?b2 ?b3 (Nat.le_refl _) ?_; rotate_right; intro W1 hown1 hg1; have hb1 := made_bools hN0 hown1; have kx1 := gr_cell hg1 kx; have d0 := gr_cell hg1 e0; have d1 := gr_cell hg1 e1; have d2 := gr_cell hg1 e2; have d3 := gr_cell hg1 e3; have d4 := gr_cell hg1 e4; have d5 := gr_cell hg1 e5; have d6 := gr_cell hg1 e6; have d7 := gr_cell hg1 e7; have d8 := gr_cell hg1 e8; replace hown1 := Lib.hid hown1; replace hb1 := Lib.hid hb1; replace hg1 := Lib.hid hg1)
  case b2 => first | omega | (rw [hz2]; omega)
  case b3 => unfold maxLen; omega
  clear e0 e1 e2 e3 e4 e5 e6 e7 e8 kx hown1
  obtain ⟨W2, hW2⟩ : ∃ W2, W2 = W1.alloc (.cells #[.int .i64 pk, .int .i32 pr, .slice lA ln lc, .slice hA hn hcc, .bool pno, .int .i64 qa, .int .i64 qb, .int .i64 least, .bool once] 194) := ⟨_, rfl⟩
  obtain ⟨pb, hpb⟩ : ∃ pb, pb = W1.heap.size := ⟨_, rfl⟩
  have g2 : Gr W1 W2 := by rw [hW2]; exact gr_alloc _ _ _
  have hpbn : w.heap.size < pb := by rw [hpb]; exact lt_of_blk hb1.out
  have hPB : W2.heap[pb]? = some (.cells #[.int .i64 pk, .int .i32 pr, .slice lA ln lc, .slice hA hn hcc, .bool pno, .int .i64 qa, .int .i64 qb, .int .i64 least, .bool once] 194 (0, 0)) := by rw [hW2, hpb]; exact blk_new _ _
  have G2 := gr_trans hg1.out g2
  have hI0 : BoolAt W2 w.heap.size (List.replicate N false) := gr_blk g2 hb1.out (by simp)
  have hI2 : BoolAt W2 I mk := gr_blk G2 hI.out (by simp)
  have hE2 := eh_gr hE.out G2
  have hnode2 := nodeE_gr hnode.out G2
  replace hPB := Lib.hid hPB
  replace G2 := Lib.hid G2
  replace hI0 := Lib.hid hI0
  replace hI2 := Lib.hid hI2
  replace hE2 := Lib.hid hE2
  replace hnode2 := Lib.hid hnode2
  replace hpbn := Lib.hid hpbn
  clear hb1 hg1 g2
  go_upto_region 3 with fail
  rw [← hW2, ← hpb]
  replace hW2 := Lib.hid hW2
  replace hpb := Lib.hid hpb
  clear kx1 d0 d1 d2 d3 d4 d5 d6 d7 d8 hni hn0
  have c0 : W2.cell? ⟨pb, 0, none⟩ = some (.int .i64 pk) := blk_cell hPB.out rfl
  obtain ⟨rfl, rfl, hlst, rfl⟩ := hk.out
  replace hlst := Lib.hid hlst
  have cX : ∀ (mk' : List Bool) (J cj : Nat) (W : World), Gr w W → BoolAt W J mk' → mk'.length = s.length + 1 → Calls Tryz.prog 128 #[.pointer (some ⟨X, 0, none⟩), .int .i64 a, .slice sA s.length sc, .slice (some ⟨J, 0, none⟩) N cj] W (EndsPost N x s mk' W) := fun mk' J cj W g hb hl => by
    have h := IHx mk' J cj W (eh_gr hE.out g) (nodeE_gr hnx.out g) hb hl
    rw [← hN.out] at h
    exact h
  unfold EndsPost at cX
  replace cX := Lib.hid cX
  have c5 : W2.cell? ⟨pb, 5, none⟩ = some (.int .i64 a) := blk_cell hPB.out rfl
  have c7 : W2.cell? ⟨pb, 7, none⟩ = some (.int .i64 least) := blk_cell hPB.out rfl
  go_upto_if 36 with fail
  clear c0 c7
  go_cut [15] (fun fv wx => ∃ J cj st, fv = .slice (some ⟨J, 0, none⟩) N cj ∧ Hid (BoolAt wx J st) ∧ Hid (st.length = N) ∧ Hid (StartIs x s mk st nn) ∧ Hid (Gr W2 wx) ∧ Hid (J ≠ w.heap.size))
  case first =>
    cases nn with
    | true =>
      have h0 : least = 0 := hlst.out
      subst h0
      go_wp2_with fail
      go_meet
      exact ⟨I, c, mk, rfl, hI2, hmk, Lib.hid rfl, Lib.hid (gr_refl _ _), Lib.hid (by have := hIlt.out; omega)⟩
    | false =>
      have h0 : least = 1 := hlst.out
      subst h0
      go_wp2_with fail
      refine (cX.out mk I c W2 G2.out hI2.out (by rw [hmk.out, hN.out])).mono ?_
      rintro e W3 ⟨J, cj, st, rfl, hJ, hB, hE5, g3⟩
      have hl : st.length = N := by rw [hE5.1, hN.out]
      have hjn : J ≠ w.heap.size := by have := lt_of_blk hI0.out; omega
      replace hJ := Lib.hid hJ
      replace hB := Lib.hid hB
      replace hE5 := Lib.hid hE5
      replace g3 := Lib.hid g3
      replace hl := Lib.hid hl
      replace hjn := Lib.hid hjn
      go_wp2_with fail
      go_meet
      exact ⟨J, cj, st, rfl, hB, hl, hE5, g3, hjn⟩
  case rest =>
  obtain ⟨J, cj, st, rfl, hB3, hst, hstart, hg3, hJn⟩ := hcut
  obtain ⟨W3, hW3⟩ : ∃ W3, W3 = wc := ⟨_, rfl⟩
  rw [← hW3] at hB3 hg3 ⊢
  clear hW3 c5
  have hI3 : BoolAt W3 w.heap.size (List.replicate N false) := gr_blk hg3.out hI0.out (by simp)
  have hcp := fun ty => run_bools W3 ty w.heap.size J N N cj _ st hI3 hB3.out (by rw [List.length_replicate]) hst.out
  have hb4 := bool_copy hI3 (show (List.replicate N false).length = st.length by rw [List.length_replicate, hst.out])
  obtain ⟨W4, hW4⟩ : ∃ W4, W4 = W3.setCells w.heap.size 0 (st.map .bool) := ⟨_, rfl⟩
  have g4 : GrB w.heap.size W3 W4 := by rw [hW4]; exact gr_setCells _ _ _ _
  rw [← hW4] at hb4
  have hJ4 : BoolAt W4 J st := gr_blk g4 hB3.out (by simp; exact hJn.out)
  have hg4 : GrB w.heap.size W2 W4 := gr_trans (gr_more _ hg3.out) g4
  replace hb4 := Lib.hid hb4
  replace hJ4 := Lib.hid hJ4
  replace hg4 := Lib.hid hg4
  replace hW4 := Lib.hid hW4
  clear hI3 g4 hB3 hg3
  go_upto_block 1 with (at_builtin; refine wpList_copy_runK _ rfl _ _ 129 129 rfl _ _ rfl rfl (hcp _) ?_)
  rw [← hW4.out]
  clear hcp
  go_cut [16] (fun mv wx => mv = .bool (st.any id) ∧ Hid (Gr W4 wx))
  case first =>
    go_wp2_with fail
    go_loopw [16, 17] (fun mv iv wr => ∃ k : Nat, k ≤ N ∧ mv = .bool ((st.take k).any id) ∧ iv = .int .i64 k ∧ Hid (Gr W4 wr)) (fun _ iv _ => N - (intOf iv).toNat)
    case atStart => exact ⟨0, Nat.zero_le _, by rw [List.take_zero]; rfl, rfl, gr_refl _ _⟩
    case round =>
      obtain ⟨k, hk, rfl, rfl, hg⟩ := hrel
      by_cases hlt : k < N
      · have hNe := hN.out
        have hki : (k : Int) ≤ (s.length : Int) := by omega
        have hkN : (k : Int) < (N : Int) := by omega
        have hk0 : (0 : Int) ≤ (k : Int) := by omega
        obtain ⟨b, hb⟩ := at_some (l := st) (j := k) (by rw [hst.out]; exact hlt)
        have xb : wr.cell? ⟨J, k, none⟩ = some (.bool b) := bool_cell (gr_blk hg.out hJ4.out (by simp)) hb
        have htk := any_take hb
        generalize hany : (st.take k).any id = m at htk ⊢
        replace htk := Lib.hid htk
        replace hany := Lib.hid hany
        replace hb := Lib.hid hb
        replace hNe := Lib.hid hNe
        cases m with
        | true =>
          have hnx : (st.take (k + 1)).any id = true := by rw [htk.out]; rfl
          replace hnx := Lib.hid hnx
          go_wp2
          go_roundw
          case rel => exact ⟨k + 1, by omega, by rw [hnx.out], by go_num, hg⟩
          case measure => simp [intOf]; omega
        | false =>
          have hnx : (st.take (k + 1)).any id = b := by rw [htk.out]; rfl
          replace hnx := Lib.hid hnx
          go_wp2
          go_roundw
          case rel => exact ⟨k + 1, by omega, by rw [hnx.out], by go_num, hg⟩
          case measure => simp [intOf]; omega
      · have hNe := hN.out
        have hki : ((k : Int) ≤ (s.length : Int)) = False := eq_false (by omega)
        have htk : st.take k = st := List.take_of_length_le (by rw [hst.out]; omega)
        rw [htk]
        replace htk := Lib.hid htk
        replace hNe := Lib.hid hNe
        go_wp2_with fail
        go_meet
        exact ⟨rfl, hg⟩
  case rest =>
  obtain ⟨rfl, hg5⟩ := hcut
  obtain ⟨W5, hW5⟩ : ∃ W5, W5 = wc := ⟨_, rfl⟩
  rw [← hW5] at hg5 ⊢
  clear hW5
  have hO5 : BoolAt W5 w.heap.size st := gr_blk hg5.out hb4.out (by simp)
  have hJ5 : BoolAt W5 J st := gr_blk hg5.out hJ4.out (by simp)
  have hW25 : GrB w.heap.size W2 W5 := gr_trans hg4.out (gr_more _ hg5.out)
  have hR5 : RepI x s st st st := rep_start x (by rw [hst.out, hN.out])
  have hJlt := lt_of_blk hJ5
  replace hO5 := Lib.hid hO5
  replace hJ5 := Lib.hid hJ5
  replace hW25 := Lib.hid hW25
  replace hR5 := Lib.hid hR5
  replace hJlt := Lib.hid hJlt
  clear hg5 hJ4 hb4 hg4
  go_upto_block 3 with fail
  refine wp_thenE ?_
  intro KK hKK
  go_cut [16] (fun _mv wx => ∃ out, Hid (BoolAt wx w.heap.size out) ∧ Hid (EndsIs (.rep x nn ag) s mk out) ∧ Hid (GrB w.heap.size W2 wx))
  case first =>
    go_wp2_with fail
    go_loopw [15, 16] (fun fv mv wr => ∃ (J cj : Nat) (out fr : List Bool), fv = .slice (some ⟨J, 0, none⟩) N cj ∧ mv = .bool (fr.any id) ∧ Hid (BoolAt wr w.heap.size out) ∧ Hid (BoolAt wr J fr) ∧ Hid (J ≠ w.heap.size) ∧ Hid (RepI x s st out fr) ∧ Hid (ag = false → out = st ∧ fr = st) ∧ Hid (GrB w.heap.size W2 wr)) (fun _ mv wr => 2 * cntW wr w.heap.size N + flagN mv)
    case atStart => exact ⟨J, cj, st, st, rfl, rfl, hO5, hJ5, hJn, hR5, Lib.hid (fun _ => ⟨rfl, rfl⟩), hW25⟩
    case round =>
      obtain ⟨J, cj, out, fr, rfl, rfl, hO, hF, hJn, hR, hag, hg⟩ := hrel
      have GW : Gr w wr := gr_of_below ((gr_below G2.out).grown hg.out G2.out.size (fun k hk => by cases hk; exact Nat.le_refl _)) (Nat.le_refl _)
      generalize hany : fr.any id = bb at *
      cases bb with
      | false =>
        have hno := anyE_no hany
        have hfin : EndsIs (.rep x nn ag) s mk out := by
          cases ag with
          | true =>
            cases nn with
            | true =>
              have h1 : st = mk := hstart.out
              have h2 := hR.out
              rw [h1] at h2
              exact ends_star h2 hno
            | false => exact ends_plus (show EndsIs x s mk st from hstart.out) hR.out hno
          | false =>
            obtain ⟨h1, h2⟩ := hag.out rfl
            have h3 : nn = true := hna.resolve_right (by simp)
            subst h3
            have h4 : st = mk := hstart.out
            rw [h1, h4]
            rw [h2, h4] at hno
            exact ends_none true false (by rw [hmk.out, hN.out]) hno
        replace hfin := Lib.hid hfin
        replace hany := Lib.hid hany
        clear hno GW
        go_wp2_with fail
        go_meet
        exact ⟨out, hO, hfin, hg⟩
      | true =>
        have hPw : wr.heap[pb]? = _ := gr_blk hg.out hPB.out (by simp; have := hpbn.out; omega)
        have c5 : wr.cell? ⟨pb, 5, none⟩ = some (.int .i64 a) := blk_cell hPw rfl
        have cC := cX.out fr J cj wr GW hF.out (by rw [hR.out.lf])
        replace cC := Lib.hid cC
        replace hany := Lib.hid hany
        replace GW := Lib.hid GW
        clear hPw
        go_wp2_with fail
        refine cC.out.mono ?_
        rintro e W6 ⟨M, cm, now, rfl, hM, hBM, hEM, g6⟩
        clear c5 cC
        have hO6 : BoolAt W6 w.heap.size out := gr_blk g6 hO.out (by simp)
        have hg6 : GrB w.heap.size W2 W6 := gr_trans hg.out (gr_more _ g6)
        have hsz6 := hg6.size
        have hMn : M ≠ w.heap.size := by have := lt_of_blk hO.out; omega
        have hMlt := lt_of_blk hBM
        have hln : now.length = N := by rw [hEM.1, hN.out]
        have hlo : out.length = N := by rw [hR.out.lo, hN.out]
        have hin0 : InI out fr now out (List.replicate N false) N 0 := ⟨hlo, List.length_replicate, fun _ _ _ h => absurd h (Nat.not_lt_zero _), fun _ _ _ h => absurd h (Nat.not_lt_zero _), fun _ _ => rfl, fun j _ hj => by rw [List.getElem?_replicate, if_pos hj]⟩
        replace hM := Lib.hid hM
        replace hBM := Lib.hid hBM
        replace hEM := Lib.hid hEM
        replace hO6 := Lib.hid hO6
        replace hg6 := Lib.hid hg6
        replace hMn := Lib.hid hMn
        replace hln := Lib.hid hln
        replace hlo := Lib.hid hlo
        replace hin0 := Lib.hid hin0
        replace hMlt := Lib.hid hMlt
        have hsz6' := Lib.hid hsz6
        have hcw : Hid (cntW wr w.heap.size N = cntF out) := cntW_at hO.out hlo.out
        clear g6 hO hF hg GW hsz6
        obtain ⟨J7, hJ7e⟩ : ∃ J7, J7 = W6.heap.size := ⟨_, rfl⟩
        have hNi' : IntKind.i64.wrap ((s.length : Int) + 1) = (N : Int) := hNi
        go_upto_block 5 with (at_make; refine wpList_make_full _ rfl _ _ 129 rfl W6.heap.size 4 ii (.bool false) 1 Tryz.underlying129 hi hz0 hz1 .i64 .i64 N N N rfl rfl rfl rfl ?b2 ?b3 (Nat.le_refl _) ?_; rotate_right; intro W7 hown7 hg7'; have hF7 := made_bools hN0 hown7; have hO7 := gr_blk hg7' hO6.out (by simp); have hM7 := gr_blk hg7' hBM.out (by simp); have hg7 := gr_trans hg6.out (gr_more (some w.heap.size) hg7'); clear hown7 hg7'; replace hF7 := Lib.hid hF7; replace hO7 := Lib.hid hO7; replace hM7 := Lib.hid hM7; replace hg7 := Lib.hid hg7)
        case b2 => first | omega | (rw [hz2]; omega)
        case b3 => unfold maxLen; omega
        rw [← hJ7e] at hF7 ⊢
        have hJ7 : w.heap.size ≠ J7 := by rw [hJ7e]; have := lt_of_blk hO6.out; omega
        have hMI : M ≠ w.heap.size := hMn.out
        have hMJ : M ≠ J7 := by rw [hJ7e]; have := hMlt.out; omega
        have hJ7g : W2.heap.size ≤ J7 := by rw [hJ7e]; exact hsz6'.out
        replace hJ7 := Lib.hid hJ7
        replace hMI := Lib.hid hMI
        replace hMJ := Lib.hid hMJ
        replace hJ7g := Lib.hid hJ7g
        replace hJ7e := Lib.hid hJ7e
        clear hO6 hBM hg6
        obtain ⟨w0', hw0'⟩ : ∃ w0', w0' = wr := ⟨_, rfl⟩
        go_cut [16] (fun mv wx => ∃ out1 fr1 : List Bool, mv = .bool (fr1.any id) ∧ Hid (InI out fr now out1 fr1 N N) ∧ Hid (BoolAt wx w.heap.size out1) ∧ Hid (BoolAt wx J7 fr1) ∧ Hid (GrB w.heap.size W2 wx))
        case first =>
          go_wp2_with fail
          go_loopw [16, 19] (fun mv iv wr => ∃ (k : Nat) (out1 fr1 : List Bool), k ≤ N ∧ mv = .bool (fr1.any id) ∧ iv = .int .i64 k ∧ Hid (InI out fr now out1 fr1 N k) ∧ Hid (BoolAt wr w.heap.size out1) ∧ Hid (BoolAt wr J7 fr1) ∧ Hid (BoolAt wr M now) ∧ Hid (GrB w.heap.size W2 wr)) (fun _ iv _ => N - (intOf iv).toNat)
          case atStart => exact ⟨0, out, List.replicate N false, Nat.zero_le _, by rw [List.any_replicate]; simp, rfl, hin0, hO7, hF7, hM7, hg7⟩
          case round =>
            obtain ⟨k, out1, fr1, hk, rfl, rfl, hin, hO, hF, hMr, hg⟩ := hrel
            by_cases hlt : k < N
            · have hNe := hN.out
              have hki : (k : Int) ≤ (s.length : Int) := by omega
              have hkN : (k : Int) < (N : Int) := by omega
              have hk0 : (0 : Int) ≤ (k : Int) := by omega
              obtain ⟨b, hb⟩ := at_some (l := now) (j := k) (by rw [hln.out]; exact hlt)
              obtain ⟨a1, ha⟩ := at_some (l := out) (j := k) (by rw [hlo.out]; exact hlt)
              have ha1 : out1[k]? = some a1 := by rw [hin.out.bo k (Nat.le_refl _)]; exact ha
              have hf1 : fr1[k]? = some false := hin.out.bf k (Nat.le_refl _) hlt
              have xb : wr.cell? ⟨M, k, none⟩ = some (.bool b) := bool_cell hMr.out hb
              have xa : wr.cell? ⟨w.heap.size, k, none⟩ = some (.bool a1) := bool_cell hO.out ha1
              have xf : wr.cell? ⟨J7, k, none⟩ = some (.bool false) := bool_cell hF.out hf1
              have fa : wr.frozen? ⟨w.heap.size, k, none⟩ = false := blk_free hO.out k
              have ff : wr.frozen? ⟨J7, k, none⟩ = false := blk_free hF.out k
              have hne1 : w.heap.size ≠ J7 := hJ7.out
              have hne2 : J7 ≠ w.heap.size := fun e => hne1 e.symm
              by_cases hnew : b = true ∧ a1 = false
              · obtain ⟨rfl, rfl⟩ := hnew
                obtain ⟨W8, hW8⟩ : ∃ W8, W8 = (wr.setCell ⟨w.heap.size, k, none⟩ (.bool true)).setCell ⟨J7, k, none⟩ (.bool true) := ⟨_, rfl⟩
                have g8a : GrB w.heap.size wr (wr.setCell ⟨w.heap.size, k, none⟩ (.bool true)) := gr_set wr ⟨w.heap.size, k, none⟩ _
                have g8b : GrB J7 (wr.setCell ⟨w.heap.size, k, none⟩ (.bool true)) W8 := by rw [hW8]; exact gr_set _ ⟨J7, k, none⟩ _
                have hO8 : BoolAt W8 w.heap.size (out1.set k true) := gr_blk g8b (bool_set hO.out k true) (by simp; exact hne1)
                have hF8 : BoolAt W8 J7 (fr1.set k true) := by rw [hW8]; exact bool_set (gr_blk g8a hF.out (by simp; exact hne2)) k true
                have hM8 : BoolAt W8 M now := gr_blk g8b (gr_blk g8a hMr.out (by simp; exact hMI.out)) (by simp; exact hMJ.out)
                have hg8 : GrB w.heap.size W2 W8 := grB_newE (gr_trans hg.out g8a) g8b hJ7g.out
                have hin8 := inI_new hin.out hlt ha hb
                have hany : (fr1.set k true).any id = true := any_set (by rw [hin.out.lf]; exact hlt)
                have ff8 : (wr.setCell ⟨w.heap.size, k, none⟩ (.bool true)).frozen? ⟨J7, k, none⟩ = false := blk_free (gr_blk g8a hF.out (by simp; exact hne2)) k
                have xf8 : (wr.setCell ⟨w.heap.size, k, none⟩ (.bool true)).cell? ⟨J7, k, none⟩ = some (.bool false) := bool_cell (gr_blk g8a hF.out (by simp; exact hne2)) hf1
                replace hO8 := Lib.hid hO8
                replace hF8 := Lib.hid hF8
                replace hM8 := Lib.hid hM8
                replace hg8 := Lib.hid hg8
                replace hin8 := Lib.hid hin8
                replace hany := Lib.hid hany
                replace ha1 := Lib.hid ha1
                replace hf1 := Lib.hid hf1
                replace hb := Lib.hid hb
                replace ha := Lib.hid ha
                replace hNe := Lib.hid hNe
                clear hin hO hF hMr hg g8a g8b
                go_upto_region 19 with fail
                rw [← hW8]
                clear hW8 xb xa xf fa ff ff8 xf8 hne1 hne2
                go_wp2
                go_roundw
                case rel => exact ⟨k + 1, _, _, by omega, by rw [hany.out], by go_num, hin8, hO8, hF8, hM8, hg8⟩
                case measure => simp [intOf]; omega
              · have hab : (b && !a1) = false := by cases b <;> cases a1 <;> simp_all
                have hin8 := inI_same hin.out hlt ha hb hab
                replace hin8 := Lib.hid hin8
                replace ha1 := Lib.hid ha1
                replace hf1 := Lib.hid hf1
                replace hb := Lib.hid hb
                replace ha := Lib.hid ha
                replace hNe := Lib.hid hNe
                replace hab := Lib.hid hab
                clear hin hne1 hne2
                cases b with
                | false =>
                  clear hnew
                  go_wp2
                  go_roundw
                  case rel => exact ⟨k + 1, _, _, by omega, rfl, by go_num, hin8, hO, hF, hMr, hg⟩
                  case measure => simp [intOf]; omega
                | true =>
                  obtain rfl : a1 = true := by cases a1 <;> simp_all
                  clear hnew
                  go_wp2
                  go_roundw
                  case rel => exact ⟨k + 1, _, _, by omega, rfl, by go_num, hin8, hO, hF, hMr, hg⟩
                  case measure => simp [intOf]; omega
            · have hNe := hN.out
              have hki : ((k : Int) ≤ (s.length : Int)) = False := eq_false (by omega)
              obtain rfl : k = N := by omega
              replace hNe := Lib.hid hNe
              go_wp2_with fail
              go_meet
              exact ⟨out1, fr1, rfl, hin, hO, hF, hg⟩
        case rest =>
        obtain ⟨out1, fr1, rfl, hin, hO8, hF8, hg8⟩ := hcut
        obtain ⟨W8, hW8⟩ : ∃ W8, W8 = wc := ⟨_, rfl⟩
        rw [← hW8] at hO8 hF8 hg8 ⊢
        clear hW8
        have hPw8 : W8.heap[pb]? = _ := gr_blk hg8.out hPB.out (by simp; have := hpbn.out; omega)
        have c8 : W8.cell? ⟨pb, 8, none⟩ = some (.bool (!ag)) := blk_cell hPw8 rfl
        have bdN : ∀ (k : Nat) (a : Bool), out[k]? = some a → k < N := fun k a h => by have := (List.getElem?_eq_some_iff.1 h).1; rw [hlo.out] at this; exact this
        have hao : ∀ (k : Nat) (a b : Bool), out[k]? = some a → now[k]? = some b → out1[k]? = some (a || b) := fun k a b h1 h2 => hin.out.ao k a b (bdN k a h1) h1 h2
        have haf : ∀ (k : Nat) (a b : Bool), out[k]? = some a → now[k]? = some b → fr1[k]? = some (b && !a) := fun k a b h1 h2 => hin.out.af k a b (bdN k a h1) h1 h2
        have hR8 := rep_step hR.out hEM.out (by rw [hin.out.lo, hN.out]) (by rw [hin.out.lf, hN.out]) hao haf
        have hmeas := inI_cnt hin.out hlo.out hln.out
        have hcw8 : cntW W8 w.heap.size N = cntF out1 := cntW_at hO8.out hin.out.lo
        replace hao := Lib.hid hao
        replace haf := Lib.hid haf
        replace hR8 := Lib.hid hR8
        replace hmeas := Lib.hid hmeas
        replace hcw8 := Lib.hid hcw8
        clear hPw8 bdN
        cases ag with
        | false =>
          obtain ⟨h1, h2⟩ := hag.out rfl
          have h3 : nn = true := hna.resolve_right (by simp)
          subst h3
          have h4 : st = mk := hstart.out
          have h5 := hEM.out
          have h6 := hao.out
          rw [h2, h4] at h5
          rw [h1, h4] at h6
          have hfin := ends_opt (by rw [hmk.out, hN.out]) h5 (by rw [hin.out.lo, hN.out]) h6
          replace hfin := Lib.hid hfin
          clear h1 h2 h4 h5 h6
          go_wp2_with fail
          go_meet
          exact ⟨out1, hO8, hfin, hg8⟩
        | true =>
          go_wp2
          go_roundw
          case rel => exact ⟨J7, N, out1, fr1, rfl, rfl, hO8, hF8, Lib.hid (fun e => hJ7.out e.symm), hR8, Lib.hid (fun h => by cases h), hg8⟩
          case measure =>
            rw [hcw8.out, hcw.out]
            exact hmeas.out
  case rest =>
  obtain ⟨out, hO, hfin, hg⟩ := hcut
  obtain ⟨W9, hW9⟩ : ∃ W9, W9 = wc := ⟨_, rfl⟩
  rw [← hW9] at hO hg ⊢
  clear hW9
  have GF : Gr w W9 := gr_of_below ((gr_below G2.out).grown hg.out G2.out.size (fun k hk => by cases hk; exact Nat.le_refl _)) (Nat.le_refl _)
  replace GF := Lib.hid GF
  clear hg
  refine hKK _ _ ?_
  go_wp2_with fail
  go_ret
  exact ⟨w.heap.size, N, out, rfl, Nat.le_refl _, hO.out, hfin.out, GF.out⟩
end Go.Proofs.YtccmekdmnkmhlaaGreat
