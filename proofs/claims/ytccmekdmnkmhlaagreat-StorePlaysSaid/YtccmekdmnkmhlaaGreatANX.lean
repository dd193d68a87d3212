/-
  Several facts, one behind the other; no condition but bounds: The document's Ends, of any part: it answers just the places where the part's tree may be left. No condition but a bound on the text. The document's Match: at which places a text that is entered at its beginning may be left. No condition but a bound on the text. The document's True: is a matcher that may be true of labels? No condition but bounds. The document's store: the series that matchers mean (Select). No condition but bounds.
-/
import Derived.Test.YtccmekdmnkmhlaaGreatAMX
import Derived.Test.YtccmekdmnkmhlaaGreatSqRefEndsE
import Derived.Test.YtccmekdmnkmhlaaGreatAIX
import Derived.Test.YtccmekdmnkmhlaaGreatSqStoOf
import Derived.Test.YtccmekdmnkmhlaaGreatAPX
import Derived.Test.YtccmekdmnkmhlaaGreatAKX
namespace Go.Proofs.YtccmekdmnkmhlaaGreat
open Go.RowKit

theorem node_alt1 {w : World} {ps : List Prt} {n : Nat} {x : T} (h : Node w ps n (.alt1 x)) : Node w ps n x := by
  generalize ht : T.alt1 x = t at h
  cases h with
  | alt1 h => injection ht with ht; rw [ht]; exact h
  | rune _ _ _ => unfold oneOf at ht; cases ht
  | _ => cases ht
theorem ends_any (X : Nat) (pA : Option Addr) (np pc : Nat) (ps : List Prt) (s : List Int) (sA : Option Addr) (sc : Nat) (hsl : s.length ≤ 1000000) {w0 : World} {n : Nat} {t : T} (h : Node w0 ps n t) : EndsC X pA np pc ps s sA sc t n := by
  induction h with
  | zero h hk => exact ends_c0 X pA np pc ps s sA sc _ _ h hsl hk
  | alt1 h ih =>
    intro mk I c w hE hnode hI hmk
    refine (ih mk I c w hE (node_alt1 hnode) hI hmk).mono ?_
    rintro e w' ⟨I', c', out, rfl, h1, h2, h3, h4⟩
    exact ⟨I', c', out, rfl, h1, h2, ends_alt1 h3, h4⟩
  | row h hk ha hb han hbn _ _ ih1 ih2 => exact ends_c4 X pA np pc ps s sA sc _ _ h hsl _ _ ⟨hk, ha, hb⟩ _ _ ih1 ih2
  | alt h hk ha hb han hbn _ _ ih1 ih2 => exact ends_c5 X pA np pc ps s sA sc _ _ h hsl _ _ ⟨hk, ha, hb⟩ _ _ ih1 ih2
  | rep h hk ha han _ hl ho hna ih => exact ends_c6 X pA np pc ps s sA sc _ _ h hsl _ _ _ ⟨hk, ha, hl, ho⟩ hna _ ih
  | rune h hk hr => exact ends_k1 X pA np pc ps s sA sc _ _ h hsl hk _
  | dot h hk => exact ends_k2 X pA np pc ps s sA sc _ _ h hsl hk _
  | cls h hk hno hln hhn hlo hhi => exact ends_k3 X pA np pc ps s sA sc _ _ h hsl hk _
/-- Entered at its beginning, left at its end: the whole text is taken. -/
theorem ends_whole {t : T} {s : List Int} {out : List Bool} (h : EndsIs t s (true :: List.replicate s.length false) out) : ∃ b, out[s.length]? = some b ∧ (b = true ↔ Lang t s) := by
  obtain ⟨b, hb⟩ := at_some (l := out) (j := s.length) (by have := h.1; omega)
  refine ⟨b, hb, ?_⟩
  have h2 := h.2 s.length (Nat.le_refl _)
  rw [hb] at h2
  have h3 : seg s 0 s.length = s := by unfold seg; rw [List.drop_zero, Nat.sub_zero, List.take_length]
  constructor
  · intro e
    obtain ⟨i, hi, h4, h5⟩ := h2.1 (by rw [e])
    cases i with
    | zero => rw [h3] at h5; exact h5
    | succ i =>
      rw [List.getElem?_cons_succ, List.getElem?_replicate] at h4
      split at h4 <;> simp at h4
  · intro hL
    have := h2.2 ⟨0, Nat.zero_le _, rfl, by rw [h3]; exact hL⟩
    exact Option.some.inj this
end Go.Proofs.YtccmekdmnkmhlaaGreat
namespace Go.Proofs.YtccmekdmnkmhlaaGreat
open Go.RowKit

/-- What Match answers. -/
def MatchPost (N : Nat) (x : T) (L : List Int) (w : World) (e : Ending) (w' : World) : Prop := (∃ (I c : Nat) (out : List Bool), e = .returned (.slice (some ⟨I, 0, none⟩) N c) ∧ BoolAt w' I out ∧ out.length = N ∧ EndsIs x L (true :: List.replicate L.length false) out) ∧ Gr w w'
theorem set_first (N m : Nat) (h : N = m + 1) : (List.replicate N false).set 0 true = true :: List.replicate m false := by subst h; rfl
set_option maxHeartbeats 8000000 in
set_option maxRecDepth 100000 in
theorem rmatch_any (b root np pc : Nat) (pA : Option Addr) (p2 p3 p4 : Value) (ps : List Prt) (x : T) (vt : List UInt8) (w : World) (hv : vt.length ≤ 1000000) (hrl : (runesOf vt).length ≤ 1000000) (hb : w.heap[b]? = some (.cells #[.slice pA np pc, .int .i64 root, p2, p3, p4] 170 (0, 0))) (hrow : Row w pA np 9 (sR prtC ps)) (hnode : Node w ps root x) :
    Calls Tryz.prog 98 #[.pointer (some ⟨b, 0, none⟩), .string (txt vt)] w (MatchPost ((runesOf vt).length + 1) x (runesOf vt) w) := by
  obtain ⟨ii, hi, hz0, hz1, hz2⟩ := info_parts infoBool
  have cS := refSpell_runes vt w hv
  obtain ⟨L, hL⟩ : ∃ L, L = runesOf vt := ⟨_, rfl⟩
  obtain ⟨N, hN⟩ : ∃ N, N = L.length + 1 := ⟨_, rfl⟩
  rw [← hL] at cS hrl ⊢
  rw [← hN]
  have hb64 : -9223372036854775808 ≤ (L.length : Int) + 1 ∧ (L.length : Int) + 1 ≤ 9223372036854775807 := by omega
  have hNq : (L.length : Int) + 1 = (N : Int) := by omega
  have hN0 : 0 < N := by omega
  have hN0i : (0 : Int) < (N : Int) := by omega
  have hNm : N ≤ 1000001 := by omega
  have hNi : IntKind.i64.wrap ((L.length : Int) + 1) = (N : Int) := (IntWalk.i64_in _ hb64).trans hNq
  clear hb64 hNq
  replace cS := Lib.hid cS
  replace hL := Lib.hid hL
  replace hN := Lib.hid hN
  replace hb := Lib.hid hb
  replace hrow := Lib.hid hrow
  replace hnode := Lib.hid hnode
  go_enter Tryz.func98, Tryz.ntmps98
  go_wp2_with fail
  refine cS.out.mono ?_
  rintro e W1 ⟨A, c, rfl, hR1, g1⟩
  replace hR1 := Lib.hid hR1
  replace g1 := Lib.hid g1
  clear cS
  go_upto_region 3 with (at_make; refine wpList_make_full _ rfl _ _ 129 rfl W1.heap.size 4 ii (.bool false) 1 Tryz.underlying129 hi hz0 hz1 .i64 .i64 N N N rfl rfl rfl rfl ?b2 ?b3 (Nat.le_refl _) ?_; rotate_right; intro W2 hown2 hg2; have hB2 := made_bools hN0 hown2; replace hg2 := Lib.hid hg2; replace hB2 := Lib.hid hB2; clear hown2)
  case b2 => first | omega | (rw [hz2]; omega)
  case b3 => unfold maxLen; omega
  have z0 : W2.cell? ⟨W1.heap.size, 0, none⟩ = some (.bool false) := bool_cell hB2.out (by rw [List.getElem?_replicate, if_pos hN0])
  have f0 : W2.frozen? ⟨W1.heap.size, 0, none⟩ = false := blk_free hB2.out 0
  obtain ⟨W3, hW3⟩ : ∃ W3, W3 = W2.setCell ⟨W1.heap.size, 0, none⟩ (.bool true) := ⟨_, rfl⟩
  have g3 : GrB W1.heap.size W2 W3 := by rw [hW3]; exact gr_set W2 ⟨W1.heap.size, 0, none⟩ _
  have hB3 : BoolAt W3 W1.heap.size (true :: List.replicate L.length false) := by rw [hW3, ← set_first N L.length hN.out]; exact bool_set hB2.out 0 true
  have G13 : Gr W1 W3 := gr_of_below ((gr_below hg2.out).grown g3 hg2.out.size (fun k hk => by cases hk; exact Nat.le_refl _)) (Nat.le_refl _)
  have G3 := gr_trans g1.out G13
  have hb3 := gr_blk G3 hb.out (by simp)
  have hE3 : EH b pA np pc ps L A W3 := ⟨blk_cell hb3 rfl, row_gr hrow.out G3, row_gr (row_own hR1.out) G13⟩
  have cE := ends_any b pA np pc ps L A c hrl hnode.out (true :: List.replicate L.length false) W1.heap.size N W3 hE3 (nodeE_gr hnode.out G3) hB3 (by simp)
  rw [← hN.out] at cE
  unfold EndsPost at cE
  have k1 : W3.cell? ⟨b, 1, none⟩ = some (.int .i64 root) := blk_cell hb3 rfl
  replace cE := Lib.hid cE
  replace G3 := Lib.hid G3
  clear hB3 hE3 hb3 G13 g3
  go_upto_region 4 with fail
  rw [← hW3]
  clear hW3 z0 f0
  go_wp2_with fail
  refine cE.out.mono ?_
  rintro e W4 ⟨I, c4, out, rfl, hI, hB4, hE4, g4⟩
  have GF := gr_trans G3.out g4
  have hl : out.length = N := by rw [hE4.1, hN.out]
  replace GF := Lib.hid GF
  replace hB4 := Lib.hid hB4
  replace hE4 := Lib.hid hE4
  replace hl := Lib.hid hl
  clear g4 cE k1
  go_wp2_with fail
  go_ret
  exact ⟨⟨I, c4, out, rfl, hB4.out, hl.out, hE4.out⟩, GF.out⟩
end Go.Proofs.YtccmekdmnkmhlaaGreat
namespace Go.Proofs.YtccmekdmnkmhlaaGreat
open Go.RowKit

theorem patOf_some {v : List UInt8} {x : T} (h : patOf v = some x) : (runesOf v).length ≤ 40 ∧ pAlt 200 (runesOf v) = some (x, []) := by
  unfold patOf at h
  split at h
  · next h1 =>
    refine ⟨h1, ?_⟩
    split at h
    · next y hy => rw [hy]; injection h with h; rw [h]
    · cases h
  · cases h
set_option maxHeartbeats 8000000 in
set_option maxRecDepth 100000 in
theorem rtrue_any (H : T → List Int → Bool) (hH : Holds H) (m : Mt) (ho : okMt m) (A : Option Addr) (n c : Nat) (zs : List Lb) (w : World) (hn : n ≤ 1000000) (hr : Row w A n 2 (sR lblC zs)) (hv : m.v.length ≤ 1000000) (hg : (getL zs m.n).length ≤ 1000000) :
    Calls Tryz.prog 42 #[.agg #[.string (txt m.n), .int .i64 m.op, .string (txt m.v)], .slice A n c] w fun e w' => e = .returned (.bool (holdM H m zs)) ∧ Gr w w' := by
  obtain ⟨nm, op, v⟩ := m
  simp only at hv hg ⊢
  obtain ⟨W1, hW1⟩ : ∃ W1, W1 = w.alloc (.cells #[.string (txt nm), .int .i64 op, .string (txt v)] 27) := ⟨_, rfl⟩
  obtain ⟨mb, hmb⟩ : ∃ mb, mb = w.heap.size := ⟨_, rfl⟩
  have g1 : Gr w W1 := by rw [hW1]; exact gr_alloc _ _ _
  have hB : W1.heap[mb]? = some (.cells #[.string (txt nm), .int .i64 op, .string (txt v)] 27 (0, 0)) := by rw [hW1, hmb]; exact blk_new _ _
  have m0 : W1.cell? ⟨mb, 0, none⟩ = some (.string (txt nm)) := blk_cell hB rfl
  have cG := rget1_any A n c zs nm W1 (by omega) (row_gr hr g1)
  obtain ⟨u, hu⟩ : ∃ u, u = getL zs nm := ⟨_, rfl⟩
  have hhold : holdM H ⟨nm, op, v⟩ zs = if op = 1 then decide (u = v) else if op = 2 then decide (u ≠ v) else match patOf v with
    | some x => if op = 3 then H x (runesOf u) else !H x (runesOf u)
    | none => false := by rw [hu]; rfl
  obtain ⟨R, hR⟩ : ∃ R, R = holdM H ⟨nm, op, v⟩ zs := ⟨_, rfl⟩
  rw [← hR]
  rw [hhold] at hR
  rw [← hu] at cG hg
  obtain ⟨hname, ho1, ho4, hop⟩ := ho
  simp only at ho1 ho4 hop
  clear hhold hname hu
  replace hR := Lib.hid hR
  replace cG := Lib.hid cG
  replace g1 := Lib.hid g1
  replace hB := Lib.hid hB
  replace hop := Lib.hid hop
  go_enter Tryz.func42, Tryz.ntmps42
  go_upto_region 1 with fail
  rw [← hW1, ← hmb]
  clear hW1 hmb
  go_wp2_with fail
  refine cG.out.mono ?_
  rintro e W2 ⟨rfl, g2⟩
  have hB2 := gr_blk g2 hB.out (by simp)
  have G2 := gr_trans g1.out g2
  have m1 : W2.cell? ⟨mb, 1, none⟩ = some (.int .i64 op) := blk_cell hB2 rfl
  have m2 : W2.cell? ⟨mb, 2, none⟩ = some (.string (txt v)) := blk_cell hB2 rfl
  replace hB2 := Lib.hid hB2
  replace G2 := Lib.hid G2
  clear m0 g1 g2 cG hB
  by_cases h1 : op = 1
  · subst h1
    by_cases huv : u = v
    · subst huv
      obtain rfl : R = true := by rw [hR.out]; simp
      go_wp2
      go_ret
      exact ⟨rfl, G2.out⟩
    · obtain rfl : R = false := by rw [hR.out]; simp [huv]
      have hb : (u == v) = false := by simpa using huv
      go_wp2
      go_ret
      exact ⟨rfl, G2.out⟩
  by_cases h2 : op = 2
  · subst h2
    by_cases huv : u = v
    · subst huv
      obtain rfl : R = false := by rw [hR.out]; simp
      go_wp2
      go_ret
      exact ⟨rfl, G2.out⟩
    · obtain rfl : R = true := by rw [hR.out]; simp [huv]
      have hb : (u == v) = false := by simpa using huv
      go_wp2
      go_ret
      exact ⟨rfl, G2.out⟩
  obtain ⟨x, hx⟩ := Option.isSome_iff_exists.1 (hop.out (by omega))
  obtain ⟨h40, hpa⟩ := patOf_some hx
  have hR2 : R = if op = 3 then H x (runesOf u) else !H x (runesOf u) := by rw [hR.out, if_neg h1, if_neg h2, hx]
  replace hR2 := Lib.hid hR2
  have cC := rcompile_any v W2 hv h40
  unfold RCPost at cC
  have h3 : (op < 3) = False := eq_false (by omega)
  replace cC := Lib.hid cC
  replace hpa := Lib.hid hpa
  replace h1 := Lib.hid h1
  replace h2 := Lib.hid h2
  replace hx := Lib.hid hx
  go_wp2_with fail
  refine cC.out.mono ?_
  rintro e W3 ⟨g3, h | ⟨hno, _⟩⟩
  rotate_left
  · exact absurd hpa.out (hno x)
  obtain ⟨x', b, root, ps, hpx, rfl, hbw, hRP⟩ := h
  have hxx : x' = x := by
    have h5 := hpa.out
    rw [hpx] at h5
    injection h5 with h5
    injection h5
  subst hxx
  obtain ⟨pv, pA, pc, pn, pj, hblk, hown, hnode⟩ := hRP
  obtain ⟨vA, vc, rfl, -, -⟩ := own_openS hown
  have hB3 := gr_blk g3 hB2.out (by simp)
  have hul : (runesOf u).length ≤ 1000000 := Nat.le_trans (runes_le u) hg
  have cM := rmatch_any b root ps.length vc vA _ _ _ ps x' u W3 hg hul hblk (row_own hown) hnode
  unfold MatchPost at cM
  have G3 := gr_trans G2.out g3
  obtain ⟨N, hN⟩ : ∃ N, N = (runesOf u).length + 1 := ⟨_, rfl⟩
  rw [← hN] at cM
  have hN0 : 0 < N := by omega
  replace hN := Lib.hid hN
  replace cM := Lib.hid cM
  replace hB3 := Lib.hid hB3
  replace G3 := Lib.hid G3
  clear m1 m2 cC g3 hbw hblk hown hnode hpx hB2 G2
  go_wp2_with fail
  refine cM.out.mono ?_
  rintro e W4 ⟨⟨I, c4, out, rfl, hI4, hl4, hE4⟩, g4⟩
  obtain ⟨r, hr4, hrL⟩ := ends_whole hE4
  have hHr : H x' (runesOf u) = r := by
    by_cases hL : Lang x' (runesOf u)
    · rw [holds_yes hH hL, hrL.2 hL]
    · have : r = false := by cases r with
        | false => rfl
        | true => exact absurd (hrL.1 rfl) hL
      rw [holds_no hH hL, this]
  have hNm : (runesOf u).length = N - 1 := by rw [hN.out]; rfl
  rw [hNm] at hr4
  have z0 : W4.cell? ⟨I, N - 1, none⟩ = some (.bool r) := bool_cell hI4 hr4
  have hB4 := gr_blk g4 hB3.out (by simp)
  have m1 : W4.cell? ⟨mb, 1, none⟩ = some (.int .i64 op) := blk_cell hB4 rfl
  have G4 := gr_trans G3.out g4
  have hNb : -9223372036854775808 ≤ (N : Int) - 1 ∧ (N : Int) - 1 ≤ 9223372036854775807 := by have := hN.out; omega
  have hNq : (N : Int) - 1 = ((N - 1 : Nat) : Int) := by omega
  have hNw : IntKind.i64.wrap ((N : Int) - 1) = ((N - 1 : Nat) : Int) := (IntWalk.i64_in _ hNb).trans hNq
  have i1 : (0 : Int) ≤ ((N - 1 : Nat) : Int) := by omega
  have i2 : ((N - 1 : Nat) : Int) < (N : Int) := by omega
  have i3 : (0 : Int) ≤ (N : Int) - 1 := by omega
  have i4 : (N : Int) - 1 < (N : Int) := by omega
  replace G4 := Lib.hid G4
  replace hHr := Lib.hid hHr
  replace hr4 := Lib.hid hr4
  replace hNm := Lib.hid hNm
  clear cM g4 hI4 hl4 hE4 hrL hB3 G3 hB4 hNb hNq
  by_cases h33 : op = 3
  · subst h33
    obtain rfl : R = r := by rw [hR2.out, hHr.out]; rfl
    go_wp2_with fail
    go_quiet (fail)
    rename_i nq
    have GF := gr_trans G4.out (gr_drewN W4 nq none)
    replace GF := Lib.hid GF
    go_wp2
    go_ret
    exact ⟨by first | rfl | (cases R <;> rfl) | (cases r <;> rfl) | simp, GF.out⟩
  · have h4 : op = 4 := by have := h1.out; have := h2.out; omega
    subst h4
    obtain rfl : R = !r := by rw [hR2.out, hHr.out]; rfl
    go_wp2_with fail
    go_quiet (fail)
    rename_i nq
    have GF := gr_trans G4.out (gr_drewN W4 nq none)
    replace GF := Lib.hid GF
    go_wp2
    go_ret
    exact ⟨by first | rfl | (cases R <;> rfl) | (cases r <;> rfl) | simp, GF.out⟩
end Go.Proofs.YtccmekdmnkmhlaaGreat
namespace Go.Proofs.YtccmekdmnkmhlaaGreat
open Go.RowKit

def RSelPost (H : T → List Int → Bool) (ms : List Mt) (ss : List Ser) (w : World) (e : Ending) (w' : World) : Prop := (∃ A c hs, e = .returned (.slice A (selS H ms ss).length c) ∧ SersOf w' A (selS H ms ss).length hs (selS H ms ss)) ∧ Gr w w'
/-- What has been taken of the first series. -/
def SelUp (H : T → List Int → Bool) (ms : List Mt) (w : World) (base : Nat) (ov : Value) (l : List Ser) (wr : World) : Prop := ∃ hs : List SHd, hs.length = (selS H ms l).length ∧ wr.ownsRow base 73 2 ov (selS H ms l).length (sR shC hs) ∧ ∀ (i : Nat) h s, hs[i]? = some h → (selS H ms l)[i]? = some s → SerRd w h s
theorem selUp_gr {H : T → List Int → Bool} {ms : List Mt} {w : World} {base : Nat} {ov : Value} {l : List Ser} {wr wr' : World} (h : SelUp H ms w base ov l wr) (g : Gr wr wr') : SelUp H ms w base ov l wr' := by
  obtain ⟨hs, h1, h2, h3⟩ := h
  exact ⟨hs, h1, h2.kept g (Classical.em _), h3⟩
theorem selS_snoc (H : T → List Int → Bool) (ms : List Mt) (l : List Ser) (s : Ser) : selS H ms (l ++ [s]) = selS H ms l ++ (if allM H ms s.l then [s] else []) := by
  unfold selS
  rw [List.filter_append]
  by_cases h : allM H ms s.l = true
  · simp [h]
  · simp [h]
set_option maxHeartbeats 16000000 in
set_option maxRecDepth 100000 in
theorem rselect_any (H : T → List Int → Bool) (hH : Holds H) (A : Option Addr) (n c : Nat) (hs : List SHd) (ss : List Ser) (mA : Option Addr) (mn mc : Nat) (ms : List Mt) (w : World) (hn : n ≤ 1000) (hmn : mn ≤ 1000) (h : SersOf w A n hs ss) (hm : Row w mA mn 3 (sR mtC ms)) (hok : ∀ m ∈ ms, okMt m ∧ m.v.length ≤ 1000000) (hsm : ∀ s ∈ ss, s.l.length ≤ 1000000 ∧ ∀ nm, (getL s.l nm).length ≤ 1000000) :
    Calls Tryz.prog 19 #[.slice A n c, .slice mA mn mc] w (RSelPost H ms ss w) := by
  obtain ⟨ii, hii, hz0, hz1, hz2⟩ := info_parts infoSer
  have hsl := h.1
  have hml : ms.length = mn := by have := hm.1; rw [sR_len mtC 3 mtC_len] at this; omega
  replace h := Lib.hid h
  replace hm := Lib.hid hm
  replace hok := Lib.hid hok
  replace hsm := Lib.hid hsm
  replace hsl := Lib.hid hsl
  replace hml := Lib.hid hml
  go_enter Tryz.func19, Tryz.ntmps19
  go_wp2_with fail
  go_loopw [5, 6] (fun ov iv wr => ∃ k : Nat, k ≤ n ∧ iv = .int .i64 k ∧ Hid (SelUp H ms w w.heap.size ov (ss.take k) wr) ∧ Hid (Below w.heap.size w wr)) (fun _ iv _ => n - (intOf iv).toNat)
  case atStart => exact ⟨0, Nat.zero_le _, rfl, Lib.hid ⟨[], by simp [selS], by rw [List.take_zero]; exact World.ownsRow_nil _ _ _ _, fun i h s hh => by simp at hh⟩, Below.refl _ _⟩
  case round =>
    obtain ⟨k, hk, rfl, hup, hbel⟩ := hrel
    have hg := gr_of_below hbel.out (Nat.le_refl _)
    by_cases hlt : k < n
    · obtain ⟨x, s, B, o, hx, hsk, rfl, hc0, hc1, hrd, hl1, hl2⟩ := sersOf_at h.out hlt
      have hki : (k : Int) < (n : Int) := by omega
      have hk0 : (0 : Int) ≤ (k : Int) := by omega
      have hss := hsm.out s (List.mem_of_getElem? hsk)
      have htk : ss.take (k + 1) = ss.take k ++ [s] := by rw [List.take_add_one, hsk]; rfl
      have hkl : (selS H ms (ss.take k)).length ≤ k := Nat.le_trans (List.length_filter_le _ _) (by rw [List.length_take]; omega)
      have hrdw : SerRd w x s := hrd
      obtain ⟨w0, hw0⟩ : ∃ w0, w0 = wr := ⟨_, rfl⟩
      subst hw0
      have e0 := gr_cell hg hc0
      have e1 := gr_cell hg hc1
      replace hup := Lib.hid hup.out
      replace hsk := Lib.hid hsk
      replace hx := Lib.hid hx
      replace hrdw := Lib.hid hrdw
      replace htk := Lib.hid htk
      replace hl1 := Lib.hid hl1
      replace hss := Lib.hid hss
      replace hg := Lib.hid hg
      clear hrd hl2 hc0 hc1
      go_upto_block 2 with fail
      go_cut [7] (fun av wx => av = .bool (allM H ms s.l) ∧ Hid (Gr w0 wx))
      case first =>
        go_wp2_with fail
        go_loopw [7, 8] (fun av jv wr => ∃ j : Nat, j ≤ mn ∧ av = .bool (allM H (ms.take j) s.l) ∧ jv = .int .i64 j ∧ Hid (Gr w0 wr)) (fun _ jv _ => mn - (intOf jv).toNat)
        case atStart => exact ⟨0, Nat.zero_le _, by rw [List.take_zero]; rfl, rfl, gr_refl _ _⟩
        case round =>
          obtain ⟨j, hj, rfl, rfl, hg1⟩ := hrel
          by_cases hlt2 : j < mn
          · obtain ⟨m, Bm, om, hmj, rfl, _, hcm⟩ := rowS_elem mtC_len hm.out (by decide) hlt2
            have hom := hok.out m (List.mem_of_getElem? hmj)
            have hji : (j : Int) < (mn : Int) := by omega
            have hj0 : (0 : Int) ≤ (j : Int) := by omega
            have htj : allM H (ms.take (j + 1)) s.l = (allM H (ms.take j) s.l && holdM H m s.l) := by
              have h1 : ms.take (j + 1) = ms.take j ++ [m] := by rw [List.take_add_one, show ms[j]? = some m from hmj]; rfl
              unfold allM
              rw [h1, List.all_append]
              simp
            have GW := gr_trans hg.out hg1.out
            have cT : ∀ W, Gr w W → Calls Tryz.prog 42 #[.agg #[.string (txt m.n), .int .i64 m.op, .string (txt m.v)], .slice x.la x.ln x.lc] W fun e w' => e = .returned (.bool (holdM H m s.l)) ∧ Gr W w' := fun W g =>
              rtrue_any H hH m hom.1 x.la x.ln x.lc s.l W (by have := hl1.out; have := hss.out.1; omega) (row_gr hrdw.out.1 g) hom.2 (hss.out.2 _)
            have y0 : ∀ p : Grown wr, p.wd.cell? ⟨Bm, om + j * 3, none⟩ = some (.string (txt m.n)) := fun p => cell_to (gr_cell GW (hcm 0 (by decide))) p
            have y1 : ∀ p : Grown wr, p.wd.cell? ⟨Bm, om + j * 3 + 1, none⟩ = some (.int .i64 m.op) := fun p => cell_to (gr_cell GW (hcm 1 (by decide))) p
            have y2 : ∀ p : Grown wr, p.wd.cell? ⟨Bm, om + j * 3 + 2, none⟩ = some (.string (txt m.v)) := fun p => cell_to (gr_cell GW (hcm 2 (by decide))) p
            have y3 : ∀ p : Grown wr, p.wd.cell? ⟨B, o + k * 2, none⟩ = some (.slice x.la x.ln x.lc) := fun p => cell_to (gr_cell hg1.out e0) p
            generalize allM H (ms.take j) s.l = aa at htj ⊢
            generalize holdM H m s.l = bb at htj cT
            replace cT := Lib.hid cT
            replace GW := Lib.hid GW
            replace htj := Lib.hid htj
            replace hmj := Lib.hid hmj
            replace hom := Lib.hid hom
            clear hcm
            cases aa with
            | true =>
              have hnx : allM H (ms.take (j + 1)) s.l = bb := by rw [htj.out]; rfl
              replace hnx := Lib.hid hnx
              go_upto_region 9 with fail
              refine wp_region_quiet_gr (by kernel_rfl) (by kernel_rfl) ?_
              repeat (go_big_quiet_step ((go_at_call 42; exact calls_gr (cT.out _ (gr_trans GW.out (Grown.gr _))))))
              refine wpQuiet_nil ?_
              intro w6 hw6
              obtain ⟨⟨wP, gP⟩, hw6'⟩ := hw6
              subst hw6'
              have hg6 := gr_trans hg1.out gP
              replace hg6 := Lib.hid hg6
              clear y0 y1 y2 y3 gP
              go_wp2
              go_roundw
              case rel => exact ⟨j + 1, by omega, by rw [hnx.out], by go_num, hg6⟩
              case measure => simp [intOf]; omega
            | false =>
              have hnx : allM H (ms.take (j + 1)) s.l = false := by rw [htj.out]; rfl
              replace hnx := Lib.hid hnx
              go_upto_region 9 with fail
              refine wp_region_quiet_gr (by kernel_rfl) (by kernel_rfl) ?_
              repeat (go_big_quiet_step (fail))
              refine wpQuiet_nil ?_
              intro w6 hw6
              obtain ⟨⟨wP, gP⟩, hw6'⟩ := hw6
              subst hw6'
              have hg6 := gr_trans hg1.out gP
              replace hg6 := Lib.hid hg6
              clear y0 y1 y2 y3 gP
              go_wp2
              go_roundw
              case rel => exact ⟨j + 1, by omega, by rw [hnx.out], by go_num, hg6⟩
              case measure => simp [intOf]; omega
          · have hji : ((j : Int) < (mn : Int)) = False := eq_false (by omega)
            have htj : ms.take j = ms := List.take_of_length_le (by rw [hml.out]; omega)
            rw [htj]
            replace htj := Lib.hid htj
            go_wp2_with fail
            go_meet
            exact ⟨rfl, hg1⟩
      case rest =>
      obtain ⟨rfl, hg1⟩ := hcut
      obtain ⟨W1, hW1⟩ : ∃ W1, W1 = wc := ⟨_, rfl⟩
      rw [← hW1] at hg1 ⊢
      clear hW1
      have f0 := gr_cell hg1.out e0
      have f1 := gr_cell hg1.out e1
      obtain ⟨hs1, q1, q2, q3⟩ := selUp_gr hup.out hg1.out
      have hbel1 := gr_below (gr_trans hg.out hg1.out)
      have hsn := selS_snoc H ms (ss.take k) s
      rw [← htk.out] at hsn
      replace q1 := Lib.hid q1
      replace q2 := Lib.hid q2
      replace q3 := Lib.hid q3
      replace hbel1 := Lib.hid hbel1
      clear e0 e1 hup hbel hg1
      generalize allM H ms s.l = al at *
      cases al with
      | false =>
        have hup2 : Hid (SelUp H ms w w.heap.size u5 (ss.take (k + 1)) W1) := by
          have h9 : selS H ms (ss.take (k + 1)) = selS H ms (ss.take k) := by rw [hsn]; simp
          refine ⟨hs1, ?_, ?_, ?_⟩
          · rw [h9]; exact q1.out
          · rw [h9]; exact q2.out
          · rw [h9]; exact q3.out
        clear hsn q1 q2 q3 f0 f1
        go_wp2
        go_roundw
        case rel => exact ⟨k + 1, by omega, by go_num, hup2, hbel1⟩
        case measure => simp [intOf]; omega
      | true =>
        have h9 : selS H ms (ss.take (k + 1)) = selS H ms (ss.take k) ++ [s] := by rw [hsn]; simp
        obtain ⟨L, hL⟩ : ∃ L, L = (selS H ms (ss.take k)).length := ⟨_, rfl⟩
        rw [← hL] at q2 hkl
        replace hL := Lib.hid hL
        replace h9 := Lib.hid h9
        clear hsn
        have hs2 := hbel1.out.size
        go_wp2_with (at_builtin; refine wpList_append_own _ rfl _ _ 32 rfl w.heap.size 73 ii (.agg #[.slice none 0 0, .slice none 0 0]) 2 48 Tryz.underlying32 hii hz0 hz1 hz2 rfl (by decide) u5 _ _ rfl (q2.out.alloc _) ⟨W1.heap.size, 0, none⟩ 1 1 [.slice x.la x.ln x.lc, .slice x.pa x.pn x.pc] rfl rfl ?c1 ?c2 ?c3 ?c4 ?c5 ?_; rotate_right; intro v' W4 hown4 hgrow _nl; clear _nl; have hb4 := hbel1.out.trans (below_append q2.out hgrow hbel1.out.size); clear hgrow; replace hown4 := Lib.hid hown4; replace hb4 := Lib.hid hb4)
        case c1 =>
          intro j u hj
          have hjl := (List.getElem?_eq_some_iff.1 hj).1
          simp only [List.length_cons, List.length_nil] at hjl
          rw [add_plain, Nat.zero_add, World.cell?_alloc_new]
          simpa using hj
        case c2 => intro u hu; exact shC_one x u hu
        case c3 => unfold maxLen; omega
        case c4 => omega
        case c5 => simp; omega
        have hup2 : Hid (SelUp H ms w w.heap.size v' (ss.take (k + 1)) W4) := by
          refine ⟨hs1 ++ [x], ?_, ?_, ?_⟩
          · rw [h9.out, List.length_append, List.length_append, q1.out]; rfl
          · rw [h9.out, List.length_append, sR_append, sR_one, ← hL.out]; exact hown4.out
          · rw [h9.out]
            intro i h' s' h1 h2
            have hq := q1.out
            by_cases hi : i < hs1.length
            · rw [List.getElem?_append_left hi] at h1
              rw [List.getElem?_append_left (by omega)] at h2
              exact q3.out i h' s' h1 h2
            · have hi2 : i = hs1.length := by
                have := (List.getElem?_eq_some_iff.1 h1).1
                rw [List.length_append, List.length_singleton] at this
                omega
              subst hi2
              rw [List.getElem?_append_right (Nat.le_refl _), Nat.sub_self] at h1
              rw [hq, List.getElem?_append_right (Nat.le_refl _), Nat.sub_self] at h2
              have h3 : x = h' := by simpa using h1
              have h4 : s = s' := by simpa using h2
              rw [← h3, ← h4]
              exact hrdw.out
        go_roundw
        case rel => exact ⟨k + 1, by omega, by go_num, hup2, hb4⟩
        case measure => simp [intOf]; omega
    · have hki : ((k : Int) < (n : Int)) = False := eq_false (by omega)
      have htk : ss.take k = ss := List.take_of_length_le (by rw [hsl.out]; omega)
      have hup2 := hup.out
      rw [htk] at hup2
      obtain ⟨hs1, q1, q2, q3⟩ := hup2
      obtain ⟨A', c', rfl, -, -⟩ := own_openS q2
      have hfin : SersOf wr A' (selS H ms ss).length hs1 (selS H ms ss) := ⟨rfl, q1, row_own q2, fun i h' s' h1 h2 => serRd_gr (q3 i h' s' h1 h2) hg⟩
      replace hfin := Lib.hid hfin
      replace hg := Lib.hid hg
      clear hup q1 q2 q3 htk
      go_wp2
      go_ret
      exact ⟨⟨A', c', hs1, rfl, hfin.out⟩, hg.out⟩
end Go.Proofs.YtccmekdmnkmhlaaGreat
