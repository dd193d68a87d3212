/-
  The document's store: a point is put (Put). No condition but bounds.
-/
import Derived.Test.YtccmekdmnkmhlaaGreatAKX
import Derived.Test.YtccmekdmnkmhlaaGreatSqStoOf
import Derived.Test.YtccmekdmnkmhlaaGreatQuietGr
namespace Go.Proofs.YtccmekdmnkmhlaaGreat
open Go.RowKit

/-- The blocks of a list of series, wherever they came from. -/
def RBlk (A : Option Addr) (hs : List SHd) (b : Nat) : Prop := (∃ a, A = some a ∧ a.block = b) ∨ ∃ h ∈ hs, (∃ a, h.la = some a ∧ a.block = b) ∨ (∃ a, h.pa = some a ∧ a.block = b)
def RPutPost (A : Option Addr) (hs : List SHd) (P : Int × List Ser) (w : World) (e : Ending) (w' : World) : Prop :=
  (∃ A' c' hs', e = .returned (.tuple #[.slice A' P.2.length c', .int .i64 P.1]) ∧ P.2.length ≤ c' ∧ c' ≤ 9223372036854775807 ∧ (A' = none → c' = 0) ∧ SersOf w' A' P.2.length hs' P.2 ∧ ∀ b, RBlk A' hs' b → RBlk A hs b ∨ (w.heap.size ≤ b ∧ b < w'.heap.size)) ∧ Gr w w'
theorem rput_same {w w' : World} {A : Option Addr} {n c : Nat} {hs : List SHd} {ss : List Ser} {e : Int} (h : SersOf w A n hs ss) (h1 : n ≤ c) (h2 : c ≤ 9223372036854775807) (h3 : A = none → c = 0) (g : Gr w w') : RPutPost A hs (e, ss) w (.returned (.tuple #[.slice A n c, .int .i64 e])) w' := by
  obtain rfl := h.1
  exact ⟨⟨A, c, hs, rfl, h1, h2, h3, sersOf_gr h g, fun b hb => .inl hb⟩, g⟩
theorem rput_new {w wo W : World} {A A3 : Option Addr} {n c3 k ln lc pb : Nat} {lA : Option Addr} {hs : List SHd} {ss : List Ser} {zs : List Lb} {t v : Int} {base : Nat} (h : SersOf w A n hs ss) (g : Gr w wo) (g3 : Gr wo W) (hk : k ≤ n) (hz : wo.ownsRow w.heap.size 58 2 (.slice lA ln lc) ln (sR lblC zs)) (hp : wo.heap[pb]? = some (.cells #[.int .i64 t, .int .i64 v] 75 (0, 0))) (hpb : w.heap.size ≤ pb)
    (hb : w.heap.size ≤ base) (hown : W.ownsRow base 73 2 (.slice A3 (n + 1) c3) (n + 1) (sR shC (hs.take k ++ [(⟨lA, ln, lc, some ⟨pb, 0, none⟩, 1, 1⟩ : SHd)] ++ hs.drop k))) : RPutPost A hs (0, ss.take k ++ ⟨zs, [(t, v)]⟩ :: ss.drop k) w (.returned (.tuple #[.slice A3 (n + 1) c3, .int .i64 0])) W := by
  have hsl := h.1
  have hhl := h.2.1
  have hlen : (ss.take k ++ (⟨zs, [(t, v)]⟩ : Ser) :: ss.drop k).length = n + 1 := by rw [List.length_append, List.length_cons, List.length_take, List.length_drop]; omega
  have G := gr_trans g g3
  obtain ⟨A', c', hv, h1, h2, h3⟩ := own_sliceS hown
  injection hv with e1 e2 e3
  subst e1 e3
  have hap : hs.take k ++ [(⟨lA, ln, lc, some ⟨pb, 0, none⟩, 1, 1⟩ : SHd)] ++ hs.drop k = hs.take k ++ (⟨lA, ln, lc, some ⟨pb, 0, none⟩, 1, 1⟩ : SHd) :: hs.drop k := by simp
  have hpt : Row W (some ⟨pb, 0, none⟩) 1 2 (sR pc [(t, v)]) := row_gr (row_blk (cs := sR pc [(t, v)]) hp rfl) g3
  have hzr : Row W lA ln 2 (sR lblC zs) := row_gr (row_own hz) g3
  refine ⟨⟨A3, c3, hs.take k ++ (⟨lA, ln, lc, some ⟨pb, 0, none⟩, 1, 1⟩ : SHd) :: hs.drop k, by rw [hlen], by rw [hlen]; exact h1, h2, h3, ?_, ?_⟩, G⟩
  · rw [hlen]
    refine ⟨hlen, by rw [List.length_append, List.length_cons, List.length_take, List.length_drop]; omega, by rw [← hap]; exact row_own hown, fun i x s hx hs' => ?_⟩
    rw [ins_at (by omega)] at hx hs'
    split at hx
    · next hi =>
      rw [if_pos hi] at hs'
      exact serRd_gr (h.2.2.2 i x s hx hs') G
    · next hi =>
      rw [if_neg hi] at hs'
      split at hx
      · next hik =>
        rw [if_pos hik] at hs'
        obtain rfl := Option.some.inj hx
        obtain rfl := Option.some.inj hs'
        exact ⟨hzr, hpt⟩
      · next hik =>
        rw [if_neg hik] at hs'
        exact serRd_gr (h.2.2.2 (i - 1) x s hx hs') G
  · intro b hb2
    have hlt : ∀ {q : Nat}, q < wo.heap.size → q < W.heap.size := fun hq => Nat.lt_of_lt_of_le hq g3.size
    rcases hb2 with ⟨a, rfl, rfl⟩ | ⟨x, hx, hx2⟩
    · right
      have := hown.lt _ rfl
      exact ⟨Nat.le_trans hb this.1, this.2⟩
    · rcases mem_ins hx with rfl | hx
      · rcases hx2 with ⟨a, ha, rfl⟩ | ⟨a, ha, rfl⟩
        · simp only at ha
          subst ha
          have := hz.lt _ rfl
          exact .inr ⟨this.1, hlt this.2⟩
        · simp only at ha
          obtain rfl := Option.some.inj ha
          exact .inr ⟨hpb, hlt (lt_of_blk hp)⟩
      · exact .inl (.inr ⟨x, hx, hx2⟩)
theorem rput_old {w W : World} {A : Option Addr} {n c3 k g cap : Nat} {hs : List SHd} {ss : List Ser} {x : SHd} {s : Ser} {t v : Int} (h : SersOf w A n hs ss) (gG : Gr w W) (hx : hs[k]? = some x) (hs' : ss[k]? = some s) (hown2 : W.ownsRow w.heap.size 73 2 (.slice (some ⟨g, 0, none⟩) n c3) n (sR shC hs)) {pA : Option Addr}
    (hp : W.ownsRow w.heap.size 75 2 (.slice pA (x.pn + 1) cap) (x.pn + 1) (sR pc s.p ++ pc (t, v))) : RPutPost A hs (0, ss.set k ⟨s.l, s.p ++ [(t, v)]⟩) w (.returned (.tuple #[.slice (some ⟨g, 0, none⟩) n c3, .int .i64 0])) (W.setCell ⟨g, k * 2 + 1, none⟩ (.slice pA (x.pn + 1) cap)) := by
  have hsl := h.1
  have hhl := h.2.1
  have hk := (List.getElem?_eq_some_iff.1 hx).1
  have hk2 := (List.getElem?_eq_some_iff.1 hs').1
  have hlen : (ss.set k ⟨s.l, s.p ++ [(t, v)]⟩).length = n := by rw [List.length_set]; exact hsl
  have gs := gr_set W ⟨g, k * 2 + 1, none⟩ (.slice pA (x.pn + 1) cap)
  have hgb := (hown2.lt g rfl).1
  have G : Gr w (W.setCell ⟨g, k * 2 + 1, none⟩ (.slice pA (x.pn + 1) cap)) := gr_of_below (below_gr (gr_below gG) gs gG.size (by intro q hq; cases hq; exact hgb)) (Nat.le_refl _)
  have hset : (sR shC hs).set (k * 2 + 1) (.slice pA (x.pn + 1) cap) = sR shC (hs.set k ⟨x.la, x.ln, x.lc, pA, x.pn + 1, cap⟩) := by
    rw [sR_set shC 2 shC_len _ _ _ hk]
    show _ = ((sR shC hs).set (k * 2) (.slice x.la x.ln x.lc)).set (k * 2 + 1) _
    congr 1
    have e0 : (sR shC hs)[k * 2]? = some (.slice x.la x.ln x.lc) := sR_at shC 2 shC_len hx (j := 0) (by decide)
    obtain ⟨e1, e2⟩ := List.getElem?_eq_some_iff.1 e0
    rw [← e2, List.set_getElem_self]
  have hst := (hown2.stored (k * 2 + 1) (.slice pA (x.pn + 1) cap)).1
  rw [hset] at hst
  have hpk := hp.kept gs (own_types hp hown2 (by decide))
  obtain ⟨A', c', hv, h1, h2, h3⟩ := own_sliceS hst
  injection hv with e1 e2 e3
  subst e1 e3
  refine ⟨⟨_, c3, hs.set k ⟨x.la, x.ln, x.lc, pA, x.pn + 1, cap⟩, by rw [hlen], by rw [hlen]; exact h1, h2, h3, ?_, ?_⟩, G⟩
  · rw [hlen]
    refine ⟨hlen, by rw [List.length_set]; exact hhl, row_own hst, fun i y z hy hz => ?_⟩
    by_cases hik : i = k
    · subst hik
      rw [List.getElem?_set_self hk] at hy
      rw [List.getElem?_set_self hk2] at hz
      obtain rfl := Option.some.inj hy
      obtain rfl := Option.some.inj hz
      refine ⟨(serRd_gr (h.2.2.2 i x s hx hs') G).1, ?_⟩
      have := row_own hpk
      rwa [← sR_one pc (t, v), ← sR_append] at this
    · rw [List.getElem?_set_ne (fun q => hik q.symm)] at hy hz
      exact serRd_gr (h.2.2.2 i y z hy hz) G
  · intro b hb
    rcases hb with ⟨a, ha, rfl⟩ | ⟨y, hy, hy2⟩
    · obtain rfl := Option.some.inj ha
      exact .inr ⟨hgb, (hst.lt g rfl).2⟩
    · rcases List.mem_or_eq_of_mem_set hy with hy | rfl
      · exact .inl (.inr ⟨y, hy, hy2⟩)
      · rcases hy2 with ⟨a, ha, rfl⟩ | ⟨a, ha, rfl⟩
        · exact .inl (.inr ⟨x, List.mem_of_getElem? hx, .inl ⟨a, ha, rfl⟩⟩)
        · simp only at ha
          subst ha
          have := hpk.lt _ rfl
          exact .inr this
set_option maxHeartbeats 32000000 in
set_option maxRecDepth 100000 in
theorem rput_any (A : Option Addr) (n c : Nat) (hs : List SHd) (ss : List Ser) (lA : Option Addr) (ln lc : Nat) (zs : List Lb) (t v : Int) (w : World) (h : SersOf w A n hs ss) (hi : InvS ss) (hnc : n ≤ c) (hcm : c ≤ 9223372036854775807) (hA : A = none → c = 0) (hln : ln ≤ 1000000) (hlA : lA = none → lc = 0) (hz : Row w lA ln 2 (sR lblC zs)) (hsh : ∀ x ∈ zs, x.n.length ≤ 1000000 ∧ x.v.length ≤ 1000000) :
    Calls Tryz.prog 9 #[.slice A n c, .slice lA ln lc, .int .i64 t, .int .i64 v] w (RPutPost A hs (putS ss zs t v) w) := by
  obtain ⟨P, hP⟩ : ∃ P, P = putS ss zs t v := ⟨_, rfl⟩
  rw [← hP]
  have hsl := h.1
  have cR := refRight_any lA ln lc zs w (by omega) hz hsh
  have cG := fun W (g : Gr w W) => rget1_any lA ln lc zs metricB W (by omega) (row_gr hz g)
  rw [show txt metricB = ⟨#[109, 101, 116, 114, 105, 99]⟩ from rfl] at cG
  have hno : ¬ (okSer zs ∧ okPt t v) → P = (1, ss) := fun q => by rw [hP]; unfold putS; rw [if_neg q]
  by_cases h1 : okLbs zs
  · rw [decide_eq_true h1] at cR
    by_cases h2 : getL zs metricB = []
    · have hf := hno (fun q => q.1.2 h2)
      rw [h2] at cG
      clear hno hP h1 h2
      subst hf
      replace cR := Lib.hid cR
      replace cG := Lib.hid cG
      go_enter Tryz.func9, Tryz.ntmps9
      go_wp2_with fail
      refine cR.out.mono ?_
      rintro e w1 ⟨rfl, g1⟩
      go_wp2_with fail
      refine (cG.out _ g1).mono ?_
      rintro e w2 ⟨rfl, g2⟩
      replace g1 := Lib.hid g1
      replace g2 := Lib.hid g2
      go_wp2
      go_ret2
      exact rput_same h hnc hcm hA (gr_trans g1.out g2.out)
    · have hq : (getL zs metricB).isEmpty = false := by rw [List.isEmpty_eq_false_iff]; exact h2
      generalize hVV : getL zs metricB = VV at cG hq
      replace hVV := Lib.hid hVV
      by_cases h3 : t < 0
      · have hf := hno (fun q => by have := q.2.1; omega)
        clear hno hP h1 h2
        subst hf
        replace cR := Lib.hid cR
        replace cG := Lib.hid cG
        go_enter Tryz.func9, Tryz.ntmps9
        go_wp2_with fail
        refine cR.out.mono ?_
        rintro e w1 ⟨rfl, g1⟩
        go_wp2_with fail
        refine (cG.out _ g1).mono ?_
        rintro e w2 ⟨rfl, g2⟩
        replace g1 := Lib.hid g1
        replace g2 := Lib.hid g2
        go_wp2
        go_ret2
        exact rput_same h hnc hcm hA (gr_trans g1.out g2.out)
      · by_cases h4 : 1000000000 < t
        · have hf := hno (fun q => by have := q.2.2.1; omega)
          clear hno hP h1 h2
          subst hf
          replace cR := Lib.hid cR
          replace cG := Lib.hid cG
          go_enter Tryz.func9, Tryz.ntmps9
          go_wp2_with fail
          refine cR.out.mono ?_
          rintro e w1 ⟨rfl, g1⟩
          go_wp2_with fail
          refine (cG.out _ g1).mono ?_
          rintro e w2 ⟨rfl, g2⟩
          replace g1 := Lib.hid g1
          replace g2 := Lib.hid g2
          go_wp2
          go_ret2
          exact rput_same h hnc hcm hA (gr_trans g1.out g2.out)
        · by_cases h5 : In v
          · have hok : okSer zs := ⟨h1, h2⟩
            have hP2 : P = putAt ss (placeS ss zs) zs t v := by rw [hP]; unfold putS; rw [if_pos ⟨hok, by omega, by omega, h5⟩]
            clear hno hP h1 h2
            replace cR := Lib.hid cR
            replace cG := Lib.hid cG
            have hlen := hi.len
            have cA := fun W (g : Gr w W) => rat_any A n c hs ss lA ln lc zs W (by omega) hln (sersOf_gr h g) hi.sort (fun s hs' => (ser_small hi s hs').1) (row_gr hz g)
            have hpl := placeS_ex ss hi.sort zs
            have hisAt : isAt ss zs = true ↔ ∃ s, ss[placeS ss zs]? = some s ∧ s.l = zs := by
              unfold isAt
              cases hq2 : ss[placeS ss zs]? with
              | none => simp
              | some s => simp only [decide_eq_true_eq]; exact ⟨fun q => ⟨s, rfl, cmpLs_eq q⟩, fun ⟨s', e, q⟩ => by rw [← Option.some.inj e] at q; rw [q, cmpLs_refl]⟩
            have hkl := hpl.1
            generalize placeS ss zs = k at *
            obtain ⟨ii, hii, hz0, hz1, hz2⟩ := info_parts infoSer
            have hsp : ∀ s ∈ ss, 1 ≤ s.p.length ∧ s.p.length ≤ 25 := fun s hs' => ⟨(hi.ok s hs').2.1, (hi.ok s hs').2.2.1⟩
            replace cA := Lib.hid cA
            replace hsp := Lib.hid hsp
            replace hpl := Lib.hid hpl
            replace hz := Lib.hid hz
            replace hP2 := Lib.hid hP2
            replace hnc' := Lib.hid hnc
            replace hA' := Lib.hid hA
            replace hlA := Lib.hid hlA
            clear hsh hok hA
            go_enter Tryz.func9, Tryz.ntmps9
            go_wp2_with fail
            refine cR.out.mono ?_
            rintro e w1 ⟨rfl, g1⟩
            go_wp2_with fail
            refine (cG.out _ g1).mono ?_
            rintro e w2 ⟨rfl, g2⟩
            go_wp2_with fail
            refine (ptValue_yes v _ h5).mono ?_
            rintro e w3 ⟨rfl, rfl⟩
            have G2 := gr_trans g1 g2
            replace G2 := Lib.hid G2
            clear g1 g2
            go_wp2_with fail
            refine (cA.out _ G2.out).mono ?_
            rintro e w4 ⟨rfl, g4⟩
            have G4 := gr_trans G2.out g4
            replace G4 := Lib.hid G4
            clear g4 cA cR cG
            cases hb : isAt ss zs with
            | false =>
              have hno2 : ¬ ∃ s, ss[k]? = some s ∧ s.l = zs := fun q => by have := hisAt.2 q; rw [hb] at this; cases this
              have hP4 := hP2.out
              rw [putAt_no hno2] at hP4
              replace hisAt := Lib.hid hisAt
              replace hno2 := Lib.hid hno2
              go_wp2_with fail
              refine wp_region_quiet_gr (by kernel_rfl) (by kernel_rfl) ?_
              repeat (go_big_quiet_step (fail))
              refine wpQuiet_nil ?_
              intro w5 hw5
              obtain ⟨⟨wP5, gP5⟩, rfl⟩ := hw5
              have G5 := gr_trans G4.out gP5
              replace G5 := Lib.hid G5
              by_cases h40 : 40 ≤ ss.length
              · rw [if_pos h40] at hP4
                subst hP4
                have h40I : (40 : Int) ≤ (n : Int) := by omega
                go_wp2
                go_ret2
                exact rput_same h hnc hcm hA'.out G5.out
              · rw [if_neg h40] at hP4
                subst hP4
                have h40I : ¬ (40 : Int) ≤ (n : Int) := by omega
                have hr5 := row_gr h.2.2.1 G5.out
                have hz5 := row_gr hz.out G5.out
                replace hr5 := Lib.hid hr5
                replace hz5 := Lib.hid hz5
                obtain ⟨jj, hjj, jz0, jz1, jz2⟩ := info_parts infoLb
                go_upto_region 8 with fail
                go_upto_region 9 with (at_builtin; refine wpList_append_row (o := ⟨some 84, _, _, _, _, _⟩) rfl _ _ 32 rfl w.heap.size 73 ii (.agg #[.slice none 0 0, .slice none 0 0]) 2 48 Tryz.underlying32 hii hz0 hz1 hz2 rfl (by decide) (.slice none 0 0) 0 [] rfl (World.ownsRow_nil _ _ _ _) A n c (sR shC hs) rfl hA'.out hr5.out (shs_one _) n (sR shC hs) (by omega) rfl (by unfold maxLen; omega) (by omega) G5.out.size ?_; intro v8 W8 hown8 hg8; have G8 := gr_of_below (below_gr (gr_below G5.out) hg8 G5.out.size (by simp [Value.ownBlock])) (Nat.le_refl _); have hz8 := row_gr hz.out G8; have hrr := row_gr h.2.2.1 G8; clear hown8 hg8; replace G8 := Lib.hid G8; replace hz8 := Lib.hid hz8; replace hrr := Lib.hid hrr)
                clear hr5 hz5
                go_upto_region 12 with fail
                go_upto_region 13 with (at_builtin; refine wpList_append_row (o := ⟨some 103, _, _, _, _, _⟩) rfl _ _ 46 rfl w.heap.size 58 jj (.agg #[.string ⟨#[]⟩, .string ⟨#[]⟩]) 2 32 Tryz.underlying46 hjj jz0 jz1 jz2 rfl (by decide) (.slice none 0 0) 0 [] rfl (World.ownsRow_nil _ _ _ _) lA ln lc (sR lblC zs) rfl hlA.out hz8.out (lbls_ones _) ln (sR lblC zs) (by omega) rfl (by unfold maxLen; omega) (by omega) G8.out.size ?_; intro v9 W9 hown9 hg9; have G9 := gr_of_below (below_gr (gr_below G8.out) hg9 G8.out.size (by simp [Value.ownBlock])) (Nat.le_refl _); clear hg9; obtain ⟨lA9, lc9, rfl, _, _⟩ := own_openS hown9; replace G9 := Lib.hid G9; replace hown9 := Lib.hid hown9)
                obtain ⟨W10, hW10⟩ : ∃ W10, W10 = (W9.alloc (.cells #[.int .i64 t, .int .i64 v] 75)).alloc (.cells #[.slice lA9 ln lc9, .slice (some ⟨W9.heap.size, 0, none⟩) 1 1] 73) := ⟨_, rfl⟩
                have ga := gr_alloc W9 (.cells #[.int .i64 t, .int .i64 v] 75) none
                have gb := gr_alloc (W9.alloc (.cells #[.int .i64 t, .int .i64 v] 75)) (.cells #[.slice lA9 ln lc9, .slice (some ⟨W9.heap.size, 0, none⟩) 1 1] 73) none
                have hb9 := blk_new (W9.alloc (.cells #[.int .i64 t, .int .i64 v] 75)) (.cells #[.slice lA9 ln lc9, .slice (some ⟨W9.heap.size, 0, none⟩) 1 1] 73)
                have hp9 := gr_blk gb (blk_new W9 (.cells #[.int .i64 t, .int .i64 v] 75)) (by simp)
                rw [show (W9.alloc (.cells #[.int .i64 t, .int .i64 v] 75)).heap.size = W9.heap.size + 1 by simp] at hb9
                rw [← hW10] at hb9 hp9 gb ⊢
                have g910 := gr_trans ga gb
                have G10 := gr_trans G9.out g910
                have hown10 := hown9.out.kept g910 (Classical.em _)
                have hc0 : W10.cell? ⟨W9.heap.size + 1, 0, none⟩ = some (.slice lA9 ln lc9) := blk_cell hb9 rfl
                have hc1 : W10.cell? ⟨W9.heap.size + 1, 0 + 1, none⟩ = some (.slice (some ⟨W9.heap.size, 0, none⟩) 1 1) := blk_cell hb9 rfl
                have hr10 := row_gr h.2.2.1 G10
                have hrt : Row W10 A k 2 (sR shC (hs.take k)) := by rw [sR_take shC 2 shC_len]; exact row_take hr10 k (by omega)
                have hrd : ∀ _u : Unit, Row W10 (if c = k then A else Option.map (fun z => z.add (k * 2)) A) (n - k) 2 (sR shC (hs.drop k)) := fun _ => row_rest shC_len (by decide) hr10 (by omega) hnc
                have hao : ∀ _u : Unit, (if c = k then A else Option.map (fun z => z.add (k * 2)) A) = none → c - k = 0 := fun _ h' => by
                  have h9 := hA'.out
                  cases A with
                  | none => have := h9 rfl; omega
                  | some a' => split at h' <;> simp at h'
                have hk0 : (0 : Int) ≤ (k : Int) := by omega
                have hkc : (k : Int) ≤ (c : Int) := by omega
                have hkn : (k : Int) ≤ (n : Int) := by omega
                have hw9 := G9.out.size
                have hw10 := G10.size
                have hc0' := Lib.hid hc0
                have hc1' := Lib.hid hc1
                replace hrt := Lib.hid hrt
                replace hrd := Lib.hid hrd
                replace hao := Lib.hid hao
                replace hown10 := Lib.hid hown10
                replace hp9 := Lib.hid hp9
                replace hb9 := Lib.hid hb9
                replace hW10 := Lib.hid hW10
                replace G10 := Lib.hid G10
                have hb0 : SL W10 (W9.heap.size + 1) 0 (.slice lA9 ln lc9) (.slice (some ⟨W9.heap.size, 0, none⟩) 1 1) W10 := sl_of hc0 hc1 (gr_refl _ _)
                clear ga gb g910 hr10 hc0 hc1
                go_region_held3 (fun w' => Gr W10 w' ∧ w'.cell? ⟨(W9.heap.size + 1), 0, none⟩ = some (.slice lA9 ln lc9) ∧ w'.cell? ⟨(W9.heap.size + 1), 0 + 1, none⟩ = some (.slice (some ⟨W9.heap.size, 0, none⟩) 1 1)) (first | assumption | exact sl_drew (wo := W10) (B := (W9.heap.size + 1)) (o := 0) (u0 := .slice lA9 ln lc9) (u1 := .slice (some ⟨W9.heap.size, 0, none⟩) 1 1) (by assumption) | exact sl_alloc (wo := W10) (B := (W9.heap.size + 1)) (o := 0) (u0 := .slice lA9 ln lc9) (u1 := .slice (some ⟨W9.heap.size, 0, none⟩) 1 1) (by assumption) _) (first | (refine step_append_rowS (o := ⟨some 112, _, _, _, _, _⟩) (by rfl) _ _ 32 (by rfl) W10.heap.size 73 ii (.agg #[.slice none 0 0, .slice none 0 0]) 2 48 Tryz.underlying32 hii hz0 hz1 hz2 rfl (by decide) (.slice none 0 0) (0) ([]) (by rfl) (by exact World.ownsRow_nil _ _ _ _) _ _ _ (sR shC (hs.take k)) (by rfl) (by exact hA'.out) (by exact row_gr hrt.out (sl_gr (show SL W10 (W9.heap.size + 1) (0) (.slice lA9 ln lc9) (.slice (some ⟨W9.heap.size, 0, none⟩) 1 1) _ from by assumption))) (shs_one _) (k) (sR shC (hs.take k)) (by omega) (by rfl) (by unfold maxLen; omega) (by omega) (by exact (sl_gr (show SL W10 (W9.heap.size + 1) (0) (.slice lA9 ln lc9) (.slice (some ⟨W9.heap.size, 0, none⟩) 1 1) _ from by assumption)).size) ?_; intro v1 W1 hown1 hgrow1; have hsf1 := sl_grown hc0'.out hc1'.out (show SL W10 (W9.heap.size + 1) (0) (.slice lA9 ln lc9) (.slice (some ⟨W9.heap.size, 0, none⟩) 1 1) _ from by assumption) hgrow1 (by simp [Value.ownBlock])) | (refine step_append_rowS (o := ⟨some 115, _, _, _, _, _⟩) (by rfl) _ _ 32 (by rfl) W10.heap.size 73 ii (.agg #[.slice none 0 0, .slice none 0 0]) 2 48 Tryz.underlying32 hii hz0 hz1 hz2 rfl (by decide) v1 (k) (sR shC (hs.take k)) (by rfl) (by first | exact hown1 | exact hown1.alloc _ | exact (hown1.kept (gr_drew W1 none) (Classical.em _)).alloc _ | exact (hown1.alloc _).kept (gr_drew _ none) (Classical.em _)) _ _ _ (shC (⟨lA9, ln, lc9, some ⟨W9.heap.size, 0, none⟩, 1, 1⟩ : SHd)) (by rfl) (by intro e; cases e) (by first | exact row_newS shC_len W1 (⟨lA9, ln, lc9, some ⟨W9.heap.size, 0, none⟩, 1, 1⟩ : SHd) 73 | exact row_gr (by exact row_heapS (w := W10.alloc (.cells (shC (⟨lA9, ln, lc9, some ⟨W9.heap.size, 0, none⟩, 1, 1⟩ : SHd)).toArray 73)) (by rfl) (row_newS shC_len W10 (⟨lA9, ln, lc9, some ⟨W9.heap.size, 0, none⟩, 1, 1⟩ : SHd) 73)) hgrow1 | exact row_gr (row_newS shC_len W1 (⟨lA9, ln, lc9, some ⟨W9.heap.size, 0, none⟩, 1, 1⟩ : SHd) 73) (gr_drew _ none)) (shC_one _) (k + 1) (sR shC (hs.take k ++ [(⟨lA9, ln, lc9, some ⟨W9.heap.size, 0, none⟩, 1, 1⟩ : SHd)])) (by omega) (by rw [sR_append, sR_one]) (by unfold maxLen; omega) (by omega) (by exact (sl_gr (show SL W10 (W9.heap.size + 1) (0) (.slice lA9 ln lc9) (.slice (some ⟨W9.heap.size, 0, none⟩) 1 1) _ from by assumption)).size) ?_; intro v2 W2 hown2 hgrow2; have hsf2 := sl_grown hc0'.out hc1'.out (show SL W10 (W9.heap.size + 1) (0) (.slice lA9 ln lc9) (.slice (some ⟨W9.heap.size, 0, none⟩) 1 1) _ from by assumption) hgrow2 (fun j hj => (hown1.lt j hj).1)) | (refine step_append_rowS (o := ⟨some 119, _, _, _, _, _⟩) (by rfl) _ _ 32 (by rfl) W10.heap.size 73 ii (.agg #[.slice none 0 0, .slice none 0 0]) 2 48 Tryz.underlying32 hii hz0 hz1 hz2 rfl (by decide) v2 (k + 1) (sR shC (hs.take k ++ [(⟨lA9, ln, lc9, some ⟨W9.heap.size, 0, none⟩, 1, 1⟩ : SHd)])) (by rfl) (by first | exact hown2 | exact hown2.kept (gr_drew W2 none) (Classical.em _)) _ _ _ (sR shC (hs.drop k)) (by rfl) (by exact hao.out ()) (by exact row_gr (hrd.out ()) (sl_gr (show SL W10 (W9.heap.size + 1) (0) (.slice lA9 ln lc9) (.slice (some ⟨W9.heap.size, 0, none⟩) 1 1) _ from by assumption))) (shs_one _) (n + 1) (sR shC (hs.take k ++ [(⟨lA9, ln, lc9, some ⟨W9.heap.size, 0, none⟩, 1, 1⟩ : SHd)] ++ hs.drop k)) (by omega) (by rw [sR_append shC (hs.take k ++ [(⟨lA9, ln, lc9, some ⟨W9.heap.size, 0, none⟩, 1, 1⟩ : SHd)])]) (by unfold maxLen; omega) (by omega) (by exact (sl_gr (show SL W10 (W9.heap.size + 1) (0) (.slice lA9 ln lc9) (.slice (some ⟨W9.heap.size, 0, none⟩) 1 1) _ from by assumption)).size) ?_; intro v3 W3 hown3 hgrow3; have hsf3 := sl_grown hc0'.out hc1'.out (show SL W10 (W9.heap.size + 1) (0) (.slice lA9 ln lc9) (.slice (some ⟨W9.heap.size, 0, none⟩) 1 1) _ from by assumption) hgrow3 (fun j hj => (hown2.lt j hj).1)))
                all_goals
                  obtain ⟨A3, c3, rfl, _, _, _⟩ := own_sliceS hown3
                  have hG3 := sl_gr (wo := W10) (B := W9.heap.size + 1) (o := 0) (u0 := .slice lA9 ln lc9) (u1 := .slice (some ⟨W9.heap.size, 0, none⟩) 1 1) hsf3
                  have hfin := rput_new h G10.out hG3 (by omega) hown10.out hp9.out hw9 hw10 hown3
                  replace hfin := Lib.hid hfin
                  clear hown3 hgrow3 hown2 hgrow2 hown1 hgrow1 hsf1 hsf2 hsf3 hb0 hG3
                  go_wp2
                  all_goals
                    go_ret2
                    exact hfin.out
            | true =>
              obtain ⟨s, hs', rfl⟩ := hisAt.1 hb
              have hP4 := hP2.out
              rw [putAt_yes hs'] at hP4
              have hklt := (List.getElem?_eq_some_iff.1 hs').1
              obtain ⟨hp1, hp25⟩ := hsp.out s (List.mem_of_getElem? hs')
              obtain ⟨x, s', B, o, hx, hs'', rfl, d0, d1, hrd, _, hpn⟩ := sersOf_at (sersOf_gr h G4.out) (by omega : k < n)
              obtain rfl : s = s' := by rw [hs'] at hs''; exact Option.some.inj hs''
              obtain ⟨Bp, op, hpa, _, dp, _⟩ := pt_cell (zs := s.p) (n := x.pn) (A := x.pa) hrd.2 (k := x.pn - 1) (by omega)
              have hlast : pT s.p (x.pn - 1) = lastT s.p := by unfold lastT; rw [hpn]
              rw [hlast] at dp
              rw [hpn] at hP4
              have hrp := hrd.2
              have hkI : (k : Int) < (n : Int) := by omega
              have hk0 : (0 : Int) ≤ (k : Int) := by omega
              have y1 : (x.pn : Int) - 1 < (x.pn : Int) := by omega
              have y2 : ((x.pn : Int) - 1).toNat = x.pn - 1 := by omega
              have y3 : IntKind.i64.wrap ((x.pn : Int) - 1) = (x.pn : Int) - 1 := IntWalk.i64_in _ (by omega)
              have y4 : (0 : Int) ≤ (x.pn : Int) - 1 := by omega
              have hpx : x.pn ≤ 25 := by omega
              have hpx1 : 1 ≤ x.pn := by omega
              generalize lastT s.p = T at *
              rw [hpa] at d1
              have z0 := cell_to d1
              have z1 := cell_to dp
              replace hisAt := Lib.hid hisAt
              replace hrp := Lib.hid hrp
              replace d1 := Lib.hid d1
              replace hs' := Lib.hid hs'
              replace hx := Lib.hid hx
              replace hpa := Lib.hid hpa
              clear hs'' d0 hrd hpn hlast hp1 hp25 dp
              have hb1 : decide (t ≤ T) = decide (T ≥ t) := rfl
              go_wp2_with fail
              refine wp_region_quiet_gr (by kernel_rfl) (by kernel_rfl) ?_
              repeat (go_big_quiet_step (fail))
              refine wpQuiet_nil ?_
              intro w5 hw5
              obtain ⟨⟨wP5, gP5⟩, rfl⟩ := hw5
              have G5 := gr_trans G4.out gP5
              have e1 := gr_cell gP5 d1.out
              replace G5 := Lib.hid G5
              clear z0 z1
              by_cases c1 : t ≤ T
              · rw [if_pos c1] at hP4
                subst hP4
                go_wp2
                go_ret2
                exact rput_same h hnc hcm hA'.out G5.out
              · rw [if_neg c1] at hP4
                by_cases c2 : 25 ≤ x.pn
                · rw [if_pos c2] at hP4
                  subst hP4
                  have c2I : (25 : Int) ≤ (x.pn : Int) := by omega
                  go_wp2
                  go_ret2
                  exact rput_same h hnc hcm hA'.out G5.out
                · rw [if_neg c2] at hP4
                  subst hP4
                  have c2I : ¬ (25 : Int) ≤ (x.pn : Int) := by omega
                  have hr5 := row_gr h.2.2.1 G5.out
                  have hrp5 := row_gr hrp.out gP5
                  obtain ⟨pp, hpp, pz0, pz1, pz2⟩ := info_parts infoPt
                  replace hr5 := Lib.hid hr5
                  replace hrp5 := Lib.hid hrp5
                  go_upto_region 8 with fail
                  have e1' := Lib.hid e1
                  clear e1
                  go_upto_region 9 with (at_builtin; refine wpList_append_row (o := ⟨some 84, _, _, _, _, _⟩) rfl _ _ 32 rfl w.heap.size 73 ii (.agg #[.slice none 0 0, .slice none 0 0]) 2 48 Tryz.underlying32 hii hz0 hz1 hz2 rfl (by decide) (.slice none 0 0) 0 [] rfl (World.ownsRow_nil _ _ _ _) (some ⟨B, o, none⟩) n c (sR shC hs) rfl hA'.out hr5.out (shs_one _) n (sR shC hs) (by omega) rfl (by unfold maxLen; omega) (by omega) G5.out.size ?_; intro v8 W8 hown8 hg8; have g58 : Gr w5 W8 := hg8; replace g58 := Lib.hid g58; replace hown8 := Lib.hid hown8; clear hg8)
                  obtain ⟨g8, c8, rfl, _, _⟩ := hown8.out.form (by omega)
                  have G8 := gr_trans G5.out g58.out
                  have e2 := gr_cell g58.out e1'.out
                  have hrp8 := row_gr hrp5.out g58.out
                  rw [hpa.out] at hrp8
                  replace hrp8 := Lib.hid hrp8
                  replace G8 := Lib.hid G8
                  clear e1' hr5 hrp5 g58 d1
                  go_upto_region 10 with fail
                  go_wp2_with (at_builtin; first
                    | (refine wpList_append_row (o := ⟨some 93, _, _, _, _, _⟩) rfl _ _ 71 rfl w.heap.size 75 pp (.agg #[.int .i64 0, .int .i64 0]) 2 16 Tryz.underlying71 hpp pz0 pz1 pz2 rfl (by decide) (.slice none 0 0) 0 [] rfl (World.ownsRow_nil _ _ _ _) (some ⟨Bp, op, none⟩) x.pn x.pc (sR pc s.p) rfl (fun e => by cases e) hrp8.out (pcsR_one _) x.pn (sR pc s.p) (by omega) rfl (by unfold maxLen; omega) (by omega) G8.out.size ?_
                       intro v93 W93 hown93 hg93
                       have g93 : Gr W8 W93 := hg93
                       have G93 := gr_trans G8.out g93
                       have hk93 := hown8.out.kept g93 (Classical.em _)
                       clear hg93 e2
                       replace hown93 := Lib.hid hown93
                       replace hk93 := Lib.hid hk93
                       replace G93 := Lib.hid G93)
                    | (refine wpList_append_own (o := ⟨some 98, _, _, _, _, _⟩) _ rfl _ _ 71 rfl w.heap.size 75 pp (.agg #[.int .i64 0, .int .i64 0]) 2 16 Tryz.underlying71 hpp pz0 pz1 pz2 rfl (by decide) v93 _ _ rfl (hown93.out.alloc _) ⟨W93.heap.size, 0, none⟩ 1 1 [.int .i64 t, .int .i64 v] rfl rfl (fun j u hj => by rw [add_plain, Nat.zero_add, World.cell?_alloc_new]; simpa using hj) (by simp [Value.oneCell']) (by unfold maxLen; omega) (by omega) (by have := G93.out.size; simp; omega) ?_
                       intro v98 W98 hown98 hg98 _nl
                       clear _nl
                       have hkA := hk93.out.alloc (.cells #[.int .i64 t, .int .i64 v] 75)
                       have hk98 := hkA.kept hg98 (own_types hkA (hown93.out.alloc (.cells #[.int .i64 t, .int .i64 v] 75)) (by decide))
                       have G98 : Gr w W98 := gr_of_below (below_gr (below_gr (gr_below G93.out) (gr_alloc W93 (.cells #[.int .i64 t, .int .i64 v] 75) none) G93.out.size (by simp)) hg98 (by have := G93.out.size; simp; omega) (fun q hq => (hown93.out.lt q hq).1)) (Nat.le_refl _)
                       obtain ⟨old, hold⟩ := Option.isSome_iff_exists.1 (own_some hk98 (show k * 2 + 1 < n * 2 by omega))
                       have hfz := hk98.frozenAt (k * 2 + 1)
                       obtain ⟨pA98, pc98, rfl, _, _⟩ := own_openS hown98
                       have hfin := rput_old h G98 hx.out hs'.out hk98 hown98
                       clear hg98 hkA hk98 hown98
                       replace hfin := Lib.hid hfin))
                  go_ret2
                  exact hfin.out
          · have hf := hno (fun q => h5 q.2.2.2)
            clear hno hP h1 h2
            subst hf
            replace cR := Lib.hid cR
            replace cG := Lib.hid cG
            go_enter Tryz.func9, Tryz.ntmps9
            go_wp2_with fail
            refine cR.out.mono ?_
            rintro e w1 ⟨rfl, g1⟩
            go_wp2_with fail
            refine (cG.out _ g1).mono ?_
            rintro e w2 ⟨rfl, g2⟩
            go_wp2_with fail
            refine (ptValue_no v _ h5).mono ?_
            rintro e w3 ⟨rfl, rfl⟩
            replace g1 := Lib.hid g1
            replace g2 := Lib.hid g2
            go_wp2
            go_ret2
            exact rput_same h hnc hcm hA (gr_trans g1.out g2.out)
  · rw [decide_eq_false h1] at cR
    have hf := hno (fun q => h1 q.1.1)
    clear hno hP h1
    subst hf
    replace cR := Lib.hid cR
    replace cG := Lib.hid cG
    go_enter Tryz.func9, Tryz.ntmps9
    go_wp2_with fail
    refine cR.out.mono ?_
    rintro e w1 ⟨rfl, g1⟩
    replace g1 := Lib.hid g1
    go_wp2
    go_ret2
    exact rput_same h hnc hcm hA g1.out
end Go.Proofs.YtccmekdmnkmhlaaGreat
