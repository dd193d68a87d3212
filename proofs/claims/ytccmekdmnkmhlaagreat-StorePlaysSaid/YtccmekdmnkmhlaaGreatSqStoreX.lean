/-
  Several facts, one behind the other; no condition but bounds: A store as a list of series: how labels stand, where a series has its place, what a point that is put leaves. No condition. A store in memory; how a series stands beside labels; where labels have their place. No condition but bounds on the lengths. slices.BinarySearchFunc of series that stand by their labels. No condition but bounds on the lengths. A point is put: (*Store).Put. No condition but bounds, and that the store lies in memory as it may. Copies of series: store.copies, (*Store).All, Points, Copy. No condition but bounds on the lengths. Matchers that are ready: store.ready, store.all, and what one is true of. No condition but bounds on the lengths. Series that matchers mean: store.all, test.of, (*Store).Select. No condition but bounds on the lengths. (*Store).Select: the series that matchers mean. No condition but bounds, and that the store lies in memory as it may. The first call of the chapter on stores answers true. No condition. A store as the laws use it: behind a base, put into. No condition but bounds.
-/
import Derived.Test.YtccmekdmnkmhlaaGreatLabelRight
import Derived.Test.YtccmekdmnkmhlaaGreatWinRight
import Derived.Test.YtccmekdmnkmhlaaGreatRowMore
import Derived.Deep.RegionLaw
import Derived.Test.YtccmekdmnkmhlaaGreatAIX
namespace Go.Proofs.YtccmekdmnkmhlaaGreat
open Go.RowKit

/-! ### Lists of labels, how they stand -/
def ltLs (a b : List Lb) : Prop := cmpLs a b < 0
theorem cmpLs_anti : ∀ (a b : List Lb), cmpLs b a = - cmpLs a b
  | [], [] => rfl
  | [], _ :: _ => rfl
  | _ :: _, [] => rfl
  | x :: a, y :: b => by
    unfold cmpLs
    have h := cmpLb_anti x y
    by_cases c : cmpLb x y = 0
    · rw [if_pos c, if_pos (by omega)]
      exact cmpLs_anti a b
    · rw [if_neg c, if_neg (by omega)]
      exact h
theorem ltLs_trans : ∀ {a b c : List Lb}, ltLs a b → ltLs b c → ltLs a c
  | [], [], _, h, _ => by simp [ltLs, cmpLs] at h
  | [], _ :: _, [], _, k => by simp [ltLs, cmpLs] at k
  | [], _ :: _, _ :: _, _, _ => by simp [ltLs, cmpLs]
  | _ :: _, [], _, h, _ => by simp [ltLs, cmpLs] at h
  | _ :: _, _ :: _, [], _, k => by simp [ltLs, cmpLs] at k
  | x :: a, y :: b, z :: c, h, k => by
    unfold ltLs cmpLs at h k ⊢
    by_cases h1 : cmpLb x y = 0
    · rw [if_pos h1] at h
      have e := cmpLb_eq h1
      subst e
      by_cases h2 : cmpLb x z = 0
      · rw [if_pos h2] at k ⊢
        exact ltLs_trans (a := a) (b := b) (c := c) h k
      · rw [if_neg h2] at k ⊢
        exact k
    · rw [if_neg h1] at h
      by_cases h2 : cmpLb y z = 0
      · have e := cmpLb_eq h2
        subst e
        rw [if_neg h1]
        exact h
      · rw [if_neg h2] at k
        have := ltLb_trans (a := x) (b := y) (c := z) h k
        unfold ltLb at this
        rw [if_neg (by omega)]
        exact this
theorem ltLs_irr (a : List Lb) : ¬ ltLs a a := by unfold ltLs; rw [cmpLs_refl]; decide
theorem ltLs_tri (a b : List Lb) : ltLs a b ∨ a = b ∨ ltLs b a := by
  unfold ltLs
  have h := cmpLs_anti a b
  rcases Int.lt_trichotomy (cmpLs a b) 0 with c | c | c
  · exact .inl c
  · exact .inr (.inl (cmpLs_eq c))
  · exact .inr (.inr (by omega))
theorem ltLs_asym {a b : List Lb} (h : ltLs a b) : ¬ ltLs b a := fun k => ltLs_irr a (ltLs_trans h k)
theorem geLs {a b : List Lb} : 0 ≤ cmpLs a b ↔ ¬ ltLs a b := by unfold ltLs; omega

/-! ### Series -/
structure Ser where
  l : List Lb
  p : List (Int × Int)
/-- What a name stands for. -/
def getL : List Lb → List UInt8 → List UInt8
  | [], _ => []
  | x :: l, n => if x.n = n then x.v else getL l n
def metricB : List UInt8 := [109, 101, 116, 114, 105, 99]
/-- Labels that may be a series'. -/
def okSer (l : List Lb) : Prop := okLbs l ∧ getL l metricB ≠ []
instance (l : List Lb) : Decidable (okSer l) := by unfold okSer; exact inferInstance
def SortedS (ss : List Ser) : Prop := ss.Pairwise (fun a b => ltLs a.l b.l)
/-- So many stand ahead. -/
def PlaceS (ss : List Ser) (l : List Lb) (k : Nat) : Prop := k ≤ ss.length ∧ (∀ y ∈ ss.take k, ltLs y.l l) ∧ ∀ y ∈ ss.drop k, ¬ ltLs y.l l
def placeS (ss : List Ser) (l : List Lb) : Nat := (ss.takeWhile (fun y => decide (cmpLs y.l l < 0))).length
theorem placeS_of : ∀ {ss : List Ser} {l : List Lb} {k : Nat}, PlaceS ss l k → placeS ss l = k
  | [], l, k, h => by
    have := h.1
    simp at this
    subst this
    rfl
  | y :: ss, l, 0, h => by
    have := h.2.2 y (by simp)
    unfold placeS
    rw [List.takeWhile_cons_of_neg (by simpa [ltLs] using this)]
    rfl
  | y :: ss, l, k + 1, h => by
    have h1 := h.2.1 y (by simp)
    have ih := placeS_of (ss := ss) (l := l) (k := k) ⟨by have := h.1; simp at this; omega, fun z hz => h.2.1 z (by rw [List.take_succ_cons]; exact List.mem_cons_of_mem _ hz), fun z hz => h.2.2 z (by simpa using hz)⟩
    unfold placeS at ih ⊢
    rw [List.takeWhile_cons_of_pos (by simpa [ltLs] using h1), List.length_cons, ih]
theorem sortedS_at {ss : List Ser} (h : SortedS ss) {i j : Nat} {x y : Ser} (hx : ss[i]? = some x) (hy : ss[j]? = some y) (hij : i < j) : ltLs x.l y.l := by
  obtain ⟨h1, rfl⟩ := List.getElem?_eq_some_iff.1 hx
  obtain ⟨h2, rfl⟩ := List.getElem?_eq_some_iff.1 hy
  exact List.pairwise_iff_getElem.1 h i j h1 h2 hij
theorem belowS_up {ss : List Ser} (h : SortedS ss) {k : Nat} {x : Ser} (hx : ss[k]? = some x) {l : List Lb} (ht : ltLs x.l l) : ∀ y ∈ ss.take (k + 1), ltLs y.l l := by
  intro y hy
  obtain ⟨i, hi⟩ := List.getElem?_of_mem hy
  rw [List.getElem?_take] at hi
  split at hi
  · rcases Nat.lt_or_ge i k with hik | hik
    · exact ltLs_trans (sortedS_at h hi hx hik) ht
    · have : i = k := by omega
      subst this
      rw [hx] at hi
      rw [← Option.some.inj hi]
      exact ht
  · cases hi
theorem aboveS_down {ss : List Ser} (h : SortedS ss) {k : Nat} {x : Ser} (hx : ss[k]? = some x) {l : List Lb} (ht : ¬ ltLs x.l l) : ∀ y ∈ ss.drop k, ¬ ltLs y.l l := by
  intro y hy
  obtain ⟨i, hi⟩ := List.getElem?_of_mem hy
  rw [List.getElem?_drop] at hi
  rcases Nat.eq_zero_or_pos i with rfl | hik
  · rw [Nat.add_zero, hx] at hi
    rw [← Option.some.inj hi]
    exact ht
  · exact fun q => ht (ltLs_trans (sortedS_at h hx hi (by omega)) q)
theorem placeS_ex (ss : List Ser) (h : SortedS ss) (l : List Lb) : PlaceS ss l (placeS ss l) := by
  have : ∃ k, PlaceS ss l k := by
    induction ss with
    | nil => exact ⟨0, Nat.le_refl _, by simp, by simp⟩
    | cons y ss ih =>
      have h2 : SortedS ss := (List.pairwise_cons.1 h).2
      by_cases hy : ltLs y.l l
      · obtain ⟨k, k1, k2, k3⟩ := ih h2
        refine ⟨k + 1, by simp; omega, fun z hz => ?_, fun z hz => k3 z (by simpa using hz)⟩
        rw [List.take_succ_cons] at hz
        rcases List.mem_cons.1 hz with rfl | hz
        · exact hy
        · exact k2 z hz
      · refine ⟨0, by omega, by simp, fun z hz => ?_⟩
        rw [List.drop_zero] at hz
        rcases List.mem_cons.1 hz with rfl | hz
        · exact hy
        · exact fun q => hy (ltLs_trans ((List.pairwise_cons.1 h).1 z hz) q)
  obtain ⟨k, hk⟩ := this
  rw [placeS_of hk]
  exact hk
def okPt (t v : Int) : Prop := 0 ≤ t ∧ t ≤ 1000000000 ∧ In v
instance (t v : Int) : Decidable (okPt t v) := by unfold okPt In; exact inferInstance
/-- The time of the last point. -/
def lastT (p : List (Int × Int)) : Int := pT p (p.length - 1)
/-- A point is put at a place. -/
def putAt (ss : List Ser) (k : Nat) (l : List Lb) (t v : Int) : Int × List Ser :=
  match ss[k]? with
  | some s => if s.l = l then (if t ≤ lastT s.p then (6, ss) else if 25 ≤ s.p.length then (8, ss) else (0, ss.set k ⟨s.l, s.p ++ [(t, v)]⟩))
    else if 40 ≤ ss.length then (8, ss) else (0, ss.take k ++ ⟨l, [(t, v)]⟩ :: ss.drop k)
  | none => if 40 ≤ ss.length then (8, ss) else (0, ss.take k ++ ⟨l, [(t, v)]⟩ :: ss.drop k)
def putS (ss : List Ser) (l : List Lb) (t v : Int) : Int × List Ser := if okSer l ∧ okPt t v then putAt ss (placeS ss l) l t v else (1, ss)
/-- A store as it may be. -/
structure InvS (ss : List Ser) : Prop where
  sort : SortedS ss
  ok : ∀ s ∈ ss, okSer s.l ∧ 1 ≤ s.p.length ∧ s.p.length ≤ 25 ∧ rightB s.p = true
  len : ss.length ≤ 40
theorem invS_nil : InvS [] := ⟨List.Pairwise.nil, (by simp), (by decide)⟩
theorem pT_append_left {a b : List (Int × Int)} {k : Nat} (h : k < a.length) : pT (a ++ b) k = pT a k ∧ pV (a ++ b) k = pV a k := by
  unfold pT pV
  rw [List.getD_eq_getElem?_getD, List.getElem?_append_left h, ← List.getD_eq_getElem?_getD]
  exact ⟨rfl, rfl⟩
theorem rightB_one {t v : Int} (h : okPt t v) : rightB [(t, v)] = true := by
  refine right_yesP (by simp) fun j hj => ?_
  have : j = 0 := by simpa using hj
  subst this
  exact okP_iff.2 ⟨h.1, h.2.1, h.2.2, .inl rfl⟩
theorem rightB_snoc {p : List (Int × Int)} {t v : Int} (hp : rightB p = true) (h : okPt t v) (h1 : 1 ≤ p.length) (h25 : p.length < 25) (ht : lastT p < t) : rightB (p ++ [(t, v)]) = true := by
  obtain ⟨_, h3⟩ := right_iff.1 hp
  have hl : (p ++ [(t, v)]).length = p.length + 1 := by simp
  refine right_yesP (by omega) fun j hj => ?_
  rw [hl] at hj
  rcases Nat.lt_or_ge j p.length with hjp | hjp
  · have h4 := okP_iff.1 (h3 j hjp)
    have e1 := pT_append_left (b := [(t, v)]) hjp
    refine okP_iff.2 ?_
    rw [e1.1, e1.2]
    refine ⟨h4.1, h4.2.1, h4.2.2.1, ?_⟩
    rcases h4.2.2.2 with h5 | h5
    · exact .inl h5
    · right
      rw [(pT_append_left (b := [(t, v)]) (show j - 1 < p.length by omega)).1]
      exact h5
  · have : j = p.length := by omega
    subst this
    have e1 : (p ++ [(t, v)])[p.length]? = some (t, v) := by simp
    have e2 := pT_of e1
    refine okP_iff.2 ?_
    rw [e2.1, e2.2]
    refine ⟨h.1, h.2.1, h.2.2, .inr ?_⟩
    rw [(pT_append_left (b := [(t, v)]) (show p.length - 1 < p.length by omega)).1]
    exact ht
theorem invS_put {ss : List Ser} (h : InvS ss) (l : List Lb) (t v : Int) : InvS (putS ss l t v).2 := by
  unfold putS
  by_cases hb : okSer l ∧ okPt t v
  · rw [if_pos hb]
    have hpl := placeS_ex ss h.sort l
    generalize placeS ss l = k at *
    have hnew : (∀ s, ss[k]? = some s → s.l ≠ l) → ss.length < 40 → InvS (ss.take k ++ ⟨l, [(t, v)]⟩ :: ss.drop k) := by
      intro hne h40
      refine ⟨?_, ?_, ?_⟩
      · unfold SortedS
        have h0 := h.sort
        rw [← List.take_append_drop k ss] at h0
        unfold SortedS at h0
        rw [List.pairwise_append] at h0 ⊢
        obtain ⟨ha, hb2, hc⟩ := h0
        have habove : ∀ y ∈ ss.drop k, ltLs l y.l := by
          intro y hy
          rcases ltLs_tri l y.l with q | q | q
          · exact q
          · exfalso
            obtain ⟨i, hi⟩ := List.getElem?_of_mem hy
            rcases Nat.eq_zero_or_pos i with rfl | hi0
            · rw [List.getElem?_drop, Nat.add_zero] at hi
              exact hne y hi q.symm
            · have hk : k < ss.length := by
                have := (List.getElem?_eq_some_iff.1 hi).1
                rw [List.length_drop] at this
                omega
              have hk2 : ss[k]? = some (ss[k]'hk) := List.getElem?_eq_getElem hk
              rw [List.getElem?_drop] at hi
              have h1 := sortedS_at h.sort hk2 hi (by omega)
              have h2 : ss[k] ∈ ss.drop k := List.mem_of_getElem? (i := 0) (by rw [List.getElem?_drop, Nat.add_zero]; exact hk2)
              rw [← q] at h1
              exact hpl.2.2 _ h2 h1
          · exact absurd q (hpl.2.2 y hy)
        refine ⟨ha, ?_, ?_⟩
        · rw [List.pairwise_cons]
          exact ⟨habove, hb2⟩
        · intro a haa b hbb
          rcases List.mem_cons.1 hbb with rfl | hbb
          · exact hpl.2.1 a haa
          · exact hc a haa b hbb
      · intro s hs
        rcases List.mem_append.1 hs with hs | hs
        · exact h.ok s (List.mem_of_mem_take hs)
        · rcases List.mem_cons.1 hs with rfl | hs
          · exact ⟨hb.1, by simp, by simp, rightB_one hb.2⟩
          · exact h.ok s (List.mem_of_mem_drop hs)
      · have := hpl.1
        rw [List.length_append, List.length_cons, List.length_take, List.length_drop]
        omega
    unfold putAt
    split
    · next s hs =>
      split
      · next hl =>
        split
        · exact h
        · next ht =>
          split
          · exact h
          · next h25 =>
            simp only
            have hsm := h.ok s (List.mem_of_getElem? hs)
            refine ⟨?_, ?_, by rw [List.length_set]; exact h.len⟩
            · unfold SortedS
              rw [List.pairwise_iff_getElem]
              intro i j hi hj hij
              rw [List.length_set] at hi hj
              have hk := List.getElem?_eq_some_iff.1 hs
              have hsij := List.pairwise_iff_getElem.1 h.sort i j hi hj hij
              have key : ∀ m (hm : m < ss.length), ((ss.set k ⟨s.l, s.p ++ [(t, v)]⟩)[m]'(by rw [List.length_set]; exact hm)).l = ss[m].l := by
                intro m hm
                rw [List.getElem_set]
                split
                · next e => subst e; rw [hk.2]
                · rfl
              rw [key i hi, key j hj]
              exact hsij
            · intro x hx
              rcases List.mem_or_eq_of_mem_set hx with hx | rfl
              · exact h.ok x hx
              · exact ⟨hsm.1, by simp, by simp; omega, rightB_snoc hsm.2.2.2 hb.2 hsm.2.1 (by omega) (by omega)⟩
      · next hl =>
        split
        · exact h
        · next h40 => exact hnew (fun s' hs' e => hl (by rw [hs] at hs'; rw [Option.some.inj hs']; exact e)) (by omega)
    · next hs =>
      split
      · exact h
      · next h40 => exact hnew (fun s' hs' => by rw [hs] at hs'; cases hs') (by omega)
  · rw [if_neg hb]
    exact h
end Go.Proofs.YtccmekdmnkmhlaaGreat
namespace Go.Proofs.YtccmekdmnkmhlaaGreat
open Go.RowKit

/-- A series' two slices. -/
structure SHd where
  la : Option Addr
  ln : Nat
  lc : Nat
  pa : Option Addr
  pn : Nat
  pc : Nat
def shC (h : SHd) : List Value := [.slice h.la h.ln h.lc, .slice h.pa h.pn h.pc]
def shV (h : SHd) : Value := .agg #[.slice h.la h.ln h.lc, .slice h.pa h.pn h.pc]
theorem shC_len (h : SHd) : (shC h).length = 2 := rfl
theorem shC_one (h : SHd) : ∀ u ∈ shC h, u.oneCell' = true := by
  intro u hu
  simp only [shC, List.mem_cons, List.not_mem_nil, or_false] at hu
  rcases hu with rfl | rfl <;> rfl
theorem shs_one (hs : List SHd) : ∀ u ∈ sR shC hs, u.oneCell' = true := fun u hu => by
  obtain ⟨x, _, hx⟩ := List.mem_flatMap.1 hu
  exact shC_one x u hx
theorem pc_len (x : Int × Int) : (pc x).length = 2 := rfl
theorem pc_one (x : Int × Int) : ∀ u ∈ pc x, u.oneCell' = true := by
  intro u hu
  simp only [pc, List.mem_cons, List.not_mem_nil, or_false] at hu
  rcases hu with rfl | rfl <;> rfl
theorem pcsR_one (zs : List (Int × Int)) : ∀ u ∈ sR pc zs, u.oneCell' = true := fun u hu => by
  obtain ⟨x, _, hx⟩ := List.mem_flatMap.1 hu
  exact pc_one x u hx
theorem infoSer : (Tryz.prog.info? 73).map (fun i => (i.zero, i.size, i.bytes)) = some (some (.agg #[.slice none 0 0, .slice none 0 0]), 2, 48) := by kernel_rfl
theorem infoSerS : (Tryz.prog.info? 73).map (·.size) = some 2 := by kernel_rfl
theorem infoPt : (Tryz.prog.info? 75).map (fun i => (i.zero, i.size, i.bytes)) = some (some (.agg #[.int .i64 0, .int .i64 0]), 2, 16) := by kernel_rfl
/-- What a series' slices read as. -/
def SerRd (w : World) (h : SHd) (s : Ser) : Prop := Row w h.la h.ln 2 (sR lblC s.l) ∧ Row w h.pa h.pn 2 (sR pc s.p)
/-- What a series' slices own. -/
def SerOwn (w : World) (base : Nat) (h : SHd) (s : Ser) : Prop := w.ownsRow base 58 2 (.slice h.la h.ln h.lc) h.ln (sR lblC s.l) ∧ w.ownsRow base 75 2 (.slice h.pa h.pn h.pc) h.pn (sR pc s.p)
def pL (h : SHd) : Lst := ⟨h.pa, h.pn, h.pc⟩
def lL (h : SHd) : Lst := ⟨h.la, h.ln, h.lc⟩
theorem serOwn_rd {w : World} {base : Nat} {h : SHd} {s : Ser} (k : SerOwn w base h s) : SerRd w h s := ⟨row_own k.1, row_own k.2⟩
theorem serOwn_gr {w w' : World} {base : Nat} {h : SHd} {s : Ser} (k : SerOwn w base h s) (g : Gr w w') : SerOwn w' base h s := ⟨k.1.kept g (Classical.em _), k.2.kept g (Classical.em _)⟩
theorem serRd_gr {w w' : World} {h : SHd} {s : Ser} (k : SerRd w h s) (g : Gr w w') : SerRd w' h s := ⟨row_gr k.1 g, row_gr k.2 g⟩
/-- A slice of series that came from wherever. -/
def SersOf (w : World) (A : Option Addr) (n : Nat) (hs : List SHd) (ss : List Ser) : Prop :=
  ss.length = n ∧ hs.length = n ∧ Row w A n 2 (sR shC hs) ∧ ∀ (i : Nat) h s, hs[i]? = some h → ss[i]? = some s → SerRd w h s
theorem sersOf_gr {w w' : World} {A : Option Addr} {n : Nat} {hs : List SHd} {ss : List Ser} (k : SersOf w A n hs ss) (g : Gr w w') : SersOf w' A n hs ss :=
  ⟨k.1, k.2.1, row_gr k.2.2.1 g, fun i h s h1 h2 => serRd_gr (k.2.2.2 i h s h1 h2) g⟩
/-- One of them. -/
theorem sersOf_at {w : World} {A : Option Addr} {n : Nat} {hs : List SHd} {ss : List Ser} (k : SersOf w A n hs ss) {i : Nat} (hi : i < n) :
    ∃ h s B o, hs[i]? = some h ∧ ss[i]? = some s ∧ A = some ⟨B, o, none⟩ ∧ w.cell? ⟨B, o + i * 2, none⟩ = some (.slice h.la h.ln h.lc) ∧ w.cell? ⟨B, o + i * 2 + 1, none⟩ = some (.slice h.pa h.pn h.pc) ∧ SerRd w h s ∧ s.l.length = h.ln ∧ s.p.length = h.pn := by
  obtain ⟨x, B, o, hx, hA, _, hc⟩ := rowS_elem shC_len k.2.2.1 (by decide) hi
  have hs2 : ss[i]? = some (ss[i]'(by rw [k.1]; exact hi)) := List.getElem?_eq_getElem _
  have hr := k.2.2.2 i x _ hx hs2
  refine ⟨x, _, B, o, hx, hs2, hA, hc 0 (by decide), hc 1 (by decide), hr, ?_, ?_⟩
  · have := hr.1.1; rw [sR_len lblC 2 lblC_len] at this; omega
  · have := hr.2.1; rw [sR_len pc 2 pc_len] at this; omega

/-! ### label.Get, store.right -/
theorem getL_cons (x : Lb) (l : List Lb) (n : List UInt8) : getL (x :: l) n = if x.n = n then x.v else getL l n := rfl
theorem getL_drop {l : List Lb} {k : Nat} {x : Lb} (hx : l[k]? = some x) (n : List UInt8) : getL (l.drop k) n = if x.n = n then x.v else getL (l.drop (k + 1)) n := by
  obtain ⟨h1, h2⟩ := List.getElem?_eq_some_iff.1 hx
  rw [List.drop_eq_getElem_cons h1, h2]
  rfl
set_option maxHeartbeats 4000000 in
set_option maxRecDepth 100000 in
theorem lget_any (A : Option Addr) (n c : Nat) (zs : List Lb) (nm : List UInt8) (w : World) (hn : n ≤ 1000000000) (hz : Row w A n 2 (sR lblC zs)) :
    Calls Tryz.prog 84 #[.slice A n c, .string (txt nm)] w fun e w' => e = .returned (.string (txt (getL zs nm))) ∧ Gr w w' := by
  have hl : zs.length = n := by have := hz.1; rw [sR_len lblC 2 lblC_len] at this; omega
  obtain ⟨R, hR⟩ : ∃ R, R = getL zs nm := ⟨_, rfl⟩
  rw [← hR]
  replace hz := Lib.hid hz
  replace hl := Lib.hid hl
  replace hR := Lib.hid hR
  go_enter Tryz.func84, Tryz.ntmps84
  go_wp2
  go_loopw [9] (fun iv wr => ∃ k : Nat, k ≤ n ∧ iv = .int .i64 k ∧ Hid (R = getL (zs.drop k) nm) ∧ Hid (Gr w wr)) (fun iv _ => n - (intOf iv).toNat)
  case atStart => exact ⟨0, Nat.zero_le _, rfl, by rw [List.drop_zero]; exact hR, Lib.hid (gr_refl _ _)⟩
  case round =>
    obtain ⟨k, hkn, rfl, hc, hg⟩ := hrel
    by_cases hlt : k < n
    · obtain ⟨x, B, o, hx, rfl, _, hcc⟩ := rowS_elem lblC_len (row_gr hz.out hg.out) (by decide) hlt
      obtain ⟨d0, d1⟩ := two_cells hcc
      have hkI : (k : Int) < (n : Int) := by omega
      have hk0 : (0 : Int) ≤ (k : Int) := by omega
      have hstep := getL_drop hx nm
      replace hx := Lib.hid hx
      clear hcc
      obtain ⟨W2, hW2⟩ : ∃ W2, W2 = wr.alloc (.cells #[.string (txt x.n), .string (txt x.v)] 58) := ⟨_, rfl⟩
      have g2 : Gr wr W2 := by rw [hW2]; exact gr_alloc _ _ _
      have e0 : W2.cell? ⟨wr.heap.size, 0, none⟩ = some (.string (txt x.n)) := by rw [hW2, World.cell?_alloc_new]; rfl
      have e1 : W2.cell? ⟨wr.heap.size, 1, none⟩ = some (.string (txt x.v)) := by rw [hW2, World.cell?_alloc_new]; rfl
      have G2 := gr_trans hg.out g2
      replace G2 := Lib.hid G2
      replace hW2 := Lib.hid hW2
      by_cases he : x.n = nm
      · have hf : R = x.v := by rw [hc.out, hstep, if_pos he]
        have hq : (x.n == nm) = true := by simp [he]
        replace hf := Lib.hid hf
        clear hstep he
        go_upto_region 4 with fail
        rw [← hW2.out]
        clear d0 d1
        go_wp2
        go_ret
        exact ⟨by rw [hf.out]; rfl, G2.out⟩
      · have hf : R = getL (zs.drop (k + 1)) nm := by rw [hc.out, hstep, if_neg he]
        have hq : (x.n == nm) = false := by simp [he]
        replace hf := Lib.hid hf
        clear hstep he
        go_upto_region 4 with fail
        rw [← hW2.out]
        clear d0 d1
        go_wp2
        go_roundw
        case rel => exact ⟨k + 1, by omega, by go_num, hf, G2⟩
        case measure => simp [intOf]; omega
    · have hkI : ((k : Int) < (n : Int)) = False := eq_false (by omega)
      have hf : R = [] := by rw [hc.out, List.drop_eq_nil_of_le (by rw [hl.out]; omega)]; rfl
      replace hf := Lib.hid hf
      clear hc
      go_wp2
      go_ret
      exact ⟨by rw [hf.out]; rfl, hg.out⟩
set_option maxHeartbeats 4000000 in
set_option maxRecDepth 100000 in
theorem sright_any (A : Option Addr) (n c : Nat) (zs : List Lb) (w : World) (hn : n ≤ 1000000000) (hA : A = none → n = 0 ∧ c = 0) (hz : Row w A n 2 (sR lblC zs)) (hsh : ShortL zs) :
    Calls Tryz.prog 22 #[.slice A n c] w fun e w' => e = .returned (.bool (decide (okSer zs))) ∧ Gr w w' := by
  have cR := lright_any A n c zs w hn hA hz hsh
  have cG := fun W (g : Gr w W) => lget_any A n c zs metricB W hn (row_gr hz g)
  rw [show txt metricB = ⟨#[109, 101, 116, 114, 105, 99]⟩ from rfl] at cG
  obtain ⟨R, hR⟩ : ∃ R, R = decide (okSer zs) := ⟨_, rfl⟩
  rw [← hR]
  by_cases h1 : okLbs zs
  · rw [decide_eq_true h1] at cR
    by_cases h2 : getL zs metricB = []
    · have hf : R = false := by rw [hR, decide_eq_false]; exact fun h => h.2 h2
      rw [h2] at cG
      replace cG := Lib.hid cG
      replace cR := Lib.hid cR
      clear hz hsh hR h1 h2
      subst hf
      go_enter Tryz.func22, Tryz.ntmps22
      go_wp2_with fail
      refine cR.out.mono ?_
      rintro e w1 ⟨rfl, g1⟩
      go_wp2_with fail
      refine (cG.out _ g1).mono ?_
      rintro e w2 ⟨rfl, g2⟩
      go_wp2
      go_ret
      exact ⟨rfl, gr_trans g1 g2⟩
    · have hf : R = true := by rw [hR, decide_eq_true]; exact ⟨h1, h2⟩
      have hq : (getL zs metricB).isEmpty = false := by rw [List.isEmpty_eq_false_iff]; exact h2
      replace cG := Lib.hid cG
      replace cR := Lib.hid cR
      clear hz hsh hR h1 h2
      subst hf
      generalize getL zs metricB = V at *
      go_enter Tryz.func22, Tryz.ntmps22
      go_wp2_with fail
      refine cR.out.mono ?_
      rintro e w1 ⟨rfl, g1⟩
      go_wp2_with fail
      refine (cG.out _ g1).mono ?_
      rintro e w2 ⟨rfl, g2⟩
      go_wp2
      go_ret
      exact ⟨rfl, gr_trans g1 g2⟩
  · rw [decide_eq_false h1] at cR
    have hf : R = false := by rw [hR, decide_eq_false]; exact fun h => h1 h.1
    replace cR := Lib.hid cR
    clear hz hsh hR h1 cG
    subst hf
    go_enter Tryz.func22, Tryz.ntmps22
    go_wp2_with fail
    refine cR.out.mono ?_
    rintro e w1 ⟨rfl, g1⟩
    go_wp2
    go_ret
    exact ⟨rfl, g1⟩
end Go.Proofs.YtccmekdmnkmhlaaGreat
namespace Go.Proofs.YtccmekdmnkmhlaaGreat
open Go.RowKit

set_option maxHeartbeats 4000000 in
set_option maxRecDepth 100000 in
theorem sorder_any (h : SHd) (s : Ser) (lA : Option Addr) (ln lc : Nat) (l : List Lb) (W : World) (hh : h.ln ≤ 1000000000) (hln : ln ≤ 1000000000) (hr : Row W h.la h.ln 2 (sR lblC s.l)) (hl : Row W lA ln 2 (sR lblC l)) :
    Calls Tryz.prog 25 #[shV h, .slice lA ln lc] W fun e W' => e = .returned (.int .i64 (cmpLs s.l l)) ∧ Gr W W' := by
  unfold shV
  obtain ⟨W1, hW1⟩ : ∃ W1, W1 = W.alloc (.cells #[.slice h.la h.ln h.lc, .slice h.pa h.pn h.pc] 73) := ⟨_, rfl⟩
  have g1 : Gr W W1 := by rw [hW1]; exact gr_alloc _ _ _
  have d0 : W1.cell? ⟨W.heap.size, 0, none⟩ = some (.slice h.la h.ln h.lc) := by rw [hW1, World.cell?_alloc_new]; rfl
  have cC := lcompare_any h.la lA h.ln ln h.lc lc s.l l W1 hh hln (row_gr hr g1) (row_gr hl g1)
  generalize cmpLs s.l l = C at *
  replace cC := Lib.hid cC
  replace hW1 := Lib.hid hW1
  clear hr hl
  go_enter Tryz.func25, Tryz.ntmps25
  go_upto_region 1 with fail
  rw [← hW1.out]
  go_wp2_with fail
  refine cC.out.mono ?_
  rintro e w2 ⟨rfl, g2⟩
  go_wp2
  go_ret
  exact ⟨rfl, gr_trans g1 g2⟩
set_option maxHeartbeats 8000000 in
set_option maxRecDepth 100000 in
theorem ssearch (A : Option Addr) (n c : Nat) (hs : List SHd) (ss : List Ser) (lA : Option Addr) (ln lc : Nat) (l : List Lb) (w : World) (hr : SersOf w A n hs ss) (hn : n ≤ 100000) (hhn : ∀ h ∈ hs, h.ln ≤ 1000000000) (hs2 : SortedS ss) (hln : ln ≤ 1000000000) (hl : Row w lA ln 2 (sR lblC l)) :
    Calls Tryz.prog 24 #[.slice A n c, .slice lA ln lc, .func (.func 25) #[] #[]] w fun e w' => (∃ (k : Nat) (b : Bool), e = .returned (.tuple #[.int .i64 k, .bool b]) ∧ PlaceS ss l k ∧ (b = true ↔ ∃ s, ss[k]? = some s ∧ s.l = l)) ∧ Gr w w' := by
  have hsl : ss.length = n := hr.1
  have cO := fun (h : SHd) (s : Ser) W hh k1 k2 => sorder_any h s lA ln lc l W hh hln k1 k2
  unfold shV at cO
  replace hr := Lib.hid hr
  replace hsl := Lib.hid hsl
  replace hs2 := Lib.hid hs2
  replace hhn := Lib.hid hhn
  replace hl := Lib.hid hl
  replace cO := Lib.hid cO
  go_enter Tryz.func24, Tryz.ntmps24
  go_wp2
  go_loopw [9, 10] (fun iv jv wr => ∃ i j : Nat, i ≤ j ∧ j ≤ n ∧ iv = .int .i64 i ∧ jv = .int .i64 j ∧ Hid (∀ y ∈ ss.take i, ltLs y.l l) ∧ Hid (∀ y ∈ ss.drop j, ¬ ltLs y.l l) ∧ Hid (Gr w wr)) (fun iv jv _ => (intOf jv).toNat - (intOf iv).toNat)
  case atStart => exact ⟨0, n, Nat.zero_le _, Nat.le_refl _, rfl, rfl, by show Hid (∀ y ∈ ss.take 0, _); exact Lib.hid (by simp), by rw [← hsl.out, List.drop_length]; exact Lib.hid (by simp), gr_refl _ _⟩
  case round =>
    obtain ⟨i, j, hij, hjn, rfl, rfl, hlo, hhi, hg⟩ := hrel
    by_cases hlt : i < j
    · obtain ⟨h, hh⟩ : ∃ h, h = (i + j) / 2 := ⟨_, rfl⟩
      have hhj : h < n := by omega
      obtain ⟨x, s, B, o, hx, hsx, rfl, d0, d1, hrd, _, _⟩ := sersOf_at (sersOf_gr hr.out hg.out) hhj
      have hxl := hhn.out x (List.mem_of_getElem? hx)
      have hiji : (i : Int) < (j : Int) := by omega
      have hw1 : IntKind.i64.wrap ((i : Int) + (j : Int)) = (i : Int) + (j : Int) := IntWalk.i64_in _ (by omega)
      have hw2 : IntKind.u64.wrap ((i : Int) + (j : Int)) = (i : Int) + (j : Int) := by rw [IntKind.wrap_u64]; omega
      have hhI : (h : Int) < (n : Int) := by omega
      have hh0 : (0 : Int) ≤ (h : Int) := by omega
      go_upto_region 5 with fail
      have hhe : ((i : Int) + (j : Int)) / 2 = (h : Int) := by omega
      simp only [hhe]
      have cX := cO.out x s wr hxl hrd.1 (row_gr hl.out hg.out)
      have hxb : cmpLs s.l l < 0 ∨ 0 ≤ cmpLs s.l l := by omega
      have hup := fun h => belowS_up hs2.out hsx (l := l) h
      have hdn := fun h => aboveS_down hs2.out hsx (l := l) h
      have hup2 : cmpLs s.l l < 0 → ∀ y ∈ ss.take (h + 1), ltLs y.l l := hup
      have hdn2 : 0 ≤ cmpLs s.l l → ∀ y ∈ ss.drop h, ¬ ltLs y.l l := fun q => hdn (geLs.1 q)
      generalize cmpLs s.l l = C at *
      replace hx := Lib.hid hx
      replace hsx := Lib.hid hsx
      replace hh := Lib.hid hh
      replace cX := Lib.hid cX
      clear hhe hw1 hw2 hup hdn
      rcases hxb with hxb | hxb
      · have hup3 := Lib.hid (hup2 hxb)
        clear hup2 hdn2
        go_wp2_with fail
        refine cX.out.mono ?_
        rintro e W2 ⟨rfl, g2⟩
        replace g2 := Lib.hid g2
        have hw3 : IntKind.i64.wrap ((h : Int) + 1) = (h : Int) + 1 := IntWalk.i64_in _ (by omega)
        go_wp2
        go_roundw
        case rel => exact ⟨h + 1, j, by have := hh.out; omega, hjn, by go_num, rfl, hup3.out, hhi.out, gr_trans hg.out g2.out⟩
        case measure => simp [intOf]; have := hh.out; omega
      · have hdn3 := Lib.hid (hdn2 hxb)
        clear hup2 hdn2
        have hneg : (C < 0) = False := eq_false (by omega)
        go_wp2_with fail
        refine cX.out.mono ?_
        rintro e W2 ⟨rfl, g2⟩
        replace g2 := Lib.hid g2
        go_wp2
        go_roundw
        case rel => exact ⟨i, h, by have := hh.out; omega, by omega, rfl, rfl, hlo.out, hdn3.out, gr_trans hg.out g2.out⟩
        case measure => simp [intOf]; have := hh.out; omega
    · obtain rfl : i = j := by omega
      have hpl : PlaceS ss l i := ⟨by rw [hsl.out]; exact hjn, hlo.out, hhi.out⟩
      replace hpl := Lib.hid hpl
      by_cases hin : i < n
      · obtain ⟨x, s, B, o, hx, hsx, rfl, d0, d1, hrd, _, _⟩ := sersOf_at (sersOf_gr hr.out hg.out) hin
        have hxl := hhn.out x (List.mem_of_getElem? hx)
        have hhI : (i : Int) < (n : Int) := by omega
        have hh0 : (0 : Int) ≤ (i : Int) := by omega
        have cX := cO.out x s wr hxl hrd.1 (row_gr hl.out hg.out)
        have hbe : ∀ b : Bool, (b = true ↔ cmpLs s.l l = 0) → (b = true ↔ ∃ s, ss[i]? = some s ∧ s.l = l) := fun b hb => by
          rw [hb]
          constructor
          · intro q; exact ⟨s, hsx, cmpLs_eq q⟩
          · rintro ⟨s', h1, h2⟩
            rw [hsx] at h1
            have := Option.some.inj h1
            subst this
            rw [h2, cmpLs_refl]
        generalize cmpLs s.l l = C at *
        replace hx := Lib.hid hx
        replace hsx := Lib.hid hsx
        replace cX := Lib.hid cX
        replace hbe := Lib.hid hbe
        go_wp2_with fail
        refine cX.out.mono ?_
        rintro e W2 ⟨rfl, g2⟩
        go_wp2
        go_ret2
        exact ⟨⟨i, _, rfl, hpl.out, hbe.out _ (by simp)⟩, gr_trans hg.out g2⟩
      · have hhI : ((i : Int) < (n : Int)) = False := eq_false (by omega)
        have hno : ¬ ∃ s, ss[i]? = some s ∧ s.l = l := by
          rintro ⟨s, h1, _⟩
          rw [List.getElem?_eq_none (by rw [hsl.out]; omega)] at h1
          cases h1
        replace hno := Lib.hid hno
        go_wp2
        go_ret2
        exact ⟨⟨i, _, rfl, hpl.out, by simpa using hno.out⟩, hg.out⟩
end Go.Proofs.YtccmekdmnkmhlaaGreat
/- 
  slices.Insert of one series, in all its ways. No condition but the row's own.
-/
namespace Go.Proofs.YtccmekdmnkmhlaaGreat
open Go.RowKit

theorem sizeSer (w : World) : (Go.sizeOf 73).run Tryz.prog w = .ok 2 w := by
  obtain ⟨ii, hi, hz0, hz1, hz2⟩ := info_parts infoSer
  simp [Go.sizeOf, typeInfo, hi, hz1]
/-- The rest first, then the one. -/
theorem sins_late (X a x b : List Value) (hX : X.take a.length = a) (hl : X.length = a.length + x.length + b.length) : setAll (setAll X (a.length + x.length) b) a.length x = a ++ (x ++ b) := by
  have h1 := setAll_mid (X.take (a.length + x.length)) (X.drop (a.length + x.length)) b (by rw [List.length_drop]; omega)
  rw [List.take_append_drop, List.length_take, Nat.min_eq_left (by omega), List.drop_drop, List.drop_eq_nil_of_le (show X.length ≤ a.length + x.length + b.length by omega), List.append_nil] at h1
  rw [h1, List.take_add, hX, List.append_assoc]
  have h2 := setAll_mid a ((X.drop a.length).take x.length ++ b) x (by rw [List.length_append, List.length_take, List.length_drop]; omega)
  rw [h2, List.drop_left' (by rw [List.length_take, List.length_drop]; omega)]
/-- The one first, then the rest. -/
theorem sins_soon (X a x b : List Value) (hX : X.take a.length = a) (hl : X.length = a.length + x.length + b.length) : setAll (setAll X a.length x) (a.length + x.length) b = a ++ (x ++ b) := by
  have h1 := setAll_mid a (X.drop a.length) x (by rw [List.length_drop]; omega)
  have h0 : a ++ X.drop a.length = X := by conv => rhs; rw [← List.take_append_drop a.length X, hX]
  rw [h0, List.drop_drop, ← List.append_assoc] at h1
  have h2 := setAll_mid (a ++ x) (X.drop (a.length + x.length)) b (by rw [List.length_drop]; omega)
  rw [List.length_append, List.drop_drop, List.drop_eq_nil_of_le (show X.length ≤ a.length + x.length + b.length by omega), List.append_nil] at h2
  rw [h1, h2, List.append_assoc]
theorem sgr_then_new {w w1 w2 : World} {r : Option Nat} {k : Nat} (h : w.grownBy w1 r) (g : w1.grownBy w2 (some k)) (hk : w.heap.size ≤ k) : w.grownBy w2 r :=
  ⟨g.os.trans h.os, g.tape.trans h.tape, g.output.trans h.output, Nat.le_trans h.size g.size, fun i hi hr => (g.block i (Nat.lt_of_lt_of_le hi h.size) (fun e => by have := Option.some.inj e; omega)).trans (h.block i hi hr)⟩
/-- What is inserted, and where it lies. -/
def sInsAt (w w' : World) (base n : Nat) (ob : Option Nat) (out : List SHd) (e : Ending) : Prop :=
  ∃ A' c', e = .returned (.slice A' (n + 1) c') ∧ w'.ownsRow base 73 2 (.slice A' (n + 1) c') (n + 1) (sR shC out) ∧ w.grownBy w' ob ∧ ∀ b, (Value.slice A' (n + 1) c').ownBlock = some b → ob = some b ∨ w.heap.size ≤ b
theorem insAt_hat {w w' : World} {base n g cap : Nat} {ob : Option Nat} {zs : List SHd} {x : SHd} (hown : w'.ownsRow base 73 2 (.slice (some ⟨g, 0, none⟩) (n + 1) cap) (n + 1) (sR shC zs ++ shC x)) (hat : (ob = some g ∧ w.grownBy w' (some g)) ∨ (g = w.heap.size ∧ Gr w w')) : sInsAt w w' base n ob (zs ++ [x]) (.returned (.slice (some ⟨g, 0, none⟩) (n + 1) cap)) := by
  refine ⟨_, cap, rfl, by rw [sR_append, sR_one]; exact hown, ?_, fun b hb => ?_⟩
  · rcases hat with ⟨e, k⟩ | ⟨_, k⟩
    · rw [e]; exact k
    · exact gr_more _ k
  · have hb2 : g = b := by simpa [Value.ownBlock] using hb
    subst hb2
    rcases hat with ⟨e, _⟩ | ⟨e, _⟩
    · exact .inl e
    · exact .inr (by omega)
set_option maxHeartbeats 8000000 in
set_option maxRecDepth 100000 in
theorem sdins_end (A : Option Addr) (n c base B : Nat) (zs : List SHd) (x : SHd) (w : World) (hbase : base ≤ w.heap.size) (h : w.ownsRow base 73 2 (.slice A n c) n (sR shC zs)) (hn : n ≤ 100000) (hc : n ≤ c ∧ c ≤ 9223372036854775807)
    (hx : ∀ j, j < 2 → w.cell? ⟨B, j, none⟩ = (shC x)[j]?) :
    Calls Tryz.prog 26 #[.slice A n c, .int .i64 n, .slice (some ⟨B, 0, none⟩) 1 1] w fun e w' => sInsAt w w' base n (Value.slice A n c).ownBlock (zs ++ [x]) e := by
  obtain ⟨ii, hi, hz0, hz1, hz2⟩ := info_parts infoSer
  have hnn : (n : Int) ≤ (n : Int) := Int.le_refl _
  have hn0 : (0 : Int) ≤ (n : Int) := by omega
  replace hx := Lib.hid hx
  replace h := Lib.hid h
  go_enter Tryz.func26, Tryz.ntmps26
  cases A with
  | none =>
    have hz : n = 0 ∧ c = 0 := by
      rcases h.out.2 with ⟨hv, h0⟩ | ⟨g, cap, cur, hv, _⟩
      · injection hv with _ _ h3; exact ⟨h0, h3⟩
      · injection hv with h1; cases h1
    obtain ⟨rfl, rfl⟩ := hz
    go_wp2_with (at_builtin; refine wpList_append_strong _ rfl _ _ 29 rfl base 73 ii (.agg #[.slice none 0 0, .slice none 0 0]) 2 48 Tryz.underlying29 hi hz0 hz1 hz2 rfl (by decide) (.slice none 0 0) 0 (sR shC zs) rfl h.out ⟨B, 0, none⟩ 1 1 (shC x) rfl rfl (fun j u hj => by rw [add_plain, Nat.zero_add, hx.out j (List.getElem?_eq_some_iff.1 hj).1]; exact hj) (shC_one x) (by omega) (0 + 1) rfl (by unfold maxLen; omega) (by omega) hbase ?_; intro g5 cap W5 hown5 hat5; replace hown5 := Lib.hid hown5; replace hat5 := Lib.hid hat5)
    go_ret
    exact insAt_hat hown5.out hat5.out
  | some a =>
    obtain ⟨g, rfl⟩ : ∃ g, a = ⟨g, 0, none⟩ := by
      rcases h.out.2 with ⟨hv, _⟩ | ⟨g, cap, cur, hv, _⟩
      · injection hv with h1; cases h1
      · injection hv with h1; exact ⟨g, Option.some.inj h1⟩
    have hnc := hc.1
    by_cases hnc2 : c = n
    · subst hnc2
      go_wp2_with (at_builtin; refine wpList_append_strong _ rfl _ _ 29 rfl base 73 ii (.agg #[.slice none 0 0, .slice none 0 0]) 2 48 Tryz.underlying29 hi hz0 hz1 hz2 rfl (by decide) (.slice (some ⟨g, 0, none⟩) c c) c (sR shC zs) rfl h.out ⟨B, 0, none⟩ 1 1 (shC x) rfl rfl (fun j u hj => by rw [add_plain, Nat.zero_add, hx.out j (List.getElem?_eq_some_iff.1 hj).1]; exact hj) (shC_one x) (by omega) (c + 1) rfl (by unfold maxLen; omega) (by omega) hbase ?_; intro g5 cap W5 hown5 hat5; replace hown5 := Lib.hid hown5; replace hat5 := Lib.hid hat5)
      go_ret
      exact insAt_hat hown5.out hat5.out
    · have hcf : (c = n) = False := eq_false hnc2
      replace hnc2 := Lib.hid hnc2
      go_wp2_with (at_builtin; refine wpList_append_strong _ rfl _ _ 29 rfl base 73 ii (.agg #[.slice none 0 0, .slice none 0 0]) 2 48 Tryz.underlying29 hi hz0 hz1 hz2 rfl (by decide) (.slice (some ⟨g, 0, none⟩) n c) n (sR shC zs) rfl h.out ⟨B, 0, none⟩ 1 1 (shC x) rfl rfl (fun j u hj => by rw [add_plain, Nat.zero_add, hx.out j (List.getElem?_eq_some_iff.1 hj).1]; exact hj) (shC_one x) (by omega) (n + 1) rfl (by unfold maxLen; omega) (by omega) hbase ?_; intro g5 cap W5 hown5 hat5; replace hown5 := Lib.hid hown5; replace hat5 := Lib.hid hat5)
      go_ret
      exact insAt_hat hown5.out hat5.out
set_option maxHeartbeats 8000000 in
set_option maxRecDepth 100000 in
theorem sdins_shift (g n c base B k : Nat) (zs : List SHd) (x : SHd) (w : World) (h : w.ownsRow base 73 2 (.slice (some ⟨g, 0, none⟩) n c) n (sR shC zs)) (hn : n ≤ 100000) (hk : k < n) (hroom : n + 1 ≤ c) (_hcm : c ≤ 9223372036854775807)
    (hx : w.heap[B]? = some (.cells (shC x).toArray 73 (0, 0))) (hBg : B ≠ g) :
    Calls Tryz.prog 26 #[.slice (some ⟨g, 0, none⟩) n c, .int .i64 k, .slice (some ⟨B, 0, none⟩) 1 1] w fun e w' => sInsAt w w' base n (some g) (zs.take k ++ x :: zs.drop k) e := by
  have hl : zs.length = n := by have := h.1; rw [sR_len shC 2 shC_len] at this; omega
  obtain ⟨ys, hys, hwide⟩ := own_wide h hroom
  have hsh1 : w.shape? B = some (73, 2) := by simp [World.shape?, hx, shC]
  obtain ⟨kg, hsh2, hkg⟩ : ∃ kg, w.shape? g = some (73, kg) ∧ kg ≠ 0 := by
    rcases h.2 with ⟨hv, _⟩ | ⟨g', cap, cur, hv, _, hg, _, _, hcs, _⟩
    · injection hv with h1; cases h1
    · injection hv with h1 h2 h3
      injection Option.some.inj h1 with h4
      subst h4 h3
      exact ⟨cur.size, by simp [World.shape?, hg], by omega⟩
  have hfB : ∀ j, w.frozen? ⟨B, j, none⟩ = false := fun j => frozen_of_row w B j _ _ hx
  have hov : ∀ lb cb, (callFunc 85 #[.slice (some ⟨B, 0, none⟩) 1 1, .slice (some ⟨g, (k + 1) * 2, none⟩) lb cb]).run Tryz.prog w = .ok (.value (.bool false)) w := fun lb cb => by
    rw [run_callFunc_extern Tryz.func85 (by kernel_rfl) (by kernel_rfl) (by kernel_rfl) (e := Extern.SlicesOverlaps.overlaps #[29, 29] #[4]) (by kernel_rfl),
      Lib.run_overlaps_apart w 29 4 73 Tryz.underlying29 2 sizeSer ⟨B, 0, none⟩ ⟨g, (k + 1) * 2, none⟩ 1 1 lb cb hBg _ _ 2 kg hsh1 hsh2 hkg (hfB 0) (hfB 2)]
    rfl
  have hdl : (sR shC (zs.drop k)).length = (n - k) * 2 := by rw [sR_len shC 2 shC_len, List.length_drop, hl]
  have hsrc1 : ∀ j v, (sR shC (zs.drop k))[j]? = some v → w.cell? ((⟨g, k * 2, none⟩ : Addr).add j) = some v := fun j v hj => by
    rw [sR_drop shC 2 shC_len, List.getElem?_drop] at hj
    have hlt := (List.getElem?_eq_some_iff.1 hj).1
    rw [h.1] at hlt
    rw [add_plain, h.cellAt _ (by omega)]
    exact hj
  have hsome : ∀ (W : World), W.ownsRow base 73 2 (.slice (some ⟨g, 0, none⟩) (n + 1) c) (n + 1) (sR shC zs ++ ys) → True := fun _ _ => trivial
  have hcp1 : ∀ ty dc sc, (Builtin.copy_ #[29, 29] ty #[.slice (some ⟨g, (k + 1) * 2, none⟩) (n - k) dc, .slice (some ⟨g, k * 2, none⟩) (n + 1 - k) sc]).run Tryz.prog w.drew = .ok (goInt (Nat.min (n + 1 - k) (n - k))) (w.drew.setCells g ((k + 1) * 2) (sR shC (zs.drop k))) := fun ty dc sc =>
    run_copyK w.drew _ _ ty 73 2 g ((k + 1) * 2) (n - k) dc ⟨g, k * 2, none⟩ (n + 1 - k) sc (sR shC (zs.drop k)) Tryz.underlying29 infoSerS (by rw [hdl]; show _ = min (n + 1 - k) (n - k) * 2; omega)
      hsrc1 (fun j hj => own_some hwide (by rw [hdl] at hj; omega)) (fun j _ => hwide.frozenAt _) (shs_one _)
  have hown0 : w.drew.ownsRow base 73 2 (.slice (some ⟨g, 0, none⟩) (n + 1) c) (n + 1) (sR shC zs ++ ys) := hwide
  obtain ⟨hown1, hg1⟩ := stored_all hown0 ((k + 1) * 2) (sR shC (zs.drop k))
  obtain ⟨W1, hW1⟩ : ∃ W1, W1 = w.drew.setCells g ((k + 1) * 2) (sR shC (zs.drop k)) := ⟨_, rfl⟩
  rw [← hW1] at hown1 hg1 hcp1
  have hxc : ∀ j v, (shC x)[j]? = some v → W1.cell? ((⟨B, 0, none⟩ : Addr).add j) = some v := fun j v hj => by
    rw [add_plain, Nat.zero_add]
    refine hg1.cell (show w.drew.cell? _ = _ from ?_) (by simp; exact hBg)
    show w.cell? _ = _
    rw [cell_of_row w B j _ _ _ hx, List.getElem?_toArray]
    exact hj
  have hcp2 : ∀ ty dc, (Builtin.copy_ #[29, 29] ty #[.slice (some ⟨g, k * 2, none⟩) (n + 1 - k) dc, .slice (some ⟨B, 0, none⟩) 1 1]).run Tryz.prog W1 = .ok (goInt (Nat.min 1 (n + 1 - k))) (W1.setCells g (k * 2) (shC x)) := fun ty dc =>
    run_copyK W1 _ _ ty 73 2 g (k * 2) (n + 1 - k) dc ⟨B, 0, none⟩ 1 1 (shC x) Tryz.underlying29 infoSerS (by rw [shC_len]; show _ = min 1 (n + 1 - k) * 2; omega)
      hxc (fun j hj => own_some hown1 (by rw [shC_len] at hj; omega)) (fun j _ => hown1.frozenAt _) (shC_one x)
  obtain ⟨hown2, hg2⟩ := stored_all hown1 (k * 2) (shC x)
  have hta : (sR shC (zs.take k)).length = k * 2 := by rw [sR_len shC 2 shC_len, List.length_take, hl, Nat.min_eq_left (by omega)]
  have hfin : setAll (setAll (sR shC zs ++ ys) ((k + 1) * 2) (sR shC (zs.drop k))) (k * 2) (shC x) = sR shC (zs.take k ++ x :: zs.drop k) := by
    have h9 := sins_late (sR shC zs ++ ys) (sR shC (zs.take k)) (shC x) (sR shC (zs.drop k)) (by rw [hta, List.take_append_of_le_length (by rw [sR_len shC 2 shC_len]; omega), ← sR_take shC 2 shC_len]) (by rw [List.length_append, sR_len shC 2 shC_len, hta, hdl, hys, shC_len]; omega)
    rw [hta, shC_len, show k * 2 + 2 = (k + 1) * 2 by omega] at h9
    rw [h9, sR_append, sR_cons]
  rw [hfin] at hown2
  have hgf : w.grownBy (W1.setCells g (k * 2) (shC x)) (some g) := ((gr_drew w (some g)).trans hg1).trans hg2
  have hw1 : IntKind.i64.wrap ((n : Int) + 1) = (n : Int) + 1 := IntWalk.i64_in _ (by omega)
  have hw2 : IntKind.i64.wrap ((k : Int) + 1) = (k : Int) + 1 := IntWalk.i64_in _ (by omega)
  have hkn : ((k : Int) == (n : Int)) = false := eqF (by omega)
  have hgt : ((c : Int) < (n : Int) + 1) = False := eq_false (by omega)
  have hk0 : (0 : Int) ≤ (k : Int) := by omega
  have hk1 : (0 : Int) ≤ (k : Int) + 1 := by omega
  have hk2 : (k : Int) ≤ (n : Int) := by omega
  have hk3 : (k : Int) ≤ (n : Int) + 1 := by omega
  have hk4 : (k : Int) + 1 ≤ (n : Int) + 1 := by omega
  have hk5 : (c = k) = False := eq_false (by omega)
  have hk6 : (c = k + 1) = False := eq_false (by omega)
  have hk7 : ((k : Int) + 1).toNat = k + 1 := by omega
  have hk8 : ((n : Int) + 1).toNat = n + 1 := by omega
  have hk9 : (n : Int) + 1 ≤ (c : Int) := by omega
  have hk10 : (0 : Int) ≤ (n : Int) + 1 := by omega
  replace hown2 := Lib.hid hown2
  replace hgf := Lib.hid hgf
  replace hW1 := Lib.hid hW1
  clear hfin hg2 hg1 hown1 hown0 hsome hsrc1 hxc hta hdl hwide h hys hl hsh1 hsh2 hfB hx
  go_enter Tryz.func26, Tryz.ntmps26
  go_wp2_with (simp only [hov])
  go_region_law (refine step_copy_runK rfl _ _ 29 29 rfl _ _ (by simp [Act.eval, Act.put]) (by simp [Act.eval, Act.put]) (hcp1 _ _ _) ?_)
  go_wp2_with (at_builtin; refine wpList_copy_runK _ rfl _ _ 29 29 rfl _ _ rfl rfl (hcp2 _ _) ?_)
  go_ret
  exact ⟨_, _, rfl, hown2.out, hgf.out, fun b hb => .inl (by simpa [Value.ownBlock] using hb)⟩
set_option maxHeartbeats 8000000 in
set_option maxRecDepth 100000 in
theorem sdins_grow (g n base B k : Nat) (zs : List SHd) (x : SHd) (w : World) (hbase : base ≤ w.heap.size) (h : w.ownsRow base 73 2 (.slice (some ⟨g, 0, none⟩) n n) n (sR shC zs)) (hn : n ≤ 100000) (hk : k < n)
    (hx : w.heap[B]? = some (.cells (shC x).toArray 73 (0, 0))) :
    Calls Tryz.prog 26 #[.slice (some ⟨g, 0, none⟩) n n, .int .i64 k, .slice (some ⟨B, 0, none⟩) 1 1] w fun e w' => sInsAt w w' base n (some g) (zs.take k ++ x :: zs.drop k) e := by
  obtain ⟨ii, hi, hz0, hz1, hz2⟩ := info_parts infoSer
  have hl : zs.length = n := by have := h.1; rw [sR_len shC 2 shC_len] at this; omega
  have hgw : g < w.heap.size := (h.lt g rfl).2
  have hBw : B < w.heap.size := lt_of_blk hx
  have hta : (sR shC (zs.take k)).length = k * 2 := by rw [sR_len shC 2 shC_len, List.length_take, hl, Nat.min_eq_left (by omega)]
  have hdl : (sR shC (zs.drop k)).length = (n - k) * 2 := by rw [sR_len shC 2 shC_len, List.length_drop, hl]
  have hold : (Builtin.firstCells ii.size k (.slice (some ⟨g, 0, none⟩) k n)).run Tryz.prog w.drew = .ok (sR shC (zs.take k)).toArray w.drew := by
    rw [hz1]
    refine run_firstCells_some w.drew 2 k ⟨g, 0, none⟩ k n (sR shC (zs.take k)) hta (fun j v hj => ?_)
    rw [add_plain, Nat.zero_add]
    rw [sR_take shC 2 shC_len, List.getElem?_take] at hj
    split at hj
    · show w.cell? _ = _
      rw [h.cellAt _ (by omega)]
      exact hj
    · cases hj
  have hrz : ∀ ty, (Builtin.append_ #[29, 3] ty #[.slice (some ⟨g, 0, none⟩) k n, .int .i64 (((n + 1 - k : Nat)) : Int)]).run Tryz.prog w = _ := fun ty =>
    Lib.run_append_grow_zeros w 29 3 ty 73 ii _ .i64 .i64 Tryz.underlying29 Tryz.underlying3 hi hz0 (some ⟨g, 0, none⟩) k n (sR shC (zs.take k)) hold (n + 1 - k) (by omega) (by omega) (by omega) (by omega) (by rw [hz2]; omega) (by rw [hz2]; exact growslice_fits (by omega) (by omega))
  rw [show k + (n + 1 - k) = n + 1 by omega] at hrz
  have hGn : n + 1 ≤ grownCap w (n + 1) n 73 := grownCap_ge w _ _ _
  have hGm : grownCap w (n + 1) n 73 ≤ maxLen := grownCap_le_maxLen w (n + 1) n 73 (by unfold maxLen; omega)
  have hzc : ∀ m, (Builtin.zeroCells (Value.agg #[.slice none 0 0, .slice none 0 0]).cells m).size = m * 2 := fun m => by simp [Builtin.zeroCells, Value.cells]
  generalize grownCap w (n + 1) n 73 = G at *
  obtain ⟨ROW, hROW⟩ : ∃ ROW : Array Value, ROW = (sR shC (zs.take k)).toArray ++ Builtin.zeroCells (Value.agg #[.slice none 0 0, .slice none 0 0]).cells (n + 1 - k) ++ Builtin.zeroCells (Value.agg #[.slice none 0 0, .slice none 0 0]).cells (G - (n + 1)) := ⟨_, rfl⟩
  rw [← hROW] at hrz
  have hRs : ROW.size = G * 2 := by rw [hROW]; simp [hzc, hta]; omega
  have hRt : ROW.toList.take (k * 2) = sR shC (zs.take k) := by
    rw [hROW, Array.toList_append, Array.toList_append, List.append_assoc, List.take_left' (by rw [List.toList_toArray]; exact hta), List.toList_toArray]
  have hle : (n + 1) * 2 ≤ G * 2 := by omega
  obtain ⟨W0, hW0⟩ : ∃ W0, W0 = w.drew.alloc (.cells ROW 73) := ⟨_, rfl⟩
  have hown0 : W0.ownsRow base 73 2 (.slice (some ⟨w.heap.size, 0, none⟩) (n + 1) G) (n + 1) (ROW.toList.take ((n + 1) * 2)) := by
    rw [hW0]
    refine ⟨by rw [List.length_take, Array.length_toList, hRs]; omega, .inr ⟨w.heap.size, G, ROW, rfl, hbase, ?_, hGn, hGm, hRs, rfl⟩⟩
    exact heap_alloc_new w.drew _
  have hg0 : w.grownBy W0 (some g) := by rw [hW0]; exact (gr_drew w _).trans (gr_alloc _ _ _)
  rw [← hW0] at hrz
  have hxc : ∀ (W : World), Gr w W → ∀ j v, (shC x)[j]? = some v → W.cell? ((⟨B, 0, none⟩ : Addr).add j) = some v := fun W gW j v hj => by
    rw [add_plain, Nat.zero_add]
    refine gr_cell gW ?_
    rw [cell_of_row w B j _ _ _ hx, List.getElem?_toArray]
    exact hj
  have hGr0 : Gr w W0 := by rw [hW0]; exact gr_trans (gr_drew w _) (gr_alloc _ _ _)
  have hcp1 : ∀ ty dc, (Builtin.copy_ #[29, 29] ty #[.slice (some ⟨w.heap.size, k * 2, none⟩) (n + 1 - k) dc, .slice (some ⟨B, 0, none⟩) 1 1]).run Tryz.prog W0 = .ok (goInt (Nat.min 1 (n + 1 - k))) (W0.setCells w.heap.size (k * 2) (shC x)) := fun ty dc =>
    run_copyK W0 _ _ ty 73 2 w.heap.size (k * 2) (n + 1 - k) dc ⟨B, 0, none⟩ 1 1 (shC x) Tryz.underlying29 infoSerS (by rw [shC_len]; show _ = min 1 (n + 1 - k) * 2; omega)
      (hxc W0 hGr0) (fun j hj => own_some hown0 (by rw [shC_len] at hj; omega)) (fun j _ => hown0.frozenAt _) (shC_one x)
  obtain ⟨hown1, hg1⟩ := stored_all hown0 (k * 2) (shC x)
  obtain ⟨W1, hW1⟩ : ∃ W1, W1 = W0.setCells w.heap.size (k * 2) (shC x) := ⟨_, rfl⟩
  rw [← hW1] at hown1 hg1 hcp1
  have hGrow1 : w.grownBy W1 (some g) := sgr_then_new hg0 hg1 (Nat.le_refl _)
  have hgne : g ≠ w.heap.size := by omega
  have hcells : ∀ j v, (sR shC zs)[j]? = some v → W1.drew.cell? ⟨g, j, none⟩ = some v := fun j v hj => by
    have hlt := (List.getElem?_eq_some_iff.1 hj).1
    rw [h.1] at hlt
    have h0 : w.cell? ⟨g, j, none⟩ = some v := by rw [h.cellAt _ hlt]; exact hj
    exact hg1.cell (gr_cell hGr0 h0) (by simp; exact hgne)
  have hsrc2 : ∀ j v, (sR shC (zs.drop k))[j]? = some v → W1.drew.cell? ((⟨g, k * 2, none⟩ : Addr).add j) = some v := fun j v hj => by
    rw [sR_drop shC 2 shC_len, List.getElem?_drop] at hj
    rw [add_plain]
    exact hcells _ _ hj
  have hown1d : W1.drew.ownsRow base 73 2 (.slice (some ⟨w.heap.size, 0, none⟩) (n + 1) G) (n + 1) (setAll (ROW.toList.take ((n + 1) * 2)) (k * 2) (shC x)) := hown1
  have hcp2 : ∀ ty dc sc, (Builtin.copy_ #[29, 29] ty #[.slice (some ⟨w.heap.size, (k + 1) * 2, none⟩) (n - k) dc, .slice (some ⟨g, k * 2, none⟩) (n - k) sc]).run Tryz.prog W1.drew = .ok (goInt (Nat.min (n - k) (n - k))) (W1.drew.setCells w.heap.size ((k + 1) * 2) (sR shC (zs.drop k))) := fun ty dc sc =>
    run_copyK W1.drew _ _ ty 73 2 w.heap.size ((k + 1) * 2) (n - k) dc ⟨g, k * 2, none⟩ (n - k) sc (sR shC (zs.drop k)) Tryz.underlying29 infoSerS (by rw [hdl]; show _ = min (n - k) (n - k) * 2; omega)
      hsrc2 (fun j hj => own_some hown1d (by rw [hdl] at hj; omega)) (fun j _ => hown1d.frozenAt _) (shs_one _)
  obtain ⟨hown2, hg2⟩ := stored_all hown1d ((k + 1) * 2) (sR shC (zs.drop k))
  have hfin : setAll (setAll (ROW.toList.take ((n + 1) * 2)) (k * 2) (shC x)) ((k + 1) * 2) (sR shC (zs.drop k)) = sR shC (zs.take k ++ x :: zs.drop k) := by
    have h9 := sins_soon (ROW.toList.take ((n + 1) * 2)) (sR shC (zs.take k)) (shC x) (sR shC (zs.drop k)) (by rw [hta, List.take_take, Nat.min_eq_left (by omega), hRt]) (by rw [List.length_take, Array.length_toList, hRs, hta, hdl, shC_len]; omega)
    rw [hta, shC_len, show k * 2 + 2 = (k + 1) * 2 by omega] at h9
    rw [h9, sR_append, sR_cons]
  rw [hfin] at hown2
  have hgf : w.grownBy (W1.drew.setCells w.heap.size ((k + 1) * 2) (sR shC (zs.drop k))) (some g) := sgr_then_new (hGrow1.trans (gr_drew W1 (some g))) hg2 (Nat.le_refl _)
  have hw1 : IntKind.i64.wrap ((n : Int) + 1) = (n : Int) + 1 := IntWalk.i64_in _ (by omega)
  have hw2 : IntKind.i64.wrap ((k : Int) + 1) = (k : Int) + 1 := IntWalk.i64_in _ (by omega)
  have hw3 : IntKind.i64.wrap ((n : Int) + 1 - (k : Int)) = ((n + 1 - k : Nat) : Int) := by rw [IntWalk.i64_in _ (by omega)]; omega
  have hkn : ((k : Int) == (n : Int)) = false := eqF (by omega)
  have hgt : (n : Int) < (n : Int) + 1 := by omega
  have hk0 : (0 : Int) ≤ (k : Int) := by omega
  have hk1 : (0 : Int) ≤ (k : Int) + 1 := by omega
  have hk2 : (k : Int) ≤ (n : Int) := by omega
  have hk3 : (k : Int) ≤ (n : Int) + 1 := by omega
  have hk4 : (k : Int) + 1 ≤ (n : Int) + 1 := by omega
  have hk5 : (n = k) = False := eq_false (by omega)
  have hk6 : (G = k + 1) = False := eq_false (by omega)
  have hk6' : (G = k) = False := eq_false (by omega)
  have hk7 : ((k : Int) + 1).toNat = k + 1 := by omega
  have hE0 : w.drew.alloc (.cells ROW 73) = W0 := hW0.symm
  have hE1 : W0.setCells w.heap.size (k * 2) (shC x) = W1 := hW1.symm
  replace hown2 := Lib.hid hown2
  replace hgf := Lib.hid hgf
  replace hW0 := Lib.hid hW0
  replace hW1 := Lib.hid hW1
  clear hfin hg2 hg1 hg0 hown1 hown1d hown0 hsrc2 hxc hta hdl h hl hx hcells hRs hRt hROW hzc hold hGr0 hGrow1 hE0 hE1 hle hi hz0 hz1 hz2
  go_enter Tryz.func26, Tryz.ntmps26
  go_wp2_with (first
    | (at_builtin; refine wpList_append_runK _ rfl _ _ 29 3 rfl _ _ rfl rfl (hrz _) ?_)
    | (at_builtin; refine wpList_copy_runK _ rfl _ _ 29 29 rfl _ _ rfl rfl (hcp1 _ _) ?_))
  go_region_law (refine step_copy_runK rfl _ _ 29 29 rfl _ _ (by simp [Act.eval, Act.put]) (by simp [Act.eval, Act.put]) (hcp2 _ _ _) ?_)
  go_wp2
  go_ret
  exact ⟨_, _, rfl, hown2.out, hgf.out, fun b hb => .inr (Nat.le_of_eq (by simpa [Value.ownBlock] using hb))⟩
theorem sdinsert (A : Option Addr) (n c base B k : Nat) (zs : List SHd) (x : SHd) (w : World) (hbase : base ≤ w.heap.size) (h : w.ownsRow base 73 2 (.slice A n c) n (sR shC zs)) (hn : n ≤ 100000) (hk : k ≤ n)
    (hx : w.heap[B]? = some (.cells (shC x).toArray 73 (0, 0))) (hB : ∀ a, A = some a → a.block ≠ B) :
    Calls Tryz.prog 26 #[.slice A n c, .int .i64 k, .slice (some ⟨B, 0, none⟩) 1 1] w fun e w' => sInsAt w w' base n (Value.slice A n c).ownBlock (zs.take k ++ x :: zs.drop k) e := by
  have hl : zs.length = n := by have := h.1; rw [sR_len shC 2 shC_len] at this; omega
  have hc : n ≤ c ∧ c ≤ 9223372036854775807 := by obtain ⟨A', c', hv', h4, h5⟩ := own_openS h; injection hv' with _ _ h6; subst h6; unfold maxLen at h5; exact ⟨h4, by omega⟩
  by_cases hkn : k = n
  · subst hkn
    rw [List.take_of_length_le (by omega), List.drop_eq_nil_of_le (by omega)]
    exact sdins_end A k c base B zs x w hbase h hn hc (fun j hj => by rw [cell_of_row w B j _ _ _ hx, List.getElem?_toArray])
  · obtain ⟨g, cap, hv, _, _⟩ := h.form (by omega)
    injection hv with h1 h2 h3
    subst h1 h3
    by_cases hroom : n + 1 ≤ c
    · exact sdins_shift g n c base B k zs x w h hn (by omega) hroom hc.2 hx (fun e => hB _ rfl e.symm)
    · have : c = n := by omega
      subst this
      exact sdins_grow g c base B k zs x w hbase h hn (by omega) hx
end Go.Proofs.YtccmekdmnkmhlaaGreat
namespace Go.Proofs.YtccmekdmnkmhlaaGreat
open Go.RowKit

/-- Where a store lies. -/
structure StoM where
  St : Nat
  A : Option Addr
  c : Nat
  hs : List SHd
structure StoAt (w : World) (base : Nat) (m : StoM) (ss : List Ser) : Prop where
  st : w.heap[m.St]? = some (.cells #[.slice m.A ss.length m.c] 31 (0, 0))
  len : m.hs.length = ss.length
  own : w.ownsRow base 73 2 (.slice m.A ss.length m.c) ss.length (sR shC m.hs)
  ser : ∀ (i : Nat) h s, m.hs[i]? = some h → ss[i]? = some s → SerOwn w base h s
  prt : Parted (m.hs.map pL)
/-- The blocks that are a store's. -/
def BlkS (m : StoM) (k : Nat) : Prop := k = m.St ∨ (Value.slice m.A 0 m.c).ownBlock = some k ∨ InL (m.hs.map pL) k ∨ InL (m.hs.map lL) k
theorem stoAt_gr {w w' : World} {base : Nat} {m : StoM} {ss : List Ser} (h : StoAt w base m ss) (g : Gr w w') : StoAt w' base m ss :=
  ⟨gr_blk g h.st (by simp), h.len, h.own.kept g (Classical.em _), fun i x s h1 h2 => serOwn_gr (h.ser i x s h1 h2) g, h.prt⟩
theorem own_nil_v (A : Option Addr) (n c m : Nat) : (Value.slice A n c).ownBlock = (Value.slice A m c).ownBlock := by cases A <;> rfl
/-- A store is kept where none of its blocks turns. -/
theorem stoAt_grs {w w' : World} {base : Nat} {S : Nat → Prop} {m : StoM} {ss : List Ser} (h : StoAt w base m ss) (g : GrS S w w') (hs : ∀ k, BlkS m k → ¬ S k) : StoAt w' base m ss := by
  refine ⟨grs_blk g h.st (hs _ (.inl rfl)), h.len, own_grs h.own g fun k hk => hs k (.inr (.inl ((own_nil_v _ _ _ _).trans hk))), fun i x s h1 h2 => ?_, h.prt⟩
  obtain ⟨k1, k2⟩ := h.ser i x s h1 h2
  have e1 : (m.hs.map lL)[i]? = some (lL x) := by rw [List.getElem?_map, h1]; rfl
  have e2 : (m.hs.map pL)[i]? = some (pL x) := by rw [List.getElem?_map, h1]; rfl
  exact ⟨own_grs k1 g fun k hk => hs k (.inr (.inr (.inr (in_of e1 hk)))), own_grs k2 g fun k hk => hs k (.inr (.inr (.inl (in_of e2 hk))))⟩
theorem stoAt_rd {w : World} {base : Nat} {m : StoM} {ss : List Ser} (h : StoAt w base m ss) : SersOf w m.A ss.length m.hs ss :=
  ⟨rfl, h.len, row_own h.own, fun i x s h1 h2 => serOwn_rd (h.ser i x s h1 h2)⟩
theorem stoAt_lt {w : World} {base : Nat} {m : StoM} {ss : List Ser} (h : StoAt w base m ss) : ∀ k, BlkS m k → k < w.heap.size := by
  have hat : ∀ x ∈ m.hs, ∃ s, SerOwn w base x s := fun x hx => by
    obtain ⟨i, hi⟩ := List.getElem?_of_mem hx
    have hlt := (List.getElem?_eq_some_iff.1 hi).1
    exact ⟨_, h.ser i x _ hi (List.getElem?_eq_getElem (by rw [← h.len]; exact hlt))⟩
  rintro k (rfl | hk | ⟨l, hl, hk⟩ | ⟨l, hl, hk⟩)
  · exact lt_of_blk h.st
  · exact (h.own.lt k ((own_nil_v _ _ _ _).trans hk)).2
  · obtain ⟨x, hx, rfl⟩ := List.mem_map.1 hl
    obtain ⟨s, hs⟩ := hat x hx
    exact (hs.2.lt k hk).2
  · obtain ⟨x, hx, rfl⟩ := List.mem_map.1 hl
    obtain ⟨s, hs⟩ := hat x hx
    exact (hs.1.lt k hk).2
/-- What a Put leaves. -/
def PutTo (w w' : World) (base : Nat) (m : StoM) (ss' : List Ser) : Prop :=
  ∃ m' : StoM, m'.St = m.St ∧ StoAt w' base m' ss' ∧ GrS (BlkS m) w w' ∧ ∀ k, BlkS m' k → BlkS m k ∨ w.heap.size ≤ k
theorem putTo_gr {w w' : World} {base : Nat} {m : StoM} {ss : List Ser} (h : StoAt w base m ss) (g : Gr w w') : PutTo w w' base m ss := ⟨m, rfl, stoAt_gr h g, grs_gr _ g, fun _ hk => .inl hk⟩
theorem st_load {w : World} {b : Nat} {v : Value} {t : TypeId} (h : w.heap[b]? = some (.cells #[v] t (0, 0))) : w.cell? ⟨b, 0, none⟩ = some v ∧ w.frozen? ⟨b, 0, none⟩ = false := by
  constructor
  · unfold World.cell?
    rw [h]
    simp
  · unfold World.frozen?
    rw [h]
    simp
/-- What owns cells of a type does not lie in a block of another type. -/
theorem own_ne_blk {w : World} {b base size n : Nat} {e t : TypeId} {v : Value} {xs : List Value} {cs : Array Value} {fr : Nat × Nat} (h : w.ownsRow base e size v n xs) (hb : w.heap[b]? = some (.cells cs t fr)) (he : e ≠ t) : v.ownBlock = none ∨ v.ownBlock ≠ some b := by
  rcases h.2 with ⟨rfl, _⟩ | ⟨g, cap, cur, rfl, _, hg, _⟩
  · exact .inl rfl
  · right
    intro e2
    have : g = b := by simpa [Value.ownBlock] using e2
    subst this
    rw [hb] at hg
    injection hg with h1
    injection h1 with _ h2
    exact he h2.symm
theorem ins_at {α : Type} {l : List α} {k : Nat} (hk : k ≤ l.length) (x : α) (i : Nat) : (l.take k ++ x :: l.drop k)[i]? = if i < k then l[i]? else if i = k then some x else l[i - 1]? := by
  have hl : (l.take k).length = k := by rw [List.length_take]; omega
  by_cases h1 : i < k
  · rw [if_pos h1, List.getElem?_append_left (by omega), List.getElem?_take, if_pos h1]
  · rw [if_neg h1, List.getElem?_append_right (by omega), hl]
    by_cases h2 : i = k
    · subst h2
      rw [if_pos rfl, Nat.sub_self]
      rfl
    · rw [if_neg h2]
      obtain ⟨q, hq⟩ : ∃ q, i - k = q + 1 := ⟨i - k - 1, by omega⟩
      rw [hq, List.getElem?_cons_succ, List.getElem?_drop]
      congr 1
      omega
theorem parted_ins {ls : List Lst} {B k : Nat} (hp : Parted ls) (hk : k ≤ ls.length) {x : Lst} (hlt : ∀ l ∈ ls, ∀ b, l.v.ownBlock = some b → b < B) (hx : ∀ b, x.v.ownBlock = some b → B ≤ b) : Parted (ls.take k ++ x :: ls.drop k) := by
  intro i j l m b hl hm hb1 hb2
  rw [ins_at hk] at hl hm
  have old : ∀ {q : Nat} {y : Lst}, ls[q]? = some y → y.v.ownBlock = some b → b < B := fun hq hb => hlt _ (List.mem_of_getElem? hq) b hb
  split at hl
  · split at hm
    · exact hp i j l m b hl hm hb1 hb2
    · split at hm
      · have e := Option.some.inj hm
        subst e
        have h1 := old hl hb1
        have h2 := hx b hb2
        omega
      · have := hp i (j - 1) l m b hl hm hb1 hb2
        omega
  · split at hl
    · have e := Option.some.inj hl
      subst e
      have h2 := hx b hb1
      split at hm
      · have h1 := old hm hb2
        omega
      · split at hm
        · omega
        · have h1 := old hm hb2
          omega
    · split at hm
      · have := hp (i - 1) j l m b hl hm hb1 hb2
        omega
      · split at hm
        · have e := Option.some.inj hm
          subst e
          have h1 := old hl hb1
          have h2 := hx b hb2
          omega
        · have := hp (i - 1) (j - 1) l m b hl hm hb1 hb2
          omega
theorem map_ins {α β : Type} (f : α → β) (l : List α) (k : Nat) (x : α) : (l.take k ++ x :: l.drop k).map f = (l.map f).take k ++ f x :: (l.map f).drop k := by rw [List.map_append, List.map_cons, List.map_take, List.map_drop]
theorem mem_ins {α : Type} {l : List α} {k : Nat} {x y : α} (h : y ∈ l.take k ++ x :: l.drop k) : y = x ∨ y ∈ l := by
  rcases List.mem_append.1 h with h | h
  · exact .inr (List.mem_of_mem_take h)
  · rcases List.mem_cons.1 h with h | h
    · exact .inl h
    · exact .inr (List.mem_of_mem_drop h)
theorem hs_own {w : World} {base : Nat} {m : StoM} {ss : List Ser} (h : StoAt w base m ss) {x : SHd} (hx : x ∈ m.hs) : ∃ s, SerOwn w base x s := by
  obtain ⟨i, hi⟩ := List.getElem?_of_mem hx
  have hlt := (List.getElem?_eq_some_iff.1 hi).1
  exact ⟨_, h.ser i x _ hi (List.getElem?_eq_getElem (by rw [← h.len]; exact hlt))⟩
theorem put_new {w w7 w8 : World} {base : Nat} {m : StoM} {ss : List Ser} (h : StoAt w base m ss) (hb : base ≤ w.heap.size) {k : Nat} (hk : k ≤ ss.length) {x : SHd} {s : Ser} (g7 : Gr w w7) (hx : SerOwn w7 w.heap.size x s) {A' : Option Addr} {c' : Nat}
    (hown : w8.ownsRow base 73 2 (.slice A' (ss.length + 1) c') (ss.length + 1) (sR shC (m.hs.take k ++ x :: m.hs.drop k))) (g8 : w7.grownBy w8 (Value.slice m.A ss.length m.c).ownBlock) (hA' : ∀ b, (Value.slice A' (ss.length + 1) c').ownBlock = some b → (Value.slice m.A ss.length m.c).ownBlock = some b ∨ w7.heap.size ≤ b) :
    PutTo w (w8.setCell ⟨m.St, 0, none⟩ (.slice A' (ss.length + 1) c')) base m (ss.take k ++ s :: ss.drop k) := by
  have hSt7 := gr_blk g7 h.st (by simp)
  have hown7 := h.own.kept g7 (Classical.em _)
  have hSt8 := gr_blk g8 hSt7 (fun e => by
    rcases own_ne_blk hown7 hSt7 (by decide) with q | q
    · rw [q] at e; cases e
    · exact q e.symm)
  have hSt9 := blk_set hSt8 0 (.slice A' (ss.length + 1) c')
  have g9 := gr_set w8 ⟨m.St, 0, none⟩ (.slice A' (ss.length + 1) c')
  have hls : (ss.take k ++ s :: ss.drop k).length = ss.length + 1 := by rw [List.length_append, List.length_cons, List.length_take, List.length_drop]; omega
  have hlh : (m.hs.take k ++ x :: m.hs.drop k).length = ss.length + 1 := by rw [List.length_append, List.length_cons, List.length_take, List.length_drop, h.len]; omega
  have keep8 : ∀ {y : SHd} {z : Ser} {b0 : Nat}, SerOwn w7 b0 y z → SerOwn w8 b0 y z := fun q => ⟨q.1.kept g8 (own_types q.1 hown7 (by decide)), q.2.kept g8 (own_types q.2 hown7 (by decide))⟩
  have keep9 : ∀ {y : SHd} {z : Ser} {b0 : Nat}, SerOwn w8 b0 y z → SerOwn (w8.setCell ⟨m.St, 0, none⟩ (.slice A' (ss.length + 1) c')) b0 y z := fun q => ⟨q.1.kept g9 (own_ne_blk q.1 hSt8 (by decide)), q.2.kept g9 (own_ne_blk q.2 hSt8 (by decide))⟩
  refine ⟨⟨m.St, A', c', m.hs.take k ++ x :: m.hs.drop k⟩, rfl, ⟨?_, ?_, ?_, ?_, ?_⟩, ?_, ?_⟩
  · rw [hls]; exact hSt9
  · rw [hls, hlh]
  · rw [hls]; exact hown.kept g9 (own_ne_blk hown hSt8 (by decide))
  · intro i y z hy hz
    rw [ins_at (by rw [h.len]; exact hk)] at hy
    rw [ins_at hk] at hz
    refine keep9 (keep8 ?_)
    split at hy
    · next hi =>
      rw [if_pos hi] at hz
      exact serOwn_gr (h.ser i y z hy hz) g7
    · next hi =>
      rw [if_neg hi] at hz
      split at hy
      · next hik =>
        rw [if_pos hik] at hz
        have e1 := Option.some.inj hy
        have e2 := Option.some.inj hz
        subst e1 e2
        exact ⟨own_mono hx.1 hb, own_mono hx.2 hb⟩
      · next hik =>
        rw [if_neg hik] at hz
        exact serOwn_gr (h.ser (i - 1) y z hy hz) g7
  · rw [map_ins]
    refine parted_ins (B := w.heap.size) h.prt (by rw [List.length_map, h.len]; exact hk) (fun l hl b hb2 => ?_) (fun b hb2 => (hx.2.lt b hb2).1)
    exact stoAt_lt h b (.inr (.inr (.inl ⟨l, hl, hb2⟩)))
  · refine grs_then (grs_then (grs_gr _ g7) g8 fun b hb2 _ => .inr (.inl ((own_nil_v _ _ _ _).trans hb2))) g9 fun b hb2 _ => .inl (Option.some.inj hb2).symm
  · rintro b (rfl | hb2 | ⟨l, hl, hb2⟩ | ⟨l, hl, hb2⟩)
    · exact .inl (.inl rfl)
    · rcases hA' b ((own_nil_v _ _ _ _).trans hb2) with q | q
      · exact .inl (.inr (.inl ((own_nil_v _ _ _ _).trans q)))
      · exact .inr (Nat.le_trans g7.size q)
    · obtain ⟨y, hy, rfl⟩ := List.mem_map.1 hl
      rcases mem_ins hy with rfl | hy
      · exact .inr (hx.2.lt b hb2).1
      · exact .inl (.inr (.inr (.inl ⟨_, List.mem_map_of_mem hy, hb2⟩)))
    · obtain ⟨y, hy, rfl⟩ := List.mem_map.1 hl
      rcases mem_ins hy with rfl | hy
      · exact .inr (hx.1.lt b hb2).1
      · exact .inl (.inr (.inr (.inr ⟨_, List.mem_map_of_mem hy, hb2⟩)))
theorem parted_set {ls : List Lst} {B k : Nat} (hp : Parted ls) {x y : Lst} (hy : ls[k]? = some y) (hlt : ∀ l ∈ ls, ∀ b, l.v.ownBlock = some b → b < B) (hx : ∀ b, x.v.ownBlock = some b → y.v.ownBlock = some b ∨ B ≤ b) : Parted (ls.set k x) := by
  have hk := (List.getElem?_eq_some_iff.1 hy).1
  intro i j l m b hl hm hb1 hb2
  rw [List.getElem?_set] at hl hm
  have old : ∀ {q : Nat} {z : Lst}, ls[q]? = some z → z.v.ownBlock = some b → b < B := fun hq hb => hlt _ (List.mem_of_getElem? hq) b hb
  split at hl
  · next hi =>
    (try rw [if_pos hk] at hl)
    have e := Option.some.inj hl
    subst e
    split at hm
    · next hj => omega
    · next hj =>
      rcases hx b hb1 with q | q
      · have := hp k j y m b hy hm q hb2
        omega
      · have := old hm hb2
        omega
  · next hi =>
    split at hm
    · next hj =>
      (try rw [if_pos hk] at hm)
      have e := Option.some.inj hm
      subst e
      rcases hx b hb2 with q | q
      · have := hp i k l y b hl hy hb1 q
        omega
      · have := old hl hb1
        omega
    · exact hp i j l m b hl hm hb1 hb2
theorem put_old {w w5 w6 : World} {base : Nat} {m : StoM} {ss : List Ser} (h : StoAt w base m ss) (_hb : base ≤ w.heap.size) {k : Nat} {x : SHd} {s : Ser} (hx : m.hs[k]? = some x) (hs : ss[k]? = some s) (g5 : Gr w w5) {t v : Int} {g cap L : Nat} (hA : m.A = some ⟨L, 0, none⟩)
    (hown : w6.ownsRow base 75 2 (.slice (some ⟨g, 0, none⟩) (x.pn + 1) cap) (x.pn + 1) (sR pc s.p ++ pc (t, v))) (hat : ((Value.slice x.pa x.pn x.pc).ownBlock = some g ∧ w5.grownBy w6 (some g)) ∨ (g = w5.heap.size ∧ Gr w5 w6)) :
    PutTo w (w6.setCell ⟨L, k * 2 + 1, none⟩ (.slice (some ⟨g, 0, none⟩) (x.pn + 1) cap)) base m (ss.set k ⟨s.l, s.p ++ [(t, v)]⟩) := by
  have hk := (List.getElem?_eq_some_iff.1 hs).1
  have hkh : k < m.hs.length := by rw [h.len]; exact hk
  have hxo := h.ser k x s hx hs
  have hob : ∀ (W : World) {p : Prop}, (((Value.slice x.pa x.pn x.pc).ownBlock = some g ∧ w5.grownBy W (some g)) ∨ (p ∧ Gr w5 W)) → w5.grownBy W (Value.slice x.pa x.pn x.pc).ownBlock := fun W p q => by
    rcases q with ⟨e, q⟩ | ⟨_, q⟩
    · rw [e]; exact q
    · exact gr_more _ q
  have g6 := hob w6 hat
  have hSt5 := gr_blk g5 h.st (by simp)
  have hp5 := hxo.2.kept g5 (Classical.em _)
  have hSt6 := gr_blk g6 hSt5 (fun e => by
    rcases own_ne_blk hp5 hSt5 (by decide) with q | q
    · rw [q] at e; cases e
    · exact q e.symm)
  have hown5 := h.own.kept g5 (Classical.em _)
  have hown6 := hown5.kept g6 (own_types hown5 hp5 (by decide))
  have g9 := gr_set w6 ⟨L, k * 2 + 1, none⟩ (.slice (some ⟨g, 0, none⟩) (x.pn + 1) cap)
  have hLb : (Value.slice m.A ss.length m.c).ownBlock = some L := by rw [hA]; rfl
  obtain ⟨st1, st2⟩ : (w6.setCell ⟨L, k * 2 + 1, none⟩ (.slice (some ⟨g, 0, none⟩) (x.pn + 1) cap)).ownsRow base 73 2 (.slice m.A ss.length m.c) ss.length ((sR shC m.hs).set (k * 2 + 1) (.slice (some ⟨g, 0, none⟩) (x.pn + 1) cap)) ∧ True := by
    rw [hA] at hown6 ⊢
    exact ⟨(hown6.stored (k * 2 + 1) _).1, trivial⟩
  have hset : (sR shC m.hs).set (k * 2 + 1) (.slice (some ⟨g, 0, none⟩) (x.pn + 1) cap) = sR shC (m.hs.set k ⟨x.la, x.ln, x.lc, some ⟨g, 0, none⟩, x.pn + 1, cap⟩) := by
    rw [sR_set shC 2 shC_len _ _ _ hkh]
    show _ = ((sR shC m.hs).set (k * 2) (.slice x.la x.ln x.lc)).set (k * 2 + 1) _
    congr 1
    have e0 : (sR shC m.hs)[k * 2]? = some (.slice x.la x.ln x.lc) := sR_at shC 2 shC_len hx (j := 0) (by decide)
    obtain ⟨e1, e2⟩ := List.getElem?_eq_some_iff.1 e0
    rw [← e2, List.set_getElem_self]
  rw [hset] at st1
  have hlen2 : (ss.set k ⟨s.l, s.p ++ [(t, v)]⟩).length = ss.length := List.length_set
  have hgb : ∀ b, (some g : Option Nat) = some b → (Value.slice x.pa x.pn x.pc).ownBlock = some b ∨ w.heap.size ≤ b := fun b e => by
    have := Option.some.inj e
    subst this
    rcases hat with ⟨q, _⟩ | ⟨q, _⟩
    · exact .inl q
    · exact .inr (by have := g5.size; omega)
  have hownp9 := hown.kept g9 (own_types hown hown6 (by decide) |>.imp id fun q e => q (by rw [e, hLb]))
  refine ⟨⟨m.St, m.A, m.c, m.hs.set k ⟨x.la, x.ln, x.lc, some ⟨g, 0, none⟩, x.pn + 1, cap⟩⟩, rfl, ⟨?_, ?_, ?_, ?_, ?_⟩, ?_, ?_⟩
  · rw [hlen2]
    refine gr_blk g9 hSt6 (fun e => ?_)
    rcases own_ne_blk hown6 hSt6 (by decide) with q | q
    · rw [hLb] at q; cases q
    · exact q (by rw [hLb]; exact e.symm)
  · rw [hlen2]
    simp only [List.length_set]
    exact h.len
  · rw [hlen2]; exact st1
  · intro i y z hy hz
    rw [List.getElem?_set] at hy hz
    split at hy
    · next hi =>
      subst hi
      (try rw [if_pos hkh] at hy)
      rw [if_pos rfl, if_pos hk] at hz
      have e1 := Option.some.inj hy
      have e2 := Option.some.inj hz
      subst e1 e2
      have hl5 := hxo.1.kept g5 (Classical.em _)
      have hl6 := hl5.kept g6 (own_types hl5 hp5 (by decide))
      refine ⟨hl6.kept g9 (own_types hl6 hown6 (by decide) |>.imp id fun q e => q (by rw [e, hLb])), ?_⟩
      show World.ownsRow _ _ _ _ _ _ (sR pc (s.p ++ [(t, v)]))
      rw [sR_append, sR_one]
      exact hownp9
    · next hi =>
      rw [if_neg hi] at hz
      have hz2 := h.ser i y z hy hz
      have hl5 := hz2.1.kept g5 (Classical.em _)
      have hl6 := hl5.kept g6 (own_types hl5 hp5 (by decide))
      have hq5 := hz2.2.kept g5 (Classical.em _)
      have hq6 : w6.ownsRow base 75 2 (.slice y.pa y.pn y.pc) y.pn (sR pc z.p) := by
        refine hq5.kept g6 ?_
        cases hb2 : (Value.slice y.pa y.pn y.pc).ownBlock with
        | none => exact .inl rfl
        | some b =>
          refine .inr fun e => hi ?_
          exact h.prt k i (pL x) (pL y) b (by rw [List.getElem?_map, hx]; rfl) (by rw [List.getElem?_map, hy]; rfl) e.symm hb2
      exact ⟨hl6.kept g9 (own_types hl6 hown6 (by decide) |>.imp id fun q e => q (by rw [e, hLb])), hq6.kept g9 (own_types hq6 hown6 (by decide) |>.imp id fun q e => q (by rw [e, hLb]))⟩
  · rw [List.map_set]
    refine parted_set (B := w.heap.size) h.prt (y := pL x) (by rw [List.getElem?_map, hx]; rfl) (fun l hl b hb2 => stoAt_lt h b (.inr (.inr (.inl ⟨l, hl, hb2⟩)))) hgb
  · refine grs_then (grs_then (grs_gr _ g5) g6 fun b hb2 _ => .inr (.inr (.inl ⟨pL x, List.mem_map_of_mem (List.mem_of_getElem? hx), hb2⟩))) g9 fun b hb2 _ => ?_
    have := Option.some.inj hb2
    subst this
    exact .inr (.inl ((own_nil_v _ _ _ _).trans hLb))
  · rintro b (rfl | hb2 | ⟨l, hl, hb2⟩ | ⟨l, hl, hb2⟩)
    · exact .inl (.inl rfl)
    · exact .inl (.inr (.inl hb2))
    · obtain ⟨y, hy, rfl⟩ := List.mem_map.1 hl
      rcases List.mem_or_eq_of_mem_set hy with hy | rfl
      · exact .inl (.inr (.inr (.inl ⟨_, List.mem_map_of_mem hy, hb2⟩)))
      · rcases hgb b hb2 with q | q
        · exact .inl (.inr (.inr (.inl ⟨pL x, List.mem_map_of_mem (List.mem_of_getElem? hx), q⟩)))
        · exact .inr q
    · obtain ⟨y, hy, rfl⟩ := List.mem_map.1 hl
      rcases List.mem_or_eq_of_mem_set hy with hy | rfl
      · exact .inl (.inr (.inr (.inr ⟨_, List.mem_map_of_mem hy, hb2⟩)))
      · exact .inl (.inr (.inr (.inr ⟨lL x, List.mem_map_of_mem (List.mem_of_getElem? hx), hb2⟩)))
theorem stoAt_ln {w : World} {base : Nat} {m : StoM} {ss : List Ser} (h : StoAt w base m ss) (hi : InvS ss) : ∀ x ∈ m.hs, x.ln ≤ 1000000000 := by
  intro x hx
  obtain ⟨i, hx⟩ := List.getElem?_of_mem hx
  have hlt := (List.getElem?_eq_some_iff.1 hx).1
  have hs : ss[i]? = some (ss[i]'(by rw [← h.len]; exact hlt)) := List.getElem?_eq_getElem _
  have h1 := (h.ser i x _ hx hs).1.1
  have h2 := (hi.ok _ (List.mem_of_getElem? hs)).1.1.1
  rw [sR_len lblC 2 lblC_len] at h1
  omega
theorem putAt_no {ss : List Ser} {k : Nat} {l : List Lb} {t v : Int} (h : ¬ ∃ s, ss[k]? = some s ∧ s.l = l) : putAt ss k l t v = if 40 ≤ ss.length then (8, ss) else (0, ss.take k ++ ⟨l, [(t, v)]⟩ :: ss.drop k) := by
  unfold putAt
  cases hs : ss[k]? with
  | none => rfl
  | some s => simp only; rw [if_neg (fun e => h ⟨s, hs, e⟩)]
theorem putAt_yes {ss : List Ser} {k : Nat} {s : Ser} {t v : Int} (h : ss[k]? = some s) : putAt ss k s.l t v = if t ≤ lastT s.p then (6, ss) else if 25 ≤ s.p.length then (8, ss) else (0, ss.set k ⟨s.l, s.p ++ [(t, v)]⟩) := by
  unfold putAt
  rw [h]
  simp only
  rw [if_pos True.intro]
theorem st_keep {w w7 w8 : World} {base : Nat} {m : StoM} {ss : List Ser} (h : StoAt w base m ss) (g7 : Gr w w7) (g8 : w7.grownBy w8 (Value.slice m.A ss.length m.c).ownBlock) : w8.heap[m.St]? = some (.cells #[.slice m.A ss.length m.c] 31 (0, 0)) := by
  have hSt7 := gr_blk g7 h.st (by simp)
  have hown7 := h.own.kept g7 (Classical.em _)
  refine gr_blk g8 hSt7 (fun e => ?_)
  rcases own_ne_blk hown7 hSt7 (by decide) with q | q
  · rw [q] at e; cases e
  · exact q e.symm
/-- One point that has just been laid. -/
theorem pts_own {w : World} {b base : Nat} {t v : Int} (h : w.heap[b]? = some (.cells #[.int .i64 t, .int .i64 v] 75)) (hb : base ≤ b) : w.ownsRow base 75 2 (.slice (some ⟨b, 0, none⟩) 1 1) 1 (sR pc [(t, v)]) :=
  ⟨by simp [sR, pc], .inr ⟨b, 1, _, rfl, hb, h, Nat.le_refl _, by decide, rfl, rfl⟩⟩
theorem serOwn_new {W5 W7 : World} {b5 B n cc pb : Nat} {cA : Option Addr} {zs : List Lb} {t v : Int} (hco : W5.ownsRow b5 58 2 (.slice cA n cc) n (sR lblC zs)) (hb : B ≤ b5) (g : Gr W5 W7) (hp : W7.heap[pb]? = some (.cells #[.int .i64 t, .int .i64 v] 75)) (hlt : B ≤ pb) : SerOwn W7 B ⟨cA, n, cc, some ⟨pb, 0, none⟩, 1, 1⟩ ⟨zs, [(t, v)]⟩ :=
  ⟨(own_mono hco hb).kept g (Classical.em _), pts_own hp hlt⟩
/-- The list of a store behind an append onto a series' points. -/
theorem list_keep {w3 w5 w6 : World} {base g k N pn pcp Bp L : Nat} {m : StoM} {hs : List SHd} {zs : List (Int × Int)} {p : Prop} (h : w3.ownsRow base 73 2 (.slice m.A N m.c) N (sR shC hs)) (hp : w3.ownsRow base 75 2 (.slice (some ⟨Bp, 0, none⟩) pn pcp) pn (sR pc zs)) (hA : m.A = some ⟨L, 0, none⟩) (hk : k < N) {v : Value} (hSt : w3.heap[m.St]? = some (.cells #[v] 31 (0, 0))) (g5 : Gr w3 w5)
    (hat : ((Value.slice (some ⟨Bp, 0, none⟩) pn pcp).ownBlock = some g ∧ w5.grownBy w6 (some g)) ∨ (p ∧ Gr w5 w6)) : w6.ownsRow base 73 2 (.slice m.A N m.c) N (sR shC hs) ∧ (∃ old, w6.cell? ⟨L, k * 2 + 1, none⟩ = some old) ∧ w6.frozen? ⟨L, k * 2 + 1, none⟩ = false ∧ w6.cell? ⟨m.St, 0, none⟩ = some v := by
  have h5 := h.kept g5 (Classical.em _)
  have hp5 := hp.kept g5 (Classical.em _)
  have h6 : w6.ownsRow base 73 2 (.slice m.A N m.c) N (sR shC hs) := by
    rcases hat with ⟨e, q⟩ | ⟨_, q⟩
    · refine h5.kept q ?_
      rw [← e]
      exact own_types h5 hp5 (by decide)
    · exact h5.kept q (Classical.em _)
  have hSt5 := gr_blk g5 hSt (by simp)
  refine ⟨h6, ?_, ?_, ?_⟩
  rotate_left 2
  · refine (st_load (b := m.St) (t := 31) ?_).1
    rcases hat with ⟨e, q⟩ | ⟨_, q⟩
    · refine gr_blk q hSt5 (fun e2 => ?_)
      rcases own_ne_blk hp5 hSt5 (by decide) with r | r
      · rw [r] at e; cases e
      · exact r (by rw [e]; exact e2.symm)
    · exact gr_blk q hSt5 (by simp)
  · rw [hA] at h6
    exact Option.isSome_iff_exists.1 (own_some h6 (by omega))
  · rw [hA] at h6
    exact h6.frozenAt _
set_option maxHeartbeats 16000000 in
set_option maxRecDepth 100000 in
theorem sput_any (base : Nat) (m : StoM) (ss : List Ser) (A : Option Addr) (n c : Nat) (zs : List Lb) (t v : Int) (w : World) (h : StoAt w base m ss) (hi : InvS ss) (hb : base ≤ w.heap.size) (hn : n ≤ 1000000000) (hA : A = none → n = 0 ∧ c = 0) (hz : Row w A n 2 (sR lblC zs)) (hsh : ShortL zs) :
    Calls Tryz.prog 7 #[.pointer (some ⟨m.St, 0, none⟩), .slice A n c, .int .i64 t, .int .i64 v] w fun e w' => e = .returned (.int .i64 (putS ss zs t v).1) ∧ PutTo w w' base m (putS ss zs t v).2 := by
  obtain ⟨P, hP⟩ : ∃ P, P = putS ss zs t v := ⟨_, rfl⟩
  rw [← hP]
  have cR := sright_any A n c zs w hn hA hz hsh
  by_cases hok : okSer zs
  · rw [decide_eq_true hok] at cR
    replace cR := Lib.hid cR
    by_cases h1 : t < 0
    · have hf : P = (1, ss) := by rw [hP]; unfold putS; rw [if_neg]; rintro ⟨_, q, _⟩; omega
      clear hP
      subst hf
      clear hz hsh
      go_enter Tryz.func7, Tryz.ntmps7
      go_wp2_with fail
      refine cR.out.mono ?_
      rintro e w1 ⟨rfl, g1⟩
      go_wp2
      go_ret
      exact ⟨rfl, putTo_gr h g1⟩
    · by_cases h2 : 1000000000 < t
      · have hf : P = (1, ss) := by rw [hP]; unfold putS; rw [if_neg]; rintro ⟨_, q, q2, _⟩; omega
        clear hP
        subst hf
        clear hz hsh
        go_enter Tryz.func7, Tryz.ntmps7
        go_wp2_with fail
        refine cR.out.mono ?_
        rintro e w1 ⟨rfl, g1⟩
        go_wp2
        go_ret
        exact ⟨rfl, putTo_gr h g1⟩
      · by_cases h3 : In v
        · have hP2 : P = putAt ss (placeS ss zs) zs t v := by rw [hP]; unfold putS; rw [if_pos ⟨hok, by omega, by omega, h3⟩]
          have hln := stoAt_ln h hi
          have hlen := hi.len
          have k0 := (st_load h.st).1
          have cS := fun W (g : Gr w W) => ssearch m.A ss.length m.c m.hs ss A n c zs W (sersOf_gr (stoAt_rd h) g) (by omega) hln hi.sort hn (row_gr hz g)
          have cC := fun W (g : Gr w W) => lclone_any A n c zs W hn hA (row_gr hz g)
          replace cS := Lib.hid cS
          replace cC := Lib.hid cC
          replace hP2 := Lib.hid hP2
          have hsp : ∀ s ∈ ss, 1 ≤ s.p.length ∧ s.p.length ≤ 25 := fun s hs => ⟨(hi.ok s hs).2.1, (hi.ok s hs).2.2.1⟩
          replace hsp := Lib.hid hsp
          replace h := Lib.hid h
          clear hP hz hsh hln hi hA
          go_enter Tryz.func7, Tryz.ntmps7
          go_wp2_with fail
          refine cR.out.mono ?_
          rintro e w1 ⟨rfl, g1⟩
          have k1 := gr_cell g1 k0
          go_wp2_with fail
          refine (right_yes v _ h3).mono ?_
          rintro e w2 ⟨rfl, rfl⟩
          go_wp2_with fail
          refine (cS.out _ g1).mono ?_
          rintro e w3 ⟨⟨k, b, rfl, hpl, hbb⟩, g3⟩
          have hP3 : P = putAt ss k zs t v := by rw [hP2.out, placeS_of hpl]
          have hkl := hpl.1
          have G3 := gr_trans g1 g3
          have k3 := gr_cell G3 k0
          replace hP3 := Lib.hid hP3
          replace G3 := Lib.hid G3
          clear cS cR hP2 g1 g3 k0 k1 hpl
          cases b with
          | false =>
            have hno : ¬ ∃ s, ss[k]? = some s ∧ s.l = zs := fun q => by have := hbb.2 q; cases this
            have hP4 := hP3.out
            rw [putAt_no hno] at hP4
            clear hP3 hbb hno
            by_cases h40 : 40 ≤ ss.length
            · rw [if_pos h40] at hP4
              subst hP4
              have h40I : (40 : Int) ≤ (ss.length : Int) := by omega
              go_wp2
              go_ret
              exact ⟨rfl, putTo_gr h.out G3.out⟩
            · rw [if_neg h40] at hP4
              subst hP4
              have h40I : ¬ (40 : Int) ≤ (ss.length : Int) := by omega
              have hBlt : ∀ a, m.A = some a → a.block < w.heap.size := fun a ha => stoAt_lt h.out a.block (.inr (.inl (by rw [ha]; rfl)))
              have cI := fun W (g : Gr w W) (B : Nat) (x : SHd) (hB : W.heap[B]? = some (.cells (shC x).toArray 73 (0, 0))) (hlt : w.heap.size ≤ B) => sdinsert m.A ss.length m.c base B k m.hs x W (Nat.le_trans hb g.size) (h.out.own.kept g (Classical.em _)) (by omega) hkl hB (fun a ha e => by have := hBlt a ha; omega)
              have k3a : (w3.alloc (.cells #[.int .i64 t, .int .i64 v] 75)).cell? ⟨m.St, 0, none⟩ = some (.slice m.A ss.length m.c) := gr_cell (gr_alloc w3 _ none) k3
              replace cI := Lib.hid cI
              clear hBlt
              go_upto_region 7 with fail
              go_region_law (first
                | (go_simp; go_at_call 27; refine (cC.out _ (by repeat' (first | exact G3.out | (with_reducible refine gr_trans ?_ (gr_alloc _ _ none)) | (with_reducible refine gr_trans ?_ (gr_drew _ none))))).mono ?_
                   rintro e W5 ⟨v5, rfl, hco, g5⟩
                   obtain ⟨cA, cc, rfl, _, _⟩ := own_openS hco
                   have G5 : Gr w W5 := gr_trans (by repeat' (first | exact G3.out | (with_reducible refine gr_trans ?_ (gr_alloc _ _ none)) | (with_reducible refine gr_trans ?_ (gr_drew _ none)))) g5
                   have k5 := (st_load (gr_blk G5 h.out.st (by simp))).1
                   have k5a : (W5.alloc (.cells #[.int .i64 t, .int .i64 v] 75)).cell? ⟨m.St, 0, none⟩ = some (.slice m.A ss.length m.c) := gr_cell (gr_alloc W5 _ none) k5
                   have k5b : ((W5.alloc (.cells #[.int .i64 t, .int .i64 v] 75)).alloc (.cells #[.slice cA n cc, .slice (some ⟨W5.heap.size, 0, none⟩) 1 1] 73)).cell? ⟨m.St, 0, none⟩ = some (.slice m.A ss.length m.c) := gr_cell (gr_alloc _ _ none) k5a
                   have k5c : (W5.alloc (.cells #[.slice cA n cc, .slice (some ⟨w3.heap.size, 0, none⟩) 1 1] 73)).cell? ⟨m.St, 0, none⟩ = some (.slice m.A ss.length m.c) := gr_cell (gr_alloc _ _ none) k5
                   (try have hpb : Hid (W5.heap[w3.heap.size]? = some (.cells #[.int .i64 t, .int .i64 v] 75)) := gr_blk (gr_trans (gr_drew _ none) g5) (blk_new w3 _) (by simp))
                   replace hco := Lib.hid hco
                   replace g5 := Lib.hid g5
                   replace G5 := Lib.hid G5)
                | (go_simp; go_at_call 26; refine (cI.out _ (by repeat' (first | exact G3.out | exact G5.out | (with_reducible refine gr_trans ?_ (gr_alloc _ _ none)) | (with_reducible refine gr_trans ?_ (gr_drew _ none)))) _ ⟨_, _, _, some ⟨_, 0, none⟩, 1, 1⟩ (by first | exact blk_new _ _ | (have q := blk_new (W5.alloc (.cells #[.int .i64 t, .int .i64 v] 75)) (.cells #[.slice cA n cc, .slice (some ⟨W5.heap.size, 0, none⟩) 1 1] 73); rw [show (W5.alloc (.cells #[.int .i64 t, .int .i64 v] 75)).heap.size = W5.heap.size + 1 from by simp] at q; exact q)) (by have := G5.out.size; omega)).mono ?_
                   intro e W8 hpost
                   obtain ⟨A8, c8, rfl, hown8, g8, hA8⟩ := hpost
                   obtain ⟨k8, f8⟩ := st_load (st_keep h.out (by repeat' (first | exact G3.out | exact G5.out | (with_reducible refine gr_trans ?_ (gr_alloc _ _ none)) | (with_reducible refine gr_trans ?_ (gr_drew _ none)))) g8)
                   replace hown8 := Lib.hid hown8
                   replace g8 := Lib.hid g8
                   replace hA8 := Lib.hid hA8))
              all_goals
                go_wp2
                go_ret
                refine ⟨rfl, put_new h.out hb hkl ?_ ?_ hown8.out g8.out hA8.out⟩
                · repeat' (first | exact G3.out | exact G5.out | (with_reducible refine gr_trans ?_ (gr_alloc _ _ none)) | (with_reducible refine gr_trans ?_ (gr_drew _ none)))
                · refine serOwn_new hco.out ?_ ?_ ?_ ?_
                  · have := G3.out.size
                    first | exact this | exact Nat.le_trans this (Nat.le_of_eq rfl) | (refine Nat.le_trans this ?_; exact (gr_alloc w3 _ none).size)
                  · repeat' (first | exact gr_refl _ _ | (with_reducible refine gr_trans ?_ (gr_alloc _ _ none)) | (with_reducible refine gr_trans ?_ (gr_drew _ none)))
                  · first | exact gr_blk (gr_alloc _ _ none) hpb.out (by simp) | exact gr_blk (gr_alloc _ _ none) (blk_new _ _) (by simp)
                  · have := G3.out.size
                    have := G5.out.size
                    omega
          | true =>
            obtain ⟨s, hs, rfl⟩ := hbb.1 rfl
            have hP4 := hP3.out
            rw [putAt_yes hs] at hP4
            have hsl := hsp.out s (List.mem_of_getElem? hs)
            have hklt := (List.getElem?_eq_some_iff.1 hs).1
            have h3s := stoAt_gr h.out G3.out
            obtain ⟨x, s', B, o, hx, hs', hA', d0, d1, hrd, _, hpn⟩ := sersOf_at (stoAt_rd h3s) hklt
            obtain rfl : s = s' := by rw [hs] at hs'; exact Option.some.inj hs'
            obtain ⟨L, cap, hv, _, hLw⟩ := h3s.own.form (by omega)
            have hfL := h3s.own
            injection hv with hv1 _ hv3
            have hBL : B = L ∧ o = 0 := by
              rw [hA'] at hv1
              have := Option.some.inj hv1
              injection this with e1 e2
              exact ⟨e1, e2⟩
            obtain ⟨rfl, rfl⟩ := hBL
            rw [hA'] at k3 hfL
            have hfz := hfL.frozenAt (k * 2 + 1)
            obtain ⟨Bp, op, hpa, _, dp, _⟩ := pt_cell (zs := s.p) (n := x.pn) (A := x.pa) hrd.2 (k := x.pn - 1) (by omega)
            have hlast : pT s.p (x.pn - 1) = lastT s.p := by unfold lastT; rw [hpn]
            rw [hlast] at dp
            rw [hpn] at hP4
            have hpn1 : 1 ≤ x.pn := by omega
            have hpn2 : x.pn ≤ 25 := by omega
            have hkI : (k : Int) < (ss.length : Int) := by omega
            have y1 : (x.pn : Int) - 1 < (x.pn : Int) := by omega
            have y2 : ((x.pn : Int) - 1).toNat = x.pn - 1 := by omega
            have y3 : IntKind.i64.wrap ((x.pn : Int) - 1) = (x.pn : Int) - 1 := IntWalk.i64_in _ (by omega)
            have y4 : (0 : Int) ≤ (x.pn : Int) - 1 := by omega
            have y5 : (1 : Int) ≤ (x.pn : Int) := by omega
            generalize lastT s.p = T at *
            replace hs := Lib.hid hs
            replace hx := Lib.hid hx
            replace hA' := Lib.hid hA'
            replace h3s := Lib.hid h3s
            replace hrd := Lib.hid hrd
            clear hP3 hbb hs' hpn hsl hv1 hv3 hlast hfL
            rw [Nat.zero_add] at d0 d1 
            rw [hpa] at d1
            by_cases c1 : t ≤ T
            · rw [if_pos c1] at hP4
              subst hP4
              replace hpa := Lib.hid hpa
              go_wp2
              go_ret
              exact ⟨rfl, putTo_gr h.out G3.out⟩
            · rw [if_neg c1] at hP4
              by_cases c2 : 25 ≤ x.pn
              · rw [if_pos c2] at hP4
                subst hP4
                have c2I : (25 : Int) ≤ (x.pn : Int) := by omega
                replace hpa := Lib.hid hpa
                go_wp2
                go_ret
                exact ⟨rfl, putTo_gr h.out G3.out⟩
              · rw [if_neg c2] at hP4
                subst hP4
                have c2I : ¬ (25 : Int) ≤ (x.pn : Int) := by omega
                have hox := (h3s.out.ser k x s hx.out hs.out).2
                obtain ⟨ii, hii, hz0, hz1, hz2⟩ := info_parts infoPt
                obtain ⟨g0, cp0, hv0, _, _⟩ := hox.form (by omega)
                have hop : Bp = g0 ∧ op = 0 := by
                  injection hv0 with e1 _ _
                  rw [hpa] at e1
                  have := Option.some.inj e1
                  injection this with e1 e2
                  exact ⟨e1, e2⟩
                obtain ⟨rfl, rfl⟩ := hop
                rw [Nat.zero_add] at dp
                have hox2 := hox
                rw [hpa] at hox2
                have hown3 := h3s.out.own
                replace hown3 := Lib.hid hown3
                replace hpa := Lib.hid hpa
                replace hox := Lib.hid hox
                replace hox2 := Lib.hid hox2
                clear hv0
                have k3a : (w3.alloc (.cells #[.int .i64 t, .int .i64 v] 75)).cell? ⟨m.St, 0, none⟩ = some (.slice (some ⟨B, 0, none⟩) ss.length m.c) := gr_cell (gr_alloc w3 _ none) k3
                have d1a : (w3.alloc (.cells #[.int .i64 t, .int .i64 v] 75)).cell? ⟨B, k * 2 + 1, none⟩ = some (.slice (some ⟨Bp, 0, none⟩) x.pn x.pc) := gr_cell (gr_alloc w3 _ none) d1
                have hSt3 := h3s.out.st
                rw [hA'.out] at hSt3
                replace hSt3 := Lib.hid hSt3
                go_upto_region 14 with fail
                go_region_law ((refine step_append_strong (o := ⟨some 98, _, _, _, _, _⟩) (by rfl) _ _ 71 (by rfl) base 75 ii (.agg #[.int .i64 0, .int .i64 0]) 2 16 Tryz.underlying71 hii hz0 hz1 hz2 (by decide) (by decide) (.slice (some ⟨Bp, 0, none⟩) x.pn x.pc) x.pn (sR pc s.p) (by rfl) (by first | exact (hox2.out.kept (gr_drew w3 none) (Classical.em _)).alloc _ | exact hox2.out.alloc _) ⟨_, 0, none⟩ 1 1 [.int .i64 t, .int .i64 v] (by rfl) (by rfl) (fun j u hj => by (try change World.cell? (World.alloc w3 _) _ = _); rw [add_plain, Nat.zero_add, World.cell?_alloc_new]; simpa using hj) (by simp [Value.oneCell']) (by omega) (x.pn + 1) (by rfl) (by unfold maxLen; omega) (by omega) (by first | (simp; omega) | omega) ?_; intro g cap W6 hown6 hat6; obtain ⟨hS6, hc6, hf6, k6⟩ := list_keep (m := m) (k := k) hown3.out hox2.out hA'.out hklt hSt3.out (by first | exact gr_trans (gr_alloc w3 _ none) (gr_drew _ none) | exact gr_trans (gr_drew w3 none) (gr_alloc _ _ none) | exact gr_alloc w3 _ none) hat6; obtain ⟨old6, hc6⟩ := hc6; replace hown6 := Lib.hid hown6; replace hat6 := Lib.hid hat6; replace hS6 := Lib.hid hS6))
                all_goals
                  go_wp2
                  go_ret
                  refine ⟨rfl, put_old h.out hb hx.out hs.out ?_ hA'.out hown6.out (by rw [hpa.out]; exact hat6.out)⟩
                  repeat' (first | exact G3.out | (with_reducible refine gr_trans ?_ (gr_alloc _ _ none)) | (with_reducible refine gr_trans ?_ (gr_drew _ none)))
        · have hf : P = (1, ss) := by rw [hP]; unfold putS; rw [if_neg]; rintro ⟨_, _, _, q⟩; exact h3 q
          clear hP
          subst hf
          clear hz hsh
          go_enter Tryz.func7, Tryz.ntmps7
          go_wp2_with fail
          refine cR.out.mono ?_
          rintro e w1 ⟨rfl, g1⟩
          go_wp2_with fail
          refine (right_no v _ h3).mono ?_
          rintro e w2 ⟨rfl, rfl⟩
          go_wp2
          go_ret
          exact ⟨rfl, putTo_gr h g1⟩
  · have hf : P = (1, ss) := by rw [hP]; unfold putS; rw [if_neg]; rintro ⟨q, _⟩; exact hok q
    rw [decide_eq_false hok] at cR
    replace cR := Lib.hid cR
    clear hP
    subst hf
    clear hz hsh
    go_enter Tryz.func7, Tryz.ntmps7
    go_wp2_with fail
    refine cR.out.mono ?_
    rintro e w1 ⟨rfl, g1⟩
    go_wp2
    go_ret
    exact ⟨rfl, putTo_gr h g1⟩
end Go.Proofs.YtccmekdmnkmhlaaGreat
namespace Go.Proofs.YtccmekdmnkmhlaaGreat
open Go.RowKit

set_option maxHeartbeats 4000000 in
set_option maxRecDepth 100000 in
theorem pclone_any (A : Option Addr) (n c : Nat) (zs : List (Int × Int)) (w : World) (hn : n ≤ 1000000000) (hA : A = none → n = 0 ∧ c = 0) (hz : Row w A n 2 (sR pc zs)) :
    Calls Tryz.prog 89 #[.slice A n c] w fun e w' => ∃ v, e = .returned v ∧ w'.ownsRow w.heap.size 75 2 v n (sR pc zs) ∧ Gr w w' := by
  obtain ⟨ii, hi, hz0, hz1, hz2⟩ := info_parts infoPt
  cases A with
  | none =>
    obtain ⟨rfl, rfl⟩ := hA rfl
    have hzs : sR pc zs = [] := by
      have := hz.1
      simpa using this
    rw [hzs]
    have he : ∀ w : World, (binOp .eql 71 (.slice none 0 0) (.slice none 0 0)).run Tryz.prog w = .ok (.bool true) w := fun _ => rfl
    go_enter Tryz.func89, Tryz.ntmps89
    go_wp2
    go_ret
    exact ⟨_, rfl, World.ownsRow_nil _ _ _ _, gr_refl _ _⟩
  | some a =>
    have hoe := own_empty w 75 2
    have ge : Gr w (w.alloc (.cells #[] 75)) := gr_alloc _ _ _
    have hz2' := row_gr hz ge
    have hsz : w.heap.size ≤ (w.alloc (.cells #[] 75)).heap.size := ge.size
    replace hz2' := Lib.hid hz2'
    replace hoe := Lib.hid hoe
    replace ge := Lib.hid ge
    clear hz
    have he : ∀ w : World, (binOp .eql 71 (.slice (some a) n c) (.slice none 0 0)).run Tryz.prog w = .ok (.bool false) w := fun _ => rfl
    go_enter Tryz.func89, Tryz.ntmps89
    go_wp2_with (at_builtin; refine wpList_append_row rfl _ _ 71 rfl w.heap.size 75 ii (.agg #[.int .i64 0, .int .i64 0]) 2 16 Tryz.underlying71 hi hz0 hz1 hz2 rfl (by decide) (.slice (some ⟨w.heap.size, 0, none⟩) 0 0) 0 [] rfl hoe.out (some a) n c (sR pc zs) rfl (fun e => by cases e) hz2'.out (pcsR_one zs) n (sR pc zs) (Nat.zero_add n) rfl ?c1 ?c2 hsz ?_; rotate_right; intro v' W5 hown5 hgrow; replace hown5 := Lib.hid hown5; replace hgrow := Lib.hid hgrow)
    case c1 => unfold maxLen; omega
    case c2 => omega
    go_ret
    exact ⟨_, rfl, hown5.out, gr_of_below (below_gr (gr_below ge.out) hgrow.out ge.out.size (by intro q hq; cases hq; exact Nat.le_refl _)) (Nat.le_refl _)⟩

/-- A list of series that owns all that it has. -/
structure SersIn (w : World) (base : Nat) (A : Option Addr) (n c : Nat) (hs : List SHd) (ss : List Ser) : Prop where
  len : ss.length = n
  hlen : hs.length = n
  own : w.ownsRow base 73 2 (.slice A n c) n (sR shC hs)
  ser : ∀ (i : Nat) h s, hs[i]? = some h → ss[i]? = some s → SerOwn w base h s
  prt : Parted (hs.map pL)
theorem sersIn_gr {w w' : World} {base : Nat} {A : Option Addr} {n c : Nat} {hs : List SHd} {ss : List Ser} (h : SersIn w base A n c hs ss) (g : Gr w w') : SersIn w' base A n c hs ss :=
  ⟨h.len, h.hlen, h.own.kept g (Classical.em _), fun i x s h1 h2 => serOwn_gr (h.ser i x s h1 h2) g, h.prt⟩
theorem sersIn_nil (w : World) (base : Nat) : SersIn w base none 0 0 [] [] := ⟨rfl, rfl, World.ownsRow_nil _ _ _ _, (by intro i h s h1; simp at h1), (by intro i j l m k h1; simp at h1)⟩
theorem sersIn_rd {w : World} {base : Nat} {A : Option Addr} {n c : Nat} {hs : List SHd} {ss : List Ser} (h : SersIn w base A n c hs ss) : SersOf w A n hs ss := ⟨h.len, h.hlen, row_own h.own, fun i x s h1 h2 => serOwn_rd (h.ser i x s h1 h2)⟩
theorem sersIn_st {w : World} {base St : Nat} {A : Option Addr} {n c : Nat} {hs : List SHd} {ss : List Ser} (h : SersIn w base A n c hs ss) (hSt : w.heap[St]? = some (.cells #[.slice A n c] 31 (0, 0))) : StoAt w base ⟨St, A, c, hs⟩ ss := by
  obtain ⟨h1, h2, h3, h4, h5⟩ := h
  subst h1
  exact ⟨hSt, h2, h3, h4, h5⟩
theorem sersIn_lt {w : World} {base : Nat} {A : Option Addr} {n c : Nat} {hs : List SHd} {ss : List Ser} (h : SersIn w base A n c hs ss) : ∀ l ∈ hs.map pL, ∀ b, l.v.ownBlock = some b → base ≤ b ∧ b < w.heap.size := by
  intro l hl b hb
  obtain ⟨x, hx, rfl⟩ := List.mem_map.1 hl
  obtain ⟨i, hi⟩ := List.getElem?_of_mem hx
  have hlt := (List.getElem?_eq_some_iff.1 hi).1
  have hs2 : ss[i]? = some (ss[i]'(by rw [h.len, ← h.hlen]; exact hlt)) := List.getElem?_eq_getElem _
  exact (h.ser i x _ hi hs2).2.lt b hb
theorem parted_snoc {ls : List Lst} {B : Nat} (hp : Parted ls) {x : Lst} (hlt : ∀ l ∈ ls, ∀ b, l.v.ownBlock = some b → b < B) (hx : ∀ b, x.v.ownBlock = some b → B ≤ b) : Parted (ls ++ [x]) := by
  have := parted_ins (k := ls.length) hp (Nat.le_refl _) hlt hx
  rwa [List.take_length, List.drop_length] at this
/-- One series more. -/
theorem sersIn_app {W X W6 : World} {base g cap : Nat} {A : Option Addr} {k c : Nat} {hs : List SHd} {ss : List Ser} {x : SHd} {s : Ser} {o : Obj} (h : SersIn W base A k c hs ss) (hb : base ≤ W.heap.size) (g5 : Gr W X) (hx : SerOwn X W.heap.size x s)
    (hown : W6.ownsRow base 73 2 (.slice (some ⟨g, 0, none⟩) (k + 1) cap) (k + 1) (sR shC hs ++ shC x)) (hat : ((Value.slice A k c).ownBlock = some g ∧ (X.alloc o).grownBy W6 (some g)) ∨ (g = (X.alloc o).heap.size ∧ Gr (X.alloc o) W6)) :
    SersIn W6 base (some ⟨g, 0, none⟩) (k + 1) cap (hs ++ [x]) (ss ++ [s]) ∧ W.grownBy W6 (Value.slice A k c).ownBlock := by
  have g6 : (X.alloc o).grownBy W6 (Value.slice A k c).ownBlock := by
    rcases hat with ⟨e, q⟩ | ⟨_, q⟩
    · rw [e]; exact q
    · exact gr_more _ q
  have gX : Gr W (X.alloc o) := gr_trans g5 (gr_alloc X o none)
  have hownX := h.own.kept gX (Classical.em _)
  refine ⟨⟨by rw [List.length_append, h.len]; rfl, by rw [List.length_append, h.hlen]; rfl, by rw [sR_append, sR_one]; exact hown, ?_, ?_⟩, gr_trans (gr_more _ gX) g6⟩
  · intro i y z hy hz
    have keep : ∀ {y : SHd} {z : Ser} {b0 : Nat}, SerOwn (X.alloc o) b0 y z → SerOwn W6 b0 y z := fun q => ⟨q.1.kept g6 (own_types q.1 hownX (by decide)), q.2.kept g6 (own_types q.2 hownX (by decide))⟩
    by_cases hik : i < k
    · rw [List.getElem?_append_left (by rw [h.hlen]; exact hik)] at hy
      rw [List.getElem?_append_left (by rw [h.len]; exact hik)] at hz
      exact keep (serOwn_gr (h.ser i y z hy hz) gX)
    · have hik2 : i = k := by
        have := (List.getElem?_eq_some_iff.1 hy).1
        rw [List.length_append, h.hlen, List.length_singleton] at this
        omega
      subst hik2
      rw [List.getElem?_append_right (by rw [h.hlen]; exact Nat.le_refl _), h.hlen, Nat.sub_self] at hy
      rw [List.getElem?_append_right (by rw [h.len]; exact Nat.le_refl _), h.len, Nat.sub_self] at hz
      have e1 := Option.some.inj hy
      have e2 := Option.some.inj hz
      subst e1 e2
      have q := serOwn_gr hx (gr_alloc X o none)
      exact keep ⟨own_mono q.1 hb, own_mono q.2 hb⟩
  · rw [List.map_append]
    exact parted_snoc (B := W.heap.size) h.prt (fun l hl b hb2 => (sersIn_lt h l hl b hb2).2) (fun b hb2 => (hx.2.lt b hb2).1)
/-- What a nil slice's bounds are. -/
def NilOk (h : SHd) : Prop := (h.la = none → h.ln = 0 ∧ h.lc = 0) ∧ (h.pa = none → h.pn = 0 ∧ h.pc = 0)
theorem own_nilOk {w : World} {base size n c : Nat} {e : TypeId} {A : Option Addr} {xs : List Value} (h : w.ownsRow base e size (.slice A n c) n xs) : A = none → n = 0 ∧ c = 0 := by
  intro hA
  rcases h.2 with ⟨hv, h0⟩ | ⟨g, cap, cur, hv, _⟩
  · injection hv with _ _ h3; exact ⟨h0, h3⟩
  · injection hv with h1; rw [hA] at h1; cases h1
theorem serOwn_nil {w : World} {base : Nat} {h : SHd} {s : Ser} (k : SerOwn w base h s) : NilOk h := ⟨own_nilOk k.1, own_nilOk k.2⟩
theorem serOwn_two {Wl Wp X : World} {bl bp B ln lc pn pc' : Nat} {lA pA : Option Addr} {s : Ser} (hl : Wl.ownsRow bl 58 2 (.slice lA ln lc) ln (sR lblC s.l)) (h1 : B ≤ bl) (gl : Gr Wl X) (hp : Wp.ownsRow bp 75 2 (.slice pA pn pc') pn (sR pc s.p)) (h2 : B ≤ bp) (gp : Gr Wp X) : SerOwn X B ⟨lA, ln, lc, pA, pn, pc'⟩ s :=
  ⟨(own_mono hl h1).kept gl (Classical.em _), (own_mono hp h2).kept gp (Classical.em _)⟩
def CopyPost (ss : List Ser) (w : World) (e : Ending) (w' : World) : Prop := ∃ A c hs, e = .returned (.slice A ss.length c) ∧ SersIn w' w.heap.size A ss.length c hs ss ∧ Gr w w'
set_option maxHeartbeats 16000000 in
set_option maxRecDepth 100000 in
theorem copies_any (A : Option Addr) (n c : Nat) (hs : List SHd) (ss : List Ser) (w : World) (hr : SersOf w A n hs ss) (hn : n ≤ 100000) (hb : ∀ h ∈ hs, h.ln ≤ 1000000 ∧ h.pn ≤ 1000000 ∧ NilOk h) : Calls Tryz.prog 34 #[.slice A n c] w (CopyPost ss w) := by
  obtain ⟨ii, hii, hz0, hz1, hz2⟩ := info_parts infoSer
  have hsl : ss.length = n := hr.1
  unfold CopyPost
  rw [hsl]
  replace hr := Lib.hid hr
  replace hb := Lib.hid hb
  replace hsl := Lib.hid hsl
  go_enter Tryz.func34, Tryz.ntmps34
  go_wp2
  go_loopw [3, 8] (fun ov iv wr => ∃ (k : Nat) (A' : Option Addr) (c' : Nat) (hs' : List SHd), k ≤ n ∧ iv = .int .i64 k ∧ ov = .slice A' k c' ∧ Hid (SersIn wr w.heap.size A' k c' hs' (ss.take k)) ∧ Hid (Gr w wr)) (fun _ iv _ => n - (intOf iv).toNat)
  case atStart => exact ⟨0, none, 0, [], Nat.zero_le _, rfl, rfl, Lib.hid (sersIn_nil _ _), Lib.hid (gr_refl _ _)⟩
  case round =>
    obtain ⟨k, A', c', hs', hkn, rfl, rfl, hF, hg⟩ := hrel
    by_cases hlt : k < n
    · obtain ⟨x, s, B, o, hx, hsx, rfl, d0, d1, hrd, hxl, hxp⟩ := sersOf_at (sersOf_gr hr.out hg.out) hlt
      obtain ⟨hb1, hb2, hb3⟩ := hb.out x (List.mem_of_getElem? hx)
      have hkI : (k : Int) < (n : Int) := by omega
      have hk0 : (0 : Int) ≤ (k : Int) := by omega
      obtain ⟨W2, hW2⟩ : ∃ W2, W2 = wr.alloc (.cells #[.slice x.la x.ln x.lc, .slice x.pa x.pn x.pc] 73) := ⟨_, rfl⟩
      have g2 : Gr wr W2 := by rw [hW2]; exact gr_alloc _ _ _
      have e0 : W2.cell? ⟨wr.heap.size, 0, none⟩ = some (.slice x.la x.ln x.lc) := by rw [hW2, World.cell?_alloc_new]; rfl
      have e1 : W2.cell? ⟨wr.heap.size, 1, none⟩ = some (.slice x.pa x.pn x.pc) := by rw [hW2, World.cell?_alloc_new]; rfl
      have cL := fun W (g : Gr wr W) => lclone_any x.la x.ln x.lc s.l W (by omega) hb3.1 (row_gr hrd.1 g)
      have cP := fun W (g : Gr wr W) => pclone_any x.pa x.pn x.pc s.p W (by omega) hb3.2 (row_gr hrd.2 g)
      have htk : ss.take (k + 1) = ss.take k ++ [s] := by
        obtain ⟨h1, h2⟩ := List.getElem?_eq_some_iff.1 hsx
        rw [List.take_succ_eq_append_getElem h1, h2]
      have hbase : w.heap.size ≤ wr.heap.size := hg.out.size
      replace hrd := Lib.hid hrd
      replace hx := Lib.hid hx
      replace hsx := Lib.hid hsx
      replace hb3 := Lib.hid hb3
      replace htk := Lib.hid htk
      replace hxl := Lib.hid hxl
      replace hxp := Lib.hid hxp
      replace cL := Lib.hid cL
      replace cP := Lib.hid cP
      replace hW2 := Lib.hid hW2
      replace g2 := Lib.hid g2
      go_upto_region 5 with fail
      rw [← hW2.out]
      clear d0 d1 hW2
      have e0f : ∀ W, Gr W2 W → W.cell? ⟨wr.heap.size, 0, none⟩ = some (.slice x.la x.ln x.lc) := fun W g => gr_cell g e0
      have e1f : ∀ W, Gr W2 W → W.cell? ⟨wr.heap.size, 1, none⟩ = some (.slice x.pa x.pn x.pc) := fun W g => gr_cell g e1
      replace e0f := Lib.hid e0f
      replace e1f := Lib.hid e1f
      go_region_law (first
        | (go_simp; go_at_call 27; refine (cL.out _ (by repeat' (first | exact g2.out | exact gr_trans g2.out GL.out | exact gr_trans g2.out GP.out | (with_reducible refine gr_trans ?_ (gr_alloc _ _ none)) | (with_reducible refine gr_trans ?_ (gr_drew _ none))))).mono ?_
           rintro e Wl ⟨vl, rfl, hol, gl⟩
           obtain ⟨lA, lc, rfl, _, _⟩ := own_openS hol
           have GL : Gr W2 Wl := gr_trans (by repeat' (first | exact GL.out | exact GP.out | exact gr_refl _ _ | (with_reducible refine gr_trans ?_ (gr_alloc _ _ none)) | (with_reducible refine gr_trans ?_ (gr_drew _ none)))) gl
           have e1l := e1f.out Wl GL
           have e0l := e0f.out Wl GL
           replace hol := Lib.hid hol
           replace gl := Lib.hid gl
           replace GL := Lib.hid GL)
        | (go_simp; go_at_call 89; refine (cP.out _ (by repeat' (first | exact g2.out | exact gr_trans g2.out GL.out | exact gr_trans g2.out GP.out | (with_reducible refine gr_trans ?_ (gr_alloc _ _ none)) | (with_reducible refine gr_trans ?_ (gr_drew _ none))))).mono ?_
           rintro e Wp ⟨vp, rfl, hop, gp⟩
           obtain ⟨pA, pc', rfl, _, _⟩ := own_openS hop
           have GP : Gr W2 Wp := gr_trans (by repeat' (first | exact GL.out | exact GP.out | exact gr_refl _ _ | (with_reducible refine gr_trans ?_ (gr_alloc _ _ none)) | (with_reducible refine gr_trans ?_ (gr_drew _ none)))) gp
           have e1p := e1f.out Wp GP
           have e0p := e0f.out Wp GP
           replace hop := Lib.hid hop
           replace gp := Lib.hid gp
           replace GP := Lib.hid GP)
        | (refine step_append_strong (o := ⟨some 21, _, _, _, _, _⟩) (by rfl) _ _ 29 (by rfl) w.heap.size 73 ii (.agg #[.slice none 0 0, .slice none 0 0]) 2 48 Tryz.underlying29 hii hz0 hz1 hz2 (by decide) (by decide) (.slice A' k c') k (sR shC hs') (by rfl) ((hF.out.own.kept (by repeat' (first | exact g2.out | exact gr_trans g2.out GL.out | exact gr_trans g2.out GP.out | (with_reducible refine gr_trans ?_ (gr_alloc _ _ none)) | (with_reducible refine gr_trans ?_ (gr_drew _ none)))) (Classical.em _)).alloc _) ⟨_, 0, none⟩ 1 1 (shC ⟨lA, x.ln, lc, pA, x.pn, pc'⟩) (by rfl) (by rfl) (fun j u hj => by rw [add_plain, Nat.zero_add, World.cell?_alloc_new]; simpa [shC] using hj) (shC_one _) (by omega) (k + 1) (by rfl) (by unfold maxLen; omega) (by omega) (by have q1 := g2.out.size; first | (have q2 := GP.out.size; simp; omega) | (have q2 := GL.out.size; simp; omega)) ?_; intro g cap W6 hown6 hat6; replace hown6 := Lib.hid hown6; replace hat6 := Lib.hid hat6))
      all_goals
        have hfin : SersIn W6 w.heap.size (some ⟨g, 0, none⟩) (k + 1) cap (hs' ++ [⟨lA, x.ln, lc, pA, x.pn, pc'⟩]) (ss.take (k + 1)) ∧ wr.grownBy W6 (Value.slice A' k c').ownBlock := by
          rw [htk.out]
          refine sersIn_app hF.out hbase ?_ ?_ hown6.out hat6.out
          · repeat' (first | exact g2.out | exact gr_trans g2.out GL.out | exact gr_trans g2.out GP.out | (with_reducible refine gr_trans ?_ (gr_alloc _ _ none)) | (with_reducible refine gr_trans ?_ (gr_drew _ none)))
          · refine serOwn_two hol.out ?_ ?_ hop.out ?_ ?_
            · first | exact g2.out.size | exact Nat.le_trans g2.out.size GL.out.size | exact Nat.le_trans g2.out.size GP.out.size
            · first | exact gr_refl _ _ | exact gp.out | exact gl.out
            · first | exact g2.out.size | exact Nat.le_trans g2.out.size GL.out.size | exact Nat.le_trans g2.out.size GP.out.size
            · first | exact gr_refl _ _ | exact gp.out | exact gl.out
        have gfin : Gr w W6 := gr_of_below (below_gr (gr_below hg.out) hfin.2 hg.out.size (fun q hq => (hF.out.own.lt q hq).1)) (Nat.le_refl _)
        replace gfin := Lib.hid gfin
        have hfin2 := Lib.hid hfin.1
        clear hfin hown6 hat6 hol hop gl gp GL GP
        go_wp2
        go_roundw
        case rel => exact ⟨k + 1, some ⟨g, 0, none⟩, cap, _, by omega, by go_num, rfl, hfin2, gfin⟩
        case measure => simp [intOf]; omega
    · have hkI : ((k : Int) < (n : Int)) = False := eq_false (by omega)
      obtain rfl : k = n := by omega
      have hF2 := hF.out
      rw [List.take_of_length_le (by rw [hsl.out]; exact Nat.le_refl _)] at hF2
      go_wp2
      go_ret
      exact ⟨A', c', hs', rfl, hF2, hg.out⟩
theorem stoAt_nil {w : World} {base : Nat} {m : StoM} {ss : List Ser} (h : StoAt w base m ss) (hi : InvS ss) : ∀ x ∈ m.hs, x.ln ≤ 1000000 ∧ x.pn ≤ 1000000 ∧ NilOk x := by
  intro x hx
  obtain ⟨i, hx⟩ := List.getElem?_of_mem hx
  have hlt := (List.getElem?_eq_some_iff.1 hx).1
  have hs : ss[i]? = some (ss[i]'(by rw [← h.len]; exact hlt)) := List.getElem?_eq_getElem _
  have h0 := h.ser i x _ hx hs
  have h2 := hi.ok _ (List.mem_of_getElem? hs)
  have h3 := h0.1.1
  have h4 := h0.2.1
  rw [sR_len lblC 2 lblC_len] at h3
  rw [sR_len pc 2 pc_len] at h4
  have h5 := h2.1.1.1
  have h6 := h2.2.2.1
  exact ⟨by omega, by omega, serOwn_nil h0⟩
set_option maxHeartbeats 4000000 in
set_option maxRecDepth 100000 in
theorem sall_any (base : Nat) (m : StoM) (ss : List Ser) (w : World) (h : StoAt w base m ss) (hi : InvS ss) : Calls Tryz.prog 12 #[.pointer (some ⟨m.St, 0, none⟩)] w (CopyPost ss w) := by
  have hlen := hi.len
  have k0 := (st_load h.st).1
  have cC := copies_any m.A ss.length m.c m.hs ss w (stoAt_rd h) (by omega) (stoAt_nil h hi)
  unfold CopyPost at cC ⊢
  replace cC := Lib.hid cC
  clear h hi
  go_enter Tryz.func12, Tryz.ntmps12
  go_wp2_with fail
  refine cC.out.mono ?_
  rintro e w1 ⟨A, c, hs, rfl, hF, g⟩
  go_wp2
  go_ret
  exact ⟨A, c, hs, rfl, hF, g⟩
set_option maxHeartbeats 4000000 in
set_option maxRecDepth 100000 in
theorem scopy_any (base : Nat) (m : StoM) (ss : List Ser) (w : World) (h : StoAt w base m ss) (hi : InvS ss) : Calls Tryz.prog 6 #[.pointer (some ⟨m.St, 0, none⟩)] w fun e w' => ∃ m' : StoM, e = .returned (.pointer (some ⟨m'.St, 0, none⟩)) ∧ StoAt w' w.heap.size m' ss ∧ Gr w w' ∧ ∀ k, BlkS m' k → w.heap.size ≤ k := by
  have cA := sall_any base m ss w h hi
  unfold CopyPost at cA
  replace cA := Lib.hid cA
  clear h hi
  go_enter Tryz.func6, Tryz.ntmps6
  go_wp2_with fail
  refine cA.out.mono ?_
  rintro e w1 ⟨A, c, hs, rfl, hF, g⟩
  replace hF := Lib.hid hF
  go_wp2
  go_ret
  have hb := blk_new w1 (.cells #[.slice A ss.length c] 31)
  refine ⟨⟨w1.heap.size, A, c, hs⟩, rfl, sersIn_st (sersIn_gr hF.out (gr_alloc _ _ _)) hb, gr_trans g (gr_alloc _ _ _), ?_⟩
  have hg := g.size
  rintro k (rfl | hk | ⟨l, hl, hk⟩ | ⟨l, hl, hk⟩)
  · exact hg
  · exact (hF.out.own.lt k ((own_nil_v _ _ _ _).trans hk)).1
  · exact (sersIn_lt hF.out l hl k hk).1
  · obtain ⟨x, hx, rfl⟩ := List.mem_map.1 hl
    obtain ⟨i, hi⟩ := List.getElem?_of_mem hx
    have hlt := (List.getElem?_eq_some_iff.1 hi).1
    have hs2 : ss[i]? = some (ss[i]'(by rw [hF.out.len, ← hF.out.hlen]; exact hlt)) := List.getElem?_eq_getElem _
    exact ((hF.out.ser i x _ hi hs2).1.lt k hk).1
def sumP (ss : List Ser) : Nat := (ss.map (fun s => s.p.length)).sum
theorem sumP_take {ss : List Ser} {k : Nat} {s : Ser} (h : ss[k]? = some s) : sumP (ss.take (k + 1)) = sumP (ss.take k) + s.p.length := by
  obtain ⟨h1, h2⟩ := List.getElem?_eq_some_iff.1 h
  unfold sumP
  rw [List.take_succ_eq_append_getElem h1, h2, List.map_append, List.sum_append]
  simp
theorem sumP_le {ss : List Ser} (h : ∀ s ∈ ss, s.p.length ≤ 25) (k : Nat) : sumP (ss.take k) ≤ 25 * k := by
  induction k with
  | zero => simp [sumP]
  | succ k ih =>
    by_cases hk : k < ss.length
    · have hs : ss[k]? = some (ss[k]'hk) := List.getElem?_eq_getElem hk
      rw [sumP_take hs]
      have := h _ (List.mem_of_getElem? hs)
      omega
    · have e1 : ss.take (k + 1) = ss.take k := by rw [List.take_of_length_le (by omega), List.take_of_length_le (by omega)]
      rw [e1]
      omega
set_option maxHeartbeats 4000000 in
set_option maxRecDepth 100000 in
theorem spoints_any (base : Nat) (m : StoM) (ss : List Ser) (w : World) (h : StoAt w base m ss) (hi : InvS ss) : Calls Tryz.prog 10 #[.pointer (some ⟨m.St, 0, none⟩)] w fun e w' => e = .returned (.int .i64 (sumP ss)) ∧ Gr w w' := by
  have cA := sall_any base m ss w h hi
  have hlen := hi.len
  have h25 : ∀ s ∈ ss, s.p.length ≤ 25 := fun s hs => (hi.ok s hs).2.2.1
  unfold CopyPost at cA
  replace cA := Lib.hid cA
  obtain ⟨R, hR⟩ : ∃ R, R = sumP ss := ⟨_, rfl⟩
  rw [← hR]
  obtain ⟨n, hn⟩ : ∃ n, n = ss.length := ⟨_, rfl⟩
  rw [← hn] at cA hlen
  replace hR := Lib.hid hR
  replace hn := Lib.hid hn
  replace h25 := Lib.hid h25
  clear h hi
  go_enter Tryz.func10, Tryz.ntmps10
  go_wp2_with fail
  refine cA.out.mono ?_
  rintro e w1 ⟨A, c, hs, rfl, hF, g⟩
  replace hF := Lib.hid hF
  replace g := Lib.hid g
  clear cA
  go_wp2_with fail
  go_loopw [3, 9] (fun nv iv wr => ∃ (k t : Nat), k ≤ n ∧ t ≤ 25 * k ∧ iv = .int .i64 k ∧ nv = .int .i64 t ∧ Hid (t = sumP (ss.take k)) ∧ Hid (Gr w1 wr)) (fun _ iv _ => n - (intOf iv).toNat)
  case atStart => exact ⟨0, 0, Nat.zero_le _, Nat.zero_le _, rfl, rfl, Lib.hid (by simp [sumP]), Lib.hid (gr_refl _ _)⟩
  case round =>
    obtain ⟨k, t, hkn, ht, rfl, rfl, hsum, hg⟩ := hrel
    by_cases hlt : k < n
    · obtain ⟨x, s, B, o, hx, hsx, rfl, d0, d1, hrd, hxl, hxp⟩ := sersOf_at (sersOf_gr (sersIn_rd hF.out) hg.out) hlt
      have hs25 := h25.out s (List.mem_of_getElem? hsx)
      rw [hxp] at hs25
      have hst := sumP_take hsx
      rw [hxp, ← hsum.out] at hst
      have hkI : (k : Int) < (n : Int) := by omega
      have hk0 : (0 : Int) ≤ (k : Int) := by omega
      replace hst := Lib.hid hst
      replace hxl := Lib.hid hxl
      replace hxp := Lib.hid hxp
      replace hsx := Lib.hid hsx
      replace hx := Lib.hid hx
      replace hrd := Lib.hid hrd
      obtain ⟨W2, hW2⟩ : ∃ W2, W2 = wr.alloc (.cells #[.slice x.la x.ln x.lc, .slice x.pa x.pn x.pc] 73) := ⟨_, rfl⟩
      have g2 : Gr wr W2 := by rw [hW2]; exact gr_alloc _ _ _
      have e1 : W2.cell? ⟨wr.heap.size, 1, none⟩ = some (.slice x.pa x.pn x.pc) := by rw [hW2, World.cell?_alloc_new]; rfl
      have G2 := gr_trans hg.out g2
      replace G2 := Lib.hid G2
      go_upto_region 5 with fail
      rw [← hW2]
      clear d0 d1 hW2
      go_wp2
      go_roundw
      case rel => exact ⟨k + 1, t + x.pn, by omega, by omega, by go_num, by go_num, Lib.hid hst.out.symm, G2⟩
      case measure => simp [intOf]; omega
    · have hkI : ((k : Int) < (n : Int)) = False := eq_false (by omega)
      obtain rfl : k = n := by omega
      have hf : R = t := by rw [hsum.out, hR.out, List.take_of_length_le (by rw [hn.out]; exact Nat.le_refl _)]
      replace hf := Lib.hid hf
      go_wp2
      go_ret
      exact ⟨by rw [hf.out]; rfl, gr_trans g.out hg.out⟩
end Go.Proofs.YtccmekdmnkmhlaaGreat
namespace Go.Proofs.YtccmekdmnkmhlaaGreat
open Go.RowKit

/-- A matcher. -/
structure Mt where
  n : List UInt8
  op : Int
  v : List UInt8
def mtC (m : Mt) : List Value := [.string (txt m.n), .int .i64 m.op, .string (txt m.v)]
def mtV (m : Mt) : Value := .agg #[.string (txt m.n), .int .i64 m.op, .string (txt m.v)]
theorem mtC_len (m : Mt) : (mtC m).length = 3 := rfl
/-- The pattern that a text is. -/
def patOf (v : List UInt8) : Option T := if (runesOf v).length ≤ 40 then (match pAlt 200 (runesOf v) with | some (x, []) => some x | _ => none) else none
theorem patOf_yes {v : List UInt8} {x : T} (h1 : (runesOf v).length ≤ 40) (h2 : pAlt 200 (runesOf v) = some (x, [])) : patOf v = some x := by
  unfold patOf
  rw [if_pos h1, h2]
theorem patOf_long {v : List UInt8} (h1 : 40 < (runesOf v).length) : patOf v = none := by
  unfold patOf
  rw [if_neg (by omega)]
theorem patOf_no {v : List UInt8} (h2 : ∀ x, pAlt 200 (runesOf v) ≠ some (x, [])) : patOf v = none := by
  unfold patOf
  split
  · split
    · next x hx => exact absurd hx (h2 x)
    · rfl
  · rfl
def okMt (m : Mt) : Prop := isName m.n = true ∧ 1 ≤ m.op ∧ m.op ≤ 4 ∧ (3 ≤ m.op → (patOf m.v).isSome = true)
instance (m : Mt) : Decidable (okMt m) := by unfold okMt; exact inferInstance
def holdM (H : T → List Int → Bool) (m : Mt) (l : List Lb) : Bool :=
  if m.op = 1 then decide (getL l m.n = m.v) else if m.op = 2 then decide (getL l m.n ≠ m.v) else
    match patOf m.v with
    | some x => if m.op = 3 then H x (runesOf (getL l m.n)) else !H x (runesOf (getL l m.n))
    | none => false
/-- A matcher that is ready. -/
structure TV where
  m : Mt
  p : Option Nat
def tvP (t : TV) : Option Addr := t.p.map fun b => ⟨b, 0, none⟩
def tvC (t : TV) : List Value := [.string (txt t.m.n), .int .i64 t.m.op, .string (txt t.m.v), .pointer (tvP t)]
theorem tvC_len (t : TV) : (tvC t).length = 4 := rfl
theorem tvC_one (t : TV) : ∀ u ∈ tvC t, u.oneCell' = true := by
  intro u hu
  simp only [tvC, List.mem_cons, List.not_mem_nil, or_false] at hu
  rcases hu with rfl | rfl | rfl | rfl <;> rfl
theorem infoTst : (Tryz.prog.info? 91).map (fun i => (i.zero, i.size, i.bytes)) = some (some (.agg #[.string ⟨#[]⟩, .int .i64 0, .string ⟨#[]⟩, .pointer none]), 4, 48) := by kernel_rfl
theorem infoTstS : (Tryz.prog.info? 91).map (·.size) = some 4 := by kernel_rfl
/-- Its pattern lies in memory, behind lo. -/
def TvIn (lo : Nat) (w : World) (t : TV) : Prop := (t.m.op < 3 ∧ t.p = none) ∨ (3 ≤ t.m.op ∧ ∃ b x, t.p = some b ∧ patOf t.m.v = some x ∧ b < w.heap.size ∧ PatIn lo w b t.m.v x)
theorem tvIn_gr {lo : Nat} {w w' : World} {t : TV} (h : TvIn lo w t) (g : Gr w w') : TvIn lo w' t := by
  rcases h with h | ⟨h0, b, x, h1, h2, h3, h4⟩
  · exact .inl h
  · exact .inr ⟨h0, b, x, h1, h2, Nat.lt_of_lt_of_le h3 g.size, patIn_gr h4 g⟩
def ReadyPost (m : Mt) (w : World) (e : Ending) (w' : World) : Prop :=
  Gr w w' ∧ ((okMt m ∧ ∃ t : TV, t.m = m ∧ TvIn w.heap.size w' t ∧ e = .returned (.tuple #[.agg #[.string (txt m.n), .int .i64 m.op, .string (txt m.v), .pointer (tvP t)], .bool true])) ∨
    (¬ okMt m ∧ ∃ n o v, e = .returned (.tuple #[.agg #[.string n, .int .i64 o, .string v, .pointer none], .bool false])))
/-- The result's block. -/
def RzB (w : World) (b : Nat) (n : ByteArray) (o : Int) (v : ByteArray) (p : Option Addr) : Prop := w.heap[b]? = some (.cells #[.string n, .int .i64 o, .string v, .pointer p] 91 (0, 0))
theorem rzb_there {w : World} {b : Nat} {n v : ByteArray} {o : Int} {p : Option Addr} (h : RzB w b n o v p) : w.there b 0 4 := fun j hj => ⟨by
  unfold RzB at h
  match j, hj with
  | 0, _ => simp [World.cell?, h]
  | 1, _ => simp [World.cell?, h]
  | 2, _ => simp [World.cell?, h]
  | 3, _ => simp [World.cell?, h], by
  unfold RzB at h
  unfold World.frozen?
  rw [h]
  simp⟩
set_option maxHeartbeats 16000000 in
set_option maxRecDepth 100000 in
theorem ready_any (m : Mt) (w : World) (hn : m.n.length ≤ 1000000) (hv : m.v.length ≤ 1000000) : Calls Tryz.prog 91 #[mtV m] w (ReadyPost m w) := by
  unfold mtV
  obtain ⟨mn, mo, mv⟩ := m
  simp only at hn hv ⊢
  obtain ⟨W1, hW1⟩ : ∃ W1, W1 = w.alloc (.cells #[.string (txt mn), .int .i64 mo, .string (txt mv)] 27) := ⟨_, rfl⟩
  obtain ⟨W2, hW2⟩ : ∃ W2, W2 = W1.alloc (.cells #[.string ⟨#[]⟩, .int .i64 0, .string ⟨#[]⟩, .pointer none] 91) := ⟨_, rfl⟩
  have e1 : W1.heap.size = w.heap.size + 1 := by rw [hW1]; simp
  have g1 : Gr w W1 := by rw [hW1]; exact gr_alloc _ _ _
  have g2 : Gr W1 W2 := by rw [hW2]; exact gr_alloc _ _ _
  have b1 : W1.heap[w.heap.size]? = some (.cells #[.string (txt mn), .int .i64 mo, .string (txt mv)] 27) := by rw [hW1]; exact blk_new w _
  have b1' : W2.heap[w.heap.size]? = some (.cells #[.string (txt mn), .int .i64 mo, .string (txt mv)] 27) := gr_blk g2 b1 (by simp)
  have b2 : RzB W2 (w.heap.size + 1) ⟨#[]⟩ 0 ⟨#[]⟩ none := by
    have := blk_new W1 (.cells #[.string ⟨#[]⟩, .int .i64 0, .string ⟨#[]⟩, .pointer none] 91)
    rw [← hW2, e1] at this
    exact this
  have cN := fun W => name_any mn W (by omega)
  have cC := fun W => compile_in 200 (by omega) mv W (by omega)
  unfold CmpIn at cC
  have mc : ∀ W, Gr W2 W → W.cell? ⟨w.heap.size, 0, none⟩ = some (.string (txt mn)) ∧ W.cell? ⟨w.heap.size, 1, none⟩ = some (.int .i64 mo) ∧ W.cell? ⟨w.heap.size, 2, none⟩ = some (.string (txt mv)) := fun W g => ⟨gr_cell g (blk_cell b1' rfl), gr_cell g (blk_cell b1' rfl), gr_cell g (blk_cell b1' rfl)⟩
  have bsv := Lib.hid b1'
  have b2s := Lib.hid b2
  -- the ways out
  have fin : ∀ (W : World) (n : ByteArray) (o : Int) (v : ByteArray) (p : Option Addr), Gr W2 W → W.there (w.heap.size + 1) 0 4 ∧ Gr w (W.setCells (w.heap.size + 1) 0 [.string n, .int .i64 o, .string v, .pointer p]) ∧ ∀ j (hj : j < 4), (W.setCells (w.heap.size + 1) 0 [.string n, .int .i64 o, .string v, .pointer p]).cell? ⟨w.heap.size + 1, j, none⟩ = ([.string n, .int .i64 o, .string v, .pointer p] : List Value)[j]? := fun W n o v p g => by
    have hb : RzB W (w.heap.size + 1) ⟨#[]⟩ 0 ⟨#[]⟩ none := gr_blk g b2 (by simp)
    have hth := rzb_there hb
    refine ⟨hth, gr_of_below (below_gr (gr_below (gr_trans (gr_trans g1 g2) g)) (gr_setCells W (w.heap.size + 1) 0 _) (gr_trans (gr_trans g1 g2) g).size (by intro k hk; cases hk; exact Nat.le_succ _)) (Nat.le_refl _), fun j hj => ?_⟩
    have := World.rangeAt_setCells_same W (w.heap.size + 1) 0 [.string n, .int .i64 o, .string v, .pointer p] hth j
    simp only [Nat.zero_add] at this
    match j, hj with
    | 0, _ => exact this _ rfl
    | 1, _ => exact this _ rfl
    | 2, _ => exact this _ rfl
    | 3, _ => exact this _ rfl
  by_cases hname : isName mn = true
  · rw [hname] at cN
    replace cN := Lib.hid cN
    by_cases ho1 : mo < 1
    · have hno : ¬ okMt ⟨mn, mo, mv⟩ := fun h => by have := h.2.1; simp only at this; omega
      replace hno := Lib.hid hno
      replace fin := Lib.hid fin
      replace mc := Lib.hid mc
      clear cC
      go_enter Tryz.func91, Tryz.ntmps91
      go_upto_region 1 with fail
      rw [← hW1, ← hW2]
      clear hW1 hW2 b1 b1' b2 g1 g2
      obtain ⟨c0, c1, c2⟩ := mc.out W2 (gr_refl _ _)
      go_wp2_with fail
      refine (cN.out _).mono ?_
      rintro e W3 ⟨rfl, g3⟩
      obtain ⟨d0, d1, d2⟩ := mc.out W3 g3
      replace fin := fin.out
      clear c0 c1 c2
      obtain ⟨hth, hgf, hcl⟩ := fin W3 ⟨#[]⟩ 0 ⟨#[]⟩ none g3
      have r0 := hcl 0 (by decide)
      have r1 := hcl 1 (by decide)
      have r2 := hcl 2 (by decide)
      have r3 := hcl 3 (by decide)
      replace hgf := Lib.hid hgf
      clear hcl fin
      go_wp2_with (refine wpList_store_mid (op := ⟨none, _, _, _, _, _⟩) rfl 91 _ _ rfl (w.heap.size + 1) 0 #[.string ⟨#[]⟩, .int .i64 0, .string ⟨#[]⟩, .pointer none] rfl rfl hth infoTstS (by simp [Value.oneCell']) ?_)
      (try simp only [Exit.inBlock, Exit.then])
      refine bodyPost_ret (by simp [results, Tryz.results91, go_sem, r0, r1, r2, r3]; try rfl) rfl ?_
      exact ⟨hgf.out, .inr ⟨hno.out, ⟨#[]⟩, 0, ⟨#[]⟩, rfl⟩⟩
    · by_cases ho4 : 4 < mo
      · have hno : ¬ okMt ⟨mn, mo, mv⟩ := fun h => by have := h.2.2.1; simp only at this; omega
        replace hno := Lib.hid hno
        replace fin := Lib.hid fin
        replace mc := Lib.hid mc
        clear cC
        go_enter Tryz.func91, Tryz.ntmps91
        go_upto_region 1 with fail
        rw [← hW1, ← hW2]
        clear hW1 hW2 b1 b1' b2 g1 g2
        obtain ⟨c0, c1, c2⟩ := mc.out W2 (gr_refl _ _)
        go_wp2_with fail
        refine (cN.out _).mono ?_
        rintro e W3 ⟨rfl, g3⟩
        obtain ⟨d0, d1, d2⟩ := mc.out W3 g3
        replace fin := fin.out
        clear c0 c1 c2
        obtain ⟨hth, hgf, hcl⟩ := fin W3 ⟨#[]⟩ 0 ⟨#[]⟩ none g3
        have r0 := hcl 0 (by decide)
        have r1 := hcl 1 (by decide)
        have r2 := hcl 2 (by decide)
        have r3 := hcl 3 (by decide)
        replace hgf := Lib.hid hgf
        clear hcl fin
        go_wp2_with (refine wpList_store_mid (op := ⟨none, _, _, _, _, _⟩) rfl 91 _ _ rfl (w.heap.size + 1) 0 #[.string ⟨#[]⟩, .int .i64 0, .string ⟨#[]⟩, .pointer none] rfl rfl hth infoTstS (by simp [Value.oneCell']) ?_)
        (try simp only [Exit.inBlock, Exit.then])
        refine bodyPost_ret (by simp [results, Tryz.results91, go_sem, r0, r1, r2, r3]; try rfl) rfl ?_
        exact ⟨hgf.out, .inr ⟨hno.out, ⟨#[]⟩, 0, ⟨#[]⟩, rfl⟩⟩
      · by_cases ho3 : mo < 3
        · have hyes : okMt ⟨mn, mo, mv⟩ := ⟨hname, by simp only; omega, by simp only; omega, fun h => by simp only at h; omega⟩
          replace hyes := Lib.hid hyes
          replace fin := Lib.hid fin
          replace mc := Lib.hid mc
          clear cC
          go_enter Tryz.func91, Tryz.ntmps91
          go_upto_region 1 with fail
          rw [← hW1, ← hW2]
          clear hW1 hW2 b1 b1' b2 g1 g2
          obtain ⟨c0, c1, c2⟩ := mc.out W2 (gr_refl _ _)
          go_wp2_with fail
          refine (cN.out _).mono ?_
          rintro e W3 ⟨rfl, g3⟩
          obtain ⟨d0, d1, d2⟩ := mc.out W3 g3
          replace fin := fin.out
          clear c0 c1 c2
          obtain ⟨hth, hgf, hcl⟩ := fin W3 (txt mn) mo (txt mv) none g3
          have r0 := hcl 0 (by decide)
          have r1 := hcl 1 (by decide)
          have r2 := hcl 2 (by decide)
          have r3 := hcl 3 (by decide)
          replace hgf := Lib.hid hgf
          clear hcl fin
          go_wp2_with (refine wpList_store_mid (op := ⟨none, _, _, _, _, _⟩) rfl 91 _ _ rfl (w.heap.size + 1) 0 #[.string (txt mn), .int .i64 mo, .string (txt mv), .pointer none] rfl rfl hth infoTstS (by simp [Value.oneCell']) ?_)
          (try simp only [Exit.inBlock, Exit.then])
          refine bodyPost_ret (by simp [results, Tryz.results91, go_sem, r0, r1, r2, r3]; try rfl) rfl ?_
          exact ⟨hgf.out, .inl ⟨hyes.out, ⟨⟨mn, mo, mv⟩, none⟩, rfl, .inl ⟨ho3, rfl⟩, rfl⟩⟩
        · have ho3b : ¬ mo < 3 := ho3
          have hmo3 : 3 ≤ mo := by omega
          replace fin := Lib.hid fin
          replace mc := Lib.hid mc
          replace cC := Lib.hid cC
          go_enter Tryz.func91, Tryz.ntmps91
          go_upto_region 1 with fail
          rw [← hW1, ← hW2]
          clear hW1 hW2 b1 b1' b2 g1 g2
          obtain ⟨c0, c1, c2⟩ := mc.out W2 (gr_refl _ _)
          go_wp2_with fail
          refine (cN.out _).mono ?_
          rintro e W3 ⟨rfl, g3⟩
          obtain ⟨d0, d1, d2⟩ := mc.out W3 g3
          clear c0 c1 c2
          go_wp2_with fail
          refine (cC.out _).mono ?_
          rintro e W4 ⟨g4, hor⟩
          have G4 := gr_trans g3 g4
          obtain ⟨c0, c1, c2⟩ := mc.out W4 G4
          clear d0 d1 d2 cC cN
          replace fin := fin.out
          have w3s : w.heap.size ≤ W3.heap.size := by have := lt_of_blk (show W2.heap[w.heap.size]? = _ from bsv.out); have := g3.size; omega
          rcases hor with ⟨hl, rfl⟩ | ⟨_, hl, rfl⟩ | ⟨hle, p, x, hx, hp, rfl, hpat⟩
          · have hno : ¬ okMt ⟨mn, mo, mv⟩ := fun h => by have := h.2.2.2 hmo3; rw [patOf_long hl] at this; cases this
            replace hno := Lib.hid hno
            clear hl
            obtain ⟨hth, hgf, hcl⟩ := fin W4 (txt mn) mo (txt mv) none G4
            have r0 := hcl 0 (by decide)
            have r1 := hcl 1 (by decide)
            have r2 := hcl 2 (by decide)
            have r3 := hcl 3 (by decide)
            replace hgf := Lib.hid hgf
            clear hcl fin
            go_wp2_with (refine wpList_store_mid (op := ⟨none, _, _, _, _, _⟩) rfl 91 _ _ rfl (w.heap.size + 1) 0 #[.string (txt mn), .int .i64 mo, .string (txt mv), .pointer none] rfl rfl hth infoTstS (by simp [Value.oneCell']) ?_)
            (try simp only [Exit.inBlock, Exit.then])
            refine bodyPost_ret (by simp [results, Tryz.results91, go_sem, r0, r1, r2, r3]; try rfl) rfl ?_
            exact ⟨hgf.out, .inr ⟨hno.out, txt mn, mo, txt mv, rfl⟩⟩
          · have hno : ¬ okMt ⟨mn, mo, mv⟩ := fun h => by have := h.2.2.2 hmo3; rw [patOf_no hl] at this; cases this
            replace hno := Lib.hid hno
            clear hl
            obtain ⟨hth, hgf, hcl⟩ := fin W4 (txt mn) mo (txt mv) none G4
            have r0 := hcl 0 (by decide)
            have r1 := hcl 1 (by decide)
            have r2 := hcl 2 (by decide)
            have r3 := hcl 3 (by decide)
            replace hgf := Lib.hid hgf
            clear hcl fin
            go_wp2_with (refine wpList_store_mid (op := ⟨none, _, _, _, _, _⟩) rfl 91 _ _ rfl (w.heap.size + 1) 0 #[.string (txt mn), .int .i64 mo, .string (txt mv), .pointer none] rfl rfl hth infoTstS (by simp [Value.oneCell']) ?_)
            (try simp only [Exit.inBlock, Exit.then])
            refine bodyPost_ret (by simp [results, Tryz.results91, go_sem, r0, r1, r2, r3]; try rfl) rfl ?_
            exact ⟨hgf.out, .inr ⟨hno.out, txt mn, mo, txt mv, rfl⟩⟩
          · have hpo := patOf_yes hle hx
            have hyes : okMt ⟨mn, mo, mv⟩ := ⟨hname, by simp only; omega, by simp only; omega, fun _ => by simp only; rw [hpo]; rfl⟩
            have hb4 : RzB W4 (w.heap.size + 1) ⟨#[]⟩ 0 ⟨#[]⟩ none := gr_blk G4 b2s.out (by simp)
            have hk3 : w.heap.size + 1 < W3.heap.size := by have := lt_of_blk (show W2.heap[w.heap.size + 1]? = _ from b2s.out); have := g3.size; omega
            have hpat2 : PatIn w.heap.size (W4.setCells (w.heap.size + 1) 0 [.string (txt mn), .int .i64 mo, .string (txt mv), .pointer (some ⟨p, 0, none⟩)]) p mv x := pat_lo (patIn_keep hpat (gr_setCells W4 (w.heap.size + 1) 0 _) hb4 (by decide) (by decide) (.inl hk3)) w3s
            have hin : TvIn w.heap.size (W4.setCells (w.heap.size + 1) 0 [.string (txt mn), .int .i64 mo, .string (txt mv), .pointer (some ⟨p, 0, none⟩)]) ⟨⟨mn, mo, mv⟩, some p⟩ := .inr ⟨hmo3, p, x, rfl, hpo, by obtain ⟨zs, A, c, first, hb, _⟩ := hpat2; exact lt_of_blk hb.pb, hpat2⟩
            replace hyes := Lib.hid hyes
            replace hin := Lib.hid hin
            clear hle hx hp hpat hpat2 hb4 hk3 hpo
            obtain ⟨hth, hgf, hcl⟩ := fin W4 (txt mn) mo (txt mv) (some ⟨p, 0, none⟩) G4
            have r0 := hcl 0 (by decide)
            have r1 := hcl 1 (by decide)
            have r2 := hcl 2 (by decide)
            have r3 := hcl 3 (by decide)
            replace hgf := Lib.hid hgf
            clear hcl fin
            go_wp2_with (refine wpList_store_mid (op := ⟨none, _, _, _, _, _⟩) rfl 91 _ _ rfl (w.heap.size + 1) 0 #[.string (txt mn), .int .i64 mo, .string (txt mv), .pointer (some ⟨p, 0, none⟩)] rfl rfl hth infoTstS (by simp [Value.oneCell']) ?_)
            (try simp only [Exit.inBlock, Exit.then])
            refine bodyPost_ret (by simp [results, Tryz.results91, go_sem, r0, r1, r2, r3]; try rfl) rfl ?_
            exact ⟨hgf.out, .inl ⟨hyes.out, ⟨⟨mn, mo, mv⟩, some p⟩, rfl, hin.out, rfl⟩⟩
  · have hname2 : isName mn = false := by simpa using hname
    rw [hname2] at cN
    have hno : ¬ okMt ⟨mn, mo, mv⟩ := fun h => hname h.1
    replace hno := Lib.hid hno
    replace cN := Lib.hid cN
    replace fin := Lib.hid fin
    replace mc := Lib.hid mc
    clear cC hname hname2
    go_enter Tryz.func91, Tryz.ntmps91
    go_upto_region 1 with fail
    rw [← hW1, ← hW2]
    clear hW1 hW2 b1 b1' b2 g1 g2
    obtain ⟨c0, c1, c2⟩ := mc.out W2 (gr_refl _ _)
    go_wp2_with fail
    refine (cN.out _).mono ?_
    rintro e W3 ⟨rfl, g3⟩
    obtain ⟨d0, d1, d2⟩ := mc.out W3 g3
    replace fin := fin.out
    clear c0 c1 c2
    obtain ⟨hth, hgf, hcl⟩ := fin W3 ⟨#[]⟩ 0 ⟨#[]⟩ none g3
    have r0 := hcl 0 (by decide)
    have r1 := hcl 1 (by decide)
    have r2 := hcl 2 (by decide)
    have r3 := hcl 3 (by decide)
    replace hgf := Lib.hid hgf
    clear hcl fin
    go_wp2_with (refine wpList_store_mid (op := ⟨none, _, _, _, _, _⟩) rfl 91 _ _ rfl (w.heap.size + 1) 0 #[.string ⟨#[]⟩, .int .i64 0, .string ⟨#[]⟩, .pointer none] rfl rfl hth infoTstS (by simp [Value.oneCell']) ?_)
    (try simp only [Exit.inBlock, Exit.then])
    refine bodyPost_ret (by simp [results, Tryz.results91, go_sem, r0, r1, r2, r3]; try rfl) rfl ?_
    exact ⟨hgf.out, .inr ⟨hno.out, ⟨#[]⟩, 0, ⟨#[]⟩, rfl⟩⟩
end Go.Proofs.YtccmekdmnkmhlaaGreat
namespace Go.Proofs.YtccmekdmnkmhlaaGreat
open Go.RowKit

theorem tvIn_keep {lo k : Nat} {w w' : World} {t : TV} {cs : Array Value} {fr : Nat × Nat} (h : TvIn lo w t) (g : w.grownBy w' (some k)) (hk : w.heap[k]? = some (.cells cs 91 fr)) (hlt : k < lo ∨ ∀ b, t.p = some b → b < k) : TvIn lo w' t := by
  rcases h with h | ⟨h0, b, x, h1, h2, h3, h4⟩
  · exact .inl h
  · refine .inr ⟨h0, b, x, h1, h2, Nat.lt_of_lt_of_le h3 g.size, patIn_keep h4 g hk (by decide) (by decide) ?_⟩
    rcases hlt with q | q
    · exact .inl q
    · exact .inr (q b h1)
/-- Matchers that are ready, in a list of their own. -/
structure TstsAt (w : World) (base : Nat) (A : Option Addr) (n c : Nat) (tvs : List TV) : Prop where
  len : tvs.length = n
  own : w.ownsRow base 91 4 (.slice A n c) n (sR tvC tvs)
  tst : ∀ t ∈ tvs, ∃ lo, TvIn lo w t ∧ ∀ g, (Value.slice A n c).ownBlock = some g → g < lo ∨ ∀ b, t.p = some b → b < g
theorem tsts_gr {w w' : World} {base : Nat} {A : Option Addr} {n c : Nat} {tvs : List TV} (h : TstsAt w base A n c tvs) (g : Gr w w') : TstsAt w' base A n c tvs :=
  ⟨h.len, h.own.kept g (Classical.em _), fun t ht => by obtain ⟨lo, h1, h2⟩ := h.tst t ht; exact ⟨lo, tvIn_gr h1 g, h2⟩⟩
theorem tsts_nil (w : World) (base : Nat) : TstsAt w base none 0 0 [] := ⟨rfl, World.ownsRow_nil _ _ _ _, by simp⟩
theorem tsts_app {W X W6 : World} {base g cap : Nat} {A : Option Addr} {k c : Nat} {tvs : List TV} {t : TV} {o : Obj} (h : TstsAt W base A k c tvs) (g5 : Gr W X) (hx : TvIn W.heap.size X t)
    (hown : W6.ownsRow base 91 4 (.slice (some ⟨g, 0, none⟩) (k + 1) cap) (k + 1) (sR tvC tvs ++ tvC t)) (hat : ((Value.slice A k c).ownBlock = some g ∧ (X.alloc o).grownBy W6 (some g)) ∨ (g = (X.alloc o).heap.size ∧ Gr (X.alloc o) W6)) :
    TstsAt W6 base (some ⟨g, 0, none⟩) (k + 1) cap (tvs ++ [t]) ∧ W.grownBy W6 (Value.slice A k c).ownBlock := by
  have gX : Gr W (X.alloc o) := gr_trans g5 (gr_alloc X o none)
  have h1 := tsts_gr h gX
  have hx1 := tvIn_gr hx (gr_alloc X o none)
  have hgo : ∀ q, (Value.slice (some ⟨g, 0, none⟩) (k + 1) cap).ownBlock = some q → q = g := fun q e => by simpa [Value.ownBlock] using e.symm
  refine ⟨⟨by rw [List.length_append, h.len]; rfl, by rw [sR_append, sR_one]; exact hown, fun t' ht => ?_⟩, ?_⟩
  · rcases hat with ⟨e, q⟩ | ⟨e, q⟩
    · have hgW : g < W.heap.size := (h.own.lt g e).2
      obtain ⟨cs, fr, hk⟩ : ∃ cs fr, (X.alloc o).heap[g]? = some (.cells cs 91 fr) := by
        rcases h1.own.2 with ⟨hv, _⟩ | ⟨g0, cap0, cur, hv, _, hg, _⟩
        · rw [hv] at e; cases e
        · rw [hv] at e
          have : g0 = g := by simpa [Value.ownBlock] using e
          subst this
          exact ⟨_, _, hg⟩
      rcases List.mem_append.1 ht with ht | ht
      · obtain ⟨lo, k1, k2⟩ := h1.tst t' ht
        exact ⟨lo, tvIn_keep k1 q hk (k2 g e), fun g' e' => by rw [hgo g' e']; exact k2 g e⟩
      · rw [List.mem_singleton.1 ht]
        exact ⟨W.heap.size, tvIn_keep hx1 q hk (.inl hgW), fun g' e' => by rw [hgo g' e']; exact .inl hgW⟩
    · have hlow : ∀ {lo : Nat} {t : TV}, TvIn lo (X.alloc o) t → ∀ b, t.p = some b → b < g := fun {lo t} q b hb => by
        rcases q with ⟨_, q⟩ | ⟨_, b', x, q1, _, q3, _⟩
        · rw [q] at hb; cases hb
        · rw [q1] at hb
          have := Option.some.inj hb
          omega
      rcases List.mem_append.1 ht with ht | ht
      · obtain ⟨lo, k1, k2⟩ := h1.tst t' ht
        exact ⟨lo, tvIn_gr k1 q, fun g' e' => by rw [hgo g' e']; exact .inr (hlow k1)⟩
      · rw [List.mem_singleton.1 ht]
        exact ⟨W.heap.size, tvIn_gr hx1 q, fun g' e' => by rw [hgo g' e']; exact .inr (hlow hx1)⟩
  · refine gr_trans (gr_more _ gX) ?_
    rcases hat with ⟨e, q⟩ | ⟨_, q⟩
    · rw [e]; exact q
    · exact gr_more _ q
def AllPost (ms : List Mt) (w : World) (e : Ending) (w' : World) : Prop :=
  Gr w w' ∧ (((∀ m ∈ ms, okMt m) ∧ ∃ A c tvs, e = .returned (.tuple #[.slice A ms.length c, .bool (decide (ms.length ≤ 10))]) ∧ tvs.map TV.m = ms ∧ TstsAt w' w.heap.size A ms.length c tvs) ∨
    ((∃ m ∈ ms, ¬ okMt m) ∧ e = .returned (.tuple #[.slice none 0 0, .bool false])))
set_option maxHeartbeats 16000000 in
set_option maxRecDepth 100000 in
theorem sall_ready (A : Option Addr) (n c : Nat) (ms : List Mt) (w : World) (hn : n ≤ 1000) (hr : Row w A n 3 (sR mtC ms)) (hb : ∀ m ∈ ms, m.n.length ≤ 1000000 ∧ m.v.length ≤ 1000000) : Calls Tryz.prog 37 #[.slice A n c] w (AllPost ms w) := by
  obtain ⟨ii, hii, hz0, hz1, hz2⟩ := info_parts infoTst
  have hl : ms.length = n := by have := hr.1; rw [sR_len mtC 3 mtC_len] at this; omega
  unfold AllPost
  rw [hl]
  replace hr := Lib.hid hr
  replace hb := Lib.hid hb
  replace hl := Lib.hid hl
  go_enter Tryz.func37, Tryz.ntmps37
  go_wp2
  go_loopw [4, 11] (fun ov iv wr => ∃ (k : Nat) (A' : Option Addr) (c' : Nat) (tvs : List TV), k ≤ n ∧ iv = .int .i64 k ∧ ov = .slice A' k c' ∧ Hid (TstsAt wr w.heap.size A' k c' tvs) ∧ Hid (tvs.map TV.m = ms.take k) ∧ Hid (∀ m ∈ ms.take k, okMt m) ∧ Hid (Gr w wr)) (fun _ iv _ => n - (intOf iv).toNat)
  case atStart => exact ⟨0, none, 0, [], Nat.zero_le _, rfl, rfl, Lib.hid (tsts_nil _ _), Lib.hid rfl, Lib.hid (by simp), Lib.hid (gr_refl _ _)⟩
  case round =>
    obtain ⟨k, A', c', tvs, hkn, rfl, rfl, hT, htm, hok, hg⟩ := hrel
    by_cases hlt : k < n
    · obtain ⟨m, B, o, hm, rfl, _, hcc⟩ := rowS_elem mtC_len (row_gr hr.out hg.out) (by decide) hlt
      have d0 : wr.cell? ⟨B, o + k * 3, none⟩ = some (.string (txt m.n)) := hcc 0 (by decide)
      have d1 : wr.cell? ⟨B, o + k * 3 + 1, none⟩ = some (.int .i64 m.op) := hcc 1 (by decide)
      have d2 : wr.cell? ⟨B, o + k * 3 + 2, none⟩ = some (.string (txt m.v)) := hcc 2 (by decide)
      obtain ⟨hb1, hb2⟩ := hb.out m (List.mem_of_getElem? hm)
      have htk : ms.take (k + 1) = ms.take k ++ [m] := by
        obtain ⟨h1, h2⟩ := List.getElem?_eq_some_iff.1 hm
        rw [List.take_succ_eq_append_getElem h1, h2]
      have hmem := List.mem_of_getElem? hm
      have hkI : (k : Int) < (n : Int) := by omega
      have hk0 : (0 : Int) ≤ (k : Int) := by omega
      obtain ⟨W2, hW2⟩ : ∃ W2, W2 = wr.alloc (.cells #[.string (txt m.n), .int .i64 m.op, .string (txt m.v)] 27) := ⟨_, rfl⟩
      have g2 : Gr wr W2 := by rw [hW2]; exact gr_alloc _ _ _
      have e0 : W2.cell? ⟨wr.heap.size, 0, none⟩ = some (.string (txt m.n)) := by rw [hW2, World.cell?_alloc_new]; rfl
      have e1 : W2.cell? ⟨wr.heap.size, 1, none⟩ = some (.int .i64 m.op) := by rw [hW2, World.cell?_alloc_new]; rfl
      have e2 : W2.cell? ⟨wr.heap.size, 2, none⟩ = some (.string (txt m.v)) := by rw [hW2, World.cell?_alloc_new]; rfl
      have cR := ready_any m W2 hb1 hb2
      unfold mtV ReadyPost at cR
      replace cR := Lib.hid cR
      replace hm := Lib.hid hm
      replace htk := Lib.hid htk
      replace hmem := Lib.hid hmem
      replace hW2 := Lib.hid hW2
      replace g2 := Lib.hid g2
      clear hcc
      go_upto_region 5 with fail
      rw [← hW2.out]
      clear d0 d1 d2 hW2
      go_wp2_with fail
      refine cR.out.mono ?_
      rintro e W3 ⟨g3, ⟨hyes, t, htm2, hin, rfl⟩ | ⟨hno, nn, oo, vv, rfl⟩⟩
      · have G3 : Gr wr W3 := gr_trans g2.out g3
        replace g3 := Lib.hid g3
        clear cR e0 e1 e2
        go_upto_region 6 with fail
        obtain ⟨W4, hW4⟩ : ∃ W4, W4 = W3.alloc (.cells #[.string (txt m.n), .int .i64 m.op, .string (txt m.v), .pointer (tvP t)] 91) := ⟨_, rfl⟩
        have g4 : Gr W3 W4 := by rw [hW4]; exact gr_alloc _ _ _
        have f0 : W4.cell? ⟨W3.heap.size, 0, none⟩ = some (.string (txt m.n)) := by rw [hW4, World.cell?_alloc_new]; rfl
        have f1 : W4.cell? ⟨W3.heap.size, 1, none⟩ = some (.int .i64 m.op) := by rw [hW4, World.cell?_alloc_new]; rfl
        have f2 : W4.cell? ⟨W3.heap.size, 2, none⟩ = some (.string (txt m.v)) := by rw [hW4, World.cell?_alloc_new]; rfl
        have f3 : W4.cell? ⟨W3.heap.size, 3, none⟩ = some (.pointer (tvP t)) := by rw [hW4, World.cell?_alloc_new]; rfl
        rw [← hW4]
        have G4 : Gr wr W4 := gr_trans G3 g4
        have hin4 : TvIn wr.heap.size W4 t := by
          have := tvIn_gr hin g4
          rcases this with q | ⟨q0, b, x, q1, q2, q3, q4⟩
          · exact .inl q
          · exact .inr ⟨q0, b, x, q1, q2, q3, pat_lo q4 g2.out.size⟩
        have hown4 := hT.out.own.kept G4 (Classical.em _)
        have hsz : w.heap.size ≤ W4.heap.size := Nat.le_trans hg.out.size G4.size
        have htc : [Value.string (txt m.n), .int .i64 m.op, .string (txt m.v), .pointer (tvP t)] = tvC t := by unfold tvC; rw [htm2]
        replace hown4 := Lib.hid hown4
        replace hin4 := Lib.hid hin4
        replace G4 := Lib.hid G4
        replace hyes := Lib.hid hyes
        replace htm2 := Lib.hid htm2
        replace htc := Lib.hid htc
        clear hW4 g4 G3 hin g3 g2
        go_wp2_with (at_builtin; refine wpList_append_strong _ rfl _ _ 85 rfl w.heap.size 91 ii (.agg #[.string ⟨#[]⟩, .int .i64 0, .string ⟨#[]⟩, .pointer none]) 4 48 Tryz.underlying85 hii hz0 hz1 hz2 rfl (by decide) (.slice A' k c') k (sR tvC tvs) rfl (hown4.out.alloc _) ⟨W4.heap.size, 0, none⟩ 1 1 [.string (txt m.n), .int .i64 m.op, .string (txt m.v), .pointer (tvP t)] rfl rfl (fun j u hj => by rw [add_plain, Nat.zero_add, World.cell?_alloc_new]; simpa using hj) (by rw [htc.out]; exact tvC_one t) (by omega) (k + 1) rfl (by unfold maxLen; omega) (by omega) (by simp; omega) ?_; intro g6 cap6 W6 hown6 hat6)
        rw [htc.out] at hown6
        have hfin := tsts_app hT.out G4.out hin4.out hown6 hat6
        have gfin : Gr w W6 := gr_of_below (below_gr (gr_below hg.out) hfin.2 hg.out.size (fun q hq => (hT.out.own.lt q hq).1)) (Nat.le_refl _)
        have hfin1 := Lib.hid hfin.1
        replace gfin := Lib.hid gfin
        clear hfin hown6 hat6 hown4 G4 hin4 f0 f1 f2 f3
        go_wp2
        go_roundw
        case rel => exact ⟨k + 1, some ⟨g6, 0, none⟩, cap6, _, by omega, by go_num, rfl, hfin1, Lib.hid (by rw [List.map_append, htm.out, htk.out]; simp [htm2.out]), Lib.hid (by rw [htk.out]; intro x hx; rcases List.mem_append.1 hx with q | q; exact hok.out x q; rw [List.mem_singleton.1 q]; exact hyes.out), gfin⟩
        case measure => simp [intOf]; omega
      · have G3 : Gr w W3 := gr_trans hg.out (gr_trans g2.out g3)
        replace hno := Lib.hid hno
        replace G3 := Lib.hid G3
        clear cR e0 e1 e2 g3
        go_wp2
        go_ret2
        exact ⟨gr_trans G3.out (gr_alloc _ _ _), .inr ⟨⟨m, hmem.out, hno.out⟩, rfl⟩⟩
    · have hkI : ((k : Int) < (n : Int)) = False := eq_false (by omega)
      obtain rfl : k = n := by omega
      have hall : ms.take k = ms := List.take_of_length_le (by rw [hl.out]; exact Nat.le_refl _)
      have htm3 := htm.out
      have hok3 := hok.out
      rw [hall] at htm3 hok3
      replace htm3 := Lib.hid htm3
      replace hok3 := Lib.hid hok3
      clear hall htm hok
      by_cases h10 : k ≤ 10
      · have h10I : (k : Int) ≤ 10 := by omega
        go_wp2
        go_ret2
        exact ⟨hg.out, .inl ⟨hok3.out, A', c', tvs, by rw [decide_eq_true h10]; rfl, htm3.out, hT.out⟩⟩
      · have h10I : ((k : Int) ≤ 10) = False := eq_false (by omega)
        replace h10 := Lib.hid h10
        go_wp2
        go_ret2
        exact ⟨hg.out, .inl ⟨hok3.out, A', c', tvs, by rw [decide_eq_false h10.out]; rfl, htm3.out, hT.out⟩⟩
set_option maxHeartbeats 16000000 in
set_option maxRecDepth 100000 in
theorem tof_any (H : T → List Int → Bool) (hH : Holds H) (lo : Nat) (t : TV) (A : Option Addr) (n c : Nat) (l : List Lb) (w : World) (hn : n ≤ 1000000) (hr : Row w A n 2 (sR lblC l)) (ht : TvIn lo w t) (ho : okMt t.m) (hv : ∀ nm, (getL l nm).length ≤ 1000000) :
    Calls Tryz.prog 39 #[.agg #[.string (txt t.m.n), .int .i64 t.m.op, .string (txt t.m.v), .pointer (tvP t)], .slice A n c] w fun e w' => e = .returned (.bool (holdM H t.m l)) ∧ Gr w w' := by
  obtain ⟨⟨mn, mo, mv⟩, mp⟩ := t
  obtain ⟨_, o2, o3, _⟩ := ho
  simp only at o2 o3 ⊢
  obtain ⟨R, hR⟩ : ∃ R, R = holdM H ⟨mn, mo, mv⟩ l := ⟨_, rfl⟩
  rw [← hR]
  obtain ⟨W2, hW2⟩ : ∃ W2, W2 = w.alloc (.cells #[.string (txt mn), .int .i64 mo, .string (txt mv), .pointer (tvP ⟨⟨mn, mo, mv⟩, mp⟩)] 91) := ⟨_, rfl⟩
  have g2 : Gr w W2 := by rw [hW2]; exact gr_alloc _ _ _
  have b2 : W2.heap[w.heap.size]? = some (.cells #[.string (txt mn), .int .i64 mo, .string (txt mv), .pointer (tvP ⟨⟨mn, mo, mv⟩, mp⟩)] 91) := by rw [hW2]; exact blk_new w _
  have cG := fun W (g : Gr w W) => lget_any A n c l mn W (by omega) (row_gr hr g)
  have hvl := hv mn
  have fc : ∀ W, Gr W2 W → W.cell? ⟨w.heap.size, 0, none⟩ = some (.string (txt mn)) ∧ W.cell? ⟨w.heap.size, 1, none⟩ = some (.int .i64 mo) ∧ W.cell? ⟨w.heap.size, 2, none⟩ = some (.string (txt mv)) ∧ W.cell? ⟨w.heap.size, 3, none⟩ = some (.pointer (tvP ⟨⟨mn, mo, mv⟩, mp⟩)) := fun W g => ⟨gr_cell g (blk_cell b2 rfl), gr_cell g (blk_cell b2 rfl), gr_cell g (blk_cell b2 rfl), gr_cell g (blk_cell b2 rfl)⟩
  obtain ⟨V, hV⟩ : ∃ V, V = getL l mn := ⟨_, rfl⟩
  unfold holdM at hR
  simp only at hR
  rw [← hV] at cG hvl hR
  have hcase : mo = 1 ∨ mo = 2 ∨ mo = 3 ∨ mo = 4 := by omega
  clear hr hv hV b2 o2 o3
  rcases hcase with rfl | rfl | rfl | rfl
  · rw [if_pos rfl] at hR
    replace fc := Lib.hid fc
    replace cG := Lib.hid cG
    replace hW2 := Lib.hid hW2
    by_cases q : V = mv
    · rw [decide_eq_true q] at hR
      subst hR
      have hq : (V == mv) = true := by simp [q]
      replace q := Lib.hid q
      go_enter Tryz.func39, Tryz.ntmps39
      go_upto_region 1 with fail
      rw [← hW2.out]
      obtain ⟨d0, d1, d2, d3⟩ := fc.out W2 (gr_refl _ _)
      go_wp2_with fail
      refine (cG.out _ g2).mono ?_
      rintro e W3 ⟨rfl, g3⟩
      clear d0 d1 d2 d3
      obtain ⟨d0, d1, d2, d3⟩ := fc.out W3 g3
      go_wp2
      go_ret
      exact ⟨rfl, gr_trans g2 g3⟩
    · rw [decide_eq_false q] at hR
      subst hR
      have hq : (V == mv) = false := by simp [q]
      replace q := Lib.hid q
      go_enter Tryz.func39, Tryz.ntmps39
      go_upto_region 1 with fail
      rw [← hW2.out]
      obtain ⟨d0, d1, d2, d3⟩ := fc.out W2 (gr_refl _ _)
      go_wp2_with fail
      refine (cG.out _ g2).mono ?_
      rintro e W3 ⟨rfl, g3⟩
      clear d0 d1 d2 d3
      obtain ⟨d0, d1, d2, d3⟩ := fc.out W3 g3
      go_wp2
      go_ret
      exact ⟨rfl, gr_trans g2 g3⟩
  · rw [if_neg (by decide), if_pos rfl] at hR
    replace fc := Lib.hid fc
    replace cG := Lib.hid cG
    replace hW2 := Lib.hid hW2
    by_cases q : V = mv
    · rw [decide_eq_false (by simpa using q)] at hR
      subst hR
      have hq : (V == mv) = true := by simp [q]
      have hq2 : (V != mv) = false := by simp [q]
      replace q := Lib.hid q
      go_enter Tryz.func39, Tryz.ntmps39
      go_upto_region 1 with fail
      rw [← hW2.out]
      obtain ⟨d0, d1, d2, d3⟩ := fc.out W2 (gr_refl _ _)
      go_wp2_with fail
      refine (cG.out _ g2).mono ?_
      rintro e W3 ⟨rfl, g3⟩
      clear d0 d1 d2 d3
      obtain ⟨d0, d1, d2, d3⟩ := fc.out W3 g3
      go_wp2
      go_ret
      exact ⟨rfl, gr_trans g2 g3⟩
    · rw [decide_eq_true q] at hR
      subst hR
      have hq : (V == mv) = false := by simp [q]
      have hq2 : (V != mv) = true := by simp [q]
      replace q := Lib.hid q
      go_enter Tryz.func39, Tryz.ntmps39
      go_upto_region 1 with fail
      rw [← hW2.out]
      obtain ⟨d0, d1, d2, d3⟩ := fc.out W2 (gr_refl _ _)
      go_wp2_with fail
      refine (cG.out _ g2).mono ?_
      rintro e W3 ⟨rfl, g3⟩
      clear d0 d1 d2 d3
      obtain ⟨d0, d1, d2, d3⟩ := fc.out W3 g3
      go_wp2
      go_ret
      exact ⟨rfl, gr_trans g2 g3⟩
  · rcases ht with ⟨h0, _⟩ | ⟨_, b, x, h1, h2, _, h4⟩
    · simp only at h0; omega
    · simp only at h1 h2 h4
      subst h1
      rw [if_neg (by decide), if_neg (by decide), h2] at hR
      simp only at hR
      rw [if_pos True.intro] at hR
      have cW := fun W (g : Gr W2 W) => whole_any H hH b mv x V W (pat_lo (patIn_gr h4 (gr_trans g2 g)) (Nat.zero_le _)) hvl
      rw [← hR] at cW
      have hP : tvP ⟨⟨mn, 3, mv⟩, some b⟩ = some ⟨b, 0, none⟩ := rfl
      rw [hP] at fc hW2 ⊢
      replace fc := Lib.hid fc
      replace cG := Lib.hid cG
      replace hW2 := Lib.hid hW2
      replace cW := Lib.hid cW
      replace hR := Lib.hid hR
      clear h2 h4 hP
      go_enter Tryz.func39, Tryz.ntmps39
      go_upto_region 1 with fail
      rw [← hW2.out]
      obtain ⟨d0, d1, d2, d3⟩ := fc.out W2 (gr_refl _ _)
      go_wp2_with fail
      refine (cG.out _ g2).mono ?_
      rintro e W3 ⟨rfl, g3⟩
      clear d0 d1 d2 d3
      obtain ⟨d0, d1, d2, d3⟩ := fc.out W3 g3
      go_wp2_with fail
      refine (cW.out _ g3).mono ?_
      rintro e W4 ⟨rfl, g4⟩
      go_wp2
      go_ret
      exact ⟨rfl, gr_trans (gr_trans g2 g3) g4⟩
  · rcases ht with ⟨h0, _⟩ | ⟨_, b, x, h1, h2, _, h4⟩
    · simp only at h0; omega
    · simp only at h1 h2 h4
      subst h1
      rw [if_neg (by decide), if_neg (by decide), h2] at hR
      simp only at hR
      rw [if_neg (by decide)] at hR
      obtain ⟨Q, hQ⟩ : ∃ Q, Q = H x (runesOf V) := ⟨_, rfl⟩
      have cW := fun W (g : Gr W2 W) => whole_any H hH b mv x V W (pat_lo (patIn_gr h4 (gr_trans g2 g)) (Nat.zero_le _)) hvl
      rw [← hQ] at cW hR
      subst hR
      have hP : tvP ⟨⟨mn, 4, mv⟩, some b⟩ = some ⟨b, 0, none⟩ := rfl
      rw [hP] at fc hW2 ⊢
      replace fc := Lib.hid fc
      replace cG := Lib.hid cG
      replace hW2 := Lib.hid hW2
      replace cW := Lib.hid cW
      clear h2 h4 hP hQ
      go_enter Tryz.func39, Tryz.ntmps39
      go_upto_region 1 with fail
      rw [← hW2.out]
      obtain ⟨d0, d1, d2, d3⟩ := fc.out W2 (gr_refl _ _)
      go_wp2_with fail
      refine (cG.out _ g2).mono ?_
      rintro e W3 ⟨rfl, g3⟩
      clear d0 d1 d2 d3
      obtain ⟨d0, d1, d2, d3⟩ := fc.out W3 g3
      go_wp2_with fail
      refine (cW.out _ g3).mono ?_
      rintro e W4 ⟨rfl, g4⟩
      go_wp2
      go_ret
      exact ⟨rfl, gr_trans (gr_trans g2 g3) g4⟩
end Go.Proofs.YtccmekdmnkmhlaaGreat
namespace Go.Proofs.YtccmekdmnkmhlaaGreat
open Go.RowKit

def okMs (ms : List Mt) : Prop := (∀ m ∈ ms, okMt m) ∧ ms.length ≤ 10
instance (ms : List Mt) : Decidable (okMs ms) := by unfold okMs; exact inferInstance
def allM (H : T → List Int → Bool) (ms : List Mt) (l : List Lb) : Bool := ms.all fun m => holdM H m l
/-- The series that matchers mean. -/
def selS (H : T → List Int → Bool) (ms : List Mt) (ss : List Ser) : List Ser := ss.filter fun s => allM H ms s.l
/-! Sub-lists of lists that are apart. -/
def ApartP (l m : Lst) : Prop := ∀ k, l.v.ownBlock = some k → m.v.ownBlock ≠ some k
theorem parted_pair {ls : List Lst} (h : Parted ls) : ls.Pairwise ApartP := by
  rw [List.pairwise_iff_getElem]
  intro i j hi hj hij k h1 h2
  have := h i j _ _ k (List.getElem?_eq_getElem hi) (List.getElem?_eq_getElem hj) h1 h2
  omega
theorem pair_parted {ls : List Lst} (h : ls.Pairwise ApartP) : Parted ls := by
  intro i j l m k hl hm h1 h2
  rw [List.pairwise_iff_getElem] at h
  obtain ⟨hi, rfl⟩ := List.getElem?_eq_some_iff.1 hl
  obtain ⟨hj, rfl⟩ := List.getElem?_eq_some_iff.1 hm
  rcases Nat.lt_trichotomy i j with q | q | q
  · exact absurd h2 (h i j hi hj q k h1)
  · exact q
  · exact absurd h1 (h j i hj hi q k h2)
/-- Of series and where they lie, those that are meant. -/
def selP (H : T → List Int → Bool) (ms : List Mt) (ps : List (SHd × Ser)) : List (SHd × Ser) := ps.filter fun p => allM H ms p.2.l
theorem selP_snd (H : T → List Int → Bool) (ms : List Mt) : ∀ (hs : List SHd) (ss : List Ser), hs.length = ss.length → (selP H ms (hs.zip ss)).map (·.2) = selS H ms ss
  | [], [], _ => rfl
  | h :: hs, s :: ss, hl => by
    have ih := selP_snd H ms hs ss (by simpa using hl)
    unfold selP selS at ih ⊢
    rw [List.zip_cons_cons, List.filter_cons, List.filter_cons]
    simp only
    split
    · rw [List.map_cons, ih]
    · exact ih
  | [], _ :: _, hl => by simp at hl
  | _ :: _, [], hl => by simp at hl
theorem selP_sub (H : T → List Int → Bool) (ms : List Mt) (hs : List SHd) (ss : List Ser) (hl : hs.length = ss.length) : ((selP H ms (hs.zip ss)).map (·.1)).Sublist hs := by
  have h1 : ((selP H ms (hs.zip ss)).map (·.1)).Sublist ((hs.zip ss).map (·.1)) := (List.filter_sublist).map _
  have h2 : (hs.zip ss).map (·.1) = hs := List.map_fst_zip (by omega)
  rwa [h2] at h1
theorem selP_mem {H : T → List Int → Bool} {ms : List Mt} {hs : List SHd} {ss : List Ser} {p : SHd × Ser} (h : p ∈ selP H ms (hs.zip ss)) : ∃ i : Nat, hs[i]? = some p.1 ∧ ss[i]? = some p.2 := by
  have h1 := (List.mem_filter.1 h).1
  obtain ⟨i, hi⟩ := List.getElem?_of_mem h1
  have h2 := List.getElem?_zip_eq_some.1 hi
  exact ⟨i, h2⟩
theorem selP_take {H : T → List Int → Bool} {ms : List Mt} {hs : List SHd} {ss : List Ser} {k : Nat} {x : SHd} {s : Ser} (hx : hs[k]? = some x) (hsx : ss[k]? = some s) : selP H ms ((hs.zip ss).take (k + 1)) = selP H ms ((hs.zip ss).take k) ++ (if allM H ms s.l = true then [(x, s)] else []) := by
  have h0 : (hs.zip ss)[k]? = some (x, s) := List.getElem?_zip_eq_some.2 ⟨hx, hsx⟩
  obtain ⟨h1, h2⟩ := List.getElem?_eq_some_iff.1 h0
  unfold selP
  rw [List.take_succ_eq_append_getElem h1, h2, List.filter_append]
  congr 1
  by_cases hc : allM H ms s.l = true
  · rw [if_pos hc]
    simp [List.filter, hc]
  · rw [if_neg hc]
    simp [List.filter, hc]
theorem allM_take {H : T → List Int → Bool} {ms : List Mt} {l : List Lb} {q : Nat} {m : Mt} (h : ms[q]? = some m) : allM H (ms.take (q + 1)) l = (allM H (ms.take q) l && holdM H m l) := by
  obtain ⟨h1, h2⟩ := List.getElem?_eq_some_iff.1 h
  unfold allM
  rw [List.take_succ_eq_append_getElem h1, h2, List.all_append]
  simp
/-- What is taken of a list of series that owns what it has. -/
theorem sel_in {w1 w' : World} {base A n c A' k c' : _} {hs : List SHd} {ss : List Ser} {H : T → List Int → Bool} {ms : List Mt} (h : SersIn w1 base A n c hs ss) (g : Gr w1 w')
    (hlen : (selP H ms (hs.zip ss)).length = k) (hown : w'.ownsRow base 73 2 (.slice A' k c') k (sR shC ((selP H ms (hs.zip ss)).map (·.1)))) : SersIn w' base A' k c' ((selP H ms (hs.zip ss)).map (·.1)) (selS H ms ss) := by
  have hl : hs.length = ss.length := by rw [h.hlen, h.len]
  have h2 := selP_snd H ms hs ss hl
  refine ⟨by rw [← h2, List.length_map]; exact hlen, by rw [List.length_map]; exact hlen, hown, ?_, ?_⟩
  · intro i x s hx hs2
    rw [← h2, List.getElem?_map] at hs2
    rw [List.getElem?_map] at hx
    cases hp : (selP H ms (hs.zip ss))[i]? with
    | none => rw [hp] at hx; cases hx
    | some p =>
      rw [hp] at hx hs2
      have e1 := Option.some.inj hx
      have e2 := Option.some.inj hs2
      simp only at e1 e2
      subst e1 e2
      obtain ⟨j, j1, j2⟩ := selP_mem (List.mem_of_getElem? hp)
      exact serOwn_gr (h.ser j _ _ j1 j2) g
  · refine pair_parted ((parted_pair h.prt).sublist ?_)
    exact (selP_sub H ms hs ss hl).map pL
theorem getL_le (nm : List UInt8) : ∀ (l : List Lb), (∀ x ∈ l, okLb x) → (getL l nm).length ≤ 60
  | [], _ => by simp [getL]
  | x :: l, h => by
    rw [getL_cons]
    split
    · exact (h x List.mem_cons_self).2.2
    · exact getL_le nm l fun y hy => h y (List.mem_cons_of_mem _ hy)
theorem getL_short {l : List Lb} (h : okLbs l) (nm : List UInt8) : (getL l nm).length ≤ 1000000 := by
  have := getL_le nm l h.2.1
  omega
theorem sersIn_base {w : World} {base base' n c : Nat} {A : Option Addr} {hs : List SHd} {ss : List Ser} (h : SersIn w base A n c hs ss) (hb : base' ≤ base) : SersIn w base' A n c hs ss :=
  ⟨h.len, h.hlen, own_mono h.own hb, fun i x s h1 h2 => ⟨own_mono (h.ser i x s h1 h2).1 hb, own_mono (h.ser i x s h1 h2).2 hb⟩, h.prt⟩
def SelPost (H : T → List Int → Bool) (ms : List Mt) (ss : List Ser) (w : World) (e : Ending) (w' : World) : Prop :=
  Gr w w' ∧ ((okMs ms ∧ ∃ A c hs, e = .returned (.tuple #[.slice A (selS H ms ss).length c, .int .i64 0]) ∧ SersIn w' w.heap.size A (selS H ms ss).length c hs (selS H ms ss)) ∨ (¬ okMs ms ∧ e = .returned (.tuple #[.slice none 0 0, .int .i64 1])))
set_option maxHeartbeats 16000000 in
set_option maxRecDepth 100000 in
theorem select_any (H : T → List Int → Bool) (hH : Holds H) (base : Nat) (m : StoM) (ss : List Ser) (A : Option Addr) (n c : Nat) (ms : List Mt) (w : World) (h : StoAt w base m ss) (hi : InvS ss) (hn : n ≤ 1000) (hr : Row w A n 3 (sR mtC ms)) (hb : ∀ m ∈ ms, m.n.length ≤ 1000000 ∧ m.v.length ≤ 1000000) :
    Calls Tryz.prog 17 #[.pointer (some ⟨m.St, 0, none⟩), .slice A n c] w (SelPost H ms ss w) := by
  obtain ⟨ii, hii, hz0, hz1, hz2⟩ := info_parts infoSer
  have hml : ms.length = n := by have := hr.1; rw [sR_len mtC 3 mtC_len] at this; omega
  have cA := sall_ready A n c ms w hn hr hb
  unfold AllPost at cA
  rw [hml] at cA
  have cL := fun W (g : Gr w W) => sall_any base m ss W (stoAt_gr h g) hi
  unfold CopyPost at cL
  have hlen := hi.len
  have hlb : ∀ s ∈ ss, okLbs s.l := fun s hs => (hi.ok s hs).1.1
  unfold SelPost
  replace cA := Lib.hid cA
  replace cL := Lib.hid cL
  replace hlb := Lib.hid hlb
  clear h hi hr hb
  go_enter Tryz.func17, Tryz.ntmps17
  go_wp2_with fail
  refine cA.out.mono ?_
  rintro e w1 ⟨g1, ⟨hok, tA, tc, tvs, rfl, htm, hT⟩ | ⟨⟨m0, hm0, hno⟩, rfl⟩⟩
  · by_cases h10 : n ≤ 10
    · rw [decide_eq_true h10]
      have hoks : okMs ms := ⟨hok, by omega⟩
      replace hok := Lib.hid hok
      replace htm := Lib.hid htm
      replace hT := Lib.hid hT
      replace hoks := Lib.hid hoks
      obtain ⟨N, hN⟩ : ∃ N, N = ss.length := ⟨_, rfl⟩
      rw [← hN] at cL hlen
      replace hN := Lib.hid hN
      clear cA
      go_wp2_with fail
      refine (cL.out _ g1).mono ?_
      rintro e w2 ⟨sA, sc, hs, rfl, hF, g2⟩
      have G2 : Gr w w2 := gr_trans g1 g2
      have hT2 := tsts_gr hT.out g2
      have hw12 : w.heap.size ≤ w1.heap.size := g1.size
      have hw23 : w1.heap.size ≤ w2.heap.size := g2.size
      replace hF := Lib.hid hF
      replace G2 := Lib.hid G2
      replace hT2 := Lib.hid hT2
      clear cL hT g2 g1
      go_wp2_with fail
      go_loopw [8, 28] (fun ov iv wr => ∃ (k j : Nat) (A' : Option Addr) (c' : Nat), k ≤ N ∧ j ≤ k ∧ iv = .int .i64 k ∧ ov = .slice A' j c' ∧ Hid ((selP H ms ((hs.zip ss).take k)).length = j) ∧ Hid (wr.ownsRow w2.heap.size 73 2 (.slice A' j c') j (sR shC ((selP H ms ((hs.zip ss).take k)).map (·.1)))) ∧ Hid (Gr w2 wr)) (fun _ iv _ => N - (intOf iv).toNat)
      case atStart => exact ⟨0, 0, none, 0, Nat.zero_le _, Nat.le_refl _, rfl, rfl, Lib.hid rfl, Lib.hid (World.ownsRow_nil _ _ _ _), Lib.hid (gr_refl _ _)⟩
      case round =>
        obtain ⟨k, j, A', c', hkn, hjk, rfl, rfl, hj, ho, hg⟩ := hrel
        obtain ⟨w0, hw0⟩ : ∃ w0, w0 = wr := ⟨_, rfl⟩
        subst hw0
        by_cases hlt : k < N
        · obtain ⟨x, s, B, o, hx, hsx, rfl, d0, d1, hrd, hxl, hxp⟩ := sersOf_at (sersOf_gr (sersIn_rd hF.out) hg.out) hlt
          have hslb := hlb.out s (List.mem_of_getElem? hsx)
          have hxl8 : x.ln ≤ 1000000 := by have := hslb.1; omega
          have hgs := fun nm => getL_short hslb nm
          have hkI : (k : Int) < (N : Int) := by omega
          have hk0 : (0 : Int) ≤ (k : Int) := by omega
          have hstep := selP_take (H := H) (ms := ms) hx hsx
          obtain ⟨W3, hW3⟩ : ∃ W3, W3 = w0.alloc (.cells #[.slice x.la x.ln x.lc, .slice x.pa x.pn x.pc] 73) := ⟨_, rfl⟩
          have g3 : Gr w0 W3 := by rw [hW3]; exact gr_alloc _ _ _
          have e0 : W3.cell? ⟨w0.heap.size, 0, none⟩ = some (.slice x.la x.ln x.lc) := by rw [hW3, World.cell?_alloc_new]; rfl
          have e1 : W3.cell? ⟨w0.heap.size, 1, none⟩ = some (.slice x.pa x.pn x.pc) := by rw [hW3, World.cell?_alloc_new]; rfl
          have G3 := gr_trans hg.out g3
          have hT3 := tsts_gr hT2.out G3
          have hrl := row_gr hrd.1 g3
          replace hstep := Lib.hid hstep
          replace hx := Lib.hid hx
          replace hsx := Lib.hid hsx
          replace hrd := Lib.hid hrd
          replace hxl := Lib.hid hxl
          replace hxp := Lib.hid hxp
          replace hslb := Lib.hid hslb
          replace hgs := Lib.hid hgs
          replace hW3 := Lib.hid hW3
          replace hT3 := Lib.hid hT3
          replace hrl := Lib.hid hrl
          replace g3 := Lib.hid g3
          replace G3 := Lib.hid G3
          go_upto_region 8 with fail
          rw [← hW3.out]
          clear d0 d1 hW3
          go_wp2_with fail
          go_loopw [11, 34] (fun bv iv wr => ∃ (q : Nat) (b : Bool), q ≤ n ∧ iv = .int .i64 q ∧ bv = .bool b ∧ Hid (b = allM H (ms.take q) s.l) ∧ Hid (Gr W3 wr)) (fun _ iv _ => n - (intOf iv).toNat)
          case atStart => exact ⟨0, true, Nat.zero_le _, rfl, rfl, Lib.hid rfl, Lib.hid (gr_refl _ _)⟩
          case round =>
            obtain ⟨q, b, hqn, rfl, rfl, hbq, hgq⟩ := hrel
            by_cases hql : q < n
            · have hTq := tsts_gr hT3.out hgq.out
              obtain ⟨t, B2, o2, ht, hA2, _, hcc⟩ := rowS_elem tvC_len (row_own hTq.own) (by decide) hql
              subst hA2
              have f0 : wr.cell? ⟨B2, o2 + q * 4, none⟩ = some (.string (txt t.m.n)) := hcc 0 (by decide)
              have f1 : wr.cell? ⟨B2, o2 + q * 4 + 1, none⟩ = some (.int .i64 t.m.op) := hcc 1 (by decide)
              have f2 : wr.cell? ⟨B2, o2 + q * 4 + 2, none⟩ = some (.string (txt t.m.v)) := hcc 2 (by decide)
              have f3 : wr.cell? ⟨B2, o2 + q * 4 + 3, none⟩ = some (.pointer (tvP t)) := hcc 3 (by decide)
              have htmem := List.mem_of_getElem? ht
              obtain ⟨lo, hlo, _⟩ := hTq.tst t htmem
              have hmq : ms[q]? = some t.m := by rw [← htm.out, List.getElem?_map, ht]; rfl
              have hokt := hok.out t.m (List.mem_of_getElem? hmq)
              have hbn := allM_take (H := H) (l := s.l) hmq
              rw [← hbq.out] at hbn
              obtain ⟨W4, hW4⟩ : ∃ W4, W4 = wr.alloc (.cells #[.string (txt t.m.n), .int .i64 t.m.op, .string (txt t.m.v), .pointer (tvP t)] 91) := ⟨_, rfl⟩
              have g4 : Gr wr W4 := by rw [hW4]; exact gr_alloc _ _ _
              have k0 : W4.cell? ⟨wr.heap.size, 0, none⟩ = some (.string (txt t.m.n)) := by rw [hW4, World.cell?_alloc_new]; rfl
              have k1 : W4.cell? ⟨wr.heap.size, 1, none⟩ = some (.int .i64 t.m.op) := by rw [hW4, World.cell?_alloc_new]; rfl
              have k2 : W4.cell? ⟨wr.heap.size, 2, none⟩ = some (.string (txt t.m.v)) := by rw [hW4, World.cell?_alloc_new]; rfl
              have k3 : W4.cell? ⟨wr.heap.size, 3, none⟩ = some (.pointer (tvP t)) := by rw [hW4, World.cell?_alloc_new]; rfl
              have G4 : Gr W3 W4 := gr_trans hgq.out g4
              have l0 : W4.cell? ⟨w0.heap.size, 0, none⟩ = some (.slice x.la x.ln x.lc) := gr_cell G4 e0
              have cO := tof_any H hH lo t x.la x.ln x.lc s.l W4 hxl8 (row_gr hrl.out G4) (tvIn_gr hlo g4) hokt hgs.out
              have hqI : (q : Int) < (n : Int) := by omega
              have hq0 : (0 : Int) ≤ (q : Int) := by omega
              replace ht := Lib.hid ht
              replace htmem := Lib.hid htmem
              replace hlo := Lib.hid hlo
              replace hmq := Lib.hid hmq
              replace hokt := Lib.hid hokt
              replace hbn := Lib.hid hbn
              replace hW4 := Lib.hid hW4
              replace G4 := Lib.hid G4
              replace cO := Lib.hid cO
              replace hTq := Lib.hid hTq
              clear hcc g4
              go_upto_region 12 with fail
              rw [← hW4.out]
              clear f0 f1 f2 f3 hW4 hbq
              cases b with
              | false =>
                have hb0 : allM H (ms.take (q + 1)) s.l = false := by rw [hbn.out]; rfl
                replace hb0 := Lib.hid hb0
                go_wp2
                go_roundw
                case rel => exact ⟨q + 1, false, by omega, by go_num, rfl, Lib.hid hb0.out.symm, G4⟩
                case measure => simp [intOf]; omega
              | true =>
                have hb0 : allM H (ms.take (q + 1)) s.l = holdM H t.m s.l := by rw [hbn.out, Bool.true_and]
                generalize holdM H t.m s.l = b2 at *
                replace hb0 := Lib.hid hb0
                go_wp2_with fail
                refine cO.out.mono ?_
                rintro e W5 ⟨rfl, g5⟩
                have G5 := gr_trans G4.out g5
                replace G5 := Lib.hid G5
                clear cO g5
                go_wp2
                go_roundw
                case rel => exact ⟨q + 1, b2, by omega, by go_num, rfl, Lib.hid hb0.out.symm, G5⟩
                case measure => simp [intOf]; omega
            · obtain rfl : q = n := by omega
              have hbf : b = allM H ms s.l := by rw [hbq.out, List.take_of_length_le (by omega)]
              have hqI : ((q : Int) < (q : Int)) = False := eq_false (by omega)
              have e0' := gr_cell hgq.out e0
              have e1' := gr_cell hgq.out e1
              have Gq := gr_trans G3.out hgq.out
              have hoq := ho.out.kept (gr_trans g3.out hgq.out) (Classical.em _)
              have hszq : w2.heap.size ≤ wr.heap.size := Gq.size
              rw [← hbf] at hstep
              replace hbf := Lib.hid hbf
              replace hoq := Lib.hid hoq
              replace Gq := Lib.hid Gq
              clear e0 e1 hbq hgq
              cases b with
              | false =>
                have hst := hstep.out
                rw [if_neg (by decide), List.append_nil] at hst
                replace hst := Lib.hid hst
                go_wp2
                go_roundw
                case rel => exact ⟨k + 1, j, A', c', by omega, by omega, by go_num, rfl, Lib.hid (by rw [hst.out]; exact hj.out), Lib.hid (by rw [hst.out]; exact hoq.out), Gq⟩
                case measure => simp [intOf]; omega
              | true =>
                have hst := hstep.out
                rw [if_pos rfl] at hst
                replace hst := Lib.hid hst
                go_wp2_with (at_builtin; refine wpList_append_strong _ rfl _ _ 29 rfl w2.heap.size 73 ii (.agg #[.slice none 0 0, .slice none 0 0]) 2 48 Tryz.underlying29 hii hz0 hz1 hz2 rfl (by decide) (.slice A' j c') j (sR shC ((selP H ms ((hs.zip ss).take k)).map (·.1))) rfl (hoq.out.alloc _) ⟨wr.heap.size, 0, none⟩ 1 1 (shC x) rfl rfl (fun j u hj => by rw [add_plain, Nat.zero_add, World.cell?_alloc_new]; simpa [shC] using hj) (shC_one x) (by omega) (j + 1) rfl (by unfold maxLen; omega) (by omega) (by simp; omega) ?_; intro g6 cap6 W6 hown6 hat6)
                have gfin : Gr w2 W6 := by
                  have h1 := gr_trans Gq.out (gr_alloc wr (.cells (shC x).toArray 73) none)
                  rcases hat6 with ⟨eb, q6⟩ | ⟨_, q6⟩
                  · exact gr_of_below (below_gr (gr_below h1) q6 h1.size (fun q hq => by have := Option.some.inj hq; subst this; exact (hoq.out.lt _ eb).1)) (Nat.le_refl _)
                  · exact gr_trans h1 q6
                replace gfin := Lib.hid gfin
                replace hown6 := Lib.hid hown6
                clear hat6
                go_wp2
                go_roundw
                case rel => exact ⟨k + 1, j + 1, some ⟨g6, 0, none⟩, cap6, by omega, by omega, by go_num, rfl, Lib.hid (by rw [hst.out, List.length_append, hj.out]; rfl), Lib.hid (by rw [hst.out, List.map_append, sR_append]; show World.ownsRow _ _ _ _ _ _ (_ ++ sR shC [x]); rw [sR_one]; exact hown6.out), gfin⟩
                case measure => simp [intOf]; omega
        · obtain rfl : k = N := by omega
          have hkI : ((k : Int) < (k : Int)) = False := eq_false (by omega)
          have hzl : (hs.zip ss).take k = hs.zip ss := List.take_of_length_le (by rw [List.length_zip, hF.out.hlen]; omega)
          have hj2 := hj.out
          have ho2 := ho.out
          rw [hzl] at hj2 ho2
          have hfin := sersIn_base (sel_in hF.out hg.out hj2 (own_mono ho2 hw23)) hw12
          have hjl : (selS H ms ss).length = j := hfin.len
          have gfin := gr_trans G2.out hg.out
          replace hfin := Lib.hid hfin
          replace hjl := Lib.hid hjl
          replace gfin := Lib.hid gfin
          clear hj2 ho2 hj ho hg hzl
          go_wp2
          go_ret2
          refine ⟨gfin.out, .inl ⟨hoks.out, A', c', _, ?_, by rw [hjl.out]; exact hfin.out⟩⟩
          rw [hjl.out]
          rfl
    · rw [decide_eq_false h10]
      have hoks : ¬ okMs ms := fun h => h10 (by have := h.2; omega)
      replace hoks := Lib.hid hoks
      clear cA cL hT hok
      go_wp2
      go_ret2
      exact ⟨g1, .inr ⟨hoks.out, rfl⟩⟩
  · have hoks : ¬ okMs ms := fun h => hno (h.1 m0 hm0)
    replace hoks := Lib.hid hoks
    clear cA cL hm0 hno
    go_wp2
    go_ret2
    exact ⟨g1, .inr ⟨hoks.out, rfl⟩⟩
end Go.Proofs.YtccmekdmnkmhlaaGreat
namespace Go.Proofs.YtccmekdmnkmhlaaGreat
open Go.RowKit

def abT : T := .altS (.alt1 (.rowS .row0 (oneOf 97))) (.rowS .row0 (oneOf 98))
theorem ab_parse : pAlt 200 [97, 124, 98] = some (abT, []) := by
  have h : pAlt 40 [97, 124, 98] = some (abT, []) := by rfl
  exact pAlt_more h (by omega)
theorem ab_yes : Lang abT [97] := .inl ⟨[], [97], rfl, rfl, 97, rfl, rfl⟩
theorem ab_pat : patOf [97, 124, 98] = some abT := by
  have r1 : runesOf [97, 124, 98] = [97, 124, 98] := (runes_ascii _ (by decide)).trans rfl
  exact patOf_yes (by rw [r1]; decide) (by rw [r1]; exact ab_parse)
def alL : List Lb := [⟨[104, 111, 115, 116], [97]⟩, ⟨metricB, [99, 112, 117]⟩]
theorem alL_ok : okSer alL := by decide +kernel
def alS : Ser := ⟨alL, [(5, 7)]⟩
def alM : Mt := ⟨[104, 111, 115, 116], 3, [97, 124, 98]⟩
theorem al_put1 : putS [] alL 5 7 = (0, [alS]) := by
  unfold putS
  rw [if_pos ⟨alL_ok, by decide⟩]
  rfl
theorem al_put2 : putS [alS] alL 5 7 = (6, [alS]) := by
  unfold putS
  rw [if_pos ⟨alL_ok, by decide⟩]
  have h : placeS [alS] alL = 0 := by
    unfold placeS
    rw [List.takeWhile_cons_of_neg]
    · rfl
    · show ¬ (decide (cmpLs alL alL < 0) = true)
      rw [cmpLs_refl]
      decide
  rw [h]
  have := putAt_yes (ss := [alS]) (k := 0) (s := alS) (t := 5) (v := 7) rfl
  rw [show alS.l = alL from rfl] at this
  rw [this]
  rw [if_pos (by decide)]
theorem al_okM : okMs [alM] := ⟨fun m hm => by
  rw [List.mem_singleton.1 hm]
  exact ⟨by decide +kernel, by decide, by decide, fun _ => by show (patOf [97, 124, 98]).isSome = true; rw [ab_pat]; rfl⟩, by decide⟩
theorem al_sel {H : T → List Int → Bool} (hH : Holds H) : selS H [alM] [alS] = [alS] := by
  have h1 : holdM H alM alL = true := by
    unfold holdM
    rw [if_neg (by decide), if_neg (by decide)]
    have hp : patOf alM.v = some abT := ab_pat
    rw [hp]
    simp only
    rw [if_pos (show alM.op = 3 from rfl)]
    have r1 : runesOf [97] = [97] := (runes_ascii _ (by decide)).trans rfl
    have e : getL alL alM.n = [97] := by decide +kernel
    rw [e, r1]
    exact holds_yes hH ab_yes
  unfold selS allM
  rw [List.filter_cons]
  simp only [List.all_cons, List.all_nil, Bool.and_true]
  rw [show alS.l = alL from rfl, h1]
  rfl
theorem row_blk {w : World} {b n size : Nat} {cs : List Value} {t : TypeId} {fr : Nat × Nat} (h : w.heap[b]? = some (.cells cs.toArray t fr)) (hl : cs.length = n * size) : Row w (some ⟨b, 0, none⟩) n size cs :=
  ⟨hl, fun j u hj => ⟨b, 0, rfl, lt_of_blk h, by rw [Nat.zero_add]; exact blk_cell h (by simpa using hj)⟩⟩
theorem alL_short : ShortL alL := by
  intro x hx
  simp only [alL, List.mem_cons, List.not_mem_nil, or_false] at hx
  rcases hx with rfl | rfl <;> exact ⟨by decide, by decide⟩
/-- A new store. -/
theorem sto_new {w : World} (base : Nat) : StoAt (w.alloc (.cells #[.slice none 0 0] 31)) base ⟨w.heap.size, none, 0, []⟩ [] :=
  ⟨blk_new w _, rfl, World.ownsRow_nil _ _ _ _, (by intro i h s h1; simp at h1), (by intro i j l m k h1; simp at h1)⟩
theorem new_blks {St k : Nat} (h : BlkS ⟨St, none, 0, []⟩ k) : k = St := by
  rcases h with h | h | ⟨l, hl, _⟩ | ⟨l, hl, _⟩
  · exact h
  · cases h
  · simp at hl
  · simp at hl
set_option maxHeartbeats 16000000 in
set_option maxRecDepth 100000 in
theorem alive_any (w : World) : Calls Tryz.prog 5 #[] w fun e w' => e = .returned (.bool true) ∧ Gr w w' := by
  obtain ⟨H, hH⟩ := holds_ex
  obtain ⟨W1, hW1⟩ : ∃ W1, W1 = w.alloc (.cells #[.slice none 0 0] 31) := ⟨_, rfl⟩
  obtain ⟨W2, hW2⟩ : ∃ W2, W2 = W1.alloc (.cells #[.string ⟨#[104, 111, 115, 116]⟩, .string ⟨#[97]⟩, .string ⟨#[109, 101, 116, 114, 105, 99]⟩, .string ⟨#[99, 112, 117]⟩] 58) := ⟨_, rfl⟩
  have h1 := sto_new (w := w) w.heap.size
  rw [← hW1] at h1
  have e1 : W1.heap.size = w.heap.size + 1 := by rw [hW1]; simp
  have g1 : Gr w W1 := by rw [hW1]; exact gr_alloc _ _ _
  have g2 : Gr W1 W2 := by rw [hW2]; exact gr_alloc _ _ _
  have hz : Row W2 (some ⟨w.heap.size + 1, 0, none⟩) 2 2 (sR lblC alL) := by
    have := blk_new W1 (.cells #[.string ⟨#[104, 111, 115, 116]⟩, .string ⟨#[97]⟩, .string ⟨#[109, 101, 116, 114, 105, 99]⟩, .string ⟨#[99, 112, 117]⟩] 58)
    rw [← hW2, e1] at this
    exact row_blk (cs := sR lblC alL) this rfl
  have h2 := stoAt_gr h1 g2
  have c1 := sput_any w.heap.size ⟨w.heap.size, none, 0, []⟩ [] (some ⟨w.heap.size + 1, 0, none⟩) 2 2 alL 5 7 W2 h2 invS_nil (Nat.le_trans g1.size g2.size) (by decide) (fun e => by cases e) hz alL_short
  rw [al_put1] at c1
  have hinv : InvS [alS] := by
    have := invS_put invS_nil alL 5 7
    rw [al_put1] at this
    exact this
  have G2 := gr_trans g1 g2
  replace hz := Lib.hid hz
  replace c1 := Lib.hid c1
  replace hW1 := Lib.hid hW1
  replace hW2 := Lib.hid hW2
  replace G2 := Lib.hid G2
  replace hinv := Lib.hid hinv
  clear h1 h2 g1 g2
  go_enter Tryz.func5, Tryz.ntmps5
  go_upto_region 3 with fail
  rw [← hW1.out, ← hW2.out]
  clear hW1 hW2
  go_wp2_with fail
  refine c1.out.mono ?_
  rintro e w3 ⟨rfl, m1, em1, h3, g3, n3⟩
  simp only at em1
  have hz3 : Row w3 (some ⟨w.heap.size + 1, 0, none⟩) 2 2 (sR lblC alL) := row_grs hz.out g3 (fun a ha hb => by
    have := new_blks hb
    have e := Option.some.inj ha
    subst e
    simp at this)
  have Bl3 : Below w.heap.size W2 w3 := below_grs (Below.refl _ _) g3 G2.out.size (fun k hk => by rw [new_blks hk]; exact Nat.le_refl _)
  have hs3 : w.heap.size ≤ w3.heap.size := Nat.le_trans G2.out.size Bl3.size
  have hb3 : ∀ k, BlkS m1 k → w.heap.size ≤ k := fun k hk => by
    rcases n3 k hk with q | q
    · rw [new_blks q]; exact Nat.le_refl _
    · exact Nat.le_trans G2.out.size q
  have c2 := sput_any w.heap.size m1 [alS] (some ⟨w.heap.size + 1, 0, none⟩) 2 2 alL 5 7 w3 h3 hinv.out hs3 (by decide) (fun e => by cases e) hz3 alL_short
  rw [al_put2, em1] at c2
  replace c2 := Lib.hid c2
  replace hb3 := Lib.hid hb3
  replace Bl3 := Lib.hid Bl3
  clear hz hz3 h3 g3 n3 c1
  go_wp2_with fail
  refine c2.out.mono ?_
  rintro e w4 ⟨rfl, m2, em2, h4, g4, n4⟩
  have Bl4 : Below w.heap.size w3 w4 := below_grs (Below.refl _ _) g4 hs3 hb3.out
  rw [em1] at em2
  obtain ⟨W5, hW5⟩ : ∃ W5, W5 = w4.alloc (.cells #[.string ⟨#[104, 111, 115, 116]⟩, .int .i64 3, .string ⟨#[97, 124, 98]⟩] 27) := ⟨_, rfl⟩
  have g5 : Gr w4 W5 := by rw [hW5]; exact gr_alloc _ _ _
  have h5 := stoAt_gr h4 g5
  have hr5 : Row W5 (some ⟨w4.heap.size, 0, none⟩) 1 3 (sR mtC [alM]) := by
    have := blk_new w4 (.cells #[.string ⟨#[104, 111, 115, 116]⟩, .int .i64 3, .string ⟨#[97, 124, 98]⟩] 27)
    rw [← hW5] at this
    exact row_blk (cs := sR mtC [alM]) this rfl
  have cS := select_any H hH w.heap.size m2 [alS] (some ⟨w4.heap.size, 0, none⟩) 1 1 [alM] W5 h5 hinv.out (by decide) hr5 (fun m hm => by rw [List.mem_singleton.1 hm]; exact ⟨by decide, by decide⟩)
  unfold SelPost at cS
  rw [al_sel hH, em2] at cS
  have cP := fun W (g : Gr W5 W) => spoints_any w.heap.size m2 [alS] W (stoAt_gr h5 g) hinv.out
  rw [em2, show sumP [alS] = 1 from rfl] at cP
  have Bl5 := (Bl3.out.trans Bl4).grown g5 (Nat.le_trans hs3 Bl4.size) (by simp)
  replace cS := Lib.hid cS
  replace cP := Lib.hid cP
  replace Bl5 := Lib.hid Bl5
  clear c2 h4 g4 n4 h5 hr5 Bl4 Bl3 hb3 hinv
  go_wp2_with fail
  rw [← hW5]
  clear hW5
  refine cS.out.mono ?_
  rintro e w6 ⟨g6, ⟨hoks, A, c, hs, rfl, hF⟩ | ⟨hno, rfl⟩⟩
  · obtain ⟨x, s, B, o, hx, hsx, rfl, d0, d1, hrd, hxl, hxp⟩ := sersOf_at (sersIn_rd hF) (show 0 < [alS].length by decide)
    obtain rfl : alS = s := by simpa using hsx
    have hpn : x.pn = 1 := hxp.symm
    obtain ⟨Bp, op, hpa, _, dp, dv⟩ := pt_cell (zs := alS.p) (n := x.pn) (A := x.pa) hrd.2 (k := 0) (by omega)
    rw [hpa, hpn] at d1
    have dv7 : w6.cell? ⟨Bp, op + 0 * 2 + 1, none⟩ = some (.int .i64 7) := dv
    simp only [Nat.zero_mul, Nat.add_zero] at d0 d1 dv7
    have e7 : [alS].length = 1 := rfl
    simp only [e7]
    replace hpa := Lib.hid hpa
    replace hpn := Lib.hid hpn
    replace g6 := Lib.hid g6
    clear dp dv hx hsx hrd hxl hxp hF cS e7
    go_wp2_with fail
    refine (cP.out _ g6.out).mono ?_
    rintro e w7 ⟨rfl, g7⟩
    have Bl7 := (Bl5.out.grown g6.out (by have := Bl5.out.size; have := G2.out.size; omega) (by simp)).grown g7 (by have := Bl5.out.size; have := G2.out.size; have := g6.out.size; omega) (by simp)
    have Gf : Gr w w7 := gr_of_below ((gr_below G2.out).trans Bl7) (Nat.le_refl _)
    replace Gf := Lib.hid Gf
    go_wp2
    go_ret
    exact ⟨rfl, Gf.out⟩
  · exact absurd al_okM hno
end Go.Proofs.YtccmekdmnkmhlaaGreat
namespace Go.Proofs.YtccmekdmnkmhlaaGreat
open Go.RowKit

/-- A store all of whose blocks are young. -/
structure StoHas (w : World) (base : Nat) (m : StoM) (ss : List Ser) : Prop where
  sat : StoAt w base m ss
  inv : InvS ss
  low : ∀ k, BlkS m k → base ≤ k
  hb : base ≤ w.heap.size
theorem stoHas_gr {w w' : World} {base : Nat} {m : StoM} {ss : List Ser} (h : StoHas w base m ss) (g : Gr w w') : StoHas w' base m ss := ⟨stoAt_gr h.sat g, h.inv, h.low, Nat.le_trans h.hb g.size⟩
theorem stoHas_new (w : World) : StoHas (w.alloc (.cells #[.slice none 0 0] 31)) w.heap.size ⟨w.heap.size, none, 0, []⟩ [] := ⟨sto_new _, invS_nil, fun k hk => by rw [new_blks hk]; exact Nat.le_refl _, by simp⟩
theorem put_in {w : World} {base : Nat} {m : StoM} {ss : List Ser} {A : Option Addr} {n c : Nat} {zs : List Lb} (t v : Int) (h : StoHas w base m ss) (hn : n ≤ 1000000000) (hA : A = none → n = 0 ∧ c = 0) (hz : Row w A n 2 (sR lblC zs)) (hsh : ShortL zs) :
    Calls Tryz.prog 7 #[.pointer (some ⟨m.St, 0, none⟩), .slice A n c, .int .i64 t, .int .i64 v] w fun e w' => e = .returned (.int .i64 (putS ss zs t v).1) ∧ (∃ m', m'.St = m.St ∧ StoHas w' base m' (putS ss zs t v).2 ∧ GrS (BlkS m) w w' ∧ ∀ k, BlkS m' k → BlkS m k ∨ w.heap.size ≤ k) ∧ Below base w w' := by
  refine (sput_any base m ss A n c zs t v w h.sat h.inv h.hb hn hA hz hsh).mono ?_
  rintro e w' ⟨rfl, m', hm', hs', g, hnew⟩
  have B : Below base w w' := below_grs (Below.refl _ _) g h.hb h.low
  refine ⟨rfl, ⟨m', hm', ⟨hs', invS_put h.inv zs t v, fun k hk => ?_, Nat.le_trans h.hb B.size⟩, g, hnew⟩, B⟩
  rcases hnew k hk with q | q
  · exact h.low k q
  · exact Nat.le_trans h.hb q
/-- Labels that lie ahead of the base are what they were. -/
theorem row_low {w w' : World} {base : Nat} {A : Option Addr} {n size : Nat} {xs : List Value} (h : Row w A n size xs) (g : Below base w w') (hA : ∀ a, A = some a → a.block < base) : Row w' A n size xs := by
  refine ⟨h.1, fun j u hj => ?_⟩
  obtain ⟨B, o, e, hb, hc⟩ := h.2 j u hj
  exact ⟨B, o, e, Nat.lt_of_lt_of_le hb g.size, (g.cell (p := ⟨B, o + j, none⟩) (hA ⟨B, o, none⟩ e)).trans hc⟩
end Go.Proofs.YtccmekdmnkmhlaaGreat
