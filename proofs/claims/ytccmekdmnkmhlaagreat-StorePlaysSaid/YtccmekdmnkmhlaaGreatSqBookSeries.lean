/-
  The book's lists of kind Series (several cells an element): the marks, whether all is as it was, marks put, lists grown, looked at. No condition but bounds. (soft)
-/
import Derived.Test.YtccmekdmnkmhlaaGreatProg
import Derived.Test.YtccmekdmnkmhlaaGreatBookRow
import Derived.Deep.MidRow
import Derived.Test.YtccmekdmnkmhlaaGreatAppendRow
import Derived.Deep.RegionLaw
import Derived.Test.YtccmekdmnkmhlaaGreatAJX
import Derived.Test.YtccmekdmnkmhlaaGreatALX
namespace Go.Proofs.YtccmekdmnkmhlaaGreat.BkZ
open Go.RowKit

def bkC (x : SHd) : List Value := shC x
theorem bkC_len (x : SHd) : (bkC x).length = 2 := rfl
def bkR (zs : List SHd) : List Value := sR bkC zs
theorem bkR_len (zs : List SHd) : (bkR zs).length = zs.length * 2 := sR_len bkC 2 bkC_len zs
theorem bkR_append (a b : List SHd) : bkR (a ++ b) = bkR a ++ bkR b := sR_append bkC a b
theorem bkR_take (a : List SHd) (k : Nat) : bkR (a.take k) = (bkR a).take (k * 2) := sR_take bkC 2 bkC_len a k
theorem bkC_ones (x : SHd) : ∀ u ∈ bkC x, u.oneCell' = true := by
  intro u hu
  simp only [bkC, shC, List.mem_cons, List.not_mem_nil, or_false] at hu
  rcases hu with rfl | rfl <;> rfl
theorem bkR_ones (l : List SHd) : ∀ u ∈ bkR l, u.oneCell' = true := by
  intro u hu
  obtain ⟨x, _, hx⟩ := List.mem_flatMap.1 hu
  exact bkC_ones x u hx
/-- A mark's time. -/
def tM (i k : Nat) : Int := -1000 * (i : Int) - (k : Int) - 1
/-- A mark: a series of one point, which has a block of its own. -/
def IsMk (w : World) (T : Int) (x : SHd) : Prop := ∃ b, x = ⟨none, 0, 0, some ⟨b, 0, none⟩, 1, 1⟩ ∧ w.heap[b]? = some (.cells #[.int .i64 T, .int .i64 0] 75 (0, 0))
/-- The marks of list i, from fr on, n of them. -/
def Mks (w : World) (i fr n : Nat) (zs : List SHd) : Prop := zs.length = n ∧ ∀ (j : Nat) x, zs[j]? = some x → IsMk w (tM i (fr + j)) x
def mser (i fr n : Nat) : List Ser := (List.range n).map fun j => ⟨[], [(tM i (fr + j), 0)]⟩
theorem mks_nil (w : World) (i fr : Nat) : Mks w i fr 0 [] := ⟨rfl, fun j x h => by simp at h⟩
theorem mks_append {w : World} {i fr n m : Nat} {zs ys : List SHd} (h : Mks w i fr n zs) (k : Mks w i (fr + n) m ys) : Mks w i fr (n + m) (zs ++ ys) := by
  refine ⟨by rw [List.length_append, h.1, k.1], fun j x hj => ?_⟩
  by_cases hl : j < n
  · rw [List.getElem?_append_left (by rw [h.1]; exact hl)] at hj
    exact h.2 j x hj
  · rw [List.getElem?_append_right (by rw [h.1]; omega), h.1] at hj
    have := k.2 _ x hj
    rwa [show fr + n + (j - n) = fr + j by omega] at this
theorem mks_one {w : World} {i k : Nat} {x : SHd} (h : IsMk w (tM i k) x) : Mks w i k 1 [x] := ⟨rfl, fun j y hj => by
  obtain rfl : j = 0 := by have := (List.getElem?_eq_some_iff.1 hj).1; simpa using this
  obtain rfl : x = y := by simpa using hj
  exact h⟩
theorem mks_take {w : World} {i fr n k : Nat} {zs : List SHd} (h : Mks w i fr n zs) (hk : k ≤ n) : Mks w i fr k (zs.take k) := by
  refine ⟨by rw [List.length_take, h.1]; omega, fun j x hj => ?_⟩
  rw [List.getElem?_take] at hj
  split at hj
  · exact h.2 j x hj
  · cases hj
theorem mks_keep {w w' : World} {i fr n : Nat} {zs : List SHd} (h : Mks w i fr n zs) (hk : ∀ (b : Nat) (cs : Array Value), w.heap[b]? = some (.cells cs 75 (0, 0)) → w'.heap[b]? = some (.cells cs 75 (0, 0))) : Mks w' i fr n zs :=
  ⟨h.1, fun j x hj => by obtain ⟨b, e, hb⟩ := h.2 j x hj; exact ⟨b, e, hk b _ hb⟩⟩
theorem mks_gr {w w' : World} {i fr n : Nat} {zs : List SHd} (h : Mks w i fr n zs) (g : Gr w w') : Mks w' i fr n zs := mks_keep h fun _ _ hb => gr_blk g hb (by simp)
theorem mks_own {w w' : World} {i fr n base size m : Nat} {e : TypeId} {u : Value} {xs : List Value} {zs : List SHd} (h : Mks w i fr n zs) (ho : w.ownsRow base e size u m xs) (he : e ≠ 75) (g : w.grownBy w' u.ownBlock) : Mks w' i fr n zs :=
  mks_keep h fun b cs hb => gr_blk g hb fun q => by
    rcases own_ne_blk ho hb he with k | k
    · rw [k] at q; cases q
    · exact k q.symm
theorem mks_hat {w w' : World} {i fr n base size m g : Nat} {e : TypeId} {u : Value} {xs : List Value} {zs : List SHd} {p : Prop} (h : Mks w i fr n zs) (ho : w.ownsRow base e size u m xs) (he : e ≠ 75) (hat : (u.ownBlock = some g ∧ w.grownBy w' (some g)) ∨ (p ∧ Gr w w')) : Mks w' i fr n zs := by
  rcases hat with ⟨q, hg⟩ | ⟨_, hg⟩
  · exact mks_own h ho he (by rw [q]; exact hg)
  · exact mks_gr h hg
theorem mks_grs {S : Nat → Prop} {w w' : World} {i fr n : Nat} {zs : List SHd} (h : Mks w i fr n zs) (g : GrS S w w') (hS : ∀ k, S k → ∃ (base size m : Nat) (e : TypeId) (u : Value) (xs : List Value), e ≠ 75 ∧ w.ownsRow base e size u m xs ∧ u.ownBlock = some k) : Mks w' i fr n zs :=
  mks_keep h fun b cs hb => grs_blk g hb fun q => by
    obtain ⟨_, _, _, e, u, _, he, ho, hu⟩ := hS b q
    rcases own_ne_blk ho hb he with k | k
    · rw [hu] at k; cases k
    · exact k hu
theorem mks_ser {w : World} {i fr n : Nat} {zs : List SHd} {A : Option Addr} (h : Mks w i fr n zs) (hr : Row w A n 2 (bkR zs)) : SersOf w A n zs (mser i fr n) := by
  refine ⟨by simp [mser], h.1, hr, fun j x s hx hs => ?_⟩
  obtain ⟨b, rfl, hb⟩ := h.2 j x hx
  have hj : j < n := by have := (List.getElem?_eq_some_iff.1 hx).1; rw [h.1] at this; exact this
  unfold mser at hs
  rw [List.getElem?_map, List.getElem?_range hj, Option.map_some] at hs
  obtain rfl := Option.some.inj hs
  refine ⟨row_nil _ _ _, rfl, fun q u hq => ⟨b, 0, rfl, lt_of_blk hb, ?_⟩⟩
  unfold World.cell?
  rw [hb]
  have : q = 0 ∨ q = 1 := by have := (List.getElem?_eq_some_iff.1 hq).1; simp [sR, pc] at this; omega
  rcases this with rfl | rfl
  · simpa [sR, pc] using hq
  · simpa [sR, pc] using hq
theorem mser_small (i fr n : Nat) : ∀ s ∈ mser i fr n, s.l.length ≤ 1000000 ∧ s.p.length ≤ 1000000 := by
  intro s hs
  unfold mser at hs
  obtain ⟨j, _, rfl⟩ := List.mem_map.1 hs
  exact ⟨by simp, by simp⟩
def MkO (w : World) (base : Nat) (v : Value) (i fr n : Nat) : Prop := ∃ zs, Mks w i fr n zs ∧ w.ownsRow base 73 2 v n (bkR zs)
def MkR (w : World) (A : Option Addr) (i fr n : Nat) : Prop := ∃ zs, Mks w i fr n zs ∧ Row w A n 2 (bkR zs)
theorem mkR_gr {w w' : World} {A : Option Addr} {i fr n : Nat} (h : MkR w A i fr n) (g : Gr w w') : MkR w' A i fr n := by obtain ⟨zs, h1, h2⟩ := h; exact ⟨zs, mks_gr h1 g, row_gr h2 g⟩
theorem mkO_row {w : World} {base i fr n c : Nat} {A : Option Addr} (h : MkO w base (.slice A n c) i fr n) : MkR w A i fr n := by obtain ⟨zs, h1, h2⟩ := h; exact ⟨zs, h1, row_own h2⟩
theorem mkO_keep {w w' : World} {base b2 size i fr n m : Nat} {e : TypeId} {v u : Value} {xs : List Value} (h : MkO w base v i fr n) (ho : w.ownsRow b2 e size u m xs) (he : e ≠ 75) (g : w.grownBy w' u.ownBlock) (hne : v.ownBlock = none ∨ v.ownBlock ≠ u.ownBlock) : MkO w' base v i fr n := by
  obtain ⟨zs, h1, h2⟩ := h
  exact ⟨zs, mks_own h1 ho he g, h2.kept g hne⟩
theorem mkO_gr {w w' : World} {base i fr n : Nat} {v : Value} (h : MkO w base v i fr n) (g : Gr w w') : MkO w' base v i fr n := by obtain ⟨zs, h1, h2⟩ := h; exact ⟨zs, mks_gr h1 g, h2.kept g (by cases v.ownBlock <;> simp)⟩
theorem mkO_lt {w : World} {base i fr n : Nat} {v : Value} (h : MkO w base v i fr n) {k : Nat} (hk : v.ownBlock = some k) : k < w.heap.size := by obtain ⟨zs, _, h2⟩ := h; exact (h2.lt k hk).2
theorem infoE : (Tryz.prog.info? 73).map (fun i => (i.zero, i.size, i.bytes)) = some (some (.agg #[.slice none 0 0, .slice none 0 0]), 2, 48) := by kernel_rfl
theorem infoS : (Tryz.prog.info? 73).map (·.size) = some 2 := by kernel_rfl
theorem infoL : (Tryz.prog.info? 29).map (fun i => (i.zero, i.size, i.bytes)) = some (some (.slice none 0 0), 1, 24) := by kernel_rfl

/-! ### marks -/
def MarkPost (i fr n : Nat) (w : World) (e : Ending) (w' : World) : Prop := ∃ v zs, e = .returned v ∧ Mks w' i fr n zs ∧ w'.ownsRow w.heap.size 73 2 v n (bkR zs) ∧ Gr w w'
set_option maxHeartbeats 2000000 in
set_option maxRecDepth 100000 in
theorem mark_any (i fr n : Nat) (w : World) (hi : i < 1000) (hf : fr + n ≤ 150000) : Calls Tryz.prog 107 #[.int .i64 i, .int .i64 fr, .int .i64 n] w (MarkPost i fr n w) := by
  obtain ⟨ii, hii, hz0, hz1, hz2⟩ := info_parts infoE
  go_enter Tryz.func107, Tryz.ntmps107
  go_wp2
  go_loopw [7, 8] (fun ov iv wr => ∃ (t q : Nat) (zs : List SHd), t ≤ n ∧ q = fr + t ∧ iv = .int .i64 q ∧ Hid (Mks wr i fr t zs) ∧ Hid (wr.ownsRow w.heap.size 73 2 ov t (bkR zs)) ∧ Hid (Below w.heap.size w wr)) (fun _ iv _ => fr + n - (intOf iv).toNat)
  case atStart => exact ⟨0, fr, [], Nat.zero_le _, rfl, rfl, mks_nil _ _ _, World.ownsRow_nil _ _ _ _, Below.refl _ _⟩
  case round =>
    obtain ⟨t, q, zs, ht, hq, rfl, hmk, hown, hbel⟩ := hrel
    by_cases hlt : t < n
    · have hqi : (q : Int) < (fr : Int) + (n : Int) := by omega
      have hqb : q < 150000 := by omega
      obtain ⟨X, hX0⟩ : ∃ X : Int, X = -1000 * (i : Int) - (q : Int) - 1 := ⟨_, rfl⟩
      have hX : X = tM i (fr + t) := by rw [hX0, ← hq]; rfl
      replace hX := Lib.hid hX
      replace hq := Lib.hid hq
      have hs1 := hbel.out.size
      have g2 := gr_alloc wr (.cells #[.int .i64 X, .int .i64 0] 75) none
      have hb2 := blk_new wr (.cells #[.int .i64 X, .int .i64 0] 75)
      have e2 : (wr.alloc (.cells #[.int .i64 X, .int .i64 0] 75)).heap.size = wr.heap.size + 1 := by simp
      have hown2 := hown.out.alloc (.cells #[.int .i64 X, .int .i64 0] 75)
      have hbel2 := below_gr hbel.out g2 hs1 (by simp)
      replace g2 := Lib.hid g2
      replace hb2 := Lib.hid hb2
      replace hown2 := Lib.hid hown2
      replace hbel2 := Lib.hid hbel2
      replace e2 := Lib.hid e2
      go_wp2_with (at_builtin; rw [← hX0]; refine wpList_append_own _ rfl _ _ 29 rfl w.heap.size 73 ii (.agg #[.slice none 0 0, .slice none 0 0]) 2 48 Tryz.underlying29 hii hz0 hz1 hz2 rfl (by decide) u7 _ _ rfl (hown2.out.alloc _) ⟨_, 0, none⟩ 1 1 [.slice none 0 0, .slice (some ⟨wr.heap.size, 0, none⟩) 1 1] rfl rfl ?c1 ?c2 ?c3 ?c4 ?c5 ?_; rotate_right; intro v' W4 hown4 hgrow _nl; clear _nl; have hb4 := hbel2.out.trans (below_append hown2.out hgrow hbel2.out.size); replace hgrow := Lib.hid hgrow; replace hown4 := Lib.hid hown4; replace hb4 := Lib.hid hb4)
      case c1 =>
        intro j u hj
        have hjl := (List.getElem?_eq_some_iff.1 hj).1
        simp only [List.length_cons, List.length_nil] at hjl
        rw [add_plain, Nat.zero_add, ← e2.out, World.cell?_alloc_new]
        simpa using hj
      case c2 => intro u hu; simp only [List.mem_cons, List.not_mem_nil, or_false] at hu; rcases hu with rfl | rfl <;> rfl
      case c3 => unfold maxLen; omega
      case c4 => omega
      case c5 => have := e2.out; simp; omega
      have hnew : Mks W4 i fr (t + 1) (zs ++ [⟨none, 0, 0, some ⟨wr.heap.size, 0, none⟩, 1, 1⟩]) := by
        refine mks_own (mks_append (mks_gr (mks_gr hmk.out g2.out) (gr_alloc _ _ none)) (mks_gr (mks_one ⟨wr.heap.size, rfl, ?_⟩) (gr_alloc _ _ none))) (hown2.out.alloc _) (by decide) hgrow.out
        rw [← hX.out]
        exact hb2.out
      replace hnew := Lib.hid hnew
      clear hgrow
      go_roundw
      case rel => exact ⟨t + 1, q + 1, _, by omega, by have := hq.out; omega, by go_num, hnew, by rw [bkR_append]; exact hown4, hb4⟩
      case measure => have := hq.out; simp [intOf]; omega
    · have hqi : ((q : Int) < (fr : Int) + (n : Int)) = False := by simp; omega
      obtain rfl : t = n := by omega
      replace hq := Lib.hid hq
      have ho := hown.out
      replace ho := Lib.hid ho
      go_wp2
      go_ret
      exact ⟨_, zs, rfl, hmk.out, ho.out, gr_of_below hbel.out (Nat.le_refl _)⟩
theorem mark_row (i fr n : Nat) (w : World) (hi : i < 1000) (hf : fr + n ≤ 150000) : Calls Tryz.prog 107 #[.int .i64 i, .int .i64 fr, .int .i64 n] w fun e w' => ∃ A c, e = .returned (.slice A n c) ∧ MkR w' A i fr n ∧ Gr w w' :=
  (mark_any i fr n w hi hf).mono (by
    rintro e w' ⟨v, zs, rfl, hz, hown, g⟩
    obtain ⟨A, c, rfl, _, _⟩ := own_openS hown
    exact ⟨A, c, rfl, ⟨zs, hz, row_own hown⟩, g⟩)
theorem same_marks (A B : Option Addr) (n ca cb i : Nat) (w : World) (hn : n ≤ 200000) (hx : MkR w A i 0 n) (hy : MkR w B i 0 n) :
    Calls Tryz.prog 14 #[.slice A n ca, .slice B n cb] w fun e w' => e = .returned (.bool true) ∧ Gr w w' := by
  obtain ⟨zs, h1, h2⟩ := hx
  obtain ⟨ys, h3, h4⟩ := hy
  exact sameSer_yes A B n ca cb zs ys _ w (by omega) (mks_ser h1 h2) (mks_ser h3 h4) (mser_small _ _ _)
/-- Two lists of series that are alike. -/
def SerPair (w : World) (A B : Option Addr) (n : Nat) : Prop := ∃ hs ks ss, SersOf w A n hs ss ∧ SersOf w B n ks ss ∧ ∀ s ∈ ss, s.l.length ≤ 1000000 ∧ s.p.length ≤ 1000000
theorem serPair_gr {w w' : World} {A B : Option Addr} {n : Nat} (h : SerPair w A B n) (g : Gr w w') : SerPair w' A B n := by
  obtain ⟨hs, ks, ss, h1, h2, h3⟩ := h
  exact ⟨hs, ks, ss, sersOf_gr h1 g, sersOf_gr h2 g, h3⟩
theorem pair_yes (A B : Option Addr) (n ca cb : Nat) (w : World) (hn : n ≤ 200000) (h : SerPair w A B n) : Calls Tryz.prog 14 #[.slice A n ca, .slice B n cb] w fun e w' => e = .returned (.bool true) ∧ Gr w w' := by
  obtain ⟨hs, ks, ss, h1, h2, h3⟩ := h
  exact sameSer_yes A B n ca cb hs ks ss w (by omega) h1 h2 h3

/-! ### Is all as it was? -/
set_option maxHeartbeats 2000000 in
set_option maxRecDepth 100000 in
theorem still_any (K : Nat) (T V : Lst) (ls cs : List Lst) (w : World) (hk : ls.length ≤ 250) (hT : T.n = ls.length) (hV : V.n = ls.length) (hcs : cs.length = ls.length)
    (c0 : w.cell? ⟨K, 18, none⟩ = some T.v) (c1 : w.cell? ⟨K, 19, none⟩ = some V.v) (hrT : Row w T.A ls.length 1 (ls.map Lst.v)) (hrV : Row w V.A ls.length 1 (cs.map Lst.v))
    (hp : ∀ (i : Nat) (l c : Lst), ls[i]? = some l → cs[i]? = some c → c.n = l.n ∧ l.n ≤ 100000 ∧ SerPair w l.A c.A l.n) :
    Calls Tryz.prog 52 #[.pointer (some ⟨K, 0, none⟩)] w fun e w' => e = .returned (.bool true) ∧ Gr w w' := by
  obtain ⟨TA, Tn, Tc⟩ := T
  obtain ⟨VA, Vn, Vc⟩ := V
  simp only at hT hV c0 c1 hrT hrV
  subst hT hV
  generalize hN : ls.length = N at *
  replace hN := Lib.hid hN
  replace hcs := Lib.hid hcs
  replace hrT := Lib.hid hrT
  replace hrV := Lib.hid hrV
  replace hp := Lib.hid hp
  simp only [Lst.v] at c0 c1
  go_enter Tryz.func52, Tryz.ntmps52
  go_wp2
  go_loopw [3] (fun i wr => ∃ k : Nat, k ≤ N ∧ i = .int .i64 k ∧ Hid (Gr w wr)) (fun i _ => N - (intOf i).toNat)
  case atStart => exact ⟨0, Nat.zero_le _, rfl, gr_refl _ _⟩
  case round =>
    obtain ⟨k, hk2, rfl, hg⟩ := hrel
    have d0 := gr_cell hg.out c0
    have d1 := gr_cell hg.out c1
    clear c0 c1
    by_cases hlt : k < N
    · obtain ⟨⟨lA, ln, lc⟩, B, o, hl, rfl, hcl⟩ := row_elem hrT.out hlt
      obtain ⟨⟨cA, cn, cc⟩, B2, o2, hc, rfl, hcc⟩ := row_elem hrV.out hlt
      obtain ⟨e1, e2, hr1⟩ := hp.out k _ _ hl hc
      simp only at e1 e2 hr1
      subst e1
      have hcl' := gr_cell hg.out hcl
      have hcc' := gr_cell hg.out hcc
      simp only [Lst.v] at hcl' hcc'
      have hs := pair_yes lA cA cn lc cc wr.drew (by omega) (serPair_gr (serPair_gr hr1 hg.out) (gr_drew _ _))
      have hki : (k : Int) < (N : Int) := by omega
      have hk0 : (0 : Int) ≤ (k : Int) := by omega
      clear hcl hcc hr1 hl hc
      replace hs := Lib.hid hs
      have s4 : ∀ w', Gr wr w' → (Gr wr w' ∧ w'.cell? ⟨K, 18, none⟩ = some (.slice (some ⟨B, o, none⟩) N Tc) ∧ w'.cell? ⟨K, 19, none⟩ = some (.slice (some ⟨B2, o2, none⟩) N Vc) ∧ w'.cell? ⟨B, o + k, none⟩ = some (.slice lA cn lc) ∧ w'.cell? ⟨B2, o2 + k, none⟩ = some (.slice cA cn cc)) := fun w' g => ⟨g, gr_cell g d0, gr_cell g d1, gr_cell g hcl', gr_cell g hcc'⟩
      replace s4 := Lib.hid s4
      go_wp2_with fail
      go_region_held3 (fun w' => Gr wr w' ∧ w'.cell? ⟨K, 18, none⟩ = some (.slice (some ⟨B, o, none⟩) N Tc) ∧ w'.cell? ⟨K, 19, none⟩ = some (.slice (some ⟨B2, o2, none⟩) N Vc) ∧ w'.cell? ⟨B, o + k, none⟩ = some (.slice lA cn lc) ∧ w'.cell? ⟨B2, o2 + k, none⟩ = some (.slice cA cn cc)) (first | assumption | exact s4.out _ (gr_drew _ _) | exact s4.out _ (gr_trans (gr_drew _ _) hg4)) (first | (go_at_call 14; refine hs.out.mono ?_; rintro e w' ⟨rfl, hg4⟩))
      go_wp2
      go_roundw
      case rel => exact ⟨k + 1, by omega, by go_num, gr_trans hg.out (gr_trans (gr_drew _ _) hg4)⟩
      case measure => simp [intOf]; omega
    · obtain rfl : k = N := by omega
      go_wp2
      go_ret
      exact ⟨rfl, hg.out⟩

/-! ### Marks are put -/
def PutInv (w : World) (ls : List Lst) (i k : Nat) (wr : World) : Prop :=
  GrS (InL ls) w wr ∧ ∀ (j : Nat) (l : Lst), ls[j]? = some l → ∃ zs : List SHd, wr.ownsRow 0 73 2 l.v l.n (bkR zs) ∧ (j < i → Mks wr j 0 l.n zs) ∧ (j = i → Mks wr j 0 k (zs.take k))
theorem put_start {w : World} {ls : List Lst} (h : ∀ (j : Nat) (l : Lst), ls[j]? = some l → ∃ zs : List SHd, w.ownsRow 0 73 2 l.v l.n (bkR zs)) : PutInv w ls 0 0 w :=
  ⟨grs_refl _ _, fun j l hl => by obtain ⟨zs, hz⟩ := h j l hl; exact ⟨zs, hz, fun h => by omega, fun _ => by rw [List.take_zero]; exact mks_nil _ _ _⟩⟩
theorem put_gr {w wr w2 : World} {ls : List Lst} {i k : Nat} (h : PutInv w ls i k wr) (g : Gr wr w2) : PutInv w ls i k w2 :=
  ⟨grs_trans h.1 (grs_gr _ g), fun j l hl => by
    obtain ⟨zs, hz, h1, h2⟩ := h.2 j l hl
    exact ⟨zs, hz.kept g (by cases l.v.ownBlock <;> simp), fun q => mks_gr (h1 q) g, fun q => mks_gr (h2 q) g⟩⟩
theorem put_blk {w wr : World} {ls : List Lst} {i k : Nat} (h : PutInv w ls i k wr) : ∀ b, InL ls b → ∃ (base size m : Nat) (e : TypeId) (u : Value) (xs : List Value), e ≠ 75 ∧ wr.ownsRow base e size u m xs ∧ u.ownBlock = some b := by
  rintro b ⟨l, hm, hb⟩
  obtain ⟨j, hj⟩ := List.getElem?_of_mem hm
  obtain ⟨zs, hz, _⟩ := h.2 j l hj
  exact ⟨_, _, _, _, _, _, by decide, hz, hb⟩
theorem put_step {w wr : World} {ls : List Lst} {i k : Nat} {l : Lst} (h : PutInv w ls i k wr) (hp : Parted ls) (hl : ls[i]? = some l) (hk : k < l.n) {x : SHd} (hx : IsMk wr (tM i k) x) :
    ∃ g, l.A = some ⟨g, 0, none⟩ ∧ (∀ j, wr.frozen? ⟨g, j, none⟩ = false) ∧ (∀ j, j < 2 → (wr.cell? ⟨g, k * 2 + j, none⟩).isSome = true) ∧ PutInv w ls i (k + 1) (wr.setCells g (k * 2) (bkC x)) := by
  obtain ⟨zs, hz, h1, h2⟩ := h.2 i l hl
  obtain ⟨g, hA, hf, hlt, hc, hset⟩ := own_setS bkC_len hz (by decide) hk x
  have hlen : zs.length = l.n := by have := hz.1; rw [bkR_len] at this; omega
  have hb : l.v.ownBlock = some g := own_blk hA
  have gS : wr.grownBy (wr.setCells g (k * 2) (bkC x)) l.v.ownBlock := by rw [hb]; exact gr_setCells _ _ _ _
  refine ⟨g, hA, hf, hc, ?_, ?_⟩
  · exact grs_then h.1 (gr_setCells _ _ _ _) (fun k' hk' _ => by cases hk'; exact in_of hl hb)
  · intro j l' hl'
    by_cases hji : j = i
    · subst hji
      obtain rfl : l' = l := by rw [hl] at hl'; exact (Option.some.inj hl').symm
      refine ⟨zs.set k x, hset, fun h => by omega, fun _ => ?_⟩
      have h3 := mks_own (h2 rfl) hz (by decide) gS
      have h4 : (zs.set k x).take (k + 1) = zs.take k ++ [x] := by
        rw [List.take_succ_eq_append_getElem (by simp; omega)]
        simp [List.take_set_of_le]
      rw [h4]
      have hx2 : Mks wr j (0 + k) 1 [x] := by rw [Nat.zero_add]; exact mks_one hx
      exact mks_append h3 (mks_own hx2 hz (by decide) gS)
    · obtain ⟨zs', hz', h1', h2'⟩ := h.2 j l' hl'
      exact ⟨zs', own_other hp hl hl' (fun e => hji e.symm) hz' gS, fun q => mks_own (h1' q) hz (by decide) gS, fun h => absurd h hji⟩
theorem put_next {w wr : World} {ls : List Lst} {i : Nat} {l : Lst} (h : PutInv w ls i l.n wr) (hl : ls[i]? = some l) : PutInv w ls (i + 1) 0 wr :=
  ⟨h.1, fun j l' hl' => by
    obtain ⟨zs, hz, h1, h2⟩ := h.2 j l' hl'
    refine ⟨zs, hz, fun hj => ?_, fun _ => by rw [List.take_zero]; exact mks_nil _ _ _⟩
    rcases Nat.lt_or_ge j i with hji | hji
    · exact h1 hji
    · obtain rfl : j = i := by omega
      obtain rfl : l' = l := by rw [hl] at hl'; exact (Option.some.inj hl').symm
      have h3 := h2 rfl
      have hlen : zs.length = l'.n := by have := hz.1; rw [bkR_len] at this; omega
      rwa [List.take_of_length_le (by omega)] at h3⟩
def PutPost (ls : List Lst) (w : World) (e : Ending) (w' : World) : Prop :=
  e = .returned (.tuple #[]) ∧ GrS (InL ls) w w' ∧ ∀ (j : Nat) (l : Lst), ls[j]? = some l → MkO w' 0 l.v j 0 l.n
set_option maxHeartbeats 4000000 in
set_option maxRecDepth 100000 in
theorem put_any (K : Nat) (T : Lst) (ls : List Lst) (w : World) (hk : ls.length ≤ 250) (hT : T.n = ls.length)
    (c0 : w.cell? ⟨K, 18, none⟩ = some T.v) (hrT : Row w T.A ls.length 1 (ls.map Lst.v)) (hKn : ¬ InL ls K) (hTn : ∀ a, T.A = some a → ¬ InL ls a.block) (hp : Parted ls)
    (hown : ∀ (j : Nat) (l : Lst), ls[j]? = some l → l.n ≤ 100000 ∧ ∃ zs : List SHd, w.ownsRow 0 73 2 l.v l.n (bkR zs)) :
    Calls Tryz.prog 54 #[.pointer (some ⟨K, 0, none⟩)] w (PutPost ls w) := by
  obtain ⟨TA, Tn, Tc⟩ := T
  simp only at hT c0 hrT hTn
  subst hT
  have hst : PutInv w ls 0 0 w := put_start fun j l hl => (hown j l hl).2
  have hin : ∀ k, InL ls k → k < w.heap.size := by
    rintro k ⟨l, hm, hb⟩
    obtain ⟨j, hj⟩ := List.getElem?_of_mem hm
    obtain ⟨_, zs, hz⟩ := hown j l hj
    exact (hz.lt k hb).2
  have hsm : ∀ (j : Nat) (l : Lst), ls[j]? = some l → l.n ≤ 100000 := fun j l hl => (hown j l hl).1
  clear hown
  generalize hN : ls.length = N at *
  replace hN := Lib.hid hN
  replace hrT := Lib.hid hrT
  replace hp := Lib.hid hp
  replace hst := Lib.hid hst
  replace hin := Lib.hid hin
  replace hsm := Lib.hid hsm
  replace hTn := Lib.hid hTn
  replace hKn := Lib.hid hKn
  simp only [Lst.v] at c0
  go_enter Tryz.func54, Tryz.ntmps54
  go_wp2
  go_loopw [2] (fun i wr => ∃ k : Nat, k ≤ N ∧ i = .int .i64 k ∧ Hid (PutInv w ls k 0 wr)) (fun i _ => N - (intOf i).toNat)
  case atStart => exact ⟨0, Nat.zero_le _, rfl, hst.out⟩
  case round =>
    obtain ⟨k, hk2, rfl, hinv⟩ := hrel
    have d0 := cell_grs hinv.out.1 c0 hKn.out
    clear c0
    by_cases hlt : k < N
    · obtain ⟨⟨lA, ln, lc⟩, B, o, hl, hTA, hcl⟩ := row_elem (row_grs hrT.out hinv.out.1 hTn.out) hlt
      have hBn : ¬ InL ls B := hTn.out ⟨B, o, none⟩ hTA
      subst hTA
      have hln : ln ≤ 100000 := hsm.out k _ hl
      have hki : (k : Int) < (N : Int) := by omega
      have hk0 : (0 : Int) ≤ (k : Int) := by omega
      have hm0 : ∀ w, Calls Tryz.prog 107 #[.int .i64 k, .int .i64 0, .int .i64 ln] w (MarkPost k 0 ln w) := fun w => mark_any k 0 ln w (by omega) (by omega)
      simp only [Lst.v] at hcl
      replace hBn := Lib.hid hBn
      go_wp2_with fail
      refine (hm0 _).mono ?_
      rintro e W1 ⟨mv, zm, rfl, hzm, hmo, g1⟩
      obtain ⟨mA, mc, rfl, _, _⟩ := own_openS hmo
      have hmr := row_own hmo
      have hmb : ∀ a, mA = some a → ¬ InL ls a.block := by
        rintro a rfl hI
        have h1 := hin.out _ hI
        have h2 := (hmo.lt a.block rfl).1
        have h3 := hinv.out.1.size
        omega
      have hinv1 := put_gr hinv.out g1
      have d0' := gr_cell g1 d0
      have hcl' := gr_cell g1 hcl
      have hib := put_blk hinv1
      replace hib := Lib.hid hib
      replace hzm := Lib.hid hzm
      clear d0 hcl hm0 hmo hinv
      replace hmr := Lib.hid hmr
      replace hmb := Lib.hid hmb
      replace hinv1 := Lib.hid hinv1
      replace hl := Lib.hid hl
      go_wp2
      go_loopw [4] (fun j W => ∃ q : Nat, q ≤ ln ∧ j = .int .i64 q ∧ Hid (PutInv w ls k q W) ∧ Hid (GrS (InL ls) W1 W)) (fun j _ => ln - (intOf j).toNat)
      case atStart => exact ⟨0, Nat.zero_le _, rfl, hinv1.out, grs_refl _ _⟩
      case round =>
        obtain ⟨q, hq, rfl, hiv, hgs⟩ := hrel
        by_cases hq2 : q < ln
        · obtain ⟨x, mB, mo, hx, rfl, _, hcm⟩ := rowS_elem bkC_len (row_grs hmr.out hgs.out hmb.out) (by decide) hq2
          have hx2 := (mks_grs hzm.out hgs.out hib.out).2 q x hx
          rw [Nat.zero_add] at hx2
          obtain ⟨g, hA, hf, hold, hst2⟩ := put_step hiv.out hp.out hl.out hq2 hx2
          obtain ⟨bb, rfl, _⟩ := hx2
          simp only at hA
          subst hA
          have d0'' := cell_grs hgs.out d0' hKn.out
          have hcl'' := cell_grs hgs.out hcl' hBn.out
          have hX : bkC ⟨none, 0, 0, some ⟨bb, 0, none⟩, 1, 1⟩ = [.slice none 0 0, .slice (some ⟨bb, 0, none⟩) 1 1] := rfl
          rw [hX] at hcm hst2
          clear hX
          have hst3 := Lib.hid hst2
          clear hst2 hx d0' hcl'
          have hqi : (q : Int) < (ln : Int) := by omega
          have hq0 : (0 : Int) ≤ (q : Int) := by omega
          have hgS : InL ls g := in_of hl.out rfl
          replace hgS := Lib.hid hgS
          have hth : wr.there g (q * 2) 2 := fun j hj => ⟨hold j hj, hf _⟩
          have hcm0 : wr.cell? ⟨mB, mo + q * 2, none⟩ = some (.slice none 0 0) := hcm 0 (by decide)
          have hcm1 : wr.cell? ⟨mB, mo + q * 2 + 1, none⟩ = some (.slice (some ⟨bb, 0, none⟩) 1 1) := hcm 1 (by decide)
          obtain ⟨old0, hold0⟩ := Option.isSome_iff_exists.1 (show (wr.cell? ⟨g, q * 2, none⟩).isSome = true from (World.there_setCells hth g (q * 2) [] 0 (by decide)).1)
          have hfr0 : wr.frozen? ⟨g, q * 2, none⟩ = false := (World.there_setCells hth g (q * 2) [] 0 (by decide)).2
          obtain ⟨old1, hold1⟩ := Option.isSome_iff_exists.1 (show ((wr.setCell ⟨g, q * 2, none⟩ (.slice none 0 0)).cell? ⟨g, q * 2 + 1, none⟩).isSome = true from (World.there_setCells hth g (q * 2) [.slice none 0 0] 1 (by decide)).1)
          have hfr1 : (wr.setCell ⟨g, q * 2, none⟩ (.slice none 0 0)).frozen? ⟨g, q * 2 + 1, none⟩ = false := (World.there_setCells hth g (q * 2) [.slice none 0 0] 1 (by decide)).2
          clear hf hold hcm hth
          go_wp2_with fail
          go_region
          all_goals
            go_wp2
            go_roundw
            case rel => exact ⟨q + 1, by omega, by go_num, put_gr hst3.out (gr_drew _ _), grs_then (grs_then hgs.out (gr_setCells wr g (q * 2) [.slice none 0 0, .slice (some ⟨bb, 0, none⟩) 1 1]) (fun k' hk' _ => by cases hk'; exact hgS.out)) (gr_drew (wr.setCells g (q * 2) [.slice none 0 0, .slice (some ⟨bb, 0, none⟩) 1 1]) none) (by simp)⟩
            case measure => simp [intOf]; omega
        · obtain rfl : q = ln := by omega
          go_wp2
          go_roundw
          case rel => exact ⟨k + 1, by omega, by go_num, put_next hiv.out hl.out⟩
          case measure => simp [intOf]; omega
    · obtain rfl : k = N := by omega
      go_wp2
      go_end0
      refine ⟨rfl, hinv.out.1, fun j l hl => ?_⟩
      obtain ⟨zs, hz, h1, _⟩ := hinv.out.2 j l hl
      have hj : j < k := by have := (List.getElem?_eq_some_iff.1 hl).1; rw [hN.out] at this; exact this
      exact ⟨zs, h1 hj, hz⟩

/-! ### Lists are grown -/
def GIn (wr : World) (l : Lst) (i : Nat) (m : Lst) (t : Nat) (W : World) : Prop :=
  m.n = l.n + t ∧ GrS (fun k => l.v.ownBlock = some k) wr W ∧ MkO W 0 m.v i 0 m.n ∧ MkR W l.A i 0 l.n ∧ (m.v.ownBlock = l.v.ownBlock ∨ ∀ k, m.v.ownBlock = some k → wr.heap.size ≤ k) ∧ (∀ k, l.v.ownBlock = some k → k < wr.heap.size) ∧ (∀ a, l.A = some a → a = ⟨a.block, 0, none⟩)
theorem gin_start {wr : World} {l : Lst} {i : Nat} (h : MkO wr 0 l.v i 0 l.n) : GIn wr l i l 0 wr := by
  obtain ⟨zs, hz, ho⟩ := h
  exact ⟨rfl, grs_refl _ _, ⟨zs, hz, ho⟩, ⟨zs, hz, own_row ho rfl⟩, .inl rfl, fun k hk => (ho.lt k hk).2, own_at0 ho⟩
theorem gin_append {wr W W1 W2 : World} {l m : Lst} {i t g cap s N : Nat} {zm zn : List SHd} (h : GIn wr l i m t W) (hzm : Mks W i 0 m.n zm) (g1 : Gr W W1) (hom : W1.ownsRow 0 73 2 m.v m.n (bkR zm)) (hzn : Mks W1 i m.n s zn) (hN : m.n + s = N)
    (hown : W2.ownsRow 0 73 2 (.slice (some ⟨g, 0, none⟩) N cap) N (bkR zm ++ bkR zn)) (hat : (m.v.ownBlock = some g ∧ W1.grownBy W2 (some g)) ∨ (g = W1.heap.size ∧ Gr W1 W2)) :
    GIn wr l i ⟨some ⟨g, 0, none⟩, N, cap⟩ (t + s) W2 := by
  obtain ⟨h1, h2, h3, ⟨zl, hzl, h4⟩, h5, h6, h7⟩ := h
  subst hN
  rw [← bkR_append] at hown
  have hall : Mks W2 i 0 (m.n + s) (zm ++ zn) := mks_append (mks_hat (mks_gr hzm g1) hom (by decide) hat) (by rw [Nat.zero_add]; exact mks_hat hzn hom (by decide) hat)
  have hzl2 : Mks W2 i 0 l.n zl := mks_hat (mks_gr hzl g1) hom (by decide) hat
  have hS1 : GrS (fun k => l.v.ownBlock = some k) wr W1 := grs_trans h2 (grs_gr _ g1)
  have hr1 : Row W1 l.A l.n 2 (bkR zl) := row_gr h4 g1
  refine ⟨by show m.n + s = _; omega, ?_, ⟨_, hall, hown⟩, ?_, ?_, h6, h7⟩
  · rcases hat with ⟨e, hg⟩ | ⟨_, hg⟩
    · refine grs_then hS1 hg fun k hk hlt => ?_
      cases hk
      rcases h5 with h5 | h5
      · rw [← h5]; exact e
      · have := h5 _ e; omega
    · exact grs_trans hS1 (grs_gr _ hg)
  · rcases hat with ⟨e, hg⟩ | ⟨_, hg⟩
    · by_cases hb : l.v.ownBlock = some g
      · have hA : ∀ a, l.A = some a → a = ⟨g, 0, none⟩ := fun a ha => by
          have h8 := own_blk ha
          rw [hb] at h8
          have h9 := Option.some.inj h8
          rw [h7 a ha, ← h9]
        refine ⟨(zm ++ zn).take l.n, mks_take hall (by omega), by rw [bkR_len, List.length_take, hall.1]; rw [Nat.min_eq_left (by omega)], fun j u hj => ?_⟩
        have hjl : j < l.n * 2 := by have := (List.getElem?_eq_some_iff.1 hj).1; rw [bkR_len, List.length_take, hall.1, Nat.min_eq_left (by omega)] at this; exact this
        have hAs : ∃ a, l.A = some a := by
          cases hlA : l.A with
          | none => unfold Lst.v at hb; rw [hlA] at hb; cases hb
          | some a => exact ⟨a, rfl⟩
        obtain ⟨a, ha⟩ := hAs
        refine ⟨g, 0, by rw [ha, hA a ha], (hown.lt g rfl).2, ?_⟩
        have h11 := hown.cellAt j (by omega)
        rw [Nat.zero_add, h11]
        rw [bkR_take, List.getElem?_take, if_pos hjl] at hj
        exact hj
      · exact ⟨zl, hzl2, row_keep hr1 hg fun a ha e2 => hb ((own_blk ha).trans e2)⟩
    · exact ⟨zl, hzl2, row_gr hr1 hg⟩
  · rcases hat with ⟨e, hg⟩ | ⟨e, hg⟩
    · rcases h5 with h5 | h5
      · exact .inl (by rw [← h5, e]; rfl)
      · exact .inr fun k hk => by
          have : g = k := by simpa [Value.ownBlock] using hk
          rw [← this]; exact h5 _ e
    · exact .inr fun k hk => by
        have : g = k := by simpa [Value.ownBlock] using hk
        rw [← this, e]; exact hS1.size
def GrowInv (w : World) (ls gs : List Lst) (wr : World) : Prop :=
  GrS (InL ls) w wr ∧ (∀ (j : Nat) (l : Lst), ls[j]? = some l → MkR wr l.A j 0 l.n ∧ (gs.length ≤ j → MkO wr 0 l.v j 0 l.n)) ∧
  (∀ (j : Nat) (l g : Lst), ls[j]? = some l → gs[j]? = some g → g.n = l.n + 72 ∧ MkO wr 0 g.v j 0 g.n ∧ (g.v.ownBlock = l.v.ownBlock ∨ ∀ k, g.v.ownBlock = some k → w.heap.size ≤ k))
theorem grow_next {w wr W W1 W3 : World} {ls gs : List Lst} {l m : Lst} {ov : Value} {n : Nat} {os : List Value} (h : GrowInv w ls gs wr) (hp : Parted ls) (hin : ∀ k, InL ls k → k < w.heap.size) (hl : ls[gs.length]? = some l)
    (hg : GIn wr l gs.length m 72 W) (hov : W.ownsRow w.heap.size 29 1 ov n os) (g1 : Gr W W1) (g3 : W1.grownBy W3 ov.ownBlock) : GrowInv w ls (gs ++ [m]) W3 := by
  obtain ⟨h1, h2, h3⟩ := h
  obtain ⟨e1, e2, e3, e4, e5, e6, e7⟩ := hg
  have hov1 := hov.kept g1 (by cases ov.ownBlock <;> simp)
  have hovb : ∀ k, ov.ownBlock = some k → w.heap.size ≤ k := fun k hk => (hov.lt k hk).1
  obtain ⟨zl0, hzl0, hol0⟩ := (h2 gs.length l hl).2 (Nat.le_refl _)
  have keepA : ∀ {A : Option Addr} {i N : Nat}, (∀ a, A = some a → InL ls a.block) → MkR W A i 0 N → MkR W3 A i 0 N := fun hA hr => by
    obtain ⟨zs, q1, q2⟩ := hr
    refine ⟨zs, mks_own (mks_gr q1 g1) hov1 (by decide) g3, row_keep (row_gr q2 g1) g3 fun a ha e => ?_⟩
    have := hin _ (hA a ha)
    have := hovb _ e.symm
    omega
  have keepO : ∀ {v : Value} {i N : Nat}, MkO W 0 v i 0 N → MkO W3 0 v i 0 N := fun ho => by
    obtain ⟨zs, q1, q2⟩ := mkO_gr ho g1
    exact ⟨zs, mks_own q1 hov1 (by decide) g3, q2.kept g3 (own_types q2 hov1 (by decide))⟩
  have pastR : ∀ {A : Option Addr} {i N : Nat}, (∀ a, A = some a → l.v.ownBlock ≠ some a.block) → MkR wr A i 0 N → MkR W A i 0 N := fun hA hr => by
    obtain ⟨zs, q1, q2⟩ := hr
    exact ⟨zs, mks_grs q1 e2 fun k hk => ⟨_, _, _, _, _, _, by decide, hol0, hk⟩, row_grs q2 e2 hA⟩
  have pastO : ∀ {v : Value} {i N : Nat}, (∀ k, l.v.ownBlock = some k → v.ownBlock ≠ some k) → MkO wr 0 v i 0 N → MkO W 0 v i 0 N := fun hv ho => by
    obtain ⟨zs, q1, q2⟩ := ho
    exact ⟨zs, mks_grs q1 e2 fun k hk => ⟨_, _, _, _, _, _, by decide, hol0, hk⟩, grs_own q2 e2 hv⟩
  have ne : ∀ (j : Nat) (l' : Lst), ls[j]? = some l' → j ≠ gs.length → ∀ k, l.v.ownBlock = some k → l'.v.ownBlock ≠ some k := fun j l' hj hne k hk e => hne (hp j gs.length l' l k hj hl e hk)
  refine ⟨?_, fun j l' hj => ⟨?_, fun hge => ?_⟩, fun j l' g hj hgj => ?_⟩
  · have h4 : GrS (InL ls) w W := grs_trans h1 (grs_sub e2 fun k _ hk => in_of hl hk)
    refine grs_then (grs_trans h4 (grs_gr _ g1)) g3 fun k hk hlt => ?_
    have := hovb k hk
    omega
  · by_cases hji : j = gs.length
    · subst hji
      obtain rfl : l' = l := by rw [hl] at hj; exact (Option.some.inj hj).symm
      exact keepA (fun a ha => in_of hl (own_blk ha)) e4
    · exact keepA (fun a ha => in_of hj (own_blk ha)) (pastR (fun a ha e => ne j l' hj hji _ e (own_blk ha)) (h2 j l' hj).1)
  · rw [List.length_append] at hge
    simp at hge
    exact keepO (pastO (fun k hk => ne j l' hj (by omega) k hk) ((h2 j l' hj).2 (by omega)))
  · by_cases hji : j < gs.length
    · rw [List.getElem?_append_left hji] at hgj
      obtain ⟨q1, q2, q3⟩ := h3 j l' g hj hgj
      refine ⟨q1, keepO (pastO (fun k hk e => ?_) q2), q3⟩
      rcases q3 with q3 | q3
      · exact ne j l' hj (by omega) k hk (by rw [← q3]; exact e)
      · have := q3 k e
        have := hin k (in_of hl hk)
        omega
    · have hlt := (List.getElem?_eq_some_iff.1 hgj).1
      simp at hlt
      obtain rfl : j = gs.length := by omega
      obtain rfl : l' = l := by rw [hl] at hj; exact (Option.some.inj hj).symm
      obtain rfl : g = m := by simpa using hgj.symm
      refine ⟨e1, keepO e3, ?_⟩
      rcases e5 with e5 | e5
      · exact .inl e5
      · exact .inr fun k hk => Nat.le_trans h1.size (e5 k hk)
def GrowPost (ls : List Lst) (w : World) (e : Ending) (w' : World) : Prop :=
  ∃ (A : Option Addr) (c : Nat) (gs : List Lst), e = .returned (.slice A ls.length c) ∧ gs.length = ls.length ∧ Row w' A ls.length 1 (gs.map Lst.v) ∧
    (∀ (j : Nat) (l g : Lst), ls[j]? = some l → gs[j]? = some g → g.n = l.n + 72 ∧ MkR w' g.A j 0 g.n) ∧ (∀ (j : Nat) (l : Lst), ls[j]? = some l → MkR w' l.A j 0 l.n) ∧ GrS (InL ls) w w'
set_option maxHeartbeats 8000000 in
set_option maxRecDepth 100000 in
theorem grow_any (K : Nat) (T : Lst) (ls : List Lst) (w : World) (hk : ls.length ≤ 250) (hT : T.n = ls.length)
    (c0 : w.cell? ⟨K, 18, none⟩ = some T.v) (hrT : Row w T.A ls.length 1 (ls.map Lst.v)) (hKn : ¬ InL ls K) (hTn : ∀ a, T.A = some a → ¬ InL ls a.block) (hp : Parted ls)
    (hown : ∀ (j : Nat) (l : Lst), ls[j]? = some l → l.n ≤ 100000 ∧ MkO w 0 l.v j 0 l.n) :
    Calls Tryz.prog 72 #[.pointer (some ⟨K, 0, none⟩)] w (GrowPost ls w) := by
  obtain ⟨ii, hii, hz0, hz1, hz2⟩ := info_parts infoE
  obtain ⟨jj, hjj, jz0, jz1, jz2⟩ := info_parts infoL
  obtain ⟨TA, Tn, Tc⟩ := T
  simp only at hT c0 hrT hTn
  subst hT
  have hst : GrowInv w ls [] w := ⟨grs_refl _ _, fun j l hl => ⟨mkO_row (hown j l hl).2, fun _ => (hown j l hl).2⟩, fun j l g hl hg => by simp at hg⟩
  have hin : ∀ k, InL ls k → k < w.heap.size := by
    rintro k ⟨l, hm, hb⟩
    obtain ⟨j, hj⟩ := List.getElem?_of_mem hm
    exact mkO_lt (hown j l hj).2 hb
  have hsm : ∀ (j : Nat) (l : Lst), ls[j]? = some l → l.n ≤ 100000 := fun j l hl => (hown j l hl).1
  clear hown
  generalize hN : ls.length = N at *
  replace hN := Lib.hid hN
  replace hrT := Lib.hid hrT
  replace hp := Lib.hid hp
  replace hst := Lib.hid hst
  replace hin := Lib.hid hin
  replace hsm := Lib.hid hsm
  replace hTn := Lib.hid hTn
  replace hKn := Lib.hid hKn
  simp only [Lst.v] at c0
  go_enter Tryz.func72, Tryz.ntmps72
  go_wp2
  go_loopw [3, 4] (fun ov iv wr => ∃ (gs : List Lst) (k : Nat), k ≤ N ∧ Hid (gs.length = k) ∧ iv = .int .i64 k ∧ Hid (wr.ownsRow w.heap.size 29 1 ov k (gs.map Lst.v)) ∧ Hid (GrowInv w ls gs wr)) (fun _ i _ => N - (intOf i).toNat)
  case atStart => exact ⟨[], 0, Nat.zero_le _, rfl, rfl, World.ownsRow_nil _ _ _ _, hst.out⟩
  case round =>
    obtain ⟨gs, k, hk2, hgs, rfl, hov, hinv⟩ := hrel
    obtain ⟨oA, oc, rfl, _, _⟩ := own_open hov.out
    have d0 := cell_grs hinv.out.1 c0 hKn.out
    clear c0
    by_cases hlt : k < N
    · obtain ⟨l, B, o, hl, hTA, hcl⟩ := row_elem (row_grs hrT.out hinv.out.1 hTn.out) hlt
      subst hTA
      have hln : l.n ≤ 100000 := hsm.out k _ hl
      have hki : (k : Int) < (N : Int) := by omega
      have hk0 : (0 : Int) ≤ (k : Int) := by omega
      have hg0 : GIn wr l k l 0 wr := gin_start ((hinv.out.2.1 k l hl).2 (by rw [hgs.out]; exact Nat.le_refl _))
      have hm1 : ∀ (n : Nat) w, n ≤ 100100 → Calls Tryz.prog 107 #[.int .i64 k, .int .i64 n, .int .i64 1] w (MarkPost k n 1 w) := fun n w hn => mark_any k n 1 w (by omega) (by omega)
      have hm60 : ∀ (n : Nat) w, n ≤ 100100 → Calls Tryz.prog 107 #[.int .i64 k, .int .i64 n, .int .i64 60] w (MarkPost k n 60 w) := fun n w hn => mark_any k n 60 w (by omega) (by omega)
      simp only [Lst.v] at hcl
      replace hl := Lib.hid hl
      replace hg0 := Lib.hid hg0
      go_wp2
      obtain ⟨w0, rfl⟩ : ∃ w0 : World, w0 = wr := ⟨_, rfl⟩
      go_loopw [5, 6] (fun lv nv W => ∃ (m : Lst) (t : Nat), t ≤ 12 ∧ nv = .int .i64 t ∧ lv = .slice m.A m.n m.c ∧ Hid (GIn w0 l k m t W)) (fun _ nv _ => 12 - (intOf nv).toNat)
      case atStart => exact ⟨l, 0, Nat.zero_le _, rfl, rfl, hg0.out⟩
      case round =>
        obtain ⟨m, t, ht, rfl, rfl, hgi⟩ := hrel
        have hmn : m.n ≤ 100100 := by have := hgi.out.1; omega
        by_cases ht2 : t < 12
        · have hti : (t : Int) < 12 := by omega
          go_wp2_with fail
          refine (hm1 m.n _ hmn).mono ?_
          rintro e W1 ⟨mv, zn, rfl, hzn, hmo, g1⟩
          obtain ⟨zm, hzm, hom⟩ := hgi.out.2.2.1
          obtain ⟨gb, mcap, rfl, _, _⟩ := hmo.form (by omega)
          have hmo1 := hom.kept g1 (by cases m.v.ownBlock <;> simp)
          have hmr := row_own hmo
          have hnews : ∀ j u, (bkR zn)[j]? = some u → W1.cell? ((⟨gb, 0, none⟩ : Addr).add j) = some u := fun j u hu => by
            obtain ⟨B', o', e', _, hc'⟩ := hmr.2 j u hu
            have e2 := Option.some.inj e'
            injection e2 with e3 e4
            subst e3 e4
            rw [add_plain]; exact hc'
          replace hzn := Lib.hid hzn
          replace hzm := Lib.hid hzm
          have hznl : zn.length = 1 := hzn.out.1
          replace hznl := Lib.hid hznl
          clear hom
          clear hmo hmr
          replace g1 := Lib.hid g1
          replace hmo1 := Lib.hid hmo1
          replace hnews := Lib.hid hnews
          go_wp2_with (at_builtin; refine wpList_append_strong _ rfl _ _ 29 rfl 0 73 ii (.agg #[.slice none 0 0, .slice none 0 0]) 2 48 Tryz.underlying29 hii hz0 hz1 hz2 rfl (by decide) (.slice m.A m.n m.c) m.n _ rfl hmo1.out ⟨gb, 0, none⟩ 1 mcap (bkR zn) rfl (by rw [bkR_len, hznl.out]) hnews.out (bkR_ones _) (by omega) (m.n + 1) rfl ?c3 ?c4 (Nat.zero_le _) ?_; rotate_right; intro g cap W3 hown3 hat3; replace hown3 := Lib.hid hown3; replace hat3 := Lib.hid hat3)
          case c3 => unfold maxLen; omega
          case c4 => omega
          go_roundw
          case rel => exact ⟨⟨some ⟨g, 0, none⟩, m.n + 1, cap⟩, t + 1, by omega, by go_num, rfl, gin_append hgi.out hzm.out g1.out hmo1.out hzn.out rfl hown3.out hat3.out⟩
          case measure => simp [intOf]; omega
        · obtain rfl : t = 12 := by omega
          go_wp2_with fail
          refine (hm60 m.n _ hmn).mono ?_
          rintro e W1 ⟨mv, zn, rfl, hzn, hmo, g1⟩
          obtain ⟨zm, hzm, hom⟩ := hgi.out.2.2.1
          obtain ⟨gb, mcap, rfl, _, _⟩ := hmo.form (by omega)
          have hmo1 := hom.kept g1 (by cases m.v.ownBlock <;> simp)
          have hmr := row_own hmo
          have hnews : ∀ j u, (bkR zn)[j]? = some u → W1.cell? ((⟨gb, 0, none⟩ : Addr).add j) = some u := fun j u hu => by
            obtain ⟨B', o', e', _, hc'⟩ := hmr.2 j u hu
            have e2 := Option.some.inj e'
            injection e2 with e3 e4
            subst e3 e4
            rw [add_plain]; exact hc'
          replace hzn := Lib.hid hzn
          replace hzm := Lib.hid hzm
          have hznl : zn.length = 60 := hzn.out.1
          replace hznl := Lib.hid hznl
          clear hom
          clear hmo hmr
          replace g1 := Lib.hid g1
          replace hmo1 := Lib.hid hmo1
          replace hnews := Lib.hid hnews
          go_wp2_with (at_builtin; first
            | (refine wpList_append_strong (o := ⟨some 39, _, _, _, _, _⟩) _ rfl _ _ 29 rfl 0 73 ii (.agg #[.slice none 0 0, .slice none 0 0]) 2 48 Tryz.underlying29 hii hz0 hz1 hz2 rfl (by decide) (.slice m.A m.n m.c) m.n _ rfl hmo1.out ⟨gb, 0, none⟩ 60 mcap (bkR zn) rfl (by rw [bkR_len, hznl.out]) hnews.out (bkR_ones _) (by omega) (m.n + 60) rfl (by unfold maxLen; omega) (by omega) (Nat.zero_le _) ?_
               intro g cap W3 hown3 hat3
               have hgi2 : GIn w0 l k ⟨some ⟨g, 0, none⟩, m.n + 60, cap⟩ 72 W3 := gin_append hgi.out hzm.out g1.out hmo1.out hzn.out rfl hown3 hat3
               have hov3 : W3.ownsRow w.heap.size 29 1 (.slice oA k oc) k (gs.map Lst.v) := grs_own hov.out hgi2.2.1 fun k' hk' e' => by
                 have h1 := hin.out k' (in_of hl.out hk')
                 have h2 := (hov.out.lt k' e').1
                 omega
               have hws : w.heap.size ≤ W3.heap.size := Nat.le_trans hinv.out.1.size hgi2.2.1.size
               replace hgi2 := Lib.hid hgi2
               replace hov3 := Lib.hid hov3
               clear hown3 hat3)
            | (refine wpList_append_own (o := ⟨some 41, _, _, _, _, _⟩) _ rfl _ _ 43 rfl w.heap.size 29 jj (.slice none 0 0) 1 24 Tryz.underlying43 hjj jz0 jz1 jz2 rfl (by decide) (.slice oA k oc) k _ rfl (hov3.out.alloc _) ⟨W3.heap.size, 0, none⟩ 1 1 [.slice (some ⟨g, 0, none⟩) (m.n + 60) cap] rfl rfl (cell_one_new _ _ _) (by simp [Value.oneCell']) (by unfold maxLen; omega) (by omega) (by simp; omega) ?_
               intro v' W4 hown4 hgrow _nl
               clear _nl
               replace hown4 := Lib.hid hown4
               replace hgrow := Lib.hid hgrow))
          have hln2 : ls[gs.length]? = some l := by rw [hgs.out]; exact hl.out
          have hgi3 : GIn w0 l gs.length ⟨some ⟨g, 0, none⟩, m.n + 60, cap⟩ 72 W3 := by rw [hgs.out]; exact hgi2.out
          have hnext := grow_next hinv.out hp.out hin.out hln2 hgi3 hov3.out (gr_alloc W3 (.cells #[.slice (some ⟨g, 0, none⟩) (m.n + 60) cap] 29) none) hgrow.out
          replace hnext := Lib.hid hnext
          clear hgi3 hln2
          go_wp2
          go_roundw
          case rel => exact ⟨gs ++ [(⟨some ⟨g, 0, none⟩, m.n + 60, cap⟩ : Lst)], k + 1, by omega, by rw [List.length_append, hgs.out]; exact Lib.hid rfl, by go_num, by rw [List.map_append]; exact hown4.out, hnext⟩
          case measure => simp [intOf]; omega
    · obtain rfl : k = N := by omega
      have hro := row_own hov.out
      replace hro := Lib.hid hro
      go_wp2
      go_ret
      refine ⟨oA, oc, gs, by rw [hN.out]; rfl, by rw [hN.out]; exact hgs.out, by rw [hN.out]; exact hro.out, fun j l g hl hg => ?_, fun j l hl => (hinv.out.2.1 j l hl).1, hinv.out.1⟩
      obtain ⟨q1, q2, _⟩ := hinv.out.2.2 j l g hl hg
      exact ⟨q1, mkO_row q2⟩

/-! ### Do all have their marks? -/
set_option maxHeartbeats 2000000 in
set_option maxRecDepth 100000 in
theorem marked_any (A : Option Addr) (N c : Nat) (gs : List Lst) (w : World) (hN : gs.length = N) (hk : N ≤ 250) (hr : Row w A N 1 (gs.map Lst.v)) (hg : ∀ (i : Nat) (g : Lst), gs[i]? = some g → g.n ≤ 110000 ∧ MkR w g.A i 0 g.n) :
    Calls Tryz.prog 82 #[.slice A N c] w fun e w' => e = .returned (.bool true) ∧ Gr w w' := by
  replace hN := Lib.hid hN
  replace hr := Lib.hid hr
  replace hg := Lib.hid hg
  go_enter Tryz.func82, Tryz.ntmps82
  go_wp2
  go_loopw [3] (fun i wr => ∃ k : Nat, k ≤ N ∧ i = .int .i64 k ∧ Hid (Gr w wr)) (fun i _ => N - (intOf i).toNat)
  case atStart => exact ⟨0, Nat.zero_le _, rfl, gr_refl _ _⟩
  case round =>
    obtain ⟨k, hk2, rfl, hgr⟩ := hrel
    by_cases hlt : k < N
    · obtain ⟨⟨gA, gn, gc⟩, B, o, hl, rfl, hcl⟩ := row_elem hr.out hlt
      obtain ⟨e2, hrow⟩ := hg.out k _ hl
      simp only at e2 hrow
      have hcl' := gr_cell hgr.out hcl
      simp only [Lst.v] at hcl'
      have hrow' := mkR_gr hrow hgr.out
      have hki : (k : Int) < (N : Int) := by omega
      have hk0 : (0 : Int) ≤ (k : Int) := by omega
      have hm0 : Calls Tryz.prog 107 #[.int .i64 k, .int .i64 0, .int .i64 gn] wr.drew fun e w' => ∃ A c, e = .returned (.slice A gn c) ∧ MkR w' A k 0 gn ∧ Gr wr.drew w' := mark_row k 0 gn _ (by omega) (by omega)
      have s1 : ∀ w', Gr wr w' → (Gr wr w' ∧ w'.cell? ⟨B, o + k, none⟩ = some (.slice gA gn gc)) := fun w' g => ⟨g, gr_cell g hcl'⟩
      have hs2 : ∀ (mA : Option Addr) (mc : Nat) (w' : World), MkR w' mA k 0 gn → Gr wr.drew w' → Calls Tryz.prog 14 #[.slice gA gn gc, .slice mA gn mc] w' fun e w'' => e = .returned (.bool true) ∧ Gr w' w'' := fun mA mc w' h1 h2 =>
        same_marks gA mA gn gc mc k w' (by omega) (mkR_gr hrow' (gr_trans (gr_drew wr none) h2)) h1
      clear hcl hl hrow hrow'
      replace hm0 := Lib.hid hm0
      replace s1 := Lib.hid s1
      replace hs2 := Lib.hid hs2
      go_wp2_with fail
      go_region_held3 (fun w' => Gr wr w' ∧ w'.cell? ⟨B, o + k, none⟩ = some (.slice gA gn gc)) (first | assumption | exact s1.out _ (gr_drew _ _) | exact s1.out _ (gr_trans (gr_drew _ _) hg4) | exact s1.out _ (gr_trans (gr_trans (gr_drew _ _) hg4) hg5)) (first | (go_at_call 107; refine hm0.out.mono ?_; rintro e w' ⟨mA, mc, rfl, hrm, hg4⟩) | (go_at_call 14; refine (hs2.out _ _ _ hrm hg4).mono ?_; rintro e w'' ⟨rfl, hg5⟩))
      go_wp2
      go_roundw
      case rel => exact ⟨k + 1, by omega, by go_num, gr_trans hgr.out (gr_trans (gr_trans (gr_drew _ _) hg4) hg5)⟩
      case measure => simp [intOf]; omega
    · obtain rfl : k = N := by omega
      go_wp2
      go_ret
      exact ⟨rfl, hgr.out⟩

/-! ### A list is kept, with a copy -/
set_option maxHeartbeats 2000000 in
set_option maxRecDepth 100000 in
theorem cpts_any (A : Option Addr) (n c : Nat) (zs : List (Int × Int)) (w : World) (hn : n ≤ 150000) (hao : A = none → c = 0) (hr : Row w A n 2 (sR pc zs)) :
    Calls Tryz.prog 90 #[.slice A n c] w fun e w' => ∃ A' c', e = .returned (.slice A' n c') ∧ w'.ownsRow w.heap.size 75 2 (.slice A' n c') n (sR pc zs) ∧ Gr w w' := by
  obtain ⟨ii, hii, hz0, hz1, hz2⟩ := info_parts infoPt
  replace hao := Lib.hid hao
  replace hr := Lib.hid hr
  go_enter Tryz.func90, Tryz.ntmps90
  go_wp2_with (at_builtin; refine wpList_append_row rfl _ _ 71 rfl w.heap.size 75 ii (.agg #[.int .i64 0, .int .i64 0]) 2 16 Tryz.underlying71 hii hz0 hz1 hz2 rfl (by decide) (.slice none 0 0) 0 [] rfl (World.ownsRow_nil _ _ _ _) A n c (sR pc zs) rfl hao.out hr.out (pcsR_one _) n (sR pc zs) (by omega) rfl (by unfold maxLen; omega) (by omega) (Nat.le_refl _) ?_; intro v' W1 hown1 hg1; replace hown1 := Lib.hid hown1; replace hg1 := Lib.hid hg1)
  obtain ⟨A', c', rfl, _, _⟩ := own_openS hown1.out
  go_ret
  exact ⟨_, _, rfl, hown1.out, hg1.out⟩
/-- A list of series that is its own, from base on. -/
def OwnSs (w : World) (base : Nat) (l : Lst) (ss : List Ser) : Prop :=
  ∃ hs, hs.length = l.n ∧ ss.length = l.n ∧ w.ownsRow base 73 2 l.v l.n (sR shC hs) ∧ ∀ (i : Nat) x s, hs[i]? = some x → ss[i]? = some s → SerOwn w base x s
theorem ownSs_rd {w : World} {base : Nat} {l : Lst} {ss : List Ser} (h : OwnSs w base l ss) : ∃ hs, SersOf w l.A l.n hs ss ∧ ∀ x ∈ hs, NilOk x := by
  obtain ⟨hs, h1, h2, h3, h4⟩ := h
  refine ⟨hs, ⟨h2, h1, row_own h3, fun i x s hx hs' => serOwn_rd (h4 i x s hx hs')⟩, fun x hx => ?_⟩
  obtain ⟨i, hi⟩ := List.getElem?_of_mem hx
  have hlt := (List.getElem?_eq_some_iff.1 hi).1
  have hs' : ss[i]? = some (ss[i]'(by omega)) := List.getElem?_eq_getElem _
  exact serOwn_nil (h4 i x _ hi hs')
theorem ownSs_base {w : World} {b b' : Nat} {l : Lst} {ss : List Ser} (h : OwnSs w b l ss) (hb : b' ≤ b) : OwnSs w b' l ss := by
  obtain ⟨hs, h1, h2, h3, h4⟩ := h
  exact ⟨hs, h1, h2, own_mono h3 hb, fun i x s hx hs' => ⟨own_mono (h4 i x s hx hs').1 hb, own_mono (h4 i x s hx hs').2 hb⟩⟩
set_option maxHeartbeats 16000000 in
set_option maxRecDepth 100000 in
theorem cser_any (A : Option Addr) (n c : Nat) (hs0 : List SHd) (ss : List Ser) (w : World) (hn : n ≤ 150000) (hao : A = none → c = 0) (hr : SersOf w A n hs0 ss) (hnil : ∀ x ∈ hs0, NilOk x) (h9 : ∀ s ∈ ss, s.l.length ≤ 100000 ∧ s.p.length ≤ 100000) :
    Calls Tryz.prog 35 #[.slice A n c] w fun e w' => ∃ A' c', e = .returned (.slice A' n c') ∧ OwnSs w' w.heap.size ⟨A', n, c'⟩ ss ∧ Gr w w' := by
  obtain ⟨ii, hii, hz0, hz1, hz2⟩ := info_parts infoE
  obtain ⟨hl, hl0, hrow, hok⟩ := hr
  replace hao := Lib.hid hao
  replace hrow := Lib.hid hrow
  replace hok := Lib.hid hok
  replace hl := Lib.hid hl
  replace hl0 := Lib.hid hl0
  replace h9 := Lib.hid h9
  replace hnil := Lib.hid hnil
  go_enter Tryz.func35, Tryz.ntmps35
  go_wp2_with (at_builtin; refine wpList_append_row rfl _ _ 29 rfl w.heap.size 73 ii (.agg #[.slice none 0 0, .slice none 0 0]) 2 48 Tryz.underlying29 hii hz0 hz1 hz2 rfl (by decide) (.slice none 0 0) 0 [] rfl (World.ownsRow_nil _ _ _ _) A n c (bkR hs0) rfl hao.out hrow.out (bkR_ones _) n (bkR hs0) (by omega) rfl (by unfold maxLen; omega) (by omega) (Nat.le_refl _) ?_; intro v' W1 hown1 hg1; replace hown1 := Lib.hid hown1; replace hg1 := Lib.hid hg1)
  obtain ⟨A', c', rfl, _, _⟩ := own_openS hown1.out
  go_wp2
  go_loopw [3] (fun iv wr => ∃ (k : Nat) (hs : List SHd), k ≤ n ∧ iv = .int .i64 k ∧ Hid (hs.length = n) ∧ Hid (wr.ownsRow w.heap.size 73 2 (.slice A' n c') n (sR shC hs)) ∧ Hid (∀ (i : Nat) x s, hs[i]? = some x → ss[i]? = some s → (i < k → SerOwn wr w.heap.size x s) ∧ (k ≤ i → hs0[i]? = some x)) ∧ Hid (Below w.heap.size w wr)) (fun iv _ => n - (intOf iv).toNat)
  case atStart => exact ⟨0, hs0, Nat.zero_le _, rfl, hl0, hown1, Lib.hid (fun i x s hi _ => ⟨fun h => by omega, fun _ => hi⟩), Lib.hid (gr_below hg1.out)⟩
  case round =>
    obtain ⟨k, hs, hkn, rfl, hsl, hown, hrel, hbel⟩ := hrel
    by_cases hlt : k < n
    · have hsk : ss[k]? = some (ss[k]'(by rw [hl.out]; exact hlt)) := List.getElem?_eq_getElem (by rw [hl.out]; exact hlt)
      generalize ss[k]'(by rw [hl.out]; exact hlt) = s at hsk
      have hxk : hs[k]? = some (hs[k]'(by rw [hsl.out]; exact hlt)) := List.getElem?_eq_getElem (by rw [hsl.out]; exact hlt)
      generalize hs[k]'(by rw [hsl.out]; exact hlt) = x at hxk
      have hx0 := (hrel.out k x s hxk hsk).2 (Nat.le_refl _)
      have hrd := hok.out k x s hx0 hsk
      have hnx := hnil.out x (List.mem_of_getElem? hx0)
      obtain ⟨h9l, h9p⟩ := h9.out s (List.mem_of_getElem? hsk)
      have hln : s.l.length = x.ln := by have := hrd.1.1; rw [sR_len lblC 2 lblC_len] at this; omega
      have hpn : s.p.length = x.pn := by have := hrd.2.1; rw [sR_len pc 2 pc_len] at this; omega
      obtain ⟨g, cap, hv, hgb, hgs⟩ := hown.out.form (by omega)
      injection hv with ha1 ha2 ha3
      subst ha1 ha3
      have e0 : (sR shC hs)[k * 2]? = some (.slice x.la x.ln x.lc) := by have := sR_at shC 2 shC_len hxk (j := 0) (by decide); simpa [shC] using this
      have e1 : (sR shC hs)[k * 2 + 1]? = some (.slice x.pa x.pn x.pc) := by have := sR_at shC 2 shC_len hxk (j := 1) (by decide); simpa [shC] using this
      have c0 : wr.cell? ⟨g, k * 2, none⟩ = some (.slice x.la x.ln x.lc) := by rw [hown.out.cellAt (k * 2) (by omega), e0]
      have c1 : wr.cell? ⟨g, k * 2 + 1, none⟩ = some (.slice x.pa x.pn x.pc) := by rw [hown.out.cellAt (k * 2 + 1) (by omega), e1]
      have hki : (k : Int) < (n : Int) := by omega
      have hk0 : (0 : Int) ≤ (k : Int) := by omega
      have cL := fun W (g' : Gr wr W) => BkL.copy_any x.la x.ln x.lc s.l W (by omega) (fun e => (hnx.1 e).2) (row_gr (row_below hrd.1 hbel.out) g')
      have cP := fun W (g' : Gr wr W) => cpts_any x.pa x.pn x.pc s.p W (by omega) (fun e => (hnx.2 e).2) (row_gr (row_below hrd.2 hbel.out) g')
      have hstep : ∀ (W : World) (lA pA : Option Addr) (lc pc' : Nat), Gr wr W → SerOwn W w.heap.size ⟨lA, x.ln, lc, pA, x.pn, pc'⟩ s →
          ∃ hs2 : List SHd, hs2.length = n ∧ (W.setCells g (k * 2) (shC ⟨lA, x.ln, lc, pA, x.pn, pc'⟩)).ownsRow w.heap.size 73 2 (.slice (some ⟨g, 0, none⟩) n c') n (sR shC hs2) ∧ (∀ (i : Nat) y z, hs2[i]? = some y → ss[i]? = some z → (i < k + 1 → SerOwn (W.setCells g (k * 2) (shC ⟨lA, x.ln, lc, pA, x.pn, pc'⟩)) w.heap.size y z) ∧ (k + 1 ≤ i → hs0[i]? = some y)) ∧ Below w.heap.size w (W.setCells g (k * 2) (shC ⟨lA, x.ln, lc, pA, x.pn, pc'⟩)) := fun W lA pA lc pc' gW hso => by
        have hoW := hown.out.kept gW (Classical.em _)
        have gs := gr_setCells W g (k * 2) (shC ⟨lA, x.ln, lc, pA, x.pn, pc'⟩)
        have keep : ∀ {y : SHd} {z : Ser}, SerOwn W w.heap.size y z → SerOwn (W.setCells g (k * 2) (shC ⟨lA, x.ln, lc, pA, x.pn, pc'⟩)) w.heap.size y z := fun q => ⟨q.1.kept gs (own_types q.1 hoW (by decide)), q.2.kept gs (own_types q.2 hoW (by decide))⟩
        refine ⟨hs.set k ⟨lA, x.ln, lc, pA, x.pn, pc'⟩, by rw [List.length_set]; exact hsl.out, (own_setB shC_len hoW (by decide) hlt _).2.2, fun i y z hy hz => ?_, ?_⟩
        · by_cases hik : i = k
          · subst hik
            rw [List.getElem?_set_self (by rw [hsl.out]; exact hlt)] at hy
            obtain rfl := Option.some.inj hy
            obtain rfl : s = z := by rw [hsk] at hz; exact Option.some.inj hz
            exact ⟨fun _ => keep hso, fun q => by omega⟩
          · rw [List.getElem?_set_ne (fun q => hik q.symm)] at hy
            obtain ⟨p1, p2⟩ := hrel.out i y z hy hz
            exact ⟨fun q => keep (serOwn_gr (p1 (by omega)) gW), fun q => p2 (by omega)⟩
        · have b1 := hbel.out.grown gW hbel.out.size (by simp)
          exact b1.grown gs b1.size (fun q hq => by cases hq; exact hgb)
      have c0f : ∀ W, Gr wr W → W.cell? ⟨g, k * 2, none⟩ = some (.slice x.la x.ln x.lc) := fun W g' => gr_cell g' c0
      have c1f : ∀ W, Gr wr W → W.cell? ⟨g, k * 2 + 1, none⟩ = some (.slice x.pa x.pn x.pc) := fun W g' => gr_cell g' c1
      have hfr := fun W (g' : Gr wr W) j => (hown.out.kept g' (Classical.em _)).frozenAt j
      have hws : w.heap.size ≤ wr.heap.size := hbel.out.size
      replace cL := Lib.hid cL
      replace cP := Lib.hid cP
      replace hstep := Lib.hid hstep
      replace c0f := Lib.hid c0f
      replace c1f := Lib.hid c1f
      replace hfr := Lib.hid hfr
      clear e0 e1 hxk hsk hx0 hrd hnx h9l h9p hln hpn
      go_upto_region 5 with fail
      go_region_law (first
        | (go_simp; go_at_call 28; refine (cL.out _ (by repeat' (first | exact GL.out | exact GP.out | exact gr_refl _ _ | (with_reducible refine gr_trans ?_ (gr_alloc _ _ none)) | (with_reducible refine gr_trans ?_ (gr_drew _ none))))).mono ?_
           rintro e Wl ⟨lA, lc, rfl, hol, gl⟩
           have GL : Gr wr Wl := gr_trans (by repeat' (first | exact GP.out | exact gr_refl _ _ | (with_reducible refine gr_trans ?_ (gr_alloc _ _ none)) | (with_reducible refine gr_trans ?_ (gr_drew _ none)))) gl
           have l0 := c0f.out Wl GL
           have l1 := c1f.out Wl GL
           have lf0 := hfr.out Wl GL (k * 2)
           have lf1 := hfr.out Wl GL (k * 2 + 1)
           replace hol := Lib.hid hol
           replace gl := Lib.hid gl
           replace GL := Lib.hid GL)
        | (go_simp; go_at_call 90; refine (cP.out _ (by repeat' (first | exact GL.out | exact GP.out | exact gr_refl _ _ | (with_reducible refine gr_trans ?_ (gr_alloc _ _ none)) | (with_reducible refine gr_trans ?_ (gr_drew _ none))))).mono ?_
           rintro e Wp ⟨pA, pc', rfl, hop, gp⟩
           have GP : Gr wr Wp := gr_trans (by repeat' (first | exact GL.out | exact gr_refl _ _ | (with_reducible refine gr_trans ?_ (gr_alloc _ _ none)) | (with_reducible refine gr_trans ?_ (gr_drew _ none)))) gp
           have p0 := c0f.out Wp GP
           have p1 := c1f.out Wp GP
           have pf0 := hfr.out Wp GP (k * 2)
           have pf1 := hfr.out Wp GP (k * 2 + 1)
           replace hop := Lib.hid hop
           replace gp := Lib.hid gp
           replace GP := Lib.hid GP))
      all_goals
        first
        | (have hso : SerOwn Wp w.heap.size ⟨lA, x.ln, lc, pA, x.pn, pc'⟩ s := serOwn_two hol.out (by first | exact hws | exact Nat.le_trans hws GP.out.size) gp.out hop.out (by first | exact hws | exact Nat.le_trans hws GL.out.size) (gr_refl _ _)
           obtain ⟨hs2, z1, z2, z3, z4⟩ := hstep.out Wp lA pA lc pc' GP.out hso)
        | (have hso : SerOwn Wl w.heap.size ⟨lA, x.ln, lc, pA, x.pn, pc'⟩ s := serOwn_two hol.out (by first | exact hws | exact Nat.le_trans hws GP.out.size) (gr_refl _ _) hop.out (by first | exact hws | exact Nat.le_trans hws GL.out.size) gl.out
           obtain ⟨hs2, z1, z2, z3, z4⟩ := hstep.out Wl lA pA lc pc' GL.out hso)
        replace z1 := Lib.hid z1
        replace z2 := Lib.hid z2
        replace z3 := Lib.hid z3
        replace z4 := Lib.hid z4
        clear hstep hso hol hop GL GP cL cP
        go_wp2
        go_roundw
        case rel => exact ⟨k + 1, hs2, by omega, by go_num, z1, z2, z3, z4⟩
        case measure => simp [intOf]; omega
    · have hki : ((k : Int) < (n : Int)) = False := eq_false (by omega)
      obtain rfl : k = n := by omega
      have hfin : OwnSs wr w.heap.size ⟨A', k, c'⟩ ss := ⟨hs, hsl.out, hl.out, hown.out, fun i x s hx hs' => (hrel.out i x s hx hs').1 (by have := (List.getElem?_eq_some_iff.1 hx).1; rw [hsl.out] at this; exact this)⟩
      replace hfin := Lib.hid hfin
      go_wp2
      go_ret
      exact ⟨_, _, rfl, hfin.out, gr_of_below hbel.out (Nat.le_refl _)⟩
def bkCells (T V : Value) : Array Value := #[.slice none 0 0, .slice none 0 0, .slice none 0 0, .slice none 0 0, .slice none 0 0, .slice none 0 0, .slice none 0 0, .slice none 0 0, .slice none 0 0, .slice none 0 0, .slice none 0 0, .slice none 0 0, .slice none 0 0, .slice none 0 0, .slice none 0 0, .slice none 0 0, .slice none 0 0, .slice none 0 0, T, V]
structure Kept (w : World) (K : Nat) (T V : Lst) (ls cs : List Lst) : Prop where
  blk : w.heap[K]? = some (.cells (bkCells T.v V.v) 45 (0, 0))
  hT : w.ownsRow (K + 1) 29 1 T.v T.n (ls.map Lst.v)
  hV : w.ownsRow (K + 1) 29 1 V.v V.n (cs.map Lst.v)
  nT : T.n = ls.length
  nV : V.n = cs.length
  ne : ∀ k, T.v.ownBlock = some k → V.v.ownBlock = some k → False
theorem bk_cell {w : World} {K : Nat} {cs : Array Value} {t : TypeId} {fr : Nat × Nat} (h : w.heap[K]? = some (.cells cs t fr)) {j : Nat} {v : Value} (hj : cs[j]? = some v) : w.cell? ⟨K, j, none⟩ = some v := by
  unfold World.cell?
  rw [h]
  exact hj
theorem bk_free {w : World} {K : Nat} {cs : Array Value} {t : TypeId} (h : w.heap[K]? = some (.cells cs t (0, 0))) (j : Nat) : w.frozen? ⟨K, j, none⟩ = false := by
  unfold World.frozen?
  rw [h]
  simp
/-- Behind an append onto a list that lies behind the book: the book is what it was. -/
theorem bk_past {w w' : World} {K g : Nat} {o : Obj} {v : Value} {p : Prop} (h : w.heap[K]? = some o) (hK : ∀ k, v.ownBlock = some k → K + 1 ≤ k) (hat : (v.ownBlock = some g ∧ w.grownBy w' (some g)) ∨ (p ∧ Gr w w')) : w'.heap[K]? = some o := by
  rcases hat with ⟨e, hg⟩ | ⟨_, hg⟩
  · exact gr_blk hg h (fun e2 => by have := hK g e; have := Option.some.inj e2; omega)
  · exact gr_blk hg h (by simp)
end Go.Proofs.YtccmekdmnkmhlaaGreat.BkZ
