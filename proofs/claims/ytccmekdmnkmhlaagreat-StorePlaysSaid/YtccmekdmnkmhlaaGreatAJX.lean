/-
  Several facts, one behind the other; no condition but bounds (soft): Two lists of labels, are they alike. No condition but bounds on the lengths. Two lists of points that are alike. No condition but a bound on the length. Are labels few and short enough. No condition but a bound on the length. Points that are put, as they come in; whether they are few and short enough; series that are alike. No condition but bounds. Points put one by one, and how a store lasts: plain, and of worlds. No condition.
-/
import Derived.Test.YtccmekdmnkmhlaaGreatLabelCmp
import Derived.Test.YtccmekdmnkmhlaaGreatPoints
import Derived.Test.YtccmekdmnkmhlaaGreatLabelRight
import Derived.Test.YtccmekdmnkmhlaaGreatSqStoreX
import Derived.Test.YtccmekdmnkmhlaaGreatQuietGr
import Derived.ProofKit
import Derived.OpenShut
import Derived.Lib.SmallJoins
namespace Go.Proofs.YtccmekdmnkmhlaaGreat
open Go.RowKit

theorem take_next {α : Type} {a b : List α} {k : Nat} {x y : α} (h : a.take k = b.take k) (hx : a[k]? = some x) (hy : b[k]? = some y) (e : x = y) : a.take (k + 1) = b.take (k + 1) := by
  obtain ⟨h1, h2⟩ := List.getElem?_eq_some_iff.1 hx
  obtain ⟨h3, h4⟩ := List.getElem?_eq_some_iff.1 hy
  rw [List.take_succ_eq_append_getElem h1, List.take_succ_eq_append_getElem h3, h, h2, h4, e]
set_option maxHeartbeats 8000000 in
set_option maxRecDepth 100000 in
theorem sameLabels_any (A B : Option Addr) (n m ca cb : Nat) (zs ys : List Lb) (w : World) (hn : n ≤ 1000000000) (hm : m ≤ 1000000000) (hz : Row w A n 2 (sR lblC zs)) (hy : Row w B m 2 (sR lblC ys)) :
    Calls Tryz.prog 33 #[.slice A n ca, .slice B m cb] w fun e w' => e = .returned (.bool (decide (zs = ys))) ∧ Gr w w' := by
  have hl : zs.length = n := by have := hz.1; rw [sR_len lblC 2 lblC_len] at this; omega
  have hk : ys.length = m := by have := hy.1; rw [sR_len lblC 2 lblC_len] at this; omega
  obtain ⟨R, hR⟩ : ∃ R, R = decide (zs = ys) := ⟨_, rfl⟩
  rw [← hR]
  replace hz := Lib.hid hz
  replace hy := Lib.hid hy
  replace hl := Lib.hid hl
  replace hk := Lib.hid hk
  replace hR := Lib.hid hR
  go_enter Tryz.func33, Tryz.ntmps33
  by_cases hnm : n = m
  · subst hnm
    go_wp2
    go_loopw [5] (fun i wr => ∃ k : Nat, k ≤ n ∧ i = .int .i64 k ∧ Hid (zs.take k = ys.take k) ∧ Hid (Gr w wr)) (fun i _ => n - (intOf i).toNat)
    case atStart => exact ⟨0, Nat.zero_le _, rfl, rfl, gr_refl _ _⟩
    case round =>
      obtain ⟨k, hkn, rfl, ht, hg⟩ := hrel
      by_cases hlt : k < n
      · obtain ⟨x, gA, oA, hx, rfl, _, ha⟩ := rowS_elem lblC_len (row_gr hz.out hg.out) (by decide) hlt
        obtain ⟨y, gB, oB, hyy, rfl, _, hb⟩ := rowS_elem lblC_len (row_gr hy.out hg.out) (by decide) hlt
        have hki : (k : Int) < (n : Int) := by omega
        have hk0 : (0 : Int) ≤ (k : Int) := by omega
        obtain ⟨a0, a1⟩ := two_cells ha
        obtain ⟨b0, b1⟩ := two_cells hb
        clear ha hb
        have hne : x ≠ y → R = false := fun h => by
          rw [hR.out]
          refine decide_eq_false (fun e => h ?_)
          rw [e, hyy] at hx
          exact (Option.some.inj hx).symm
        by_cases hxn : x.n = y.n
        · have q1 : (x.n == y.n) = true := by rw [hxn]; exact beq_self_eq_true _
          by_cases hxv : x.v = y.v
          · have q2 : (x.v == y.v) = true := by rw [hxv]; exact beq_self_eq_true _
            have hxy : x = y := by cases x; cases y; simp_all
            have ht2 := take_next ht.out hx hyy hxy
            replace ht2 := Lib.hid ht2
            clear hne hxy hxn hxv hx hyy
            go_wp2_with fail
            go_quiet (fail)
            go_wp2
            go_roundw
            case rel => exact ⟨k + 1, by omega, by go_num, ht2.out, gr_trans hg.out (gr_drewN _ _ _)⟩
            case measure => simp [intOf]; omega
          · have q2 : (x.v == y.v) = false := beq_eq_false_iff_ne.2 hxv
            have hf := hne (fun e => hxv (by rw [e]))
            replace hf := Lib.hid hf
            clear hne hxn hxv hx hyy
            go_wp2_with fail
            go_quiet (fail)
            go_wp2
            go_ret
            exact ⟨by rw [hf.out]; rfl, gr_trans hg.out (gr_drewN _ _ _)⟩
        · have q1 : (x.n == y.n) = false := beq_eq_false_iff_ne.2 hxn
          have hf := hne (fun e => hxn (by rw [e]))
          replace hf := Lib.hid hf
          clear hne hxn hx hyy
          go_wp2_with fail
          go_quiet (fail)
          go_wp2
          go_ret
          exact ⟨by rw [hf.out]; rfl, gr_trans hg.out (gr_drewN _ _ _)⟩
      · obtain rfl : k = n := by omega
        have hf : R = true := by
          rw [hR.out]
          refine decide_eq_true ?_
          have h1 := ht.out
          rwa [List.take_of_length_le (by rw [hl.out]; exact Nat.le_refl _), List.take_of_length_le (by rw [hk.out]; exact Nat.le_refl _)] at h1
        replace hf := Lib.hid hf
        go_wp2
        go_ret
        exact ⟨by rw [hf.out]; rfl, hg.out⟩
  · have hb : ((n : Int) == (m : Int)) = false := eqF (by omega)
    have hb2 : ((n : Int) != (m : Int)) = true := by rw [bne_iff_ne]; omega
    have hb3 : (n == m) = false := beq_eq_false_iff_ne.2 hnm
    have hf : R = false := by rw [hR.out]; exact decide_eq_false (fun e => hnm (by rw [← hl.out, ← hk.out, e]))
    replace hf := Lib.hid hf
    go_wp2
    go_ret
    exact ⟨by rw [hf.out]; rfl, gr_refl _ _⟩
end Go.Proofs.YtccmekdmnkmhlaaGreat
namespace Go.Proofs.YtccmekdmnkmhlaaGreat
open Go.RowKit

set_option maxHeartbeats 1000000 in
set_option maxRecDepth 100000 in
theorem samePts_yes (A B : Option Addr) (n ca cb : Nat) (zs : List (Int × Int)) (w : World) (hn : n ≤ 1000000) (hA : PtRow w A n zs) (hB : PtRow w B n zs) :
    Calls Tryz.prog 36 #[.slice A n ca, .slice B n cb] w fun e w' => e = .returned (.bool true) ∧ Gr w w' := by
  replace hA := Lib.hid hA
  replace hB := Lib.hid hB
  go_enter Tryz.func36, Tryz.ntmps36
  go_wp2
  go_loopw [5] (fun i wr => ∃ k : Nat, k ≤ n ∧ i = .int .i64 k ∧ Hid (Gr w wr)) (fun i _ => n - (intOf i).toNat)
  case atStart => exact ⟨0, Nat.zero_le _, rfl, gr_refl _ _⟩
  case round =>
    obtain ⟨k, hk, rfl, hg⟩ := hrel
    by_cases hlt : k < n
    · obtain ⟨gA, oA, rfl, _, ha1, ha2⟩ := pt_cell (pt_gr hA.out hg.out) hlt
      obtain ⟨gB, oB, rfl, _, hb1, hb2⟩ := pt_cell (pt_gr hB.out hg.out) hlt
      have hki : (k : Int) < (n : Int) := by omega
      have hk0 : (0 : Int) ≤ (k : Int) := by omega
      generalize pT zs k = T at *
      generalize pV zs k = V at *
      go_wp2_with fail
      go_quiet (fail)
      go_wp2
      go_roundw
      case rel => exact ⟨k + 1, by omega, by go_num, gr_trans hg.out (gr_drewN _ _ _)⟩
      case measure => simp [intOf]; omega
    · obtain rfl : k = n := by omega
      go_wp2
      go_ret
      exact ⟨rfl, hg.out⟩
end Go.Proofs.YtccmekdmnkmhlaaGreat
namespace Go.Proofs.YtccmekdmnkmhlaaGreat
open Go.RowKit

def LightL (zs : List Lb) : Prop := zs.length ≤ 20 ∧ ∀ x ∈ zs, x.n.length ≤ 200 ∧ x.v.length ≤ 200
def LLPost (zs : List Lb) (w : World) (e : Ending) (w' : World) : Prop := (∃ b, e = .returned (.bool b) ∧ (b = true → LightL zs)) ∧ w = w'
theorem light_short {zs : List Lb} (h : LightL zs) : ShortL zs := fun x hx => by have := h.2 x hx; omega
set_option maxHeartbeats 8000000 in
set_option maxRecDepth 100000 in
theorem llight_any (A : Option Addr) (n c : Nat) (zs : List Lb) (w : World) (hn : n ≤ 9223372036854775807) (hr : Row w A n 2 (sR lblC zs)) :
    Calls Tryz.prog 21 #[.slice A n c] w (LLPost zs w) := by
  have hl : zs.length = n := by have := hr.1; rw [sR_len lblC 2 lblC_len] at this; omega
  replace hr := Lib.hid hr
  replace hl := Lib.hid hl
  go_enter Tryz.func21, Tryz.ntmps21
  go_wp2
  go_loopw [3] (fun i wr => ∃ k : Nat, k ≤ n ∧ i = .int .i64 k ∧ Hid (∀ x ∈ zs.take k, x.n.length ≤ 200 ∧ x.v.length ≤ 200) ∧ w = wr) (fun i _ => n - (intOf i).toNat)
  case atStart => exact ⟨0, Nat.zero_le _, rfl, (by intro x hx; simp at hx), rfl⟩
  case round =>
    obtain ⟨k, hk, rfl, ht, rfl⟩ := hrel
    by_cases hlt : k < n ∧ k < 30
    · obtain ⟨x, B, o, hx, rfl, _, hc⟩ := rowS_elem lblC_len hr.out (by decide) hlt.1
      have c0 : w.cell? ⟨B, o + k * 2, none⟩ = some (.string (txt x.n)) := hc 0 (by decide)
      have c1 : w.cell? ⟨B, o + k * 2 + 1, none⟩ = some (.string (txt x.v)) := hc 1 (by decide)
      have hki : (k : Int) < (n : Int) := by omega
      have hkj : (k : Int) < 30 := by omega
      have hk0 : (0 : Int) ≤ (k : Int) := by omega
      have hnext : (x.n.length ≤ 200 ∧ x.v.length ≤ 200) → ∀ y ∈ zs.take (k + 1), y.n.length ≤ 200 ∧ y.v.length ≤ 200 := fun h y hy => by
        obtain ⟨h1, h2⟩ := List.getElem?_eq_some_iff.1 hx
        rw [List.take_succ_eq_append_getElem h1, h2] at hy
        rcases List.mem_append.1 hy with hy | hy
        · exact ht.out y hy
        · rw [List.mem_singleton.1 hy]; exact h
      replace hnext := Lib.hid hnext
      clear hc hx ht
      by_cases hs : 200 < x.n.length
      · have hsi : (200 : Int) < (x.n.length : Int) := by omega
        go_wp2
        go_ret
        exact ⟨⟨false, rfl, fun h => by cases h⟩, rfl⟩
      · have hsi : ((200 : Int) < (x.n.length : Int)) = False := eq_false (by omega)
        by_cases hv : 200 < x.v.length
        · have hvi : (200 : Int) < (x.v.length : Int) := by omega
          go_wp2
          go_ret
          exact ⟨⟨false, rfl, fun h => by cases h⟩, rfl⟩
        · have hvi : ((200 : Int) < (x.v.length : Int)) = False := eq_false (by omega)
          have hn2 := hnext.out ⟨by omega, by omega⟩
          replace hn2 := Lib.hid hn2
          go_wp2
          go_roundw
          case rel => exact ⟨k + 1, by omega, by go_num, hn2.out, by first | rfl | trivial⟩
          case measure => simp [intOf]; omega
    · by_cases hkn : k < n
      · have hkj : ¬ (k : Int) < 30 := by omega
        have hki : (k : Int) < (n : Int) := by omega
        have hn60 : ((n : Int) ≤ 20) = False := eq_false (by omega)
        go_wp2
        go_ret
        exact ⟨⟨false, rfl, fun h => by cases h⟩, rfl⟩
      · obtain rfl : k = n := by omega
        by_cases h60 : k ≤ 20
        · have hn60 : (k : Int) ≤ 20 := by omega
          have hfull : LightL zs := ⟨by rw [hl.out]; exact h60, by
            have h1 := ht.out
            rwa [List.take_of_length_le (by rw [hl.out]; exact Nat.le_refl _)] at h1⟩
          replace hfull := Lib.hid hfull
          go_wp2
          go_ret
          exact ⟨⟨true, rfl, fun _ => hfull.out⟩, rfl⟩
        · have hn60 : ((k : Int) ≤ 20) = False := eq_false (by omega)
          go_wp2
          go_ret
          exact ⟨⟨false, rfl, fun h => by cases h⟩, rfl⟩
end Go.Proofs.YtccmekdmnkmhlaaGreat
namespace Go.Proofs.YtccmekdmnkmhlaaGreat
open Go.RowKit Go.ChangeShapes Go.WideShapes Go.ChangeAt Go.Deep

set_option maxRecDepth 100000
/-- Rows out of elements. -/
theorem rowS_mk {α : Type} {f : α → List Value} {S : Nat} (hf : ∀ x, (f x).length = S) (hS : 0 < S) {w : World} {a : Option Addr} {len : Nat} {zs : List α} (h1 : zs.length = len)
    (h2 : ∀ (i : Nat) (x : α), zs[i]? = some x → ∃ B o, a = some ⟨B, o, none⟩ ∧ B < w.heap.size ∧ ∀ j, j < S → w.cell? ⟨B, o + i * S + j, none⟩ = (f x)[j]?) : Row w a len S (sR f zs) := by
  refine ⟨by rw [sR_len f S hf, h1], fun j u hj => ?_⟩
  have hjl := (List.getElem?_eq_some_iff.1 hj).1
  rw [sR_len f S hf] at hjl
  have hd : j / S < zs.length := Nat.div_lt_of_lt_mul (by rw [Nat.mul_comm]; exact hjl)
  have hm : j % S < S := Nat.mod_lt _ hS
  have he : j / S * S + j % S = j := by rw [Nat.mul_comm]; exact Nat.div_add_mod j S
  have hx : zs[j / S]? = some zs[j / S] := List.getElem?_eq_getElem hd
  obtain ⟨B, o, e, hB, hc⟩ := h2 _ _ hx
  refine ⟨B, o, e, hB, ?_⟩
  have h3 := sR_at f S hf hx hm
  rw [he, hj] at h3
  have h4 := hc (j % S) hm
  rw [Nat.add_assoc, he] at h4
  rw [h4, ← h3]
def IsLbls (w : World) (a : Option Addr) (len cap : Nat) (zs : List Lb) : Prop :=
  Row w a len 2 (sR lblC zs) ∧ len ≤ cap ∧ cap ≤ 9223372036854775807 ∧ (∀ x ∈ zs, x.n.length ≤ 9223372036854775807 ∧ x.v.length ≤ 9223372036854775807) ∧ (a = none → cap = 0)
/-- A point that is put, as it lies, and what it is. -/
structure OHd where
  cp : Bool
  A : Option Addr
  n : Nat
  c : Nat
  t : Int
  v : Int
structure Opx where
  cp : Bool
  l : List Lb
  t : Int
  v : Int
def opC (h : OHd) : List Value := [.bool h.cp, .slice h.A h.n h.c, .int .i64 h.t, .int .i64 h.v]
theorem opC_len (h : OHd) : (opC h).length = 4 := rfl
structure OpOk (w : World) (h : OHd) (o : Opx) : Prop where
  cp : h.cp = o.cp
  t : h.t = o.t
  v : h.v = o.v
  l : IsLbls w h.A h.n h.c o.l
  ts : -9223372036854775808 ≤ o.t ∧ o.t ≤ 9223372036854775807
  vs : -9223372036854775808 ≤ o.v ∧ o.v ≤ 9223372036854775807
/-- A slice of them that came in. -/
def IsOps (w : World) (a : Option Addr) (len cap : Nat) (os : List Opx) : Prop :=
  os.length = len ∧ len ≤ cap ∧ cap ≤ 9223372036854775807 ∧ (a = none → cap = 0) ∧ ∃ hs, Row w a len 4 (sR opC hs) ∧ ∀ (i : Nat) o, os[i]? = some o → ∃ h, hs[i]? = some h ∧ OpOk w h o
theorem isLbls_below {w w' : World} {a : Option Addr} {len cap : Nat} {zs : List Lb} (h : IsLbls w a len cap zs) (g : Below w.heap.size w w') : IsLbls w' a len cap zs := ⟨row_below h.1 g, h.2⟩
theorem isOps_below {w w' : World} {a : Option Addr} {len cap : Nat} {os : List Opx} (h : IsOps w a len cap os) (g : Below w.heap.size w w') : IsOps w' a len cap os := by
  obtain ⟨h1, h2, h3, h4, hs, h5, h6⟩ := h
  refine ⟨h1, h2, h3, h4, hs, row_below h5 g, fun i o ho => ?_⟩
  obtain ⟨x, hx, hk⟩ := h6 i o ho
  exact ⟨x, hx, hk.cp, hk.t, hk.v, isLbls_below hk.l g, hk.ts, hk.vs⟩
theorem isOps_at {w : World} {a : Option Addr} {len cap : Nat} {os : List Opx} (h : IsOps w a len cap os) {k : Nat} (hk : k < len) :
    ∃ o x B oo, os[k]? = some o ∧ OpOk w x o ∧ a = some ⟨B, oo, none⟩ ∧ w.cell? ⟨B, oo + k * 4, none⟩ = some (.bool x.cp) ∧ w.cell? ⟨B, oo + k * 4 + 1, none⟩ = some (.slice x.A x.n x.c) ∧ w.cell? ⟨B, oo + k * 4 + 2, none⟩ = some (.int .i64 x.t) ∧ w.cell? ⟨B, oo + k * 4 + 3, none⟩ = some (.int .i64 x.v) := by
  obtain ⟨h1, h2, h3, h4, hs, h5, h6⟩ := h
  have ho : os[k]? = some (os[k]'(by omega)) := List.getElem?_eq_getElem _
  obtain ⟨x, hx, hok⟩ := h6 k _ ho
  obtain ⟨x', B, oo, hx', hA, _, hc⟩ := rowS_elem opC_len h5 (by decide) hk
  rw [hx] at hx'
  have := Option.some.inj hx'
  subst this
  exact ⟨_, x, B, oo, ho, hok, hA, hc 0 (by decide), hc 1 (by decide), hc 2 (by decide), hc 3 (by decide)⟩
section
variable {H : Type} {enc : TypeId × Value → H} {W : World} {base : Nat} {hd : Bool}
theorem lb_cells {n : Nat} {cs : List Value} {y : DataW H × List MemPlace} (h : DataW.trod enc Tryz.prog W base (fun _ => true) hd n 58 cs = some y) : ∃ x : Lb, (x.n.length ≤ 9223372036854775807 ∧ x.v.length ≤ 9223372036854775807) ∧ cs = lblC x := by
  obtain ⟨y0, y1, n1, _, hl, h0, h1⟩ := trod_struct2 Tryz.underlying58 h
  obtain ⟨s0, e0, _, w0⟩ := DataW.trod_string Tryz.underlying9 h0
  obtain ⟨s1, e1, _, w1⟩ := DataW.trod_string Tryz.underlying9 h1
  have c9 : Tryz.prog.cellsOf 9 = 1 := by kernel_rfl
  have c41 : Tryz.prog.cellsOf 58 = 2 := by kernel_rfl
  rw [c41] at hl
  simp only [c9] at e0 e1
  refine ⟨⟨s0.data.toList, s1.data.toList⟩, ⟨by unfold maxLen at w0; simpa using w0, by unfold maxLen at w1; simpa using w1⟩, ?_⟩
  match cs, hl with
  | [b0, b1], _ =>
    simp at e0 e1
    subst e0 e1
    simp [lblC, txt_of]
theorem lbls_cells {fuel : Nat} {cs0 : List Value} {y : DataW H × List MemPlace} (hf : DataW.trod enc Tryz.prog W base (fun _ => true) hd fuel 46 cs0 = some y) : ∃ a len cap zs, cs0 = [.slice a len cap] ∧ IsLbls W a len cap zs := by
  have c32 : Tryz.prog.cellsOf 58 = 2 := by kernel_rfl
  rcases open_slice Tryz.underlying46 hf with ⟨hcs, _⟩ | ⟨ad, l, c, m, n, D, Pl, hcs, _, hl, hm, hmm, _, hi⟩
  · exact ⟨none, 0, 0, [], hcs, row_nil _ _ _, Nat.le_refl _, by omega, by simp, fun _ => rfl⟩
  · have hml : m = c := by simpa using hmm
    have hP : ∀ i, i < l → ∃ x : Lb, (x.n.length ≤ 9223372036854775807 ∧ x.v.length ≤ 9223372036854775807) ∧ ∃ B o, some ad = some ⟨B, o, none⟩ ∧ B < W.heap.size ∧ ∀ j, j < 2 → W.cell? ⟨B, o + i * 2 + j, none⟩ = (lblC x)[j]? := by
      intro i hil
      obtain ⟨cs, hc, ht⟩ := hi i (by omega)
      rw [c32] at hc
      obtain ⟨x, hwf, rfl⟩ := lb_cells ht
      obtain ⟨_, _, hat⟩ := World.cells?_some hc
      obtain ⟨cs0, hc0, ht0⟩ := hi 0 (by omega)
      rw [c32] at hc0
      obtain ⟨x0, _, rfl⟩ := lb_cells ht0
      obtain ⟨_, _, hat0⟩ := World.cells?_some hc0
      have h00 := hat0 0 (by decide)
      obtain ⟨B, o, rfl, hb, hadd⟩ := addr_plain (a := ad) (v := .string (txt x0.n)) (by
        have := h00
        simp only [Nat.zero_mul] at this
        show W.cell? ad = (lblC x0)[0]?
        simpa [Addr.add] using this)
      refine ⟨x, hwf, B, o, rfl, hb, fun j hj => ?_⟩
      have h1 := hat j hj
      rw [Go.Deep.add_add, hadd] at h1
      rw [← h1, Nat.add_assoc]
    obtain ⟨zs, h1, h2⟩ := list_of hP
    refine ⟨some ad, l, c, zs, hcs, rowS_mk lblC_len (by decide) h1 (fun i x hx => (h2 i x hx).2), by omega, by unfold maxLen at hm; omega, fun x hx => ?_, fun e => by cases e⟩
    obtain ⟨i, hi2⟩ := List.getElem?_of_mem hx
    exact (h2 i x hi2).1
theorem op_cells {n : Nat} {cs : List Value} {y : DataW H × List MemPlace} (h : DataW.trod enc Tryz.prog W base (fun _ => true) hd n 48 cs = some y) : ∃ (k : OHd) (r : Opx), cs = opC k ∧ OpOk W k r := by
  obtain ⟨y0, y1, y2, y3, n1, _, hl, h0, h1, h2, h3⟩ := Go.Joins.trod_struct4 Tryz.underlying48 h
  obtain ⟨b, e0, _⟩ := DataW.trod_bool Tryz.underlying4 h0
  obtain ⟨a, len, cap, zs, e1, hls⟩ := lbls_cells h1
  obtain ⟨t, e2, _, w2⟩ := DataW.trod_int Tryz.underlying3 h2
  obtain ⟨v, e3, _, w3⟩ := DataW.trod_int Tryz.underlying3 h3
  have cb : Tryz.prog.cellsOf 4 = 1 := by kernel_rfl
  have c9 : Tryz.prog.cellsOf 46 = 1 := by kernel_rfl
  have c3 : Tryz.prog.cellsOf 3 = 1 := by kernel_rfl
  have c4 : Tryz.prog.cellsOf 48 = 4 := by kernel_rfl
  rw [c4] at hl
  simp only [cb, c9, c3] at e0 e1 e2 e3
  refine ⟨⟨b, a, len, cap, t, v⟩, ⟨b, zs, t, v⟩, ?_, rfl, rfl, rfl, hls, rng_i64 w2, rng_i64 w3⟩
  match cs, hl with
  | [b0, b1, b2, b3], _ =>
    simp at e0 e1 e2 e3
    subst e0 e1 e2 e3
    rfl
theorem ops_open {a : Option Addr} {len cap : Nat} {d : DataW H} {p : List MemPlace} (h : DataW.Trod enc Tryz.prog W base (fun _ => true) hd 22 (.slice a len cap) d p) : ∃ os, IsOps W a len cap os := by
  obtain ⟨fuel, hf⟩ := h
  have c24 : Tryz.prog.cellsOf 48 = 4 := by kernel_rfl
  rcases open_slice Tryz.underlying22 hf with ⟨hcs, _⟩ | ⟨ad, l, c, m, n, D, Pl, hcs, _, hl, hm, hmm, _, hi⟩
  · simp [Value.cells] at hcs
    obtain ⟨rfl, rfl, rfl⟩ := hcs
    exact ⟨[], rfl, Nat.le_refl _, by omega, fun _ => rfl, [], row_nil _ _ _, fun i o h => by simp at h⟩
  · simp [Value.cells] at hcs
    obtain ⟨rfl, rfl, rfl⟩ := hcs
    have hml : m = cap := by simpa using hmm
    have hP : ∀ i, i < len → ∃ x : OHd × Opx, OpOk W x.1 x.2 ∧ ∃ B o, some ad = some ⟨B, o, none⟩ ∧ B < W.heap.size ∧ ∀ j, j < 4 → W.cell? ⟨B, o + i * 4 + j, none⟩ = (opC x.1)[j]? := by
      intro i hil
      obtain ⟨cs, hc, ht⟩ := hi i (by omega)
      rw [c24] at hc
      obtain ⟨k, r, rfl, hkr⟩ := op_cells ht
      obtain ⟨_, _, hat⟩ := World.cells?_some hc
      obtain ⟨cs0, hc0, ht0⟩ := hi 0 (by omega)
      rw [c24] at hc0
      obtain ⟨k0, r0, rfl, _⟩ := op_cells ht0
      obtain ⟨_, _, hat0⟩ := World.cells?_some hc0
      have h00 := hat0 0 (by decide)
      obtain ⟨B, o, rfl, hb, hadd⟩ := addr_plain (a := ad) (v := .bool k0.cp) (by
        have := h00
        simp only [Nat.zero_mul] at this
        show W.cell? ad = (opC k0)[0]?
        simpa [Addr.add] using this)
      refine ⟨(k, r), hkr, B, o, rfl, hb, fun j hj => ?_⟩
      have h1 := hat j hj
      rw [Go.Deep.add_add, hadd] at h1
      rw [← h1, Nat.add_assoc]
    obtain ⟨zs, h1, h2⟩ := list_of hP
    refine ⟨zs.map (·.2), by rw [List.length_map]; exact h1, by omega, by unfold maxLen at hm; omega, (fun e => by cases e), zs.map (·.1), rowS_mk opC_len (by decide) (by rw [List.length_map]; exact h1) (fun i x hx => ?_), fun i r hr => ?_⟩
    · rw [List.getElem?_map] at hx
      cases hz : zs[i]? with
      | none => simp [hz] at hx
      | some z => simp [hz] at hx; subst hx; exact (h2 i z hz).2
    · rw [List.getElem?_map] at hr
      cases hz : zs[i]? with
      | none => simp [hz] at hr
      | some z => simp [hz] at hr; subst hr; exact ⟨z.1, by simp [hz], (h2 i z hz).1⟩
end
/-! ### Light -/
def OLPost (os : List Opx) (w : World) (e : Ending) (w' : World) : Prop := (∃ b, e = .returned (.bool b) ∧ (b = true → os.length ≤ 120 ∧ ∀ o ∈ os, LightL o.l)) ∧ w = w'
set_option maxHeartbeats 8000000 in
theorem olight_any (A : Option Addr) (n c : Nat) (os : List Opx) (w : World) (hr : IsOps w A n c os) : Calls Tryz.prog 4 #[.slice A n c] w (OLPost os w) := by
  have hl : os.length = n := hr.1
  have hn : n ≤ 9223372036854775807 := by have := hr.2.1; have := hr.2.2.1; omega
  replace hr := Lib.hid hr
  replace hl := Lib.hid hl
  go_enter Tryz.func4, Tryz.ntmps4
  go_wp2
  go_loopw [3] (fun i wr => ∃ k : Nat, k ≤ n ∧ i = .int .i64 k ∧ Hid (∀ r ∈ os.take k, LightL r.l) ∧ w = wr) (fun i _ => n - (intOf i).toNat)
  case atStart => exact ⟨0, Nat.zero_le _, rfl, (by intro x hx; simp at hx), rfl⟩
  case round =>
    obtain ⟨k, hk, rfl, ht, rfl⟩ := hrel
    by_cases hlt : k < n ∧ k < 150
    · obtain ⟨o, x, B, oo, ho, hok, rfl, d0, d1, d2, d3⟩ := isOps_at hr.out hlt.1
      have hki : (k : Int) < (n : Int) := by omega
      have hkj : (k : Int) < 150 := by omega
      have hk0 : (0 : Int) ≤ (k : Int) := by omega
      have hL := llight_any x.A x.n x.c o.l w (by have := hok.l.2.1; have := hok.l.2.2.1; omega) hok.l.1
      have hnext : LightL o.l → ∀ y ∈ os.take (k + 1), LightL y.l := fun h y hy => by
        obtain ⟨h1, h2⟩ := List.getElem?_eq_some_iff.1 ho
        rw [List.take_succ_eq_append_getElem h1, h2] at hy
        rcases List.mem_append.1 hy with hy | hy
        · exact ht.out y hy
        · rw [List.mem_singleton.1 hy]; exact h
      replace hnext := Lib.hid hnext
      replace hL := Lib.hid hL
      clear hok ho ht
      go_wp2_with fail
      refine hL.out.mono ?_
      rintro e w3 ⟨⟨b, rfl, hb⟩, rfl⟩
      cases b with
      | false =>
        clear hb
        go_wp2
        go_ret
        exact ⟨⟨false, rfl, fun h => by cases h⟩, rfl⟩
      | true =>
        have hn2 := hnext.out (hb rfl)
        replace hn2 := Lib.hid hn2
        clear hb
        go_wp2
        go_roundw
        case rel => exact ⟨k + 1, by omega, by go_num, hn2.out, by first | rfl | trivial⟩
        case measure => simp [intOf]; omega
    · by_cases hkn : k < n
      · have hkj : ¬ (k : Int) < 150 := by omega
        have hki : (k : Int) < (n : Int) := by omega
        have hn60 : ((n : Int) ≤ 120) = False := eq_false (by omega)
        go_wp2
        go_ret
        exact ⟨⟨false, rfl, fun h => by cases h⟩, rfl⟩
      · obtain rfl : k = n := by omega
        by_cases h60 : k ≤ 120
        · have hn60 : (k : Int) ≤ 120 := by omega
          have hfull : os.length ≤ 120 ∧ ∀ r ∈ os, LightL r.l := ⟨by rw [hl.out]; exact h60, by
            have h1 := ht.out
            rwa [List.take_of_length_le (by rw [hl.out]; exact Nat.le_refl _)] at h1⟩
          replace hfull := Lib.hid hfull
          go_wp2
          go_ret
          exact ⟨⟨true, rfl, fun _ => hfull.out⟩, rfl⟩
        · have hn60 : ((k : Int) ≤ 120) = False := eq_false (by omega)
          go_wp2
          go_ret
          exact ⟨⟨false, rfl, fun h => by cases h⟩, rfl⟩

/-! ### Series that are alike -/
set_option maxHeartbeats 8000000 in
theorem sameSer_yes (A B : Option Addr) (n ca cb : Nat) (hs ks : List SHd) (ss : List Ser) (w : World) (hn : n ≤ 1000000) (hx : SersOf w A n hs ss) (hy : SersOf w B n ks ss) (hsm : ∀ s ∈ ss, s.l.length ≤ 1000000 ∧ s.p.length ≤ 1000000) :
    Calls Tryz.prog 14 #[.slice A n ca, .slice B n cb] w fun e w' => e = .returned (.bool true) ∧ Gr w w' := by
  replace hx := Lib.hid hx
  replace hy := Lib.hid hy
  replace hsm := Lib.hid hsm
  go_enter Tryz.func14, Tryz.ntmps14
  go_wp2
  go_loopw [5] (fun i wr => ∃ k : Nat, k ≤ n ∧ i = .int .i64 k ∧ Hid (Gr w wr)) (fun i _ => n - (intOf i).toNat)
  case atStart => exact ⟨0, Nat.zero_le _, rfl, Lib.hid (gr_refl _ _)⟩
  case round =>
    obtain ⟨k, hk, rfl, hg⟩ := hrel
    by_cases hlt : k < n
    · obtain ⟨x, s, Bx, ox, hx1, hs1, rfl, d0, d1, hrd, hxl, hxp⟩ := sersOf_at (sersOf_gr hx.out hg.out) hlt
      obtain ⟨y, s', By, oy, hy1, hs2, rfl, f0, f1, hrd2, hyl, hyp⟩ := sersOf_at (sersOf_gr hy.out hg.out) hlt
      obtain rfl : s = s' := by rw [hs1] at hs2; exact Option.some.inj hs2
      obtain ⟨b1, b2⟩ := hsm.out s (List.mem_of_getElem? hs1)
      have hki : (k : Int) < (n : Int) := by omega
      have hk0 : (0 : Int) ≤ (k : Int) := by omega
      have cL := fun W (g : Gr wr W) => sameLabels_any x.la y.la x.ln y.ln x.lc y.lc s.l s.l W (by omega) (by omega) (row_gr hrd.1 g) (row_gr hrd2.1 g)
      have e1 : x.pn = y.pn := by omega
      have cP := fun W (g : Gr wr W) => samePts_yes x.pa y.pa x.pn x.pc y.pc s.p W (by omega) (row_gr hrd.2 g) (by have := row_gr hrd2.2 g; rw [← e1] at this; exact this)
      simp only [decide_true] at cL
      rw [← hyl, ← hxl] at cL
      rw [← hxl] at d0
      rw [← hyl] at f0
      rw [e1] at cP d1
      replace cL := Lib.hid cL
      replace cP := Lib.hid cP
      clear hx1 hs1 hs2 hy1 hrd hrd2 hxl hxp hyl hyp e1 b1 b2
      go_upto_region 6 with fail
      refine wp_region_quiet_gr (by kernel_rfl) (by kernel_rfl) ?_
      have D0 := cell_to (w := wr) d0
      have D1 := cell_to (w := wr) d1
      have F0 := cell_to (w := wr) f0
      have F1 := cell_to (w := wr) f1
      repeat (go_big_quiet_step (first | (go_at_call 33; exact calls_gr (cL.out _ (by exact Grown.gr _))) | (go_at_call 36; exact calls_gr (cP.out _ (by exact Grown.gr _)))))
      refine wpQuiet_nil ?_
      intro w2 hw2
      obtain ⟨⟨wP, gP⟩, rfl⟩ := hw2
      have G2 := gr_trans hg.out gP
      replace G2 := Lib.hid G2
      go_wp2
      go_roundw
      case rel => exact ⟨k + 1, by omega, by go_num, G2⟩
      case measure => simp [intOf]; omega
    · have hki : ((k : Int) < (n : Int)) = False := eq_false (by omega)
      go_wp2
      go_ret
      exact ⟨rfl, hg.out⟩
end Go.Proofs.YtccmekdmnkmhlaaGreat
namespace Go.Proofs.YtccmekdmnkmhlaaGreat
open Go.RowKit

def pl (os : List Opx) (ss : List Ser) : List Ser := os.foldl (fun s o => (putS s o.l o.t o.v).2) ss
theorem pl_nil (ss : List Ser) : pl [] ss = ss := rfl
theorem pl_append (a b : List Opx) (ss : List Ser) : pl (a ++ b) ss = pl b (pl a ss) := by unfold pl; rw [List.foldl_append]
theorem pl_take {os : List Opx} {k : Nat} {o : Opx} (h : os[k]? = some o) (ss : List Ser) : pl (os.take (k + 1)) ss = (putS (pl (os.take k) ss) o.l o.t o.v).2 := by
  obtain ⟨h1, h2⟩ := List.getElem?_eq_some_iff.1 h
  rw [List.take_succ_eq_append_getElem h1, h2, pl_append]
  rfl
theorem pl_inv (os : List Opx) {ss : List Ser} (h : InvS ss) : InvS (pl os ss) := by
  induction os generalizing ss with
  | nil => exact h
  | cons o os ih => exact ih (invS_put h o.l o.t o.v)
theorem sumP_append (a b : List Ser) : sumP (a ++ b) = sumP a + sumP b := by unfold sumP; rw [List.map_append, List.sum_append]
theorem sumP_cons (s : Ser) (b : List Ser) : sumP (s :: b) = s.p.length + sumP b := by unfold sumP; rw [List.map_cons, List.sum_cons]
theorem sumP_set {ss : List Ser} {k : Nat} {s : Ser} (h : ss[k]? = some s) (s' : Ser) (hl : s'.p.length = s.p.length + 1) : sumP (ss.set k s') = sumP ss + 1 := by
  obtain ⟨h1, h2⟩ := List.getElem?_eq_some_iff.1 h
  have e : ss = ss.take k ++ s :: ss.drop (k + 1) := by rw [← h2, ← List.drop_eq_getElem_cons h1, List.take_append_drop]
  have e2 : ss.set k s' = ss.take k ++ s' :: ss.drop (k + 1) := by rw [List.set_eq_take_append_cons_drop, if_pos h1]
  rw [e2]
  conv => rhs; rw [e]
  rw [sumP_append, sumP_append, sumP_cons, sumP_cons, hl]
  omega
theorem sumP_ins (ss : List Ser) (k : Nat) (s : Ser) (hl : s.p.length = 1) : sumP (ss.take k ++ s :: ss.drop k) = sumP ss + 1 := by
  conv => rhs; rw [← List.take_append_drop k ss]
  rw [sumP_append, sumP_append, sumP_cons, hl]
  omega
theorem sumP_put (ss : List Ser) (l : List Lb) (t v : Int) : sumP (putS ss l t v).2 = sumP ss + (if (putS ss l t v).1 = 0 then 1 else 0) := by
  unfold putS
  by_cases hb : okSer l ∧ okPt t v
  · rw [if_pos hb]
    generalize placeS ss l = k
    by_cases hex : ∃ s, ss[k]? = some s ∧ s.l = l
    · obtain ⟨s, hs, rfl⟩ := hex
      rw [putAt_yes hs]
      split
      · rfl
      · split
        · rfl
        · simp only
          rw [if_pos True.intro]
          exact sumP_set hs _ (by simp)
    · rw [putAt_no hex]
      split
      · rfl
      · simp only
        rw [if_pos True.intro]
        exact sumP_ins ss k _ rfl
  · rw [if_neg hb]
    rfl
theorem sumP_bound {ss : List Ser} (h : InvS ss) : sumP ss ≤ 1000 := by
  have h1 := sumP_le (ss := ss) (fun s hs => (h.ok s hs).2.2.1) ss.length
  rw [List.take_length] at h1
  have := h.len
  omega
/-! ### Worlds -/
/-- What was young turns beside what may. -/
theorem grs_young {S S' : Nat → Prop} {w w1 w2 : World} (h : GrS S w w1) (k : GrS S' w1 w2) (hs : ∀ i, i < w.heap.size → S' i → S i) : GrS S w w2 :=
  ⟨k.os.trans h.os, k.tape.trans h.tape, k.output.trans h.output, Nat.le_trans h.size k.size, fun i hi hn => (k.block i (Nat.lt_of_lt_of_le hi h.size) (fun e => hn (hs i hi e))).trans (h.block i hi hn)⟩
/-- A list of series is kept where only what is elder than it turns. -/
theorem sersIn_grs {S : Nat → Prop} {w w' : World} {base : Nat} {A : Option Addr} {n c : Nat} {hs : List SHd} {ss : List Ser} (h : SersIn w base A n c hs ss) (g : GrS S w w') (hS : ∀ k, S k → k < base) : SersIn w' base A n c hs ss := by
  refine ⟨h.len, h.hlen, own_grs h.own g (fun k hk hk2 => ?_), fun i x s h1 h2 => ?_, h.prt⟩
  · have := (h.own.lt k hk).1
    have := hS k hk2
    omega
  · obtain ⟨q1, q2⟩ := h.ser i x s h1 h2
    exact ⟨own_grs q1 g (fun k hk hk2 => by have := (q1.lt k hk).1; have := hS k hk2; omega), own_grs q2 g (fun k hk hk2 => by have := (q2.lt k hk).1; have := hS k hk2; omega)⟩
theorem ser_small {ss : List Ser} (h : InvS ss) : ∀ s ∈ ss, s.l.length ≤ 1000000 ∧ s.p.length ≤ 1000000 := fun s hs => by
  obtain ⟨h1, _, h3, _⟩ := h.ok s hs
  have := h1.1.1
  exact ⟨by omega, by omega⟩
/-- A store behind a Put: it is there, behind the same base, and what has turned is the store's. -/
structure Lasts (w0 : World) (K : Nat) (S0 : Nat → Prop) (wr : World) (St : Nat) (ss : List Ser) : Prop where
  ex : ∃ m : StoM, m.St = St ∧ StoHas wr K m ss ∧ ∀ k, BlkS m k → S0 k ∨ w0.heap.size ≤ k
  gr : GrS S0 w0 wr
theorem lasts_start {w0 : World} {K : Nat} {m : StoM} {ss : List Ser} (h : StoHas w0 K m ss) : Lasts w0 K (BlkS m) w0 m.St ss := ⟨⟨m, rfl, h, fun _ q => .inl q⟩, grs_refl _ _⟩
theorem lasts_gr {w0 wr w' : World} {K St : Nat} {S0 : Nat → Prop} {ss : List Ser} (h : Lasts w0 K S0 wr St ss) (g : Gr wr w') : Lasts w0 K S0 w' St ss := by
  obtain ⟨⟨m, h1, h2, h3⟩, h4⟩ := h
  exact ⟨⟨m, h1, stoHas_gr h2 g, h3⟩, grs_then h4 g (by simp)⟩
theorem lasts_put {w0 wr : World} {K St : Nat} {S0 : Nat → Prop} {ss : List Ser} (h : Lasts w0 K S0 wr St ss) {A : Option Addr} {n c : Nat} {zs : List Lb} (t v : Int) (hn : n ≤ 1000000000) (hA : A = none → n = 0 ∧ c = 0) (hz : Row wr A n 2 (sR lblC zs)) (hsh : ShortL zs) :
    Calls Tryz.prog 7 #[.pointer (some ⟨St, 0, none⟩), .slice A n c, .int .i64 t, .int .i64 v] wr fun e w' => e = .returned (.int .i64 (putS ss zs t v).1) ∧ Lasts w0 K S0 w' St (putS ss zs t v).2 ∧ Below K wr w' := by
  obtain ⟨⟨m, rfl, h2, h3⟩, h4⟩ := h
  refine (put_in t v h2 hn hA hz hsh).mono ?_
  rintro e w' ⟨rfl, ⟨m', e1, k1, k2, k3⟩, B⟩
  refine ⟨rfl, ⟨⟨m', e1, k1, fun k hk => ?_⟩, grs_young h4 k2 fun i hi q => ?_⟩, B⟩
  · rcases k3 k hk with q | q
    · exact h3 k q
    · exact .inr (Nat.le_trans h4.size q)
  · rcases h3 i q with r | r
    · exact r
    · omega
theorem op_args {w : World} {x : OHd} {o : Opx} (h : OpOk w x o) (hl : LightL o.l) : x.n ≤ 1000000000 ∧ (x.A = none → x.n = 0 ∧ x.c = 0) ∧ Row w x.A x.n 2 (sR lblC o.l) ∧ ShortL o.l := by
  obtain ⟨h1, h2, h3, h4, h5⟩ := h.l
  have hlen : o.l.length = x.n := by have := h1.1; rw [sR_len lblC 2 lblC_len] at this; omega
  have := hl.1
  exact ⟨by omega, fun e => by have := h5 e; omega, h1, light_short hl⟩
end Go.Proofs.YtccmekdmnkmhlaaGreat
