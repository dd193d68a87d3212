/-
  Several facts, one behind the other; no condition but bounds (soft): Lists of rows that are alike, or not. No condition but bounds on the lengths. Are labels few and short enough; what a row takes. No condition but a bound on the length. Labels, rows and lists of rows that came in. No condition. A request that came in by value. No condition.
-/
import Derived.Test.YtbnacoakjhhndaaRowSame
import Derived.Test.YtbnacoakjhhndaaRowPut
import Derived.ProofKit
import Derived.OpenShut
import Derived.Test.YtbnacoakjhhndaaAskRight
namespace Go.Proofs.Ytbnacoakjhhndaa
open Go.RowKit

/-- A row as it lies: its labels' slice, its number. -/
structure Hd where
  A : Option Addr
  n : Nat
  c : Nat
  v : Int
def hdC (h : Hd) : List Value := [.slice h.A h.n h.c, .int .i64 h.v]
theorem hdC_len (h : Hd) : (hdC h).length = 2 := rfl
theorem hdC_ones (h : Hd) : ∀ u ∈ hdC h, u.oneCell' = true := by
  intro u hu
  simp only [hdC, List.mem_cons, List.not_mem_nil, or_false] at hu
  rcases hu with rfl | rfl <;> rfl
structure HdOk (w : World) (h : Hd) (r : Rw) : Prop where
  v : h.v = r.v
  n : h.n = r.l.length
  row : Row w h.A h.n 2 (sR lblC r.l)
  nil : h.A = none → h.n = 0 ∧ h.c = 0
  le : h.n ≤ h.c
  small : h.c ≤ 9223372036854775807
theorem hdOk_gr {w w' : World} {h : Hd} {r : Rw} (k : HdOk w h r) (g : Gr w w') : HdOk w' h r := ⟨k.v, k.n, row_gr k.row g, k.nil, k.le, k.small⟩
/-- A slice of rows. -/
def Rows (w : World) (A : Option Addr) (n : Nat) (rs : List Rw) : Prop := rs.length = n ∧ ∃ hs : List Hd, Row w A n 2 (sR hdC hs) ∧ ∀ (i : Nat) (r : Rw), rs[i]? = some r → ∃ h, hs[i]? = some h ∧ HdOk w h r
theorem rows_gr {w w' : World} {A : Option Addr} {n : Nat} {rs : List Rw} (k : Rows w A n rs) (g : Gr w w') : Rows w' A n rs := by
  obtain ⟨h1, hs, h2, h3⟩ := k
  exact ⟨h1, hs, row_gr h2 g, fun i r hr => by obtain ⟨h, e, hk⟩ := h3 i r hr; exact ⟨h, e, hdOk_gr hk g⟩⟩
theorem rows_at {w : World} {A : Option Addr} {n : Nat} {rs : List Rw} (k : Rows w A n rs) {i : Nat} (hi : i < n) : ∃ r h B o, rs[i]? = some r ∧ HdOk w h r ∧ A = some ⟨B, o, none⟩ ∧ w.cell? ⟨B, o + i * 2, none⟩ = some (.slice h.A h.n h.c) ∧ w.cell? ⟨B, o + i * 2 + 1, none⟩ = some (.int .i64 h.v) := by
  obtain ⟨h1, hs, h2, h3⟩ := k
  have hr : rs[i]? = some (rs[i]'(by omega)) := List.getElem?_eq_getElem (by omega)
  obtain ⟨h, e, hk⟩ := h3 i _ hr
  obtain ⟨x, B, o, hx, hA, _, hc⟩ := rowS_elem hdC_len h2 (by decide) hi
  rw [e] at hx
  obtain rfl := Option.some.inj hx
  exact ⟨_, h, B, o, hr, hk, hA, hc 0 (by decide), hc 1 (by decide)⟩
theorem rows_nil (w : World) (A : Option Addr) : Rows w A 0 [] := ⟨rfl, [], row_nil _ _ _, fun i r h => by simp at h⟩
end Go.Proofs.Ytbnacoakjhhndaa
namespace Go.Proofs.Ytbnacoakjhhndaa
open Go.RowKit

def LightL (zs : List Lb) : Prop := zs.length ≤ 20 ∧ ∀ x ∈ zs, x.n.length ≤ 200 ∧ x.v.length ≤ 200
def LLPost (zs : List Lb) (w : World) (e : Ending) (w' : World) : Prop := (∃ b, e = .returned (.bool b) ∧ (b = true → LightL zs)) ∧ w = w'
theorem light_short {zs : List Lb} (h : LightL zs) : ShortL zs := fun x hx => by have := h.2 x hx; omega
theorem light_small {zs : List Lb} (h : LightL zs) : SmallL zs := ⟨by have := h.1; omega, fun x hx => by have := h.2 x hx; omega⟩
set_option maxHeartbeats 8000000 in
set_option maxRecDepth 100000 in
theorem llight_any (A : Option Addr) (n c : Nat) (zs : List Lb) (w : World) (hn : n ≤ 9223372036854775807) (hr : Row w A n 2 (sR lblC zs)) :
    Calls Try.prog 6 #[.slice A n c] w (LLPost zs w) := by
  have hl : zs.length = n := by have := hr.1; rw [sR_len lblC 2 lblC_len] at this; omega
  replace hr := Lib.hid hr
  replace hl := Lib.hid hl
  go_enter Try.func6, Try.ntmps6
  go_wp2
  go_loopw [3] (fun i wr => ∃ k : Nat, k ≤ n ∧ i = .int .i64 k ∧ Hid (∀ x ∈ zs.take k, x.n.length ≤ 200 ∧ x.v.length ≤ 200) ∧ w = wr) (fun i _ => n - (intOf i).toNat)
  case atStart => exact ⟨0, Nat.zero_le _, rfl, (by intro x hx; simp at hx), rfl⟩
  case round =>
    obtain ⟨k, hk, rfl, ht, rfl⟩ := hrel
    by_cases hlt : k < n ∧ k < 30
    · obtain ⟨x, B, o, hx, rfl, _, hc⟩ := rowS_elem lblC_len hr.out (by decide) hlt.1
      have c0 : w.cell? ⟨B, o + k * 2, none⟩ = some (.string (txt x.n)) := hc 0 (by decide)
      have c1 : w.cell? ⟨B, o + k * 2 + 1, none⟩ = some (.string (txt x.v)) := hc 1 (by decide)
      have hki : (k : Int) < (n : Int) := by omega
      have hkj : (k : Int) < 30 := by omega
      have hk0 : (0 : Int) ≤ (k : Int) := by omega
      have hnext : (x.n.length ≤ 200 ∧ x.v.length ≤ 200) → ∀ y ∈ zs.take (k + 1), y.n.length ≤ 200 ∧ y.v.length ≤ 200 := fun h y hy => by
        obtain ⟨h1, h2⟩ := List.getElem?_eq_some_iff.1 hx
        rw [List.take_succ_eq_append_getElem h1, h2] at hy
        rcases List.mem_append.1 hy with hy | hy
        · exact ht.out y hy
        · rw [List.mem_singleton.1 hy]; exact h
      replace hnext := Lib.hid hnext
      clear hc hx ht
      by_cases hs : 200 < x.n.length
      · have hsi : (200 : Int) < (x.n.length : Int) := by omega
        go_wp2
        go_ret
        exact ⟨⟨false, rfl, fun h => by cases h⟩, rfl⟩
      · have hsi : ((200 : Int) < (x.n.length : Int)) = False := eq_false (by omega)
        by_cases hv : 200 < x.v.length
        · have hvi : (200 : Int) < (x.v.length : Int) := by omega
          go_wp2
          go_ret
          exact ⟨⟨false, rfl, fun h => by cases h⟩, rfl⟩
        · have hvi : ((200 : Int) < (x.v.length : Int)) = False := eq_false (by omega)
          have hn2 := hnext.out ⟨by omega, by omega⟩
          replace hn2 := Lib.hid hn2
          go_wp2
          go_roundw
          case rel => exact ⟨k + 1, by omega, by go_num, hn2.out, by first | rfl | trivial⟩
          case measure => simp [intOf]; omega
    · by_cases hkn : k < n
      · have hkj : ¬ (k : Int) < 30 := by omega
        have hki : (k : Int) < (n : Int) := by omega
        have hn60 : ((n : Int) ≤ 20) = False := eq_false (by omega)
        go_wp2
        go_ret
        exact ⟨⟨false, rfl, fun h => by cases h⟩, rfl⟩
      · obtain rfl : k = n := by omega
        by_cases h60 : k ≤ 20
        · have hn60 : (k : Int) ≤ 20 := by omega
          have hfull : LightL zs := ⟨by rw [hl.out]; exact h60, by
            have h1 := ht.out
            rwa [List.take_of_length_le (by rw [hl.out]; exact Nat.le_refl _)] at h1⟩
          replace hfull := Lib.hid hfull
          go_wp2
          go_ret
          exact ⟨⟨true, rfl, fun _ => hfull.out⟩, rfl⟩
        · have hn60 : ((k : Int) ≤ 20) = False := eq_false (by omega)
          go_wp2
          go_ret
          exact ⟨⟨false, rfl, fun h => by cases h⟩, rfl⟩
theorem cost_take {zs : List Lb} {k : Nat} {x : Lb} (hx : zs[k]? = some x) : ((zs.take (k + 1)).map fun x => 8 + x.n.length + x.v.length).sum = ((zs.take k).map fun x => 8 + x.n.length + x.v.length).sum + (8 + x.n.length + x.v.length) := by
  obtain ⟨h1, h2⟩ := List.getElem?_eq_some_iff.1 hx
  rw [List.take_succ_eq_append_getElem h1, h2]
  simp
theorem cost_le {zs : List Lb} (h : LightL zs) (k : Nat) : ((zs.take k).map fun x => 8 + x.n.length + x.v.length).sum ≤ 408 * (zs.take k).length := by
  have : ∀ l : List Lb, (∀ x ∈ l, x.n.length ≤ 200 ∧ x.v.length ≤ 200) → (l.map fun x => 8 + x.n.length + x.v.length).sum ≤ 408 * l.length := by
    intro l
    induction l with
    | nil => simp
    | cons x l ih =>
      intro hl
      have h1 := hl x List.mem_cons_self
      have h2 := ih fun y hy => hl y (List.mem_cons_of_mem _ hy)
      simp only [List.map_cons, List.sum_cons, List.length_cons]
      omega
  exact this _ fun x hx => h.2 x (List.mem_of_mem_take hx)
end Go.Proofs.Ytbnacoakjhhndaa
namespace Go.Proofs.Ytbnacoakjhhndaa
open Go.RowKit Go.ChangeShapes Go.WideShapes Go.ChangeAt Go.Deep

set_option maxRecDepth 100000
/-- Rows out of elements. -/
theorem rowS_mk {α : Type} {f : α → List Value} {S : Nat} (hf : ∀ x, (f x).length = S) (hS : 0 < S) {w : World} {a : Option Addr} {len : Nat} {zs : List α} (h1 : zs.length = len)
    (h2 : ∀ (i : Nat) (x : α), zs[i]? = some x → ∃ B o, a = some ⟨B, o, none⟩ ∧ B < w.heap.size ∧ ∀ j, j < S → w.cell? ⟨B, o + i * S + j, none⟩ = (f x)[j]?) : Row w a len S (sR f zs) := by
  refine ⟨by rw [sR_len f S hf, h1], fun j u hj => ?_⟩
  have hjl := (List.getElem?_eq_some_iff.1 hj).1
  rw [sR_len f S hf] at hjl
  have hd : j / S < zs.length := Nat.div_lt_of_lt_mul (by rw [Nat.mul_comm]; exact hjl)
  have hm : j % S < S := Nat.mod_lt _ hS
  have he : j / S * S + j % S = j := by rw [Nat.mul_comm]; exact Nat.div_add_mod j S
  have hx : zs[j / S]? = some zs[j / S] := List.getElem?_eq_getElem hd
  obtain ⟨B, o, e, hB, hc⟩ := h2 _ _ hx
  refine ⟨B, o, e, hB, ?_⟩
  have h3 := sR_at f S hf hx hm
  rw [he, hj] at h3
  have h4 := hc (j % S) hm
  rw [Nat.add_assoc, he] at h4
  rw [h4, ← h3]
def IsLbls (w : World) (a : Option Addr) (len cap : Nat) (zs : List Lb) : Prop :=
  Row w a len 2 (sR lblC zs) ∧ len ≤ cap ∧ cap ≤ 9223372036854775807 ∧ (∀ x ∈ zs, x.n.length ≤ 9223372036854775807 ∧ x.v.length ≤ 9223372036854775807) ∧ (a = none → cap = 0)
def IsHd (w : World) (h : Hd) (r : Rw) : Prop := h.v = r.v ∧ IsLbls w h.A h.n h.c r.l ∧ (-9223372036854775808 ≤ r.v ∧ r.v ≤ 9223372036854775807)
theorem isHd_ok {w : World} {h : Hd} {r : Rw} (k : IsHd w h r) : HdOk w h r :=
  ⟨k.1, by have := k.2.1.1.1; rw [sR_len lblC 2 lblC_len] at this; omega, k.2.1.1, fun e => by have := k.2.1.2.2.2.2 e; have := k.2.1.2.1; omega, k.2.1.2.1, k.2.1.2.2.1⟩
/-- A row that came in by value. -/
def IsRowV (w : World) (v : Value) (r : Rw) : Prop := ∃ h : Hd, v = .agg (hdC h).toArray ∧ IsHd w h r
/-- A slice of rows that came in. -/
def IsRows (w : World) (a : Option Addr) (len cap : Nat) (rs : List Rw) : Prop :=
  Rows w a len rs ∧ len ≤ cap ∧ cap ≤ 9223372036854775807 ∧ (∀ r ∈ rs, (-9223372036854775808 ≤ r.v ∧ r.v ≤ 9223372036854775807) ∧ r.l.length ≤ 9223372036854775807) ∧ (a = none → cap = 0)
section
variable {H : Type} {enc : TypeId × Value → H} {W : World} {base : Nat} {hd : Bool}
theorem lb_cells {n : Nat} {cs : List Value} {y : DataW H × List MemPlace} (h : DataW.trod enc Try.prog W base (fun _ => true) hd n 41 cs = some y) : ∃ x : Lb, (x.n.length ≤ 9223372036854775807 ∧ x.v.length ≤ 9223372036854775807) ∧ cs = lblC x := by
  obtain ⟨y0, y1, n1, _, hl, h0, h1⟩ := trod_struct2 Try.underlying41 h
  obtain ⟨s0, e0, _, w0⟩ := DataW.trod_string Try.underlying9 h0
  obtain ⟨s1, e1, _, w1⟩ := DataW.trod_string Try.underlying9 h1
  have c9 : Try.prog.cellsOf 9 = 1 := by kernel_rfl
  have c41 : Try.prog.cellsOf 41 = 2 := by kernel_rfl
  rw [c41] at hl
  simp only [c9] at e0 e1
  refine ⟨⟨s0.data.toList, s1.data.toList⟩, ⟨by unfold maxLen at w0; simpa using w0, by unfold maxLen at w1; simpa using w1⟩, ?_⟩
  match cs, hl with
  | [b0, b1], _ =>
    simp at e0 e1
    subst e0 e1
    simp [lblC, txt_of]
theorem lbls_cells {fuel : Nat} {cs0 : List Value} {y : DataW H × List MemPlace} (hf : DataW.trod enc Try.prog W base (fun _ => true) hd fuel 22 cs0 = some y) : ∃ a len cap zs, cs0 = [.slice a len cap] ∧ IsLbls W a len cap zs := by
  have c32 : Try.prog.cellsOf 41 = 2 := by kernel_rfl
  rcases open_slice Try.underlying22 hf with ⟨hcs, _⟩ | ⟨ad, l, c, m, n, D, Pl, hcs, _, hl, hm, hmm, _, hi⟩
  · exact ⟨none, 0, 0, [], hcs, row_nil _ _ _, Nat.le_refl _, by omega, by simp, fun _ => rfl⟩
  · have hml : m = c := by simpa using hmm
    have hP : ∀ i, i < l → ∃ x : Lb, (x.n.length ≤ 9223372036854775807 ∧ x.v.length ≤ 9223372036854775807) ∧ ∃ B o, some ad = some ⟨B, o, none⟩ ∧ B < W.heap.size ∧ ∀ j, j < 2 → W.cell? ⟨B, o + i * 2 + j, none⟩ = (lblC x)[j]? := by
      intro i hil
      obtain ⟨cs, hc, ht⟩ := hi i (by omega)
      rw [c32] at hc
      obtain ⟨x, hwf, rfl⟩ := lb_cells ht
      obtain ⟨_, _, hat⟩ := World.cells?_some hc
      obtain ⟨cs0, hc0, ht0⟩ := hi 0 (by omega)
      rw [c32] at hc0
      obtain ⟨x0, _, rfl⟩ := lb_cells ht0
      obtain ⟨_, _, hat0⟩ := World.cells?_some hc0
      have h00 := hat0 0 (by decide)
      obtain ⟨B, o, rfl, hb, hadd⟩ := addr_plain (a := ad) (v := .string (txt x0.n)) (by
        have := h00
        simp only [Nat.zero_mul] at this
        show W.cell? ad = (lblC x0)[0]?
        simpa [Addr.add] using this)
      refine ⟨x, hwf, B, o, rfl, hb, fun j hj => ?_⟩
      have h1 := hat j hj
      rw [Go.Deep.add_add, hadd] at h1
      rw [← h1, Nat.add_assoc]
    obtain ⟨zs, h1, h2⟩ := list_of hP
    refine ⟨some ad, l, c, zs, hcs, rowS_mk lblC_len (by decide) h1 (fun i x hx => (h2 i x hx).2), by omega, by unfold maxLen at hm; omega, fun x hx => ?_, fun e => by cases e⟩
    obtain ⟨i, hi2⟩ := List.getElem?_of_mem hx
    exact (h2 i x hi2).1
theorem rw_cells {n : Nat} {cs : List Value} {y : DataW H × List MemPlace} (h : DataW.trod enc Try.prog W base (fun _ => true) hd n 51 cs = some y) : ∃ (k : Hd) (r : Rw), cs = hdC k ∧ IsHd W k r := by
  obtain ⟨y0, y1, n1, _, hl, h0, h1⟩ := trod_struct2 Try.underlying51 h
  obtain ⟨a, len, cap, zs, e0, hls⟩ := lbls_cells h0
  obtain ⟨v, e1, _, w1⟩ := DataW.trod_int Try.underlying3 h1
  have c9 : Try.prog.cellsOf 22 = 1 := by kernel_rfl
  have c3 : Try.prog.cellsOf 3 = 1 := by kernel_rfl
  have c24 : Try.prog.cellsOf 51 = 2 := by kernel_rfl
  rw [c24] at hl
  simp only [c9, c3] at e0 e1
  refine ⟨⟨a, len, cap, v⟩, ⟨zs, v⟩, ?_, rfl, hls, rng_i64 w1⟩
  match cs, hl with
  | [b0, b1], _ =>
    simp at e0 e1
    subst e0 e1
    rfl
theorem row_open {v : Value} {base2 : Nat} {d : DataW H} {p : List MemPlace} (hv : Value.okWide Try.prog W .any base2 51 v) (h : DataW.Trod enc Try.prog W base (fun _ => true) hd 51 v d p) : ∃ r, IsRowV W v r := by
  obtain ⟨fuel, hf⟩ := h
  obtain ⟨cs, rfl, _⟩ := okWide_struct Try.underlying51 hv
  obtain ⟨k, r, hk, hr⟩ := rw_cells hf
  refine ⟨r, k, ?_, hr⟩
  have hk2 : cs.toList = hdC k := by simpa [Value.cells] using hk
  rw [← hk2]
theorem lbls_open {a : Option Addr} {len cap : Nat} {d : DataW H} {p : List MemPlace} (h : DataW.Trod enc Try.prog W base (fun _ => true) hd 22 (.slice a len cap) d p) : ∃ zs, IsLbls W a len cap zs := by
  obtain ⟨fuel, hf⟩ := h
  obtain ⟨a', l', c', zs, e, h⟩ := lbls_cells hf
  simp [Value.cells] at e
  obtain ⟨rfl, rfl, rfl⟩ := e
  exact ⟨zs, h⟩
theorem rows_open {a : Option Addr} {len cap : Nat} {d : DataW H} {p : List MemPlace} (h : DataW.Trod enc Try.prog W base (fun _ => true) hd 43 (.slice a len cap) d p) : ∃ rs, IsRows W a len cap rs := by
  obtain ⟨fuel, hf⟩ := h
  have c24 : Try.prog.cellsOf 51 = 2 := by kernel_rfl
  rcases open_slice Try.underlying43 hf with ⟨hcs, _⟩ | ⟨ad, l, c, m, n, D, Pl, hcs, _, hl, hm, hmm, _, hi⟩
  · simp [Value.cells] at hcs
    obtain ⟨rfl, rfl, rfl⟩ := hcs
    exact ⟨[], rows_nil _ _, Nat.le_refl _, by omega, by simp, fun _ => rfl⟩
  · simp [Value.cells] at hcs
    obtain ⟨rfl, rfl, rfl⟩ := hcs
    have hml : m = cap := by simpa using hmm
    have hP : ∀ i, i < len → ∃ x : Hd × Rw, IsHd W x.1 x.2 ∧ ∃ B o, some ad = some ⟨B, o, none⟩ ∧ B < W.heap.size ∧ ∀ j, j < 2 → W.cell? ⟨B, o + i * 2 + j, none⟩ = (hdC x.1)[j]? := by
      intro i hil
      obtain ⟨cs, hc, ht⟩ := hi i (by omega)
      rw [c24] at hc
      obtain ⟨k, r, rfl, hkr⟩ := rw_cells ht
      obtain ⟨_, _, hat⟩ := World.cells?_some hc
      obtain ⟨cs0, hc0, ht0⟩ := hi 0 (by omega)
      rw [c24] at hc0
      obtain ⟨k0, r0, rfl, _⟩ := rw_cells ht0
      obtain ⟨_, _, hat0⟩ := World.cells?_some hc0
      have h00 := hat0 0 (by decide)
      obtain ⟨B, o, rfl, hb, hadd⟩ := addr_plain (a := ad) (v := .slice k0.A k0.n k0.c) (by
        have := h00
        simp only [Nat.zero_mul] at this
        show W.cell? ad = (hdC k0)[0]?
        simpa [Addr.add] using this)
      refine ⟨(k, r), hkr, B, o, rfl, hb, fun j hj => ?_⟩
      have h1 := hat j hj
      rw [Go.Deep.add_add, hadd] at h1
      rw [← h1, Nat.add_assoc]
    obtain ⟨zs, h1, h2⟩ := list_of hP
    have hin : ∀ r ∈ zs.map (·.2), ∃ k, IsHd W k r := fun r hr => by
      obtain ⟨x, hx, rfl⟩ := List.mem_map.1 hr
      obtain ⟨i, hi2⟩ := List.getElem?_of_mem hx
      exact ⟨x.1, (h2 i x hi2).1⟩
    refine ⟨zs.map (·.2), ⟨by rw [List.length_map]; exact h1, zs.map (·.1), rowS_mk hdC_len (by decide) (by rw [List.length_map]; exact h1) (fun i x hx => ?_), fun i r hr => ?_⟩, by omega, by unfold maxLen at hm; omega, fun r hr => ?_, fun e => by cases e⟩
    · rw [List.getElem?_map] at hx
      cases hz : zs[i]? with
      | none => simp [hz] at hx
      | some z => simp [hz] at hx; subst hx; exact (h2 i z hz).2
    · rw [List.getElem?_map] at hr
      cases hz : zs[i]? with
      | none => simp [hz] at hr
      | some z => simp [hz] at hr; subst hr; exact ⟨z.1, by simp [hz], isHd_ok (h2 i z hz).1⟩
    · obtain ⟨k, hk⟩ := hin r hr
      exact ⟨hk.2.2, by rw [← (isHd_ok hk).n]; have := hk.2.1.2.1; have := hk.2.1.2.2.1; omega⟩
end
end Go.Proofs.Ytbnacoakjhhndaa
namespace Go.Proofs.Ytbnacoakjhhndaa
open Go.RowKit Go.ChangeShapes Go.WideShapes Go.ChangeAt Go.Deep

set_option maxRecDepth 100000
theorem rng_u8 {a : Int} (h : (Lit.int .u8 a).wf = true) : 0 ≤ a ∧ a ≤ 255 := by
  simpa [Lit.wf, IntKind.min, IntKind.max, IntKind.signed, IntKind.bits] using h
structure AqIn (w : World) (A : Option Addr) (n c : Nat) (q : Aq) : Prop where
  l : IsLbls w A n c q.l
  k : -9223372036854775808 ≤ q.kind ∧ q.kind ≤ 9223372036854775807
  a : -9223372036854775808 ≤ q.a ∧ q.a ≤ 9223372036854775807
  b : -9223372036854775808 ≤ q.b ∧ q.b ≤ 9223372036854775807
  c9 : -9223372036854775808 ≤ q.c ∧ q.c ≤ 9223372036854775807
  t : q.t.length ≤ 9223372036854775807
def IsAskV (w : World) (v : Value) (q : Aq) : Prop := ∃ A n c, v = aqV A n c q ∧ AqIn w A n c q
section
variable {H : Type} {enc : TypeId × Value → H} {W : World} {base : Nat} {hd : Bool}
theorem aq_cells {n : Nat} {cs : List Value} {y : DataW H × List MemPlace} (h : DataW.trod enc Try.prog W base (fun _ => true) hd n 24 cs = some y) : ∃ A len cap q, cs = [.int .i64 q.kind, .slice A len cap, .string (txt q.t), .int .i64 q.a, .int .i64 q.b, .int .i64 q.c] ∧ AqIn W A len cap q := by
  obtain ⟨xs, n2, _, _, hl2, hx2, hf⟩ := DataW.trod_struct Try.underlying24 h
  have hx : ∀ i, i < 6 → ∃ z, xs[i]? = some z := fun i hi => ⟨_, List.getElem?_eq_getElem (by rw [hx2]; exact hi)⟩
  obtain ⟨z0, hz0⟩ := hx 0 (by decide)
  obtain ⟨z1, hz1⟩ := hx 1 (by decide)
  obtain ⟨z2, hz2⟩ := hx 2 (by decide)
  obtain ⟨z3, hz3⟩ := hx 3 (by decide)
  obtain ⟨z4, hz4⟩ := hx 4 (by decide)
  obtain ⟨z5, hz5⟩ := hx 5 (by decide)
  obtain ⟨k, e0, _, w0⟩ := DataW.trod_int Try.underlying3 ((hf 0 _ rfl).trans hz0)
  obtain ⟨A, len, cap, zs, e1, hls⟩ := lbls_cells ((hf 1 _ rfl).trans hz1)
  obtain ⟨s, e2, _, w2⟩ := DataW.trod_string Try.underlying9 ((hf 2 _ rfl).trans hz2)
  obtain ⟨a, e3, _, w3⟩ := DataW.trod_int Try.underlying3 ((hf 3 _ rfl).trans hz3)
  obtain ⟨b, e4, _, w4⟩ := DataW.trod_int Try.underlying3 ((hf 4 _ rfl).trans hz4)
  obtain ⟨c, e5, _, w5⟩ := DataW.trod_int Try.underlying3 ((hf 5 _ rfl).trans hz5)
  have c3 : Try.prog.cellsOf 3 = 1 := by kernel_rfl
  have c9 : Try.prog.cellsOf 9 = 1 := by kernel_rfl
  have c22 : Try.prog.cellsOf 22 = 1 := by kernel_rfl
  have c24 : Try.prog.cellsOf 24 = 6 := by kernel_rfl
  rw [c24] at hl2
  refine ⟨A, len, cap, ⟨k, zs, s.data.toList, a, b, c⟩, ?_, hls, rng_i64 w0, rng_i64 w3, rng_i64 w4, rng_i64 w5, by unfold maxLen at w2; simpa using w2⟩
  match cs, hl2 with
  | [b0, b1, b2, b3, b4, b5], _ =>
    simp [c3, c9, c22] at e0 e1 e2 e3 e4 e5
    subst e0 e1 e2 e3 e4 e5
    simp [txt_of]
theorem aq_open {v : Value} {base2 : Nat} {d : DataW H} {p : List MemPlace} (hv : Value.okWide Try.prog W .any base2 24 v) (h : DataW.Trod enc Try.prog W base (fun _ => true) hd 24 v d p) : ∃ q, IsAskV W v q := by
  obtain ⟨fuel, hf⟩ := h
  obtain ⟨cs, rfl, _⟩ := okWide_struct Try.underlying24 hv
  obtain ⟨A, len, cap, q, hk, hr⟩ := aq_cells hf
  refine ⟨q, A, len, cap, ?_, hr⟩
  have hk2 : cs.toList = [.int .i64 q.kind, .slice A len cap, .string (txt q.t), .int .i64 q.a, .int .i64 q.b, .int .i64 q.c] := by simpa [Value.cells] using hk
  unfold aqV
  rw [← hk2]
end
theorem aqIn_ok {w w' : World} {A : Option Addr} {n c : Nat} {q : Aq} (h : AqIn w A n c q) (hL : LightL q.l) (ht : q.t.length ≤ 1000) (g : Gr w w') : AqOk w' A n c q := by
  obtain ⟨h1, h2, h3, h4, h5⟩ := h.l
  have hl : q.l.length = n := by have := h1.1; rw [sR_len lblC 2 lblC_len] at this; omega
  exact ⟨hl, by have := hL.1; omega, by omega, fun e => by have := h5 e; omega, row_gr h1 g, light_short hL, h.b⟩
end Go.Proofs.Ytbnacoakjhhndaa
