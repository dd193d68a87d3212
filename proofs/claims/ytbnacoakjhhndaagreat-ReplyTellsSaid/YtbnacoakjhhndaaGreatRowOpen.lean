/-
  Labels, rows and lists of rows that came in. No condition. (soft)
-/
import Derived.Test.YtbnacoakjhhndaaGreatRowRows
import Derived.ProofKit
import Derived.OpenShut
namespace Go.Proofs.YtbnacoakjhhndaaGreat
open Go.RowKit Go.ChangeShapes Go.WideShapes Go.ChangeAt Go.Deep

set_option maxRecDepth 100000
/-- Rows out of elements. -/
theorem rowS_mk {α : Type} {f : α → List Value} {S : Nat} (hf : ∀ x, (f x).length = S) (hS : 0 < S) {w : World} {a : Option Addr} {len : Nat} {zs : List α} (h1 : zs.length = len)
    (h2 : ∀ (i : Nat) (x : α), zs[i]? = some x → ∃ B o, a = some ⟨B, o, none⟩ ∧ B < w.heap.size ∧ ∀ j, j < S → w.cell? ⟨B, o + i * S + j, none⟩ = (f x)[j]?) : Row w a len S (sR f zs) := by
  refine ⟨by rw [sR_len f S hf, h1], fun j u hj => ?_⟩
  have hjl := (List.getElem?_eq_some_iff.1 hj).1
  rw [sR_len f S hf] at hjl
  have hd : j / S < zs.length := Nat.div_lt_of_lt_mul (by rw [Nat.mul_comm]; exact hjl)
  have hm : j % S < S := Nat.mod_lt _ hS
  have he : j / S * S + j % S = j := by rw [Nat.mul_comm]; exact Nat.div_add_mod j S
  have hx : zs[j / S]? = some zs[j / S] := List.getElem?_eq_getElem hd
  obtain ⟨B, o, e, hB, hc⟩ := h2 _ _ hx
  refine ⟨B, o, e, hB, ?_⟩
  have h3 := sR_at f S hf hx hm
  rw [he, hj] at h3
  have h4 := hc (j % S) hm
  rw [Nat.add_assoc, he] at h4
  rw [h4, ← h3]
def IsLbls (w : World) (a : Option Addr) (len cap : Nat) (zs : List Lb) : Prop :=
  Row w a len 2 (sR lblC zs) ∧ len ≤ cap ∧ cap ≤ 9223372036854775807 ∧ (∀ x ∈ zs, x.n.length ≤ 9223372036854775807 ∧ x.v.length ≤ 9223372036854775807) ∧ (a = none → cap = 0)
def IsHd (w : World) (h : Hd) (r : Rw) : Prop := h.v = r.v ∧ IsLbls w h.A h.n h.c r.l ∧ (-9223372036854775808 ≤ r.v ∧ r.v ≤ 9223372036854775807)
theorem isHd_ok {w : World} {h : Hd} {r : Rw} (k : IsHd w h r) : HdOk w h r :=
  ⟨k.1, by have := k.2.1.1.1; rw [sR_len lblC 2 lblC_len] at this; omega, k.2.1.1, fun e => by have := k.2.1.2.2.2.2 e; have := k.2.1.2.1; omega, k.2.1.2.1, k.2.1.2.2.1⟩
/-- A row that came in by value. -/
def IsRowV (w : World) (v : Value) (r : Rw) : Prop := ∃ h : Hd, v = .agg (hdC h).toArray ∧ IsHd w h r
/-- A slice of rows that came in. -/
def IsRows (w : World) (a : Option Addr) (len cap : Nat) (rs : List Rw) : Prop :=
  Rows w a len rs ∧ len ≤ cap ∧ cap ≤ 9223372036854775807 ∧ (∀ r ∈ rs, (-9223372036854775808 ≤ r.v ∧ r.v ≤ 9223372036854775807) ∧ r.l.length ≤ 9223372036854775807) ∧ (a = none → cap = 0)
section
variable {H : Type} {enc : TypeId × Value → H} {W : World} {base : Nat} {hd : Bool}
theorem lb_cells {n : Nat} {cs : List Value} {y : DataW H × List MemPlace} (h : DataW.trod enc Tryz.prog W base (fun _ => true) hd n 77 cs = some y) : ∃ x : Lb, (x.n.length ≤ 9223372036854775807 ∧ x.v.length ≤ 9223372036854775807) ∧ cs = lblC x := by
  obtain ⟨y0, y1, n1, _, hl, h0, h1⟩ := trod_struct2 Tryz.underlying77 h
  obtain ⟨s0, e0, _, w0⟩ := DataW.trod_string Tryz.underlying9 h0
  obtain ⟨s1, e1, _, w1⟩ := DataW.trod_string Tryz.underlying9 h1
  have c9 : Tryz.prog.cellsOf 9 = 1 := by kernel_rfl
  have c41 : Tryz.prog.cellsOf 77 = 2 := by kernel_rfl
  rw [c41] at hl
  simp only [c9] at e0 e1
  refine ⟨⟨s0.data.toList, s1.data.toList⟩, ⟨by unfold maxLen at w0; simpa using w0, by unfold maxLen at w1; simpa using w1⟩, ?_⟩
  match cs, hl with
  | [b0, b1], _ =>
    simp at e0 e1
    subst e0 e1
    simp [lblC, txt_of]
theorem lbls_cells {fuel : Nat} {cs0 : List Value} {y : DataW H × List MemPlace} (hf : DataW.trod enc Tryz.prog W base (fun _ => true) hd fuel 32 cs0 = some y) : ∃ a len cap zs, cs0 = [.slice a len cap] ∧ IsLbls W a len cap zs := by
  have c32 : Tryz.prog.cellsOf 77 = 2 := by kernel_rfl
  rcases open_slice Tryz.underlying32 hf with ⟨hcs, _⟩ | ⟨ad, l, c, m, n, D, Pl, hcs, _, hl, hm, hmm, _, hi⟩
  · exact ⟨none, 0, 0, [], hcs, row_nil _ _ _, Nat.le_refl _, by omega, by simp, fun _ => rfl⟩
  · have hml : m = c := by simpa using hmm
    have hP : ∀ i, i < l → ∃ x : Lb, (x.n.length ≤ 9223372036854775807 ∧ x.v.length ≤ 9223372036854775807) ∧ ∃ B o, some ad = some ⟨B, o, none⟩ ∧ B < W.heap.size ∧ ∀ j, j < 2 → W.cell? ⟨B, o + i * 2 + j, none⟩ = (lblC x)[j]? := by
      intro i hil
      obtain ⟨cs, hc, ht⟩ := hi i (by omega)
      rw [c32] at hc
      obtain ⟨x, hwf, rfl⟩ := lb_cells ht
      obtain ⟨_, _, hat⟩ := World.cells?_some hc
      obtain ⟨cs0, hc0, ht0⟩ := hi 0 (by omega)
      rw [c32] at hc0
      obtain ⟨x0, _, rfl⟩ := lb_cells ht0
      obtain ⟨_, _, hat0⟩ := World.cells?_some hc0
      have h00 := hat0 0 (by decide)
      obtain ⟨B, o, rfl, hb, hadd⟩ := addr_plain (a := ad) (v := .string (txt x0.n)) (by
        have := h00
        simp only [Nat.zero_mul] at this
        show W.cell? ad = (lblC x0)[0]?
        simpa [Addr.add] using this)
      refine ⟨x, hwf, B, o, rfl, hb, fun j hj => ?_⟩
      have h1 := hat j hj
      rw [Go.Deep.add_add, hadd] at h1
      rw [← h1, Nat.add_assoc]
    obtain ⟨zs, h1, h2⟩ := list_of hP
    refine ⟨some ad, l, c, zs, hcs, rowS_mk lblC_len (by decide) h1 (fun i x hx => (h2 i x hx).2), by omega, by unfold maxLen at hm; omega, fun x hx => ?_, fun e => by cases e⟩
    obtain ⟨i, hi2⟩ := List.getElem?_of_mem hx
    exact (h2 i x hi2).1
theorem rw_cells {n : Nat} {cs : List Value} {y : DataW H × List MemPlace} (h : DataW.trod enc Tryz.prog W base (fun _ => true) hd n 34 cs = some y) : ∃ (k : Hd) (r : Rw), cs = hdC k ∧ IsHd W k r := by
  obtain ⟨y0, y1, n1, _, hl, h0, h1⟩ := trod_struct2 Tryz.underlying34 h
  obtain ⟨a, len, cap, zs, e0, hls⟩ := lbls_cells h0
  obtain ⟨v, e1, _, w1⟩ := DataW.trod_int Tryz.underlying3 h1
  have c9 : Tryz.prog.cellsOf 32 = 1 := by kernel_rfl
  have c3 : Tryz.prog.cellsOf 3 = 1 := by kernel_rfl
  have c24 : Tryz.prog.cellsOf 34 = 2 := by kernel_rfl
  rw [c24] at hl
  simp only [c9, c3] at e0 e1
  refine ⟨⟨a, len, cap, v⟩, ⟨zs, v⟩, ?_, rfl, hls, rng_i64 w1⟩
  match cs, hl with
  | [b0, b1], _ =>
    simp at e0 e1
    subst e0 e1
    rfl
theorem row_open {v : Value} {base2 : Nat} {d : DataW H} {p : List MemPlace} (hv : Value.okWide Tryz.prog W .any base2 34 v) (h : DataW.Trod enc Tryz.prog W base (fun _ => true) hd 34 v d p) : ∃ r, IsRowV W v r := by
  obtain ⟨fuel, hf⟩ := h
  obtain ⟨cs, rfl, _⟩ := okWide_struct Tryz.underlying34 hv
  obtain ⟨k, r, hk, hr⟩ := rw_cells hf
  refine ⟨r, k, ?_, hr⟩
  have hk2 : cs.toList = hdC k := by simpa [Value.cells] using hk
  rw [← hk2]
theorem lbls_open {a : Option Addr} {len cap : Nat} {d : DataW H} {p : List MemPlace} (h : DataW.Trod enc Tryz.prog W base (fun _ => true) hd 32 (.slice a len cap) d p) : ∃ zs, IsLbls W a len cap zs := by
  obtain ⟨fuel, hf⟩ := h
  obtain ⟨a', l', c', zs, e, h⟩ := lbls_cells hf
  simp [Value.cells] at e
  obtain ⟨rfl, rfl, rfl⟩ := e
  exact ⟨zs, h⟩
theorem rows_open {a : Option Addr} {len cap : Nat} {d : DataW H} {p : List MemPlace} (h : DataW.Trod enc Tryz.prog W base (fun _ => true) hd 23 (.slice a len cap) d p) : ∃ rs, IsRows W a len cap rs := by
  obtain ⟨fuel, hf⟩ := h
  have c24 : Tryz.prog.cellsOf 34 = 2 := by kernel_rfl
  rcases open_slice Tryz.underlying23 hf with ⟨hcs, _⟩ | ⟨ad, l, c, m, n, D, Pl, hcs, _, hl, hm, hmm, _, hi⟩
  · simp [Value.cells] at hcs
    obtain ⟨rfl, rfl, rfl⟩ := hcs
    exact ⟨[], rows_nil _ _, Nat.le_refl _, by omega, by simp, fun _ => rfl⟩
  · simp [Value.cells] at hcs
    obtain ⟨rfl, rfl, rfl⟩ := hcs
    have hml : m = cap := by simpa using hmm
    have hP : ∀ i, i < len → ∃ x : Hd × Rw, IsHd W x.1 x.2 ∧ ∃ B o, some ad = some ⟨B, o, none⟩ ∧ B < W.heap.size ∧ ∀ j, j < 2 → W.cell? ⟨B, o + i * 2 + j, none⟩ = (hdC x.1)[j]? := by
      intro i hil
      obtain ⟨cs, hc, ht⟩ := hi i (by omega)
      rw [c24] at hc
      obtain ⟨k, r, rfl, hkr⟩ := rw_cells ht
      obtain ⟨_, _, hat⟩ := World.cells?_some hc
      obtain ⟨cs0, hc0, ht0⟩ := hi 0 (by omega)
      rw [c24] at hc0
      obtain ⟨k0, r0, rfl, _⟩ := rw_cells ht0
      obtain ⟨_, _, hat0⟩ := World.cells?_some hc0
      have h00 := hat0 0 (by decide)
      obtain ⟨B, o, rfl, hb, hadd⟩ := addr_plain (a := ad) (v := .slice k0.A k0.n k0.c) (by
        have := h00
        simp only [Nat.zero_mul] at this
        show W.cell? ad = (hdC k0)[0]?
        simpa [Addr.add] using this)
      refine ⟨(k, r), hkr, B, o, rfl, hb, fun j hj => ?_⟩
      have h1 := hat j hj
      rw [Go.Deep.add_add, hadd] at h1
      rw [← h1, Nat.add_assoc]
    obtain ⟨zs, h1, h2⟩ := list_of hP
    have hin : ∀ r ∈ zs.map (·.2), ∃ k, IsHd W k r := fun r hr => by
      obtain ⟨x, hx, rfl⟩ := List.mem_map.1 hr
      obtain ⟨i, hi2⟩ := List.getElem?_of_mem hx
      exact ⟨x.1, (h2 i x hi2).1⟩
    refine ⟨zs.map (·.2), ⟨by rw [List.length_map]; exact h1, zs.map (·.1), rowS_mk hdC_len (by decide) (by rw [List.length_map]; exact h1) (fun i x hx => ?_), fun i r hr => ?_⟩, by omega, by unfold maxLen at hm; omega, fun r hr => ?_, fun e => by cases e⟩
    · rw [List.getElem?_map] at hx
      cases hz : zs[i]? with
      | none => simp [hz] at hx
      | some z => simp [hz] at hx; subst hx; exact (h2 i z hz).2
    · rw [List.getElem?_map] at hr
      cases hz : zs[i]? with
      | none => simp [hz] at hr
      | some z => simp [hz] at hr; subst hr; exact ⟨z.1, by simp [hz], isHd_ok (h2 i z hz).1⟩
    · obtain ⟨k, hk⟩ := hin r hr
      exact ⟨hk.2.2, by rw [← (isHd_ok hk).n]; have := hk.2.1.2.1; have := hk.2.1.2.2.1; omega⟩
end
end Go.Proofs.YtbnacoakjhhndaaGreat
