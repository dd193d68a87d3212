/-
  Points that came in, as a list. No condition.
-/
import Derived.Test.YtkpmonefhpnljaaGreatWinAlive
import Derived.ProofKit
import Derived.OpenShut
namespace Go.Proofs.YtkpmonefhpnljaaGreat
open Go.RowKit Go.ChangeShapes Go.WideShapes Go.ChangeAt Go.Deep

def IsPts (w : World) (a : Option Addr) (len cap : Nat) (zs : List (Int × Int)) : Prop :=
  PtRow w a len zs ∧ len ≤ cap ∧ cap ≤ 9223372036854775807 ∧ ∀ x ∈ zs, (-9223372036854775808 ≤ x.1 ∧ x.1 ≤ 9223372036854775807) ∧ (-9223372036854775808 ≤ x.2 ∧ x.2 ≤ 9223372036854775807)
theorem ptRow_mk {w : World} {a : Option Addr} {len : Nat} {zs : List (Int × Int)} (h1 : zs.length = len) (h2 : ∀ (i : Nat) (x : Int × Int), zs[i]? = some x → ∃ B o, a = some ⟨B, o, none⟩ ∧ B < w.heap.size ∧ w.cell? ⟨B, o + i * 2, none⟩ = some (.int .i64 x.1) ∧ w.cell? ⟨B, o + i * 2 + 1, none⟩ = some (.int .i64 x.2)) : PtRow w a len zs := by
  refine ⟨by rw [pcs_len, h1], fun j u hj => ?_⟩
  have hjl := (List.getElem?_eq_some_iff.1 hj).1
  rw [pcs_len] at hjl
  have hx : zs[j / 2]? = some (zs[j / 2]'(by omega)) := List.getElem?_eq_getElem (by omega)
  obtain ⟨B, o, e, hB, hc1, hc2⟩ := h2 _ _ hx
  obtain ⟨g1, g2⟩ := pcs_get hx
  refine ⟨B, o, e, hB, ?_⟩
  rcases Nat.mod_two_eq_zero_or_one j with h | h
  · have e2 : j / 2 * 2 = j := by omega
    rw [e2] at g1 hc1
    rw [hj] at g1
    rw [Option.some.inj g1]
    exact hc1
  · have e2 : j / 2 * 2 + 1 = j := by omega
    rw [e2] at g2
    rw [hj] at g2
    rw [Option.some.inj g2]
    rw [Nat.add_assoc, e2] at hc2
    exact hc2
theorem pts_open {H : Type} {enc : TypeId × Value → H} {W : World} {a : Option Addr} {len cap : Nat} {d : DataW H} {p : List MemPlace} {base : Nat} {hd : Bool}
    (h : DataW.Trod enc Tryz.prog W base (fun _ => true) hd 22 (.slice a len cap) d p) : ∃ zs, IsPts W a len cap zs := by
  obtain ⟨fuel, hf⟩ := h
  rcases open_slice_fields Tryz.underlying22 Tryz.underlying43 (by kernel_rfl) (by kernel_rfl) hf with ⟨hcs, _⟩ | ⟨ad, l, c, m, D, Pl, hcs, _, hl, hm, hmm, _, hi⟩
  · simp [Value.cells] at hcs
    obtain ⟨rfl, rfl, rfl⟩ := hcs
    exact ⟨[], row_nil _ _ _, Nat.le_refl _, by omega, by simp⟩
  · simp [Value.cells] at hcs
    obtain ⟨rfl, rfl, rfl⟩ := hcs
    have hml : m = cap := by simpa using hmm
    have hP : ∀ i, i < len → ∃ x : Int × Int, ∃ B o, some ad = some ⟨B, o, none⟩ ∧ B < W.heap.size ∧ W.cell? ⟨B, o + i * 2, none⟩ = some (.int .i64 x.1) ∧ W.cell? ⟨B, o + i * 2 + 1, none⟩ = some (.int .i64 x.2) ∧ (Lit.int .i64 x.1).wf = true ∧ (Lit.int .i64 x.2).wf = true := by
      intro i hil
      obtain ⟨ys, n, _, _, _, hf⟩ := hi i (by omega)
      obtain ⟨v0, y0, hc0, _, ht0⟩ := hf 0 _ rfl
      obtain ⟨v1, y1, hc1, _, ht1⟩ := hf 1 _ rfl
      obtain ⟨x0, e0, _, wf0⟩ := DataW.trod_int Tryz.underlying3 ht0
      obtain ⟨x1, e1, _, wf1⟩ := DataW.trod_int Tryz.underlying3 ht1
      simp at e0 e1
      subst e0 e1
      obtain ⟨_, _, _, _, _, hf0⟩ := hi 0 (by omega)
      obtain ⟨_, _, hc00, _, _⟩ := hf0 0 _ rfl
      obtain ⟨B, o, rfl, hb, hadd⟩ := addr_plain (a := ad) (by simpa [Addr.add] using hc00)
      rw [hadd] at hc0 hc1
      exact ⟨(x0, x1), B, o, rfl, hb, by simpa using hc0, by simpa [Nat.add_assoc] using hc1, wf0, wf1⟩
    obtain ⟨zs, h1, h2⟩ := list_of hP
    refine ⟨zs, ptRow_mk h1 (fun i x hx => ?_), by omega, by unfold maxLen at hm; omega, fun x hx => ?_⟩
    · obtain ⟨B, o, e, hB, hc1, hc2, _, _⟩ := h2 i x hx
      exact ⟨B, o, e, hB, hc1, hc2⟩
    · obtain ⟨i, hi2⟩ := List.getElem?_of_mem hx
      obtain ⟨B, o, e, hB, hc1, hc2, wf0, wf1⟩ := h2 i x hi2
      exact ⟨rng_i64 wf0, rng_i64 wf1⟩
/-- What a window is, if the points and the times may be. -/
theorem ofP_ok {zs : List (Int × Int)} {t d : Int} (h : rightB zs = true) (t0 : 0 ≤ t) (t1 : t ≤ 1000000000) (d0 : 0 ≤ d) (d1 : d ≤ 1000000000) : ofP zs t d = zs.filter (inWin t d) := by
  unfold ofP mayWin
  rw [h, Bool.true_and, decide_eq_true ⟨t0, t1⟩, decide_eq_true ⟨d0, d1⟩]
  rfl
/-- Times rise. -/
theorem right_rise {zs : List (Int × Int)} (h : rightB zs = true) : zs.Pairwise (fun a b => a.1 < b.1) := by
  have hk := (right_iff.1 h).2
  have step : ∀ i, i + 1 < zs.length → pT zs i < pT zs (i + 1) := fun i hi => by
    have := (okP_iff.1 (hk (i + 1) hi)).2.2.2
    rcases this with h0 | h0
    · omega
    · exact h0
  have mono : ∀ i j, i < j → j < zs.length → pT zs i < pT zs j := by
    intro i j hij
    induction j with
    | zero => omega
    | succ j ih =>
      intro hj
      rcases Nat.lt_succ_iff_lt_or_eq.1 hij with h1 | h1
      · exact Int.lt_trans (ih h1 (by omega)) (step j hj)
      · subst h1; exact step i hj
  rw [List.pairwise_iff_getElem]
  intro i j hi hj hij
  have := mono i j hij hj
  rw [(pT_of (List.getElem?_eq_getElem hi)).1, (pT_of (List.getElem?_eq_getElem hj)).1] at this
  exact this
end Go.Proofs.YtkpmonefhpnljaaGreat
