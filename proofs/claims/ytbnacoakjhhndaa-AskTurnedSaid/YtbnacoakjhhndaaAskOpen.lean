/-
  A request that came in by value. No condition.
-/
import Derived.Test.YtbnacoakjhhndaaAskRight
import Derived.Test.YtbnacoakjhhndaaRowOpen
import Derived.Test.YtbnacoakjhhndaaRowLight
namespace Go.Proofs.Ytbnacoakjhhndaa
open Go.RowKit Go.ChangeShapes Go.WideShapes Go.ChangeAt Go.Deep

set_option maxRecDepth 100000
theorem rng_u8 {a : Int} (h : (Lit.int .u8 a).wf = true) : 0 ≤ a ∧ a ≤ 255 := by
  simpa [Lit.wf, IntKind.min, IntKind.max, IntKind.signed, IntKind.bits] using h
structure AqIn (w : World) (A : Option Addr) (n c : Nat) (q : Aq) : Prop where
  l : IsLbls w A n c q.l
  k : -9223372036854775808 ≤ q.kind ∧ q.kind ≤ 9223372036854775807
  a : -9223372036854775808 ≤ q.a ∧ q.a ≤ 9223372036854775807
  b : -9223372036854775808 ≤ q.b ∧ q.b ≤ 9223372036854775807
  c9 : -9223372036854775808 ≤ q.c ∧ q.c ≤ 9223372036854775807
  t : q.t.length ≤ 9223372036854775807
def IsAskV (w : World) (v : Value) (q : Aq) : Prop := ∃ A n c, v = aqV A n c q ∧ AqIn w A n c q
section
variable {H : Type} {enc : TypeId × Value → H} {W : World} {base : Nat} {hd : Bool}
theorem aq_cells {n : Nat} {cs : List Value} {y : DataW H × List MemPlace} (h : DataW.trod enc Try.prog W base (fun _ => true) hd n 24 cs = some y) : ∃ A len cap q, cs = [.int .i64 q.kind, .slice A len cap, .string (txt q.t), .int .i64 q.a, .int .i64 q.b, .int .i64 q.c] ∧ AqIn W A len cap q := by
  obtain ⟨xs, n2, _, _, hl2, hx2, hf⟩ := DataW.trod_struct Try.underlying24 h
  have hx : ∀ i, i < 6 → ∃ z, xs[i]? = some z := fun i hi => ⟨_, List.getElem?_eq_getElem (by rw [hx2]; exact hi)⟩
  obtain ⟨z0, hz0⟩ := hx 0 (by decide)
  obtain ⟨z1, hz1⟩ := hx 1 (by decide)
  obtain ⟨z2, hz2⟩ := hx 2 (by decide)
  obtain ⟨z3, hz3⟩ := hx 3 (by decide)
  obtain ⟨z4, hz4⟩ := hx 4 (by decide)
  obtain ⟨z5, hz5⟩ := hx 5 (by decide)
  obtain ⟨k, e0, _, w0⟩ := DataW.trod_int Try.underlying3 ((hf 0 _ rfl).trans hz0)
  obtain ⟨A, len, cap, zs, e1, hls⟩ := lbls_cells ((hf 1 _ rfl).trans hz1)
  obtain ⟨s, e2, _, w2⟩ := DataW.trod_string Try.underlying9 ((hf 2 _ rfl).trans hz2)
  obtain ⟨a, e3, _, w3⟩ := DataW.trod_int Try.underlying3 ((hf 3 _ rfl).trans hz3)
  obtain ⟨b, e4, _, w4⟩ := DataW.trod_int Try.underlying3 ((hf 4 _ rfl).trans hz4)
  obtain ⟨c, e5, _, w5⟩ := DataW.trod_int Try.underlying3 ((hf 5 _ rfl).trans hz5)
  have c3 : Try.prog.cellsOf 3 = 1 := by kernel_rfl
  have c9 : Try.prog.cellsOf 9 = 1 := by kernel_rfl
  have c22 : Try.prog.cellsOf 22 = 1 := by kernel_rfl
  have c24 : Try.prog.cellsOf 24 = 6 := by kernel_rfl
  rw [c24] at hl2
  refine ⟨A, len, cap, ⟨k, zs, s.data.toList, a, b, c⟩, ?_, hls, rng_i64 w0, rng_i64 w3, rng_i64 w4, rng_i64 w5, by unfold maxLen at w2; simpa using w2⟩
  match cs, hl2 with
  | [b0, b1, b2, b3, b4, b5], _ =>
    simp [c3, c9, c22] at e0 e1 e2 e3 e4 e5
    subst e0 e1 e2 e3 e4 e5
    simp [txt_of]
theorem aq_open {v : Value} {base2 : Nat} {d : DataW H} {p : List MemPlace} (hv : Value.okWide Try.prog W .any base2 24 v) (h : DataW.Trod enc Try.prog W base (fun _ => true) hd 24 v d p) : ∃ q, IsAskV W v q := by
  obtain ⟨fuel, hf⟩ := h
  obtain ⟨cs, rfl, _⟩ := okWide_struct Try.underlying24 hv
  obtain ⟨A, len, cap, q, hk, hr⟩ := aq_cells hf
  refine ⟨q, A, len, cap, ?_, hr⟩
  have hk2 : cs.toList = [.int .i64 q.kind, .slice A len cap, .string (txt q.t), .int .i64 q.a, .int .i64 q.b, .int .i64 q.c] := by simpa [Value.cells] using hk
  unfold aqV
  rw [← hk2]
end
theorem aqIn_ok {w w' : World} {A : Option Addr} {n c : Nat} {q : Aq} (h : AqIn w A n c q) (hL : LightL q.l) (ht : q.t.length ≤ 1000) (g : Gr w w') : AqOk w' A n c q := by
  obtain ⟨h1, h2, h3, h4, h5⟩ := h.l
  have hl : q.l.length = n := by have := h1.1; rw [sR_len lblC 2 lblC_len] at this; omega
  exact ⟨hl, by have := hL.1; omega, by omega, fun e => by have := h5 e; omega, row_gr h1 g, light_short hL, h.b⟩
end Go.Proofs.Ytbnacoakjhhndaa
