/-
  What is done at a desk, come in as a slice: each has five cells, as a cursor. No condition.
-/
import Derived.Test.YtmldoeeangekoaaGreatDoorPkDyOpen
namespace Go.Proofs.YtmldoeeangekoaaGreatDoor
open Go.RowKit Go.ChangeShapes Go.WideShapes Go.ChangeAt Go.Deep

/-- What is done, as a cursor's cells: the kind, three numbers, a text. -/
def IsDops (w : World) (a : Option Addr) (len cap : Nat) (zs : List Cur) : Prop :=
  Row w a len 5 (sR curC zs) ∧ len ≤ cap ∧ cap ≤ 9223372036854775807 ∧ (∀ x ∈ zs, CurWf x) ∧ (a = none → cap = 0)
section
variable {H : Type} {enc : TypeId × Value → H} {W : World} {base : Nat} {hd : Bool}
set_option maxRecDepth 100000 in
theorem dop_cells {n : Nat} {cs : List Value} {y : DataW H × List MemPlace} (h : DataW.trod enc Tryz.prog W base (fun _ => true) hd n 48 cs = some y) : ∃ x : Cur, CurWf x ∧ cs = curC x := by
  obtain ⟨xs, n2, _, _, hl, hx2, hf⟩ := DataW.trod_struct Tryz.underlying48 h
  have hx : ∀ i, i < 5 → ∃ z, xs[i]? = some z := fun i hi => ⟨_, List.getElem?_eq_getElem (by rw [hx2]; exact hi)⟩
  obtain ⟨z0, hz0⟩ := hx 0 (by decide)
  obtain ⟨z1, hz1⟩ := hx 1 (by decide)
  obtain ⟨z2, hz2⟩ := hx 2 (by decide)
  obtain ⟨z3, hz3⟩ := hx 3 (by decide)
  obtain ⟨z4, hz4⟩ := hx 4 (by decide)
  obtain ⟨a0, e1, _, w1⟩ := DataW.trod_int Tryz.underlying3 ((hf 0 _ rfl).trans hz0)
  obtain ⟨a1, e2, _, w2⟩ := DataW.trod_int Tryz.underlying3 ((hf 1 _ rfl).trans hz1)
  obtain ⟨a2, e3, _, w3⟩ := DataW.trod_int Tryz.underlying3 ((hf 2 _ rfl).trans hz2)
  obtain ⟨a3, e4, _, w4⟩ := DataW.trod_int Tryz.underlying3 ((hf 3 _ rfl).trans hz3)
  obtain ⟨s, e5, _, w5⟩ := DataW.trod_string Tryz.underlying9 ((hf 4 _ rfl).trans hz4)
  have c3 : Tryz.prog.cellsOf 3 = 1 := by kernel_rfl
  have c9 : Tryz.prog.cellsOf 9 = 1 := by kernel_rfl
  have c32 : Tryz.prog.cellsOf 48 = 5 := by kernel_rfl
  rw [c32] at hl
  try simp only [c3] at e1 e2 e3 e4 e5
  refine ⟨⟨a0, a1, a2, a3, s.data.toList⟩, ⟨rng_i64 w1, rng_i64 w2, rng_i64 w3, rng_i64 w4, by unfold maxLen at w5; simpa using w5⟩, ?_⟩
  match cs, hl with
  | [b0, b1, b2, b3, b4], _ =>
    simp [c3, c9] at e1 e2 e3 e4 e5
    subst e1 e2 e3 e4 e5
    simp [curC, txt_of]
set_option maxRecDepth 100000 in
theorem dops_open {a : Option Addr} {len cap : Nat} {d : DataW H} {p : List MemPlace}
    (h : DataW.Trod enc Tryz.prog W base (fun _ => true) hd 23 (.slice a len cap) d p) : ∃ zs, IsDops W a len cap zs := by
  obtain ⟨fuel, hf⟩ := h
  have c32 : Tryz.prog.cellsOf 48 = 5 := by kernel_rfl
  rcases open_slice Tryz.underlying23 hf with ⟨hcs, _⟩ | ⟨ad, l, c, m, n, D, Pl, hcs, _, hl, hm, hmm, _, hi⟩
  · simp [Value.cells] at hcs
    obtain ⟨rfl, rfl, rfl⟩ := hcs
    exact ⟨[], row_nil _ _ _, Nat.le_refl _, by omega, by simp, fun _ => rfl⟩
  · simp [Value.cells] at hcs
    obtain ⟨rfl, rfl, rfl⟩ := hcs
    have hml : m = cap := by simpa using hmm
    have hP : ∀ i, i < len → ∃ x : Cur, CurWf x ∧ ∃ B o, some ad = some ⟨B, o, none⟩ ∧ B < W.heap.size ∧ ∀ j, j < 5 → W.cell? ⟨B, o + i * 5 + j, none⟩ = (curC x)[j]? := by
      intro i hil
      obtain ⟨cs, hc, ht⟩ := hi i (by omega)
      rw [c32] at hc
      obtain ⟨x, hwf, rfl⟩ := dop_cells ht
      obtain ⟨_, _, hat⟩ := World.cells?_some hc
      obtain ⟨cs0, hc0, ht0⟩ := hi 0 (by omega)
      rw [c32] at hc0
      obtain ⟨x0, _, rfl⟩ := dop_cells ht0
      obtain ⟨_, _, hat0⟩ := World.cells?_some hc0
      have h00 := hat0 0 (by decide)
      obtain ⟨B, o, rfl, hb, hadd⟩ := addr_plain (a := ad) (v := .int .i64 x0.id) (by
        have := h00
        simp only [Nat.zero_mul] at this
        show W.cell? ad = (curC x0)[0]?
        simpa [Addr.add] using this)
      refine ⟨x, hwf, B, o, rfl, hb, fun j hj => ?_⟩
      have h1 := hat j hj
      rw [Go.Deep.add_add, hadd] at h1
      rw [← h1, Nat.add_assoc]
    obtain ⟨zs, h1, h2⟩ := list_of hP
    refine ⟨zs, Dy.rowS_mk curC_len (by decide) h1 (fun i x hx => (h2 i x hx).2), by omega, by unfold maxLen at hm; omega, fun x hx => ?_, fun e => by cases e⟩
    obtain ⟨i, hi2⟩ := List.getElem?_of_mem hx
    exact (h2 i x hi2).1
end
end Go.Proofs.YtmldoeeangekoaaGreatDoor
