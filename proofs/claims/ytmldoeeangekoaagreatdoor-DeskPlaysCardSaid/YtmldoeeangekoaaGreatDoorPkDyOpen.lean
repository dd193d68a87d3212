/- (soft)
  Notes that came in as a slice. No condition.
-/
import Derived.Test.YtmldoeeangekoaaGreatDoorDyA
import Derived.ProofKit
import Derived.OpenShut
namespace Go.Proofs.YtmldoeeangekoaaGreatDoor.Dy
open Go.RowKit Go.ChangeShapes Go.WideShapes Go.ChangeAt Go.Deep

def IsNtes (w : World) (a : Option Addr) (len cap : Nat) (zs : List Nte) : Prop :=
  Row w a len 6 (sR nteC zs) ∧ len ≤ cap ∧ cap ≤ 9223372036854775807 ∧ (∀ x ∈ zs, NteWf x) ∧ (a = none → cap = 0)
/-- Rows out of elements. -/
theorem rowS_mk {α : Type} {f : α → List Value} {S : Nat} (hf : ∀ x, (f x).length = S) (hS : 0 < S) {w : World} {a : Option Addr} {len : Nat} {zs : List α} (h1 : zs.length = len)
    (h2 : ∀ (i : Nat) (x : α), zs[i]? = some x → ∃ B o, a = some ⟨B, o, none⟩ ∧ B < w.heap.size ∧ ∀ j, j < S → w.cell? ⟨B, o + i * S + j, none⟩ = (f x)[j]?) : Row w a len S (sR f zs) := by
  refine ⟨by rw [sR_len f S hf, h1], fun j u hj => ?_⟩
  have hjl := (List.getElem?_eq_some_iff.1 hj).1
  rw [sR_len f S hf] at hjl
  have hd : j / S < zs.length := Nat.div_lt_of_lt_mul (by rw [Nat.mul_comm]; exact hjl)
  have hm : j % S < S := Nat.mod_lt _ hS
  have he : j / S * S + j % S = j := by rw [Nat.mul_comm]; exact Nat.div_add_mod j S
  have hx : zs[j / S]? = some zs[j / S] := List.getElem?_eq_getElem hd
  obtain ⟨B, o, e, hB, hc⟩ := h2 _ _ hx
  refine ⟨B, o, e, hB, ?_⟩
  have h3 := sR_at f S hf hx hm
  rw [he, hj] at h3
  have h4 := hc (j % S) hm
  rw [Nat.add_assoc, he] at h4
  rw [h4, ← h3]
section
variable {H : Type} {enc : TypeId × Value → H} {W : World} {base : Nat} {hd : Bool}
theorem cell_of_trod {_n : Nat} {cs : List Value} {j : Nat} {v : Value} (h : (cs.drop j).take 1 = [v]) : cs[j]? = some v := by
  have := congrArg (fun l => l[0]?) h
  simpa [List.getElem?_drop] using this
set_option maxRecDepth 100000 in
theorem nte_cells {n : Nat} {cs : List Value} {y : DataW H × List MemPlace} (h : DataW.trod enc Tryz.prog W base (fun _ => true) hd n 67 cs = some y) : ∃ x : Nte, NteWf x ∧ cs = nteC x := by
  obtain ⟨y0, y1, n1, _, hl, h0, h1⟩ := trod_struct2 Tryz.underlying67 h
  obtain ⟨xs, n2, _, _, hl2, hx2, hf⟩ := DataW.trod_struct Tryz.underlying52 h1
  obtain ⟨k, e0, _, w0⟩ := DataW.trod_int Tryz.underlying3 h0
  have g := fun (i : Nat) (f : Field) (hi : _) => hf i f hi
  have hx : ∀ i, i < 5 → ∃ z, xs[i]? = some z := fun i hi => ⟨_, List.getElem?_eq_getElem (by rw [hx2]; exact hi)⟩
  obtain ⟨z0, hz0⟩ := hx 0 (by decide)
  obtain ⟨z1, hz1⟩ := hx 1 (by decide)
  obtain ⟨z2, hz2⟩ := hx 2 (by decide)
  obtain ⟨z3, hz3⟩ := hx 3 (by decide)
  obtain ⟨z4, hz4⟩ := hx 4 (by decide)
  obtain ⟨a0, e1, _, w1⟩ := DataW.trod_int Tryz.underlying3 ((hf 0 _ rfl).trans hz0)
  obtain ⟨a1, e2, _, w2⟩ := DataW.trod_int Tryz.underlying3 ((hf 1 _ rfl).trans hz1)
  obtain ⟨a2, e3, _, w3⟩ := DataW.trod_int Tryz.underlying3 ((hf 2 _ rfl).trans hz2)
  obtain ⟨a3, e4, _, w4⟩ := DataW.trod_int Tryz.underlying3 ((hf 3 _ rfl).trans hz3)
  obtain ⟨s, e5, _, w5⟩ := DataW.trod_string Tryz.underlying9 ((hf 4 _ rfl).trans hz4)
  have c3 : Tryz.prog.cellsOf 3 = 1 := by kernel_rfl
  have c9 : Tryz.prog.cellsOf 9 = 1 := by kernel_rfl
  have c30 : Tryz.prog.cellsOf 52 = 5 := by kernel_rfl
  have c32 : Tryz.prog.cellsOf 67 = 6 := by kernel_rfl
  rw [c32] at hl
  simp only [c3, c30] at e0 e1 e2 e3 e4 e5
  refine ⟨⟨k, ⟨a0, a1, a2, a3, s.data.toList⟩⟩, ⟨rng_i64 w0, rng_i64 w1, rng_i64 w2, rng_i64 w3, rng_i64 w4, by unfold maxLen at w5; simpa using w5⟩, ?_⟩
  match cs, hl with
  | [b0, b1, b2, b3, b4, b5], _ =>
    simp [c3, c9] at e0 e1 e2 e3 e4 e5
    subst e0 e1 e2 e3 e4 e5
    simp [nteC, txt_of]
set_option maxRecDepth 100000 in
theorem ntes_open {a : Option Addr} {len cap : Nat} {d : DataW H} {p : List MemPlace}
    (h : DataW.Trod enc Tryz.prog W base (fun _ => true) hd 22 (.slice a len cap) d p) : ∃ zs, IsNtes W a len cap zs := by
  obtain ⟨fuel, hf⟩ := h
  have c32 : Tryz.prog.cellsOf 67 = 6 := by kernel_rfl
  rcases open_slice Tryz.underlying22 hf with ⟨hcs, _⟩ | ⟨ad, l, c, m, n, D, Pl, hcs, _, hl, hm, hmm, _, hi⟩
  · simp [Value.cells] at hcs
    obtain ⟨rfl, rfl, rfl⟩ := hcs
    exact ⟨[], row_nil _ _ _, Nat.le_refl _, by omega, by simp, fun _ => rfl⟩
  · simp [Value.cells] at hcs
    obtain ⟨rfl, rfl, rfl⟩ := hcs
    have hml : m = cap := by simpa using hmm
    have hP : ∀ i, i < len → ∃ x : Nte, NteWf x ∧ ∃ B o, some ad = some ⟨B, o, none⟩ ∧ B < W.heap.size ∧ ∀ j, j < 6 → W.cell? ⟨B, o + i * 6 + j, none⟩ = (nteC x)[j]? := by
      intro i hil
      obtain ⟨cs, hc, ht⟩ := hi i (by omega)
      rw [c32] at hc
      obtain ⟨x, hwf, rfl⟩ := nte_cells ht
      obtain ⟨_, _, hat⟩ := World.cells?_some hc
      obtain ⟨cs0, hc0, ht0⟩ := hi 0 (by omega)
      rw [c32] at hc0
      obtain ⟨x0, _, rfl⟩ := nte_cells ht0
      obtain ⟨_, _, hat0⟩ := World.cells?_some hc0
      have h00 := hat0 0 (by decide)
      obtain ⟨B, o, rfl, hb, hadd⟩ := addr_plain (a := ad) (v := .int .i64 x0.kind) (by
        have := h00
        simp only [Nat.zero_mul] at this
        show W.cell? ad = (nteC x0)[0]?
        simpa [Addr.add] using this)
      refine ⟨x, hwf, B, o, rfl, hb, fun j hj => ?_⟩
      have h1 := hat j hj
      rw [Go.Deep.add_add, hadd] at h1
      rw [← h1, Nat.add_assoc]
    obtain ⟨zs, h1, h2⟩ := list_of hP
    refine ⟨zs, rowS_mk nteC_len (by decide) h1 (fun i x hx => (h2 i x hx).2), by omega, by unfold maxLen at hm; omega, fun x hx => ?_, fun e => by cases e⟩
    obtain ⟨i, hi2⟩ := List.getElem?_of_mem hx
    exact (h2 i x hi2).1
end
end Go.Proofs.YtmldoeeangekoaaGreatDoor.Dy
