/-
  A range over a text, rune by rune: what a round finds. No condition.
-/
import Derived.Test.YtccmekdmnkmhlaaGreatAid
import Derived.Test.YtccmekdmnkmhlaaGreatGlyphMath
namespace Go.Proofs.YtccmekdmnkmhlaaGreat
open Go.RowKit
open Go.Lib (decodeL encodeRune decodeL_drop decodeL_width decodeL_le)

structure Round (l : List UInt8) (done : List (Nat × List UInt8)) (p r k : Nat) (b : List UInt8) : Prop where
  dec : decodeL (l.drop p) = (r, k)
  next : chunks l = (done ++ [(r, b)]) ++ chunks (l.drop (p + k))
  width : 1 ≤ k
  fits : p + k ≤ l.length
  bytes : b = (l.drop p).take k
  len : b.length = k
  ok : RuneOk (r : Int)
  mem : (r, b) ∈ chunks l
theorem round_at {l : List UInt8} {done : List (Nat × List UInt8)} {p : Nat} (h : chunks l = done ++ chunks (l.drop p)) (hp : p < l.length) : ∃ r k b, Round l done p r k b := by
  have hne : l.drop p ≠ [] := fun e => by have := congrArg List.length e; rw [List.length_drop] at this; simp at this; omega
  have h1 := chunks_step h hp
  have h2 := decodeL_le _ hne
  rw [List.length_drop] at h2
  have h3 := head_len hne
  refine ⟨(decodeL (l.drop p)).1, (decodeL (l.drop p)).2, (l.drop p).take (decodeL (l.drop p)).2, rfl, h1, decodeL_width _, by omega, rfl, h3, dec_ok _, ?_⟩
  rw [h1]
  simp [headC]
theorem round_rng {l : List UInt8} {done : List (Nat × List UInt8)} {p r k : Nat} {b : List UInt8} (h : Round l done p r k b) : r ≤ 1114111 ∧ k ≤ 4 := by
  have h1 := h.ok
  unfold RuneOk at h1
  have h2 := h.dec
  have h3 := Go.Lib.decodeL_N (l.drop p)
  rw [h2] at h3
  refine ⟨by omega, ?_⟩
  rcases Go.Lib.decodeN_shape (l.drop p).length ((l.drop p).getD 0 0).toNat ((l.drop p).getD 1 0).toNat ((l.drop p).getD 2 0).toNat ((l.drop p).getD 3 0).toNat with ⟨_, e⟩ | ⟨_, _, _, _, e⟩ | ⟨_, _, _, _, _, _, e⟩ | ⟨_, _, _, _, _, _, _, e⟩ | e
  all_goals
    rw [e] at h3
    have := (Prod.mk.inj h3).2
    omega
/-- What 'next' answers. -/
theorem next_round {P : Program} {w : World} {bb : Nat} {l : List UInt8} {done : List (Nat × List UInt8)} {p r k : Nat} {b : List UInt8} (h : Round l done p r k b) (hit : It w bb (txt l) p) (ty : TypeId) :
    (Instr.next (.pointer (some ⟨bb, 0, none⟩)) true ty).run P w = .ok (.tuple #[.bool true, .int .i64 p, .int .i32 r]) (itW w bb (txt l) (p + k)) := by
  have h1 := run_next_it (P := P) hit (by rw [txt_size]; have := h.width; have := h.fits; omega) ty
  have h2 : Utf8.decode (txt l) p = (r, k) := by
    have := decodeL_drop (txt l) p
    rw [txt_data] at this
    rw [← this]
    exact h.dec
  rw [h2] at h1
  exact h1
theorem next_end {P : Program} {w : World} {bb : Nat} {l : List UInt8} {p : Nat} (hp : l.length ≤ p) (hit : It w bb (txt l) p) (ty : TypeId) :
    (Instr.next (.pointer (some ⟨bb, 0, none⟩)) true ty).run P w = .ok (.tuple #[.bool false]) w :=
  run_next_it_end hit (by rw [txt_size]; omega) ty
theorem own_not_it {W : World} {base : Nat} {e : TypeId} {size n b p : Nat} {v : Value} {xs : List Value} {s : ByteArray} (hown : W.ownsRow base e size v n xs) (hit : It W b s p) : some b ≠ v.ownBlock := by
  rcases hown.2 with ⟨rfl, _⟩ | ⟨g, cap, cur, rfl, _, hh, _⟩
  · simp [Value.ownBlock]
  · simp only [Value.ownBlock]
    intro e
    have : b = g := by injection e
    subst this
    unfold It at hit
    rw [hit] at hh
    simp at hh
theorem it_append {W W' : World} {base : Nat} {e : TypeId} {size n b p : Nat} {v : Value} {xs : List Value} {s : ByteArray} {o : Obj} (hit : It W b s p) (hown : W.ownsRow base e size v n xs) (hg : (W.alloc o).grownBy W' v.ownBlock) : It W' b s p :=
  it_keep (it_keep hit (gr_alloc W o none) (by simp)) hg (own_not_it hown hit)
theorem own_it {W : World} {base : Nat} {e : TypeId} {size n b p : Nat} {v : Value} {xs : List Value} {s : ByteArray} (hown : W.ownsRow base e size v n xs) (hit : It W b s p) (q : Nat) : (itW W b s q).ownsRow base e size v n xs :=
  hown.kept (it_gr W b s q) (by
    have := own_not_it hown hit
    exact Or.inr fun h => this h.symm)
theorem chunks_done {l : List UInt8} {done : List (Nat × List UInt8)} {p : Nat} (h : chunks l = done ++ chunks (l.drop p)) (hp : l.length ≤ p) : done = chunks l := by
  rw [h, List.drop_of_length_le hp, chunks_nil, List.append_nil]
theorem done_len {l : List UInt8} {done : List (Nat × List UInt8)} {p : Nat} (h : chunks l = done ++ chunks (l.drop p)) : done.length ≤ l.length := by
  have h1 := chunks_len l
  rw [h, List.length_append] at h1
  omega
end Go.Proofs.YtccmekdmnkmhlaaGreat
