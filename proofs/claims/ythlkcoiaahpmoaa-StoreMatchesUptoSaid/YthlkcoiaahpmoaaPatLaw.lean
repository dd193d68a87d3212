/-
  What the laws on patterns share: Compile of what is a pattern; the document's Spell. No condition but bounds.
-/
import Derived.Test.YthlkcoiaahpmoaaPatAscii
namespace Go.Proofs.Ythlkcoiaahpmoaa
open Go.RowKit

theorem compile_ok (n : Nat) (hn : 123 ≤ n) (l : List UInt8) (x : T) (w : World) (hx : pAlt n (runesOf l) = some (x, [])) (hl : (runesOf l).length ≤ 40) (hll : l.length ≤ 1000000) :
    Calls Try.prog 63 #[.string (txt l)] w fun e w' => ∃ p, e = .returned (.tuple #[.pointer (some ⟨p, 0, none⟩), .int .i64 0]) ∧ PatAt w' p l x ∧ Gr w w' := by
  refine (compile_any n hn l w hll).mono ?_
  rintro e w' ⟨g, ⟨hb, _⟩ | ⟨_, hno, _⟩ | ⟨_, p, y, hy, _, rfl, hp⟩⟩
  · omega
  · exact absurd hx (hno x)
  · have : y = x := by
      have := hy.symm.trans hx
      simpa using this
    subst this
    exact ⟨p, rfl, hp, g⟩
/-- The document's Spell. -/
theorem refSpell_runes (l : List UInt8) (w : World) (hl : l.length ≤ 1000000) : Calls Try.prog 26 #[.string (txt l)] w fun e w' => ∃ A c, e = .returned (.slice A (runesOf l).length c) ∧ w'.ownsRow w.heap.size 21 1 (.slice A (runesOf l).length c) (runesOf l).length ((runesOf l).map (.int .i32)) ∧ Gr w w' := by
  have hrm : (chunks l).map runeV = (runesOf l).map (.int .i32) := by unfold runesOf; rw [List.map_map]; rfl
  refine (refSpell_any l w (by omega)).mono ?_
  rintro e w' ⟨v, rfl, ho, g⟩
  rw [hrm, ← runes_len] at ho
  obtain ⟨A, c, rfl, _, _⟩ := own_open ho
  exact ⟨A, c, rfl, ho, g⟩
theorem runes_dots (k : Nat) : runesOf (List.replicate k 46) = List.replicate k 46 := by
  rw [runes_ascii _ (fun c hc => by rw [List.eq_of_mem_replicate hc]; decide), List.map_replicate]
  rfl
theorem begin_dots (k : Nat) (rs : List Int) : BegIn (.alt1 ((List.replicate k (T.one dotS)).foldl T.rowS .row0)) rs (if k ≤ rs.length then (k : Int) else -1) := by
  split
  · rename_i h
    refine .inr ⟨k, rfl, h, (lang_dots k _).2 (by rw [List.length_take]; omega), fun j hj hj2 hh => ?_⟩
    have := (lang_dots k _).1 hh
    rw [List.length_take] at this
    omega
  · rename_i h
    refine .inl ⟨rfl, fun j hj hh => ?_⟩
    have := (lang_dots k _).1 hh
    rw [List.length_take] at this
    omega
end Go.Proofs.Ythlkcoiaahpmoaa
