/-
  Rows that a call has laid itself: their heads, and each one's labels. No condition.
-/
import Derived.Test.YtbnacoakjhhndaaGreatRowRows
import Derived.Test.YtbnacoakjhhndaaGreatStepRow
namespace Go.Proofs.YtbnacoakjhhndaaGreat
open Go.RowKit

theorem hdOk_own {w : World} {base : Nat} {A : Option Addr} {n c : Nat} {z : List Lb} {v : Int} (ho : w.ownsRow base 77 2 (.slice A n c) n (sR lblC z)) : HdOk w ⟨A, n, c, v⟩ ⟨z, v⟩ := by
  obtain ⟨A', c', hv, h1, h2, h3⟩ := own_sliceS ho
  injection hv with e1 _ e2
  subst e1 e2
  have hl : z.length = n := by have := ho.1; rw [sR_len lblC 2 lblC_len] at this; omega
  exact ⟨rfl, hl.symm, row_own ho, fun h => ⟨by have := h3 h; show n = 0; omega, h3 h⟩, h1, h2⟩
/-- A row whose labels the call has laid itself. -/
def OwnHd (w : World) (base : Nat) (h : Hd) (r : Rw) : Prop := h.v = r.v ∧ h.n = r.l.length ∧ w.ownsRow base 77 2 (.slice h.A h.n h.c) h.n (sR lblC r.l)
theorem ownHd_ok {w : World} {base : Nat} {h : Hd} {r : Rw} (k : OwnHd w base h r) : HdOk w h r := by
  obtain ⟨k1, k2, k3⟩ := k
  have h1 := hdOk_own (v := r.v) k3
  exact ⟨k1, k2, h1.row, h1.nil, h1.le, h1.small⟩
def OwnRows (w : World) (base : Nat) (hs : List Hd) (rs : List Rw) : Prop := hs.length = rs.length ∧ ∀ (i : Nat) (r : Rw), rs[i]? = some r → ∃ h, hs[i]? = some h ∧ OwnHd w base h r
theorem ownRows_kept {w w' : World} {base : Nat} {hs : List Hd} {rs : List Rw} {b2 size n : Nat} {v : Value} {xs : List Value} (k : OwnRows w base hs rs) (ho : w.ownsRow b2 34 size v n xs) (g : w.grownBy w' v.ownBlock) : OwnRows w' base hs rs :=
  ⟨k.1, fun i r hr => by
    obtain ⟨h, e, k1, k2, k3⟩ := k.2 i r hr
    exact ⟨h, e, k1, k2, k3.kept g (own_types k3 ho (by decide))⟩⟩
theorem ownRows_gr {w w' : World} {base : Nat} {hs : List Hd} {rs : List Rw} (k : OwnRows w base hs rs) (g : Gr w w') : OwnRows w' base hs rs :=
  ⟨k.1, fun i r hr => by
    obtain ⟨h, e, k1, k2, k3⟩ := k.2 i r hr
    exact ⟨h, e, k1, k2, k3.kept g (Classical.em _)⟩⟩
theorem ownRows_snoc {w : World} {base : Nat} {hs : List Hd} {rs : List Rw} {h : Hd} {r : Rw} (k : OwnRows w base hs rs) (k1 : OwnHd w base h r) : OwnRows w base (hs ++ [h]) (rs ++ [r]) := by
  refine ⟨by simp [k.1], fun i x hx => ?_⟩
  by_cases hi : i < rs.length
  · rw [List.getElem?_append_left hi] at hx
    obtain ⟨y, e, ky⟩ := k.2 i x hx
    exact ⟨y, by rw [List.getElem?_append_left (by rw [k.1]; exact hi)]; exact e, ky⟩
  · rw [List.getElem?_append_right (by omega)] at hx
    have hi2 : i - rs.length = 0 := by
      cases hq : i - rs.length with
      | zero => rfl
      | succ q => rw [hq] at hx; simp at hx
    rw [hi2] at hx
    simp at hx
    subst hx
    exact ⟨h, by rw [List.getElem?_append_right (by rw [k.1]; omega), k.1, hi2]; rfl, k1⟩
theorem ownRows_rows {w : World} {base n : Nat} {A : Option Addr} {hs : List Hd} {rs : List Rw} (k : OwnRows w base hs rs) (hl : rs.length = n) (h : Row w A n 2 (sR hdC hs)) : Rows w A n rs :=
  ⟨hl, hs, h, fun i r hr => by
    obtain ⟨h, e, k1⟩ := k.2 i r hr
    exact ⟨h, e, ownHd_ok k1⟩⟩
/-- Rows that the call has laid itself. -/
def OwnRs (w : World) (base : Nat) (v : Value) (l : List Rw) : Prop := ∃ hs, OwnRows w base hs l ∧ w.ownsRow base 34 2 v l.length (sR hdC hs)
theorem ownRs_gr {w w' : World} {base : Nat} {v : Value} {l : List Rw} (h : OwnRs w base v l) (g : Gr w w') : OwnRs w' base v l := by
  obtain ⟨hs, h1, h2⟩ := h
  exact ⟨hs, ownRows_gr h1 g, h2.kept g (Classical.em _)⟩
theorem ownRs_base {w : World} {base base' : Nat} {v : Value} {l : List Rw} (h : OwnRs w base v l) (hb : base' ≤ base) : OwnRs w base' v l := by
  obtain ⟨hs, h1, h2⟩ := h
  exact ⟨hs, ⟨h1.1, fun i r hr => by obtain ⟨k, e, k1, k2, k3⟩ := h1.2 i r hr; exact ⟨k, e, k1, k2, own_mono k3 hb⟩⟩, own_mono h2 hb⟩
theorem ownRs_nil (w : World) (base : Nat) : OwnRs w base (.slice none 0 0) [] := ⟨[], ⟨rfl, by intro i r h; simp at h⟩, World.ownsRow_nil _ _ _ _⟩
theorem ownRs_rows {w : World} {base n c : Nat} {A : Option Addr} {l : List Rw} (h : OwnRs w base (.slice A n c) l) (hn : l.length = n) : Rows w A n l := by
  obtain ⟨hs, h1, h2⟩ := h
  rw [hn] at h2
  exact ownRows_rows h1 hn (row_own h2)
end Go.Proofs.YtbnacoakjhhndaaGreat
