/-
  Lists of rows whose labels the call has laid itself. No condition.
-/
import Derived.Test.YtoidfoalhkoajaaRowsTidy
import Derived.Test.YtoidfoalhkoajaaRowGet
import Derived.Test.YtoidfoalhkoajaaRowFlat0
namespace Go.Proofs.Ytoidfoalhkoajaa
open Go.RowKit

theorem goodRows {w : World} : ∀ (hs : List Hd), (∀ h ∈ hs, GoodH w h) → ∃ rs : List Rw, rs.length = hs.length ∧ (∀ r ∈ rs, okR r) ∧ ∀ (i : Nat) (r : Rw), rs[i]? = some r → ∃ h, hs[i]? = some h ∧ HdOk w h r := by
  intro hs
  induction hs with
  | nil => intro _; exact ⟨[], rfl, by simp, by simp⟩
  | cons h hs ih =>
    intro hg
    obtain ⟨rs, h1, h2, h3⟩ := ih fun x hx => hg x (List.mem_cons_of_mem _ hx)
    obtain ⟨r, k1, k2⟩ := hg h List.mem_cons_self
    refine ⟨r :: rs, by simp [h1], fun x hx => ?_, fun i x hx => ?_⟩
    · rcases List.mem_cons.1 hx with rfl | hx
      · exact k2
      · exact h2 x hx
    · cases i with
      | zero => simp at hx; subst hx; exact ⟨h, rfl, k1⟩
      | succ i => simp at hx; obtain ⟨y, e, ky⟩ := h3 i x hx; exact ⟨y, by simpa using e, ky⟩
/-- A row whose labels the call has laid itself. -/
def OwnHd (w : World) (base : Nat) (h : Hd) (r : Rw) : Prop := h.v = r.v ∧ h.n = r.l.length ∧ w.ownsRow base 76 2 (.slice h.A h.n h.c) h.n (sR lblC r.l)
theorem ownHd_ok {w : World} {base : Nat} {h : Hd} {r : Rw} (k : OwnHd w base h r) : HdOk w h r := by
  obtain ⟨k1, k2, k3⟩ := k
  have h1 := hdOk_own (v := r.v) k3
  exact ⟨k1, k2, h1.row, h1.nil, h1.le, h1.small⟩
def OwnRows (w : World) (base : Nat) (hs : List Hd) (rs : List Rw) : Prop := hs.length = rs.length ∧ ∀ (i : Nat) (r : Rw), rs[i]? = some r → ∃ h, hs[i]? = some h ∧ OwnHd w base h r
theorem ownRows_kept {w w' : World} {base : Nat} {hs : List Hd} {rs : List Rw} {b2 size n : Nat} {v : Value} {xs : List Value} (k : OwnRows w base hs rs) (ho : w.ownsRow b2 40 size v n xs) (g : w.grownBy w' v.ownBlock) : OwnRows w' base hs rs :=
  ⟨k.1, fun i r hr => by
    obtain ⟨h, e, k1, k2, k3⟩ := k.2 i r hr
    exact ⟨h, e, k1, k2, k3.kept g (own_types k3 ho (by decide))⟩⟩
theorem ownRows_gr {w w' : World} {base : Nat} {hs : List Hd} {rs : List Rw} (k : OwnRows w base hs rs) (g : Gr w w') : OwnRows w' base hs rs :=
  ⟨k.1, fun i r hr => by
    obtain ⟨h, e, k1, k2, k3⟩ := k.2 i r hr
    exact ⟨h, e, k1, k2, k3.kept g (Classical.em _)⟩⟩
theorem ownRows_snoc {w : World} {base : Nat} {hs : List Hd} {rs : List Rw} {h : Hd} {r : Rw} (k : OwnRows w base hs rs) (k1 : OwnHd w base h r) : OwnRows w base (hs ++ [h]) (rs ++ [r]) := by
  refine ⟨by simp [k.1], fun i x hx => ?_⟩
  by_cases hi : i < rs.length
  · rw [List.getElem?_append_left hi] at hx
    obtain ⟨y, e, ky⟩ := k.2 i x hx
    exact ⟨y, by rw [List.getElem?_append_left (by rw [k.1]; exact hi)]; exact e, ky⟩
  · rw [List.getElem?_append_right (by omega)] at hx
    have hi2 : i - rs.length = 0 := by
      cases hq : i - rs.length with
      | zero => rfl
      | succ q => rw [hq] at hx; simp at hx
    rw [hi2] at hx
    simp at hx
    subst hx
    exact ⟨h, by rw [List.getElem?_append_right (by rw [k.1]; omega), k.1, hi2]; rfl, k1⟩
theorem ownRows_rows {w : World} {base n : Nat} {A : Option Addr} {hs : List Hd} {rs : List Rw} (k : OwnRows w base hs rs) (hl : rs.length = n) (h : Row w A n 2 (sR hdC hs)) : Rows w A n rs :=
  ⟨hl, hs, h, fun i r hr => by
    obtain ⟨h, e, k1⟩ := k.2 i r hr
    exact ⟨h, e, ownHd_ok k1⟩⟩
end Go.Proofs.Ytoidfoalhkoajaa
