/-
  Lists of rows that are alike, or not. No condition but bounds on the lengths. (soft)
-/
import Derived.Test.YtbnacoakjhhndaaGreatRowSame
namespace Go.Proofs.YtbnacoakjhhndaaGreat
open Go.RowKit

/-- A row as it lies: its labels' slice, its number. -/
structure Hd where
  A : Option Addr
  n : Nat
  c : Nat
  v : Int
def hdC (h : Hd) : List Value := [.slice h.A h.n h.c, .int .i64 h.v]
theorem hdC_len (h : Hd) : (hdC h).length = 2 := rfl
theorem hdC_ones (h : Hd) : ∀ u ∈ hdC h, u.oneCell' = true := by
  intro u hu
  simp only [hdC, List.mem_cons, List.not_mem_nil, or_false] at hu
  rcases hu with rfl | rfl <;> rfl
structure HdOk (w : World) (h : Hd) (r : Rw) : Prop where
  v : h.v = r.v
  n : h.n = r.l.length
  row : Row w h.A h.n 2 (sR lblC r.l)
  nil : h.A = none → h.n = 0 ∧ h.c = 0
  le : h.n ≤ h.c
  small : h.c ≤ 9223372036854775807
theorem hdOk_gr {w w' : World} {h : Hd} {r : Rw} (k : HdOk w h r) (g : Gr w w') : HdOk w' h r := ⟨k.v, k.n, row_gr k.row g, k.nil, k.le, k.small⟩
/-- A slice of rows. -/
def Rows (w : World) (A : Option Addr) (n : Nat) (rs : List Rw) : Prop := rs.length = n ∧ ∃ hs : List Hd, Row w A n 2 (sR hdC hs) ∧ ∀ (i : Nat) (r : Rw), rs[i]? = some r → ∃ h, hs[i]? = some h ∧ HdOk w h r
theorem rows_gr {w w' : World} {A : Option Addr} {n : Nat} {rs : List Rw} (k : Rows w A n rs) (g : Gr w w') : Rows w' A n rs := by
  obtain ⟨h1, hs, h2, h3⟩ := k
  exact ⟨h1, hs, row_gr h2 g, fun i r hr => by obtain ⟨h, e, hk⟩ := h3 i r hr; exact ⟨h, e, hdOk_gr hk g⟩⟩
theorem rows_at {w : World} {A : Option Addr} {n : Nat} {rs : List Rw} (k : Rows w A n rs) {i : Nat} (hi : i < n) : ∃ r h B o, rs[i]? = some r ∧ HdOk w h r ∧ A = some ⟨B, o, none⟩ ∧ w.cell? ⟨B, o + i * 2, none⟩ = some (.slice h.A h.n h.c) ∧ w.cell? ⟨B, o + i * 2 + 1, none⟩ = some (.int .i64 h.v) := by
  obtain ⟨h1, hs, h2, h3⟩ := k
  have hr : rs[i]? = some (rs[i]'(by omega)) := List.getElem?_eq_getElem (by omega)
  obtain ⟨h, e, hk⟩ := h3 i _ hr
  obtain ⟨x, B, o, hx, hA, _, hc⟩ := rowS_elem hdC_len h2 (by decide) hi
  rw [e] at hx
  obtain rfl := Option.some.inj hx
  exact ⟨_, h, B, o, hr, hk, hA, hc 0 (by decide), hc 1 (by decide)⟩
theorem rows_nil (w : World) (A : Option Addr) : Rows w A 0 [] := ⟨rfl, [], row_nil _ _ _, fun i r h => by simp at h⟩
end Go.Proofs.YtbnacoakjhhndaaGreat
