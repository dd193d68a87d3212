/-
  Rows one behind the other as bytes. No condition.
-/
import Derived.Test.YtoidfoalhkoajaaRowMath
namespace Go.Proofs.Ytoidfoalhkoajaa
open Go.RowKit

def flatL (rs : List Rw) : List UInt8 := rs.flatMap rowL
theorem take_snocR {rs : List Rw} {k : Nat} {x : Rw} (hx : rs[k]? = some x) : rs.take (k + 1) = rs.take k ++ [x] := by
  obtain ⟨h1, h2⟩ := List.getElem?_eq_some_iff.1 hx
  rw [List.take_succ_eq_append_getElem h1, h2]
theorem flatL_snoc {rs : List Rw} {k : Nat} {r : Rw} (hx : rs[k]? = some r) : flatL (rs.take (k + 1)) = flatL (rs.take k) ++ rowL r := by
  obtain ⟨h1, h2⟩ := List.getElem?_eq_some_iff.1 hx
  rw [List.take_succ_eq_append_getElem h1, h2]
  simp [flatL]
theorem flatL_cons {rs : List Rw} {k : Nat} {r : Rw} (hx : rs[k]? = some r) : flatL (rs.drop k) = rowL r ++ flatL (rs.drop (k + 1)) := by
  obtain ⟨h1, h2⟩ := List.getElem?_eq_some_iff.1 hx
  rw [List.drop_eq_getElem_cons h1, h2]
  simp [flatL]
theorem flatL_le : ∀ (rs : List Rw), (∀ r ∈ rs, okR r) → (flatL rs).length ≤ 1463 * rs.length := by
  intro rs
  induction rs with
  | nil => intro _; simp [flatL]
  | cons r rs ih =>
    intro h
    have h1 := rowL_le (h r List.mem_cons_self)
    have h2 := ih fun x hx => h x (List.mem_cons_of_mem _ hx)
    have h3 : flatL (r :: rs) = rowL r ++ flatL rs := by simp [flatL]
    rw [h3, List.length_append, List.length_cons]
    omega
end Go.Proofs.Ytoidfoalhkoajaa
