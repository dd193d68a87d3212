/-
  A page of a right file, as the laws call it. No condition but bounds.
-/
import Derived.Test.YtoidfoalhkoajaaRunAll
namespace Go.Proofs.Ytoidfoalhkoajaa
open Go.RowKit

theorem pageR_len {rs : List Rw} {m k q : Nat} (hl : rs.length = m) (h : k + q ≤ m) : (pageR rs k (k + q)).length = q := by
  unfold pageR
  rw [List.length_drop, List.length_take]
  omega
theorem pageR_next {rs : List Rw} {m k S q : Nat} (hl : rs.length = m) (hk : k ≤ m) (hq : q = min S (m - k)) : rs.take k ++ pageR rs k (k + q) = rs.take (k + S) := by
  unfold pageR
  have e : rs.take (k + S) = rs.take (k + q) := by
    by_cases h : S ≤ m - k
    · rw [hq, Nat.min_eq_left h]
    · rw [hq, Nat.min_eq_right (by omega), List.take_of_length_le (by omega), List.take_of_length_le (by omega)]
  rw [e]
  have h2 : rs.take k = (rs.take (k + q)).take k := by rw [List.take_take, Nat.min_eq_left (by omega)]
  rw [h2, List.take_append_drop]
/-- A page of a right file that lies in it. -/
theorem page_rs {rs : List Rw} {m : Nat} (hok : ∀ r ∈ rs, okR r) (hl : rs.length = m) (hm : m ≤ 2000) (hF : (fileB rs).length ≤ 60000) (k S : Nat) (hk : k ≤ m) (hS : S ≤ 9223372036854775807) (W : World) :
    Calls Try.prog 9 #[.string (txt (fileB rs)), .int .i64 (k : Int), .int .i64 (S : Int)] W fun e w' => (∃ A c, e = .returned (.tuple #[.slice A (min S (m - k)) c, .int .i64 0]) ∧ OwnRs w' W.heap.size (.slice A (min S (m - k)) c) (pageR rs k (k + min S (m - k)))) ∧ Gr W w' := by
  have h := rpage_any (fileB rs) k S W (by omega) (by omega) (by omega)
  unfold PagePost at h
  rw [page_ans_file hok (by omega), if_neg (by omega)] at h
  simp only [Int.toNat_natCast] at h
  rw [hl] at h
  refine h.mono ?_
  rintro e w' ⟨⟨A, c, he, hO⟩, g⟩
  rw [pageR_len hl (by omega)] at he hO
  exact ⟨⟨A, c, he, hO⟩, g⟩
theorem page_out {rs : List Rw} {m : Nat} (hok : ∀ r ∈ rs, okR r) (hl : rs.length = m) (hm : m ≤ 2000) (hF : (fileB rs).length ≤ 60000) (fr n : Int) (hfr : (m : Int) < fr) (hf2 : fr ≤ 9223372036854775807) (hn : -9223372036854775808 ≤ n ∧ n ≤ 9223372036854775807) (W : World) :
    Calls Try.prog 9 #[.string (txt (fileB rs)), .int .i64 fr, .int .i64 n] W fun e w' => e = .returned (.tuple #[.slice none 0 0, .int .i64 1]) ∧ Gr W w' := by
  have h := rpage_any (fileB rs) fr n W (by omega) (by omega) hn
  unfold PagePost at h
  rw [page_ans_file hok (by omega), if_pos (by omega)] at h
  exact h
end Go.Proofs.Ytoidfoalhkoajaa
