/-
  Plain facts on notes laid one behind the other. No condition.
-/
import Derived.Test.YtmldoeeangekoaaGreatDiaryRead
namespace Go.Proofs.YtmldoeeangekoaaGreat
open Go.RowKit

def okB (x : Nte) : Bool := decide (okN x)
/-- Those of the first k that may be. -/
def gd (zs : List Nte) (k : Nat) : List Nte := (zs.take k).filter okB
theorem gd_ok {zs : List Nte} {k : Nat} : ∀ x ∈ gd zs k, okN x := fun x hx => by
  have := (List.mem_filter.1 hx).2
  unfold okB at this
  exact of_decide_eq_true this
theorem gd_next {zs : List Nte} {k : Nat} {x : Nte} (h : zs[k]? = some x) : gd zs (k + 1) = gd zs k ++ (if okN x then [x] else []) := by
  obtain ⟨h1, h2⟩ := List.getElem?_eq_some_iff.1 h
  unfold gd
  rw [List.take_succ_eq_append_getElem h1, h2, List.filter_append]
  congr 1
  by_cases hx : okN x
  · rw [if_pos hx, List.filter_cons_of_pos (by unfold okB; exact decide_eq_true hx)]; rfl
  · rw [if_neg hx, List.filter_cons_of_neg (by unfold okB; simp [hx])]; rfl
theorem gd_len (zs : List Nte) (k : Nat) : (gd zs k).length ≤ k := by
  unfold gd
  have h1 := List.length_filter_le okB (zs.take k)
  have h2 := List.length_take_le k zs
  omega
theorem catN_append (a b : List Nte) : catN (a ++ b) = catN a ++ catN b := by unfold catN; rw [List.map_append, Crc.cat_append]
theorem catN_snoc (a : List Nte) (x : Nte) : catN (a ++ [x]) = catN a ++ Crc.frm (noteL x) := by rw [catN_append]; simp [catN, Crc.cat]
theorem frm_note_len (x : Nte) : (Crc.frm (noteL x)).length = 27 + x.c.file.length := by rw [Crc.frm_length, noteL_len]; omega
theorem catN_le {l : List Nte} (h : ∀ x ∈ l, okN x) : (catN l).length ≤ 87 * l.length := by
  induction l with
  | nil => simp [catN, Crc.cat]
  | cons x l ih =>
    have h1 : catN (x :: l) = catN [x] ++ catN l := catN_append [x] l
    have h2 : catN [x] = Crc.frm (noteL x) := by simp [catN, Crc.cat]
    have h3 := (ok_bounds (h x (by simp))).2.2.2.2.2
    have h4 := ih (fun y hy => h y (by simp [hy]))
    rw [h1, h2, List.length_append, frm_note_len, List.length_cons]
    omega
theorem notes_cat {l : List Nte} (h : ∀ x ∈ l, okN x) {R : List UInt8} (hR : (Crc.take R).2.2 ≠ 0) : notesOf (catN l ++ R) = l := by
  unfold notesOf catN
  have hg := Crc.got_cat (l.map noteL) (fun x hx => by
    obtain ⟨y, hy, rfl⟩ := List.mem_map.1 hx
    have := (ok_bounds (h y hy)).2.2.2.2.2
    rw [noteL_len]; omega) R
  rw [Crc.got_end hg hR]
  exact readN_notes l h
theorem notes_whole {l : List Nte} (h : ∀ x ∈ l, okN x) : notesOf (catN l) = l := by
  have := notes_cat h (R := []) (by decide)
  rwa [List.append_nil] at this
/-- Where each ends. -/
def endsN (l : List Nte) : List Int := (List.range l.length).map fun j => (((catN (l.take (j + 1))).length : Nat) : Int)
theorem endsN_len (l : List Nte) : (endsN l).length = l.length := by simp [endsN]
theorem endsN_at {l : List Nte} {j : Nat} (h : j < l.length) : (endsN l)[j]? = some (((catN (l.take (j + 1))).length : Nat) : Int) := by
  unfold endsN
  rw [List.getElem?_map, List.getElem?_range h, Option.map_some]
theorem endsN_snoc (l : List Nte) (x : Nte) : endsN (l ++ [x]) = endsN l ++ [(((catN (l ++ [x])).length : Nat) : Int)] := by
  unfold endsN
  rw [List.length_append, List.length_singleton, List.range_succ, List.map_append, List.map_singleton]
  congr 1
  · apply List.map_congr_left
    intro j hj
    rw [List.mem_range] at hj
    rw [List.take_append_of_le_length (by omega)]
  · rw [List.take_of_length_le (by simp)]
theorem cut_notes {l : List Nte} (h : ∀ x ∈ l, okN x) {K wn : Nat} (hK : K ≤ (catN l).length) (hw : wn ≤ l.length) (h1 : (catN (l.take wn)).length ≤ K) (h2 : wn = l.length ∨ K < (catN (l.take (wn + 1))).length) : notesOf ((catN l).take K) = l.take wn := by
  have e : ∀ i, Crc.cat ((l.map noteL).take i) = catN (l.take i) := fun i => by unfold catN; rw [List.map_take]
  obtain ⟨R, hr, _⟩ := Crc.all_cut (l.map noteL) (fun x hx => by
    obtain ⟨y, hy, rfl⟩ := List.mem_map.1 hx
    have := (ok_bounds (h y hy)).2.2.2.2.2
    rw [noteL_len]; omega) K wn hK (by rw [List.length_map]; exact hw) (by rw [e]; exact h1) (by rw [e, List.length_map]; exact h2)
  unfold notesOf
  have hc : Crc.cat (l.map noteL) = catN l := rfl
  rw [hc] at hr
  rw [hr]
  show readN ((l.map noteL).take wn) = _
  rw [← List.map_take]
  exact readN_notes _ (fun x hx => h x (List.mem_of_mem_take hx))
theorem take_cat (l : List Nte) (k : Nat) : (catN l).take (catN (l.take k)).length = catN (l.take k) := by
  have h := catN_append (l.take k) (l.drop k)
  rw [List.take_append_drop] at h
  rw [h, List.take_left]
theorem own_open3 {w : World} {base : Nat} {e : TypeId} {size n : Nat} {v : Value} {xs : List Value} (h : w.ownsRow base e size v n xs) : ∃ A c, v = .slice A n c ∧ n ≤ c ∧ c ≤ 9223372036854775807 ∧ (A = none → c = 0) := by
  rcases h.2 with ⟨rfl, rfl⟩ | ⟨g, cap, cur, rfl, hg, hh, hn, hc, hs, hx⟩
  · exact ⟨none, 0, rfl, Nat.le_refl _, by omega, fun _ => rfl⟩
  · exact ⟨_, _, rfl, hn, by unfold maxLen at hc; omega, fun h => by cases h⟩
end Go.Proofs.YtmldoeeangekoaaGreat
