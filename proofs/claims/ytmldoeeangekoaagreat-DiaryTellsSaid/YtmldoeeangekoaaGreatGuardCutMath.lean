/-
  Frames one behind the other, cut anywhere: the first of them are found; in plain lists. No condition.
-/
import Derived.Test.YtmldoeeangekoaaGreatGuardAll
namespace Go.Proofs.YtmldoeeangekoaaGreat
namespace Crc
def cat (l : List (List UInt8)) : List UInt8 := l.flatMap frm
theorem cat_snoc (l : List (List UInt8)) (x : List UInt8) : cat (l ++ [x]) = cat l ++ frm x := by simp [cat]
theorem cat_cons (x : List UInt8) (l : List (List UInt8)) : cat (x :: l) = frm x ++ cat l := by simp [cat]
theorem cat_append (l m : List (List UInt8)) : cat (l ++ m) = cat l ++ cat m := by simp [cat]
theorem cat_le (l : List (List UInt8)) (h : ∀ x ∈ l, x.length ≤ 200) : (cat l).length ≤ 210 * l.length := by
  induction l with
  | nil => simp [cat]
  | cons a l ih =>
    have h1 := ih (fun x hx => h x (by simp [hx]))
    have h2 := h a (by simp)
    have e : cat (a :: l) = frm a ++ cat l := by simp [cat]
    rw [e, List.length_append, frm_length, List.length_cons]
    omega
theorem cat_mono (l : List (List UInt8)) (i j : Nat) (h : i ≤ j) : (cat (l.take i)).length ≤ (cat (l.take j)).length := by
  have e : l.take j = l.take i ++ (l.take j).drop i := by
    have := (List.take_append_drop i (l.take j)).symm
    rwa [List.take_take, Nat.min_eq_left h] at this
  rw [e, cat_append, List.length_append]
  omega

/-- A frame that is cut is not taken. -/
theorem take_cut (x : List UInt8) (hx : x.length ≤ 12000) (p : Nat) (hp : p < (frm x).length) : (take ((frm x).take p)).2.2 ≠ 0 := by
  rw [frm_length] at hp
  by_cases h6 : p < 6
  · unfold take
    rw [if_pos (by simp; omega)]
    decide
  · have e : (frm x).take p = head x.length ++ (x ++ be 4 (sum x)).take (p - 6) := by
      unfold frm
      rw [List.take_append, head_length, List.take_of_length_le (by rw [head_length]; omega)]
    rw [e, take_head _ _ (by omega), if_pos (by simp [be_length]; omega)]
    decide

theorem got_cat (l : List (List UInt8)) (hl : ∀ x ∈ l, x.length ≤ 12000) (R : List UInt8) : Got (cat l ++ R) l R := by
  have h : ∀ n, n ≤ l.length → Got (cat l ++ R) (l.take n) (cat (l.drop n) ++ R) := by
    intro n
    induction n with
    | zero => intro _; simpa using Got.start (cat l ++ R)
    | succ n ih =>
      intro hn
      have h1 := ih (by omega)
      have hg : n < l.length := by omega
      rw [List.take_succ_eq_append_getElem hg]
      refine .more h1 ?_
      have e : l.drop n = l[n] :: l.drop (n + 1) := List.drop_eq_getElem_cons hg
      rw [e]
      rw [cat_cons, List.append_assoc]
      exact take_frm _ _ (hl _ (List.getElem_mem hg))
  have := h l.length (Nat.le_refl _)
  simpa [cat] using this

/-- All frames of bytes that are cut. -/
theorem all_cut (l : List (List UInt8)) (hl : ∀ x ∈ l, x.length ≤ 12000) (k want : Nat) (hk : k ≤ (cat l).length) (hw : want ≤ l.length) (h1 : (cat (l.take want)).length ≤ k) (h2 : want = l.length ∨ k < (cat (l.take (want + 1))).length) :
    ∃ R, all ((cat l).take k).length ((cat l).take k) = (l.take want, R) ∧ ((cat l).take k).length - R.length = (cat (l.take want)).length := by
  have e : cat l = cat (l.take want) ++ cat (l.drop want) := by rw [← cat_append, List.take_append_drop]
  have e2 : (cat l).take k = cat (l.take want) ++ (cat (l.drop want)).take (k - (cat (l.take want)).length) := by
    rw [e, List.take_append, List.take_of_length_le h1]
  have hg := got_cat (l.take want) (fun x hx => hl x (List.mem_of_mem_take hx)) ((cat (l.drop want)).take (k - (cat (l.take want)).length))
  rw [← e2] at hg
  refine ⟨_, got_end hg ?_, ?_⟩
  · rcases h2 with h2 | h2
    · have : l.drop want = [] := List.drop_eq_nil_of_le (by omega)
      rw [this]
      simp [cat, take]
    · have hwl : want < l.length := by
        rcases Nat.lt_or_ge want l.length with h | h
        · exact h
        · rw [List.take_of_length_le (by omega)] at h1 h2; omega
      have e3 : l.drop want = l[want] :: l.drop (want + 1) := List.drop_eq_getElem_cons hwl
      rw [List.take_succ_eq_append_getElem hwl, cat_snoc, List.length_append] at h2
      rw [e3, cat_cons, List.take_append_of_le_length (by omega)]
      exact take_cut _ (hl _ (List.getElem_mem hwl)) _ (by omega)
  · have := congrArg List.length e2
    rw [List.length_append] at this
    omega
end Crc
end Go.Proofs.YtmldoeeangekoaaGreat
