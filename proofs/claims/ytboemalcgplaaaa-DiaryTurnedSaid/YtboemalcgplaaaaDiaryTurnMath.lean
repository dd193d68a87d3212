/-
  Plain facts on bits that are turned in notes laid one behind the other; which notes the document lets be. No condition.
-/
import Derived.Test.YtboemalcgplaaaaDiaryCutMath
import Derived.Test.YtboemalcgplaaaaGuardBurstMath
namespace Go.Proofs.Ytboemalcgplaaaa
open Go.RowKit

namespace Crc
/-- What has been turned so far, and the first bit of it. -/
structure Fst (l l' : List UInt8) (k i : Nat) (fo : Option Nat) : Prop where
  len : l'.length = l.length
  same : ∀ p, (p < k ∨ k + i ≤ p ∨ ∀ q, fo = some q → p < q) → (bitsL l')[p]? = (bitsL l)[p]?
  first : ∀ q, fo = some q → k ≤ q ∧ q < k + i ∧ (bitsL l')[q]? ≠ (bitsL l)[q]?
theorem fst_start (l : List UInt8) (k : Nat) : Fst l l k 0 none := ⟨rfl, fun _ _ => rfl, fun q h => by cases h⟩
theorem fst_skip {l l' : List UInt8} {k i : Nat} {fo : Option Nat} (h : Fst l l' k i fo) : Fst l l' k (i + 1) fo :=
  ⟨h.len, fun p hp => h.same p (by
    rcases hp with hp | hp | hp
    · exact .inl hp
    · exact .inr (.inl (by omega))
    · exact .inr (.inr hp)), fun q hq => by obtain ⟨h1, h2, h3⟩ := h.first q hq; exact ⟨h1, by omega, h3⟩⟩
theorem fst_flip0 {l l' : List UInt8} {k i : Nat} (h : Fst l l' k i none) {x : UInt8} (hx : l'[(k + i) / 8]? = some x) : Fst l (l'.set ((k + i) / 8) (flipB x ((k + i) % 8))) k (i + 1) (some (k + i)) := by
  refine ⟨by rw [List.length_set]; exact h.len, fun p hp => ?_, fun q hq => ?_⟩
  · have hne : p ≠ k + i := by
      rcases hp with hp | hp | hp
      · omega
      · omega
      · have := hp _ rfl; omega
    rw [bits_set l' (k + i) x hx, if_neg hne]
    exact h.same p (.inr (.inr (fun q hq => by cases hq)))
  · obtain rfl : k + i = q := Option.some.inj hq
    refine ⟨by omega, by omega, ?_⟩
    rw [bits_set l' (k + i) x hx, if_pos rfl, ← h.same (k + i) (.inr (.inr (fun q hq => by cases hq))), bitsL_get, hx]
    simp
    omega
theorem fst_flip1 {l l' : List UInt8} {k i q0 : Nat} (h : Fst l l' k i (some q0)) {x : UInt8} (hx : l'[(k + i) / 8]? = some x) : Fst l (l'.set ((k + i) / 8) (flipB x ((k + i) % 8))) k (i + 1) (some q0) := by
  have hq0 := h.first q0 rfl
  refine ⟨by rw [List.length_set]; exact h.len, fun p hp => ?_, fun q hq => ?_⟩
  · have hp2 : (p < k ∨ k + i ≤ p ∨ ∀ q, some q0 = some q → p < q) ∧ p ≠ k + i := by
      rcases hp with hp | hp | hp
      · exact ⟨.inl hp, by omega⟩
      · exact ⟨.inr (.inl (by omega)), by omega⟩
      · exact ⟨.inr (.inr hp), by have := hp _ rfl; omega⟩
    rw [bits_set l' (k + i) x hx, if_neg hp2.2]
    exact h.same p hp2.1
  · obtain rfl : q0 = q := Option.some.inj hq
    obtain ⟨h1, h2, h3⟩ := hq0
    refine ⟨h1, by omega, ?_⟩
    rw [bits_set l' (k + i) x hx, if_neg (by omega)]
    exact h3
theorem bitsL_take (l : List UInt8) (n : Nat) : bitsL (l.take n) = (bitsL l).take (8 * n) := by
  induction n generalizing l with
  | zero => simp [bitsL]
  | succ n ih =>
    cases l with
    | nil => simp [bitsL]
    | cons a l =>
      have e : ∀ m : List UInt8, bitsL (a :: m) = bitsB a ++ bitsL m := fun m => by simp [bitsL]
      rw [List.take_succ_cons, e, e, ih, List.take_append, bitsB_length, show 8 * (n + 1) - 8 = 8 * n by omega, List.take_of_length_le (show (bitsB a).length ≤ 8 * (n + 1) by rw [bitsB_length]; omega)]
end Crc
open Crc in
theorem turn_notes {l : List Nte} (h : ∀ x ∈ l, okN x) {l' : List UInt8} {K j p0 wn : Nat} (hf : Fst (catN l) l' K j (some p0)) (hj : 32 ≤ j ∨ 8 * (catN l).length ≤ K + j) (hj2 : j ≤ 32) (hw : wn ≤ l.length)
    (h1 : (catN (l.take wn)).length ≤ p0 / 8) (h2 : wn = l.length ∨ p0 / 8 < (catN (l.take (wn + 1))).length) : notesOf l' = l.take wn := by
  obtain ⟨hK, hKj, hbit⟩ := hf.first p0 rfl
  have hp0 : p0 < 8 * (catN l).length := by
    apply Classical.byContradiction
    intro hn
    apply hbit
    rw [List.getElem?_eq_none (by rw [bitsL_length, hf.len]; omega), List.getElem?_eq_none (by rw [bitsL_length]; omega)]
  have hwl : wn < l.length := by
    rcases Nat.lt_or_ge wn l.length with hh | hh
    · exact hh
    · rw [List.take_of_length_le hh] at h1
      omega
  have h2' : p0 / 8 < (catN (l.take (wn + 1))).length := by
    rcases h2 with h2 | h2
    · omega
    · exact h2
  obtain ⟨x, hx⟩ : ∃ x, l[wn]? = some x := ⟨_, List.getElem?_eq_getElem hwl⟩
  have hxm : x ∈ l := List.mem_of_getElem? hx
  obtain ⟨hx1, hx2⟩ := List.getElem?_eq_some_iff.1 hx
  have ht1 : l.take (wn + 1) = l.take wn ++ [x] := by rw [List.take_succ_eq_append_getElem hx1, hx2]
  have hc1 : catN (l.take (wn + 1)) = catN (l.take wn) ++ frm (noteL x) := by rw [ht1, catN_snoc]
  have hL : catN l = catN (l.take wn) ++ (frm (noteL x) ++ catN (l.drop (wn + 1))) := by
    have h3 := catN_append (l.take (wn + 1)) (l.drop (wn + 1))
    rw [List.take_append_drop, hc1, List.append_assoc] at h3
    exact h3
  rw [hc1, List.length_append] at h2'
  generalize hP : catN (l.take wn) = P at *
  generalize hF : frm (noteL x) = F at *
  generalize catN (l.drop (wn + 1)) = T at *
  have hsame := hf.same
  have hlen := hf.len
  have hgo : ∀ p, p < p0 → (bitsL l')[p]? = (bitsL (catN l))[p]? := fun p hp => hsame p (.inr (.inr (fun q hq => by cases hq; exact hp)))
  have hback : ∀ p, K + 32 ≤ p → (bitsL l')[p]? = (bitsL (catN l))[p]? := fun p hp => by
    by_cases hpl : p < 8 * (catN l).length
    · exact hsame p (.inr (.inl (by omega)))
    · rw [List.getElem?_eq_none (by rw [bitsL_length, hlen]; omega), List.getElem?_eq_none (by rw [bitsL_length]; omega)]
  have hLl : (catN l).length = P.length + (F.length + T.length) := by rw [hL, List.length_append, List.length_append]
  have htake : l'.take P.length = P := by
    apply bitsL_inj
    rw [bitsL_take]
    have hPb : bitsL P = (bitsL (catN l)).take (8 * P.length) := by rw [← bitsL_take, hL, List.take_left]
    rw [hPb]
    apply List.ext_getElem?
    intro p
    rw [List.getElem?_take, List.getElem?_take]
    split
    · exact hgo p (by omega)
    · rfl
  have hsplit : l' = P ++ l'.drop P.length := by
    conv => lhs; rw [← List.take_append_drop P.length l', htake]
  generalize hR : l'.drop P.length = R at *
  have hRl : R.length = F.length + T.length := by rw [← hR, List.length_drop]; omega
  have hbR : ∀ p, (bitsL R)[p]? = (bitsL l')[8 * P.length + p]? := fun p => by
    rw [hsplit, bitsL_append, List.getElem?_append_right (by rw [bitsL_length]; omega), bitsL_length]
    congr 1
    omega
  have hbF : ∀ p, p < 8 * F.length → (bitsL F)[p]? = (bitsL (catN l))[8 * P.length + p]? := fun p hp => by
    rw [hL, bitsL_append, List.getElem?_append_right (by rw [bitsL_length]; omega), bitsL_length, bitsL_append, List.getElem?_append_left (by rw [bitsL_length]; omega)]
    congr 1
    omega
  have hbv : ∀ p, p < 8 * F.length → (bitsL (R.take F.length))[p]? = (bitsL l')[8 * P.length + p]? := fun p hp => by
    rw [bitsL_take, List.getElem?_take, if_pos hp, hbR]
  have hvl : (R.take F.length).length = F.length := by rw [List.length_take]; omega
  have hw2 : ∀ p, p < p0 - 8 * P.length ∨ p0 - 8 * P.length + 32 ≤ p → (bitsL (R.take F.length))[p]? = (bitsL F)[p]? := fun p hp => by
    by_cases hpl : p < 8 * F.length
    · rw [hbv p hpl, hbF p hpl]
      rcases hp with hp | hp
      · exact hgo _ (by omega)
      · exact hback _ (by omega)
    · rw [List.getElem?_eq_none (by rw [bitsL_length, hvl]; omega), List.getElem?_eq_none (by rw [bitsL_length]; omega)]
  have hne : R.take F.length ≠ F := by
    intro he
    apply hbit
    have h3 := hbv (p0 - 8 * P.length) (by omega)
    have h4 := hbF (p0 - 8 * P.length) (by omega)
    rw [he, h4] at h3
    rw [show 8 * P.length + (p0 - 8 * P.length) = p0 by omega] at h3
    exact h3.symm
  have hxb := (ok_bounds (h x hxm)).2.2.2.2.2
  subst hF
  have htk := burst_take (noteL x) (R.drop (frm (noteL x)).length) (by rw [noteL_len]; omega) (R.take (frm (noteL x)).length) (p0 - 8 * P.length) hvl hw2 hne
  rw [List.take_append_drop] at htk
  rw [hsplit, ← hP]
  exact notes_cat (fun y hy => h y (List.mem_of_mem_take hy)) (by rw [htk]; decide)
theorem refNote_yes (x : Nte) (w : World) (h : okN x) : Calls Try.prog 11 #[nteV x] w fun e w' => e = .returned (.bool true) ∧ Gr w w' := by
  obtain ⟨kd, ⟨id, rows, size, tl, file⟩⟩ := x
  unfold nteV
  rcases h with h | h | h | h
  · obtain ⟨rfl, ⟨i0, i1⟩, ⟨r0, r1⟩, ⟨s0, s1⟩, ⟨t0, t1⟩, ⟨f0, f1⟩⟩ := h
    simp only at i0 i1 r0 r1 s0 s1 t0 t1 f0 f1 ⊢
    have g0 : (1 : Int) ≤ (file.length : Int) := by omega
    have g1 : (file.length : Int) ≤ 60 := by omega
    go_enter Try.func11, Try.ntmps11
    go_wp2
    go_ret
    exact ⟨rfl, gr_trans (gr_alloc _ _ _) (gr_alloc _ _ _)⟩
  · obtain ⟨rfl, ⟨i0, i1⟩, rfl, rfl, rfl, rfl⟩ := h
    simp only at i0 i1 ⊢
    go_enter Try.func11, Try.ntmps11
    go_wp2
    go_ret
    exact ⟨rfl, gr_trans (gr_alloc _ _ _) (gr_alloc _ _ _)⟩
  · obtain ⟨rfl, ⟨t0, t1⟩, rfl, rfl, rfl, rfl⟩ := h
    simp only at t0 t1 ⊢
    go_enter Try.func11, Try.ntmps11
    go_wp2
    go_ret
    exact ⟨rfl, gr_trans (gr_alloc _ _ _) (gr_alloc _ _ _)⟩
  · obtain ⟨rfl, ⟨r0, r1⟩, ⟨f0, f1⟩, rfl, rfl, rfl⟩ := h
    simp only at r0 r1 f0 f1 ⊢
    have g0 : (1 : Int) ≤ (file.length : Int) := by omega
    have g1 : (file.length : Int) ≤ 60 := by omega
    go_enter Try.func11, Try.ntmps11
    go_wp2
    go_ret
    exact ⟨rfl, gr_trans (gr_alloc _ _ _) (gr_alloc _ _ _)⟩
end Go.Proofs.Ytboemalcgplaaaa
