/-
  Plain facts on a file of which one bit is turned. No condition but that the rows may be, and how many.
-/
import Derived.Test.YtoidfoalhkoajaaRunAll
import Derived.Test.YtoidfoalhkoajaaGuardBurstMath
namespace Go.Proofs.Ytoidfoalhkoajaa
open Go.RowKit

open Crc in
/-- A frame of which one bit is turned is told. -/
theorem frm_flip (y : List UInt8) (hy : y.length ≤ 12000) (K : Nat) (x : UInt8) (hx : (frm y)[K / 8]? = some x) (T : List UInt8) : take ((frm y).set (K / 8) (flipB x (K % 8)) ++ T) = ([], [], 10) := by
  refine burst_take y T hy _ K (by rw [List.length_set]) (fun p hp => ?_) (fun e => ?_)
  · rw [bits_set (frm y) K x hx, if_neg (by omega)]
  · exact sum_flip (frm y) K x hx (by rw [e])
open Crc in
theorem cat_flip : ∀ (xs : List (List UInt8)), (∀ x ∈ xs, x.length ≤ 12000) → ∀ (K : Nat) (x : UInt8), (cat xs)[K / 8]? = some x → ∃ (i : Nat) (v : List UInt8), i < xs.length ∧ K / 8 < (cat (xs.take (i + 1))).length ∧
    (cat xs).set (K / 8) (flipB x (K % 8)) = cat (xs.take i) ++ (v ++ cat (xs.drop (i + 1))) ∧ ∀ T, take (v ++ T) = ([], [], 10)
  | [], _, K, x, hx => by simp [cat] at hx
  | y :: ys, hxs, K, x, hx => by
    rw [cat_cons] at hx ⊢
    by_cases h : K / 8 < (frm y).length
    · rw [List.getElem?_append_left h] at hx
      refine ⟨0, (frm y).set (K / 8) (flipB x (K % 8)), by simp, ?_, ?_, fun T => frm_flip y (hxs y List.mem_cons_self) K x hx T⟩
      · simp only [Nat.zero_add, List.take_succ_cons, List.take_zero]
        rw [cat_cons, List.length_append]
        omega
      · rw [List.set_append, if_pos h]
        simp [cat]
    · rw [List.getElem?_append_right (by omega)] at hx
      obtain ⟨K', hK'⟩ : ∃ K', K' = K - 8 * (frm y).length := ⟨_, rfl⟩
      have e1 : K' / 8 = K / 8 - (frm y).length := by omega
      have e2 : K' % 8 = K % 8 := by omega
      rw [← e1] at hx
      obtain ⟨i, v, h1, h2, h3, h4⟩ := cat_flip ys (fun z hz => hxs z (List.mem_cons_of_mem _ hz)) K' x hx
      refine ⟨i + 1, v, by simpa using h1, ?_, ?_, h4⟩
      · rw [List.take_succ_cons, cat_cons, List.length_append]
        omega
      · rw [List.set_append, if_neg h, ← e1, ← e2, h3, List.take_succ_cons, cat_cons, List.drop_succ_cons, List.append_assoc]
def tailB (rs : List Rw) (b : Nat) (X : List UInt8) (j : Nat) : List UInt8 := Crc.cat (((blksB rs 0).take b).drop j) ++ X
theorem tailB_step {rs : List Rw} {b j : Nat} {X : List UInt8} (hb : b ≤ nbR rs.length) (hj : j < b) : tailB rs b X j = Crc.frm (blkB rs j) ++ tailB rs b X (j + 1) := by
  have hl : ((blksB rs 0).take b).length = b := by simp [blksB]; omega
  have e : ((blksB rs 0).take b).drop j = blkB rs j :: ((blksB rs 0).take b).drop (j + 1) := by
    rw [List.drop_eq_getElem_cons (by omega)]
    congr 1
    simp [blksB]
  unfold tailB
  rw [e, Crc.cat_cons, List.append_assoc]
theorem tailB_end (rs : List Rw) {b j : Nat} (X : List UInt8) (h : b ≤ j) : tailB rs b X j = X := by
  unfold tailB
  rw [List.drop_of_length_le (by rw [List.length_take]; omega)]
  simp [Crc.cat]
theorem st_tail {rs : List Rw} (ho : ∀ r ∈ rs, okR r) {fr tt b : Nat} {X : List UInt8} (htt : tt ≤ rs.length) (hb : b ≤ nbR rs.length) : ∀ j, j ≤ b → 8 * j < tt + 8 → stP rs.length fr tt (tailB rs b X 0) j = some (tailB rs b X j, pageR rs fr (min (8 * j) tt))
  | 0, _, _ => by rw [page_zero]; rfl
  | j + 1, hjb, h => by
    rw [stP, st_tail ho htt hb j (by omega) (by omega)]
    simp only
    rw [tailB_step hb (by omega), Crc.take_frm _ _ (by have := blkB_le ho j; omega)]
    simp only
    rw [if_pos True.intro]
    by_cases hf : 8 * j + 8 ≤ fr
    · rw [if_pos hf]
      obtain ⟨e1, e2⟩ := page_none (rs := rs) (fr := fr) (tt := tt) (j := j) (by omega)
      rw [e1, e2]
    · rw [if_neg hf]
      have ha : allR (blkB rs j) = some (blkR rs j) := allR_flat (blkR_ok ho j)
      rw [ha]
      simp only
      rw [if_pos (blkR_len rs j), page_step htt (by omega) (by omega)] <;> rfl
theorem page_tail {rs : List Rw} (ho : ∀ r ∈ rs, okR r) {fr tt b : Nat} {X : List UInt8} (htt : tt ≤ rs.length) (hb : b ≤ nbR rs.length) (hX : Crc.take X = ([], [], 10)) :
    pageB rs.length fr tt (tailB rs b X 0) = if b < roundsP fr tt then none else some (pageR rs fr tt) := by
  by_cases hr : b < roundsP fr tt
  · rw [if_pos hr]
    have h8 : 8 * b < tt + 8 := by unfold roundsP at hr; split at hr <;> omega
    have h1 : stP rs.length fr tt (tailB rs b X 0) (b + 1) = none := by
      rw [stP, st_tail ho htt hb b (Nat.le_refl _) h8]
      simp only
      rw [tailB_end rs X (Nat.le_refl _), hX]
      rfl
    exact pageB_none h1 hr
  · rw [if_neg hr]
    unfold pageB
    rw [st_tail ho htt hb _ (by omega) (by unfold roundsP; split <;> omega)]
    simp only [Option.map_some]
    unfold roundsP at hr ⊢
    by_cases hf : fr < tt
    · rw [if_pos hf]
      congr 2
      omega
    · rw [if_neg hf, page_zero]
      unfold pageR
      rw [List.drop_of_length_le (by rw [List.length_take]; omega)]
/-- What is left of a file of which one bit is turned. -/
theorem file_flip {rs : List Rw} (ho : ∀ r ∈ rs, okR r) {K : Nat} {x : UInt8} (hx : (fileB rs)[K / 8]? = some x) :
    (K / 8 < (Crc.cat ((partsB rs).take 1)).length ∧ ∀ T, Crc.take ((fileB rs).set (K / 8) (Crc.flipB x (K % 8)) ++ T) = ([], [], 10)) ∨
    ∃ b X, b ≤ nbR rs.length ∧ K / 8 < (Crc.cat ((partsB rs).take (b + 2))).length ∧ Crc.take X = ([], [], 10) ∧ (fileB rs).set (K / 8) (Crc.flipB x (K % 8)) = Crc.frm (firstB rs.length) ++ tailB rs b X 0 := by
  obtain ⟨i, v, h1, h2, h3, h4⟩ := cat_flip (partsB rs) (parts_le ho) K x hx
  have h3' : (fileB rs).set (K / 8) (Crc.flipB x (K % 8)) = Crc.cat ((partsB rs).take i) ++ (v ++ Crc.cat ((partsB rs).drop (i + 1))) := h3
  cases i with
  | zero =>
    refine .inl ⟨h2, fun T => ?_⟩
    rw [h3']
    simp only [List.take_zero]
    have e : Crc.cat [] = [] := rfl
    rw [e, List.nil_append, List.append_assoc]
    exact h4 _
  | succ b =>
    have hb : b ≤ nbR rs.length := by rw [partsB_len] at h1; omega
    refine .inr ⟨b, v ++ Crc.cat ((partsB rs).drop (b + 1 + 1)), hb, h2, h4 _, ?_⟩
    rw [h3']
    have e : (partsB rs).take (b + 1) = firstB rs.length :: (blksB rs 0).take b := by
      unfold partsB
      rw [List.take_succ_cons, List.take_append_of_le_length (by simp [blksB]; omega)]
    rw [e, Crc.cat_cons, List.append_assoc]
    rfl
theorem cat_take_mono (xs : List (List UInt8)) {i j : Nat} (h : i ≤ j) : (Crc.cat (xs.take i)).length ≤ (Crc.cat (xs.take j)).length := by
  obtain ⟨d, rfl⟩ := Nat.exists_eq_add_of_le h
  rw [List.take_add, Crc.cat_append, List.length_append]
  omega
theorem flip_ne {l : List UInt8} {K : Nat} {x : UInt8} (hx : l[K / 8]? = some x) : l.set (K / 8) (Crc.flipB x (K % 8)) ≠ l := fun e => Crc.sum_flip l K x hx (by rw [e])
theorem open_first {rs : List Rw} (hn : rs.length ≤ 2000) (T : List UInt8) : openB (Crc.frm (firstB rs.length) ++ T) = some (rs.length, T) := by
  have h1 := Crc.take_frm (firstB rs.length) T (by simp [firstB])
  unfold openB
  have h2 : dvN ((firstB rs.length).drop 3) = rs.length := by
    show dvN [UInt8.ofNat (rs.length / 256), UInt8.ofNat rs.length] = _
    unfold dvN
    simp only [List.foldl_cons, List.foldl_nil]
    rw [UInt8.toNat_ofNat', UInt8.toNat_ofNat']
    omega
  rw [h1]
  simp only
  rw [h2, if_pos ⟨trivial, rfl, rfl, hn⟩]
theorem turned_page {rs : List Rw} (ho : ∀ r ∈ rs, okR r) (hn : rs.length ≤ 2000) {K : Nat} {x : UInt8} (hx : (fileB rs)[K / 8]? = some x) {fr N tt : Nat} (hfr : fr ≤ rs.length) (ht : tt = fr + min N (rs.length - fr)) :
    (pageAns ((fileB rs).set (K / 8) (Crc.flipB x (K % 8))) fr N = .inl 10 ∨ pageAns ((fileB rs).set (K / 8) (Crc.flipB x (K % 8))) fr N = .inr (pageR rs fr tt)) ∧
    ((Crc.cat ((partsB rs).take (roundsP fr tt + 1))).length ≤ K / 8 → pageAns ((fileB rs).set (K / 8) (Crc.flipB x (K % 8))) fr N = .inr (pageR rs fr tt)) ∧
    readB ((fileB rs).set (K / 8) (Crc.flipB x (K % 8))) = none := by
  have hne := flip_ne hx
  rcases file_flip ho hx with ⟨hK, h⟩ | ⟨b, X, hb, hK, hX, he⟩
  · have h0 := h []
    rw [List.append_nil] at h0
    have hop : openB ((fileB rs).set (K / 8) (Crc.flipB x (K % 8))) = none := by
      unfold openB
      rw [h0]
      rw [if_neg]
      exact fun hh => absurd hh.1 (by decide)
    have hpa : pageAns ((fileB rs).set (K / 8) (Crc.flipB x (K % 8))) fr N = .inl 10 := by
      unfold pageAns
      rw [hop]
    refine ⟨.inl hpa, fun hA => ?_, ?_⟩
    · have := cat_take_mono (partsB rs) (show 1 ≤ roundsP fr tt + 1 by omega)
      omega
    · unfold readB
      rw [hop]
  · rw [he] at hne ⊢
    have hop := open_first hn (tailB rs b X 0)
    have hpa : pageAns (Crc.frm (firstB rs.length) ++ tailB rs b X 0) fr N = if b < roundsP fr tt then .inl 10 else .inr (pageR rs fr tt) := by
      unfold pageAns
      rw [hop]
      simp only [Int.toNat_natCast]
      rw [if_neg (by omega), ← ht, page_tail ho (by omega) hb hX]
      by_cases hbr : b < roundsP fr tt
      · rw [if_pos hbr, if_pos hbr]
      · rw [if_neg hbr, if_neg hbr]
    rw [hpa]
    refine ⟨?_, fun hA => ?_, ?_⟩
    · by_cases hbr : b < roundsP fr tt
      · rw [if_pos hbr]; exact .inl rfl
      · rw [if_neg hbr]; exact .inr rfl
    · rw [if_neg]
      intro hbr
      have := cat_take_mono (partsB rs) (show b + 2 ≤ roundsP fr tt + 1 by omega)
      omega
    · unfold readB
      rw [hop]
      simp only
      rw [page_tail ho (Nat.le_refl _) hb hX]
      by_cases hbr : b < roundsP 0 rs.length
      · rw [if_pos hbr]
      · rw [if_neg hbr]
        simp only
        rw [pageR_all, if_neg]
        exact fun h => hne h.2.symm
end Go.Proofs.Ytoidfoalhkoajaa
