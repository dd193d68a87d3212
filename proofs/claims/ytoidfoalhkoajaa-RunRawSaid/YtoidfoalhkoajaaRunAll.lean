/-
  Several facts, one behind the other; no condition but bounds: A file of rows as bytes, and its pages: plain. No condition but that the rows may be. How many rows a file has: run.open and run.Count, of whatever bytes. No condition but a bound on the length. A block's rows: run.rows, of whatever bytes. No condition but a bound on the length. A page of a file: run.Page, of whatever bytes. No condition but a bound on the length. A file's frames as values: run.parts. No condition but a bound on the length. A frame's bytes: run.bytes of each kind of value. No condition but bounds on the lengths. A file of rows: run.Make, of whatever right rows. No condition but a bound on how many. All rows of a file: run.Read, of whatever bytes. No condition but a bound on the length. The first call of the laws of chapter 15, and what Page and Read answer of a file. No condition. leporellobook.SameRows: are two lists of rows alike? No condition but a bound on the lengths. What leporellolaw10.Tidy leaves of rows, as a list of right rows. No condition but bounds on the lengths.
-/
import Derived.Test.YtoidfoalhkoajaaRowFlat0
import Derived.Test.YtoidfoalhkoajaaGuardFrame
import Derived.Test.YtoidfoalhkoajaaGuardTake
import Derived.Test.YtoidfoalhkoajaaShelf
import Derived.Test.YtoidfoalhkoajaaQuietGr
import Derived.Test.YtoidfoalhkoajaaRowFlat
import Derived.Test.YtoidfoalhkoajaaBuilderAid
import Derived.Test.YtoidfoalhkoajaaRowPut
import Derived.Test.YtoidfoalhkoajaaRowsTidy
import Derived.Test.YtoidfoalhkoajaaRowsLight
namespace Go.Proofs.Ytoidfoalhkoajaa
open Go.RowKit

namespace Crc
def cat (l : List (List UInt8)) : List UInt8 := l.flatMap frm
theorem cat_snoc (l : List (List UInt8)) (x : List UInt8) : cat (l ++ [x]) = cat l ++ frm x := by simp [cat]
theorem cat_cons (x : List UInt8) (l : List (List UInt8)) : cat (x :: l) = frm x ++ cat l := by simp [cat]
theorem cat_append (l m : List (List UInt8)) : cat (l ++ m) = cat l ++ cat m := by simp [cat]
end Crc
def firstB (n : Nat) : List UInt8 := [76, 69, 80, UInt8.ofNat (n / 256), UInt8.ofNat n]
def endB : List UInt8 := [69, 78, 68]
def blkR (rs : List Rw) (j : Nat) : List Rw := (rs.drop (8 * j)).take 8
def nbR (n : Nat) : Nat := (n + 7) / 8
def blkB (rs : List Rw) (j : Nat) : List UInt8 := flatL (blkR rs j)
def blksB (rs : List Rw) (j : Nat) : List (List UInt8) := ((List.range (nbR rs.length)).drop j).map (blkB rs)
def partsB (rs : List Rw) : List (List UInt8) := firstB rs.length :: (blksB rs 0 ++ [endB])
def restB (rs : List Rw) (j : Nat) : List UInt8 := Crc.cat (blksB rs j ++ [endB])
def fileB (rs : List Rw) : List UInt8 := Crc.cat (partsB rs)
theorem blkR_ok {rs : List Rw} (h : ∀ r ∈ rs, okR r) (j : Nat) : ∀ r ∈ blkR rs j, okR r := fun r hr => h r (List.mem_of_mem_drop (List.mem_of_mem_take hr))
theorem blkR_len (rs : List Rw) (j : Nat) : (blkR rs j).length = min 8 (rs.length - 8 * j) := by unfold blkR; rw [List.length_take, List.length_drop]
theorem blkB_le {rs : List Rw} (h : ∀ r ∈ rs, okR r) (j : Nat) : (blkB rs j).length ≤ 11704 := by
  have h1 := flatL_le (blkR rs j) (blkR_ok h j)
  have h2 := blkR_len rs j
  unfold blkB
  omega
theorem blksB_step {rs : List Rw} {j : Nat} (hj : j < nbR rs.length) : blksB rs j = blkB rs j :: blksB rs (j + 1) := by
  unfold blksB
  rw [List.drop_eq_getElem_cons (by rw [List.length_range]; exact hj), List.map_cons, List.getElem_range]
theorem blksB_end (rs : List Rw) : blksB rs (nbR rs.length) = [] := by
  unfold blksB
  rw [List.drop_of_length_le (by rw [List.length_range]; exact Nat.le_refl _)]
  rfl
theorem file_first (rs : List Rw) : fileB rs = Crc.frm (firstB rs.length) ++ restB rs 0 := by
  unfold fileB partsB restB
  rw [Crc.cat_cons]
theorem rest_step {rs : List Rw} {j : Nat} (hj : j < nbR rs.length) : restB rs j = Crc.frm (blkB rs j) ++ restB rs (j + 1) := by
  unfold restB
  rw [blksB_step hj, List.cons_append, Crc.cat_cons]
theorem rest_end (rs : List Rw) : restB rs (nbR rs.length) = Crc.frm endB := by
  unfold restB
  rw [blksB_end, List.nil_append]
  simp [Crc.cat]
theorem flat_append (a b : List Rw) : flatL (a ++ b) = flatL a ++ flatL b := by simp [flatL]
theorem flat_from (rs : List Rw) : ∀ (q j : Nat), nbR rs.length = j + q → (blksB rs j).flatten = flatL (rs.drop (8 * j))
  | 0, j, h => by
    have e : j = nbR rs.length := by omega
    rw [e, blksB_end]
    rw [List.drop_of_length_le (by unfold nbR; omega)]
    rfl
  | q + 1, j, h => by
    rw [blksB_step (by omega), List.flatten_cons, flat_from rs q (j + 1) (by omega)]
    have e : rs.drop (8 * j) = blkR rs j ++ rs.drop (8 * (j + 1)) := by
      unfold blkR
      have := List.take_append_drop 8 (rs.drop (8 * j))
      rw [List.drop_drop] at this
      rw [show 8 * (j + 1) = 8 * j + 8 by omega]
      exact this.symm
    rw [e, flat_append]
    rfl
theorem flat_all (rs : List Rw) : (blksB rs 0).flatten = flatL rs := by
  have := flat_from rs (nbR rs.length) 0 (by omega)
  simpa using this
theorem parts_le {rs : List Rw} (h : ∀ r ∈ rs, okR r) : ∀ x ∈ partsB rs, x.length ≤ 12000 := by
  intro x hx
  rcases List.mem_cons.1 hx with rfl | hx
  · simp [firstB]
  · rcases List.mem_append.1 hx with hx | hx
    · obtain ⟨j, _, rfl⟩ := List.mem_map.1 hx
      have := blkB_le h j
      omega
    · rw [List.mem_singleton.1 hx]
      simp [endB]
/-- Rows are told by their bytes. -/
theorem flatL_inj : ∀ {a b : List Rw}, (∀ r ∈ a, okR r) → (∀ r ∈ b, okR r) → flatL a = flatL b → a = b
  | [], [], _, _, _ => rfl
  | [], r :: b, _, _, h => by
    have := congrArg List.length h
    rw [show flatL (r :: b) = rowL r ++ flatL b by simp [flatL], List.length_append, rowL_len] at this
    simp [flatL] at this
    omega
  | r :: a, [], _, _, h => by
    have := congrArg List.length h
    rw [show flatL (r :: a) = rowL r ++ flatL a by simp [flatL], List.length_append, rowL_len] at this
    simp [flatL] at this
  | r :: a, s :: b, ha, hb, h => by
    have h1 : rowL r ++ flatL a = rowL s ++ flatL b := by simpa [flatL] using h
    have hr := ha r List.mem_cons_self
    have hs := hb s List.mem_cons_self
    obtain ⟨e, h2⟩ := rowL_inj hr hs (okLbs_small hr.1) (okLbs_small hs.1) h1
    rw [e, flatL_inj (fun x hx => ha x (List.mem_cons_of_mem _ hx)) (fun x hx => hb x (List.mem_cons_of_mem _ hx)) h2]
theorem cat_inj : ∀ {a b : List (List UInt8)}, (∀ x ∈ a, x.length ≤ 12000) → (∀ x ∈ b, x.length ≤ 12000) → Crc.cat a = Crc.cat b → a = b
  | [], [], _, _, _ => rfl
  | [], x :: b, _, _, h => by
    have := congrArg List.length h
    rw [Crc.cat_cons, List.length_append, Crc.frm_length] at this
    simp [Crc.cat] at this
    omega
  | x :: a, [], _, _, h => by
    have := congrArg List.length h
    rw [Crc.cat_cons, List.length_append, Crc.frm_length] at this
    simp [Crc.cat] at this
  | x :: a, y :: b, ha, hb, h => by
    rw [Crc.cat_cons, Crc.cat_cons] at h
    have h1 := Crc.take_frm x (Crc.cat a) (ha x List.mem_cons_self)
    have h2 := Crc.take_frm y (Crc.cat b) (hb y List.mem_cons_self)
    rw [h, h2] at h1
    injection h1 with e1 h1
    injection h1 with e2 _
    rw [e1, cat_inj (fun z hz => ha z (List.mem_cons_of_mem _ hz)) (fun z hz => hb z (List.mem_cons_of_mem _ hz)) e2.symm]
theorem file_inj {a b : List Rw} (ha : ∀ r ∈ a, okR r) (hb : ∀ r ∈ b, okR r) (h : fileB a = fileB b) : a = b := by
  have h1 := cat_inj (parts_le ha) (parts_le hb) h
  unfold partsB at h1
  injection h1 with _ h1
  have h2 := List.append_inj_left' h1 rfl
  have h3 := congrArg List.flatten h2
  rw [flat_all, flat_all] at h3
  exact flatL_inj ha hb h3
/-- Some rows of a file. -/
def pageR (rs : List Rw) (fr tt : Nat) : List Rw := (rs.take tt).drop fr
theorem page_step {rs : List Rw} {fr tt j : Nat} (htt : tt ≤ rs.length) (hj : 8 * j ≤ tt) (hf : fr < 8 * j + 8) :
    pageR rs fr (min (8 * (j + 1)) tt) = pageR rs fr (min (8 * j) tt) ++ ((blkR rs j).take (min (tt - 8 * j) (blkR rs j).length)).drop (fr - 8 * j) := by
  have hl := blkR_len rs j
  unfold pageR blkR at *
  apply List.ext_getElem?
  intro i
  rw [List.getElem?_append, List.getElem?_drop, List.getElem?_drop, List.getElem?_drop, List.getElem?_take, List.getElem?_take, List.getElem?_take, List.getElem?_take, List.getElem?_drop, List.length_drop, List.length_take]
  by_cases h1 : i < min (min (8 * j) tt) rs.length - fr
  · rw [if_pos h1, if_pos (by omega), if_pos (by omega)]
  · rw [if_neg h1]
    by_cases h2 : fr + i < min (8 * (j + 1)) tt
    · rw [if_pos h2, if_pos (by omega), if_pos (by omega)]
      congr 1
      omega
    · rw [if_neg h2]
      split
      · split
        · exfalso; omega
        · rfl
      · rfl
theorem page_none {rs : List Rw} {fr tt j : Nat} (hf : 8 * (j + 1) ≤ fr) : pageR rs fr (min (8 * (j + 1)) tt) = [] ∧ pageR rs fr (min (8 * j) tt) = [] := by
  unfold pageR
  constructor
  · rw [List.drop_of_length_le (by rw [List.length_take]; omega)]
  · rw [List.drop_of_length_le (by rw [List.length_take]; omega)]
theorem page_zero (rs : List Rw) (fr tt : Nat) : pageR rs fr (min (8 * 0) tt) = [] := by simp [pageR]
/-! What a file's bytes are read as, whatever they are. -/
def openB (b : List UInt8) : Option (Nat × List UInt8) :=
  if (Crc.take b).2.2 = 0 ∧ (Crc.take b).1.length = 5 ∧ (Crc.take b).1.take 3 = [76, 69, 80] ∧ dvN ((Crc.take b).1.drop 3) ≤ 2000 then some (dvN ((Crc.take b).1.drop 3), (Crc.take b).2.1) else none
def getAll : Nat → List UInt8 → Option (List Rw)
  | 0, b => if b = [] then some [] else none
  | f + 1, b => if b = [] then some [] else
    match getR b with
    | some (r, t) => (getAll f t).map (r :: ·)
    | none => none
theorem getR_less {b : List UInt8} {r : Rw} {t : List UInt8} (h : getR b = some (r, t)) : t.length + 7 ≤ b.length := by
  obtain ⟨e, _, _⟩ := getR_some h
  rw [e, List.length_append, rowL_len]
  omega
theorem getAll_nil (f : Nat) : getAll f [] = some [] := by cases f <;> simp [getAll]
theorem getAll_more : ∀ (f g : Nat) (b : List UInt8), b.length ≤ f → b.length ≤ g → getAll f b = getAll g b
  | 0, g, b, h, _ => by
    have : b = [] := List.eq_nil_of_length_eq_zero (by omega)
    rw [this, getAll_nil, getAll_nil]
  | f + 1, 0, b, _, h => by
    have : b = [] := List.eq_nil_of_length_eq_zero (by omega)
    rw [this, getAll_nil, getAll_nil]
  | f + 1, g + 1, b, h1, h2 => by
    unfold getAll
    by_cases hb : b = []
    · rw [if_pos hb, if_pos hb]
    · rw [if_neg hb, if_neg hb]
      cases hg : getR b with
      | none => rfl
      | some p =>
        obtain ⟨r, t⟩ := p
        have := getR_less hg
        simp only
        rw [getAll_more f g t (by omega) (by omega)]
def allR (b : List UInt8) : Option (List Rw) := getAll b.length b
theorem allR_nil : allR [] = some [] := rfl
theorem allR_cons {b : List UInt8} {r : Rw} {t : List UInt8} (h : getR b = some (r, t)) (hb : b ≠ []) : allR b = (allR t).map (r :: ·) := by
  have h1 := getR_less h
  unfold allR
  cases hl : b.length with
  | zero => omega
  | succ n =>
    rw [getAll, if_neg hb, h]
    simp only
    rw [getAll_more n t.length t (by omega) (Nat.le_refl _)]
theorem allR_bad {b : List UInt8} (h : getR b = none) (hb : b ≠ []) : allR b = none := by
  unfold allR
  cases hl : b.length with
  | zero => exact absurd (List.eq_nil_of_length_eq_zero hl) hb
  | succ n => rw [getAll, if_neg hb, h]
theorem allR_flat : ∀ {rs : List Rw}, (∀ r ∈ rs, okR r) → allR (flatL rs) = some rs
  | [], _ => rfl
  | r :: rs, h => by
    have e : flatL (r :: rs) = rowL r ++ flatL rs := by simp [flatL]
    have hr := h r List.mem_cons_self
    have hg : getR (flatL (r :: rs)) = some (r, flatL rs) := by rw [e]; exact getR_of hr (okLbs_small hr.1) _
    rw [allR_cons hg (fun e2 => by have := congrArg List.length e2; rw [e, List.length_append, rowL_len] at this; simp at this), allR_flat (fun x hx => h x (List.mem_cons_of_mem _ hx))]
    rfl
theorem allR_ok : ∀ {n : Nat} {b : List UInt8} {l : List Rw}, b.length = n → allR b = some l → (∀ r ∈ l, okR r) ∧ b = flatL l := by
  intro n
  induction n using Nat.strongRecOn with
  | ind n ih =>
    intro b l hn h
    by_cases hb : b = []
    · subst hb
      have : l = [] := by
        have h2 := allR_nil.symm.trans h
        exact (Option.some.inj h2).symm
      subst this
      exact ⟨fun r hr => absurd hr List.not_mem_nil, rfl⟩
    · cases hg : getR b with
      | none => rw [allR_bad hg hb] at h; cases h
      | some p =>
        obtain ⟨r, t⟩ := p
        rw [allR_cons hg hb] at h
        have hl := getR_less hg
        cases ht : allR t with
        | none => rw [ht] at h; cases h
        | some l2 =>
          rw [ht] at h
          have e : r :: l2 = l := Option.some.inj h
          obtain ⟨h1, h2⟩ := ih t.length (by omega) rfl ht
          obtain ⟨e1, e2, _⟩ := getR_some hg
          subst e
          refine ⟨fun x hx => ?_, ?_⟩
          · rcases List.mem_cons.1 hx with rfl | hx
            · exact e2
            · exact h1 x hx
          · rw [e1, h2]
            simp [flatL]
/-- Of a block's rows those that are wanted. -/
def sliceR (l : List Rw) (fr tt j : Nat) : List Rw := (l.take (min (tt - 8 * j) l.length)).drop (fr - 8 * j)
/-- A page, step by step: what is left, and the rows so far. -/
def stP (al fr tt : Nat) (b : List UInt8) : Nat → Option (List UInt8 × List Rw)
  | 0 => some (b, [])
  | j + 1 =>
    match stP al fr tt b j with
    | none => none
    | some (rest, out) =>
      if (Crc.take rest).2.2 = 0 then
        if 8 * j + 8 ≤ fr then some ((Crc.take rest).2.1, out)
        else match allR (Crc.take rest).1 with
          | none => none
          | some l => if l.length = min 8 (al - 8 * j) then some ((Crc.take rest).2.1, out ++ sliceR l fr tt j) else none
      else none
def roundsP (fr tt : Nat) : Nat := if fr < tt then (tt + 7) / 8 else 0
def pageB (al fr tt : Nat) (b : List UInt8) : Option (List Rw) := (stP al fr tt b (roundsP fr tt)).map (·.2)
theorem open_file {rs : List Rw} (hn : rs.length ≤ 2000) : openB (fileB rs) = some (rs.length, restB rs 0) := by
  have h1 := Crc.take_frm (firstB rs.length) (restB rs 0) (by simp [firstB])
  unfold openB
  rw [file_first, h1]
  have h2 : dvN ((firstB rs.length).drop 3) = rs.length := by
    show dvN [UInt8.ofNat (rs.length / 256), UInt8.ofNat rs.length] = _
    unfold dvN
    simp only [List.foldl_cons, List.foldl_nil]
    rw [UInt8.toNat_ofNat', UInt8.toNat_ofNat']
    omega
  simp only
  rw [h2, if_pos ⟨trivial, rfl, rfl, hn⟩]
theorem st_file {rs : List Rw} (ho : ∀ r ∈ rs, okR r) {fr tt : Nat} (htt : tt ≤ rs.length) : ∀ j, 8 * j < tt + 8 → stP rs.length fr tt (restB rs 0) j = some (restB rs j, pageR rs fr (min (8 * j) tt))
  | 0, _ => by rw [page_zero]; rfl
  | j + 1, h => by
    have hj : j < nbR rs.length := by unfold nbR; omega
    rw [stP, st_file ho htt j (by omega)]
    simp only
    rw [rest_step hj, Crc.take_frm _ _ (by have := blkB_le ho j; omega)]
    simp only
    rw [if_pos True.intro]
    by_cases hf : 8 * j + 8 ≤ fr
    · rw [if_pos hf]
      obtain ⟨e1, e2⟩ := page_none (rs := rs) (fr := fr) (tt := tt) (j := j) (by omega)
      rw [e1, e2]
    · rw [if_neg hf]
      have ha : allR (blkB rs j) = some (blkR rs j) := allR_flat (blkR_ok ho j)
      rw [ha]
      simp only
      rw [if_pos (blkR_len rs j), page_step htt (by omega) (by omega)]
      rfl
theorem page_file {rs : List Rw} (ho : ∀ r ∈ rs, okR r) {fr tt : Nat} (htt : tt ≤ rs.length) : pageB rs.length fr tt (restB rs 0) = some (pageR rs fr tt) := by
  unfold pageB roundsP
  by_cases hf : fr < tt
  · rw [if_pos hf, st_file ho htt _ (by omega)]
    simp only [Option.map_some]
    congr 2
    omega
  · rw [if_neg hf]
    unfold stP
    simp only [Option.map_some]
    unfold pageR
    rw [List.drop_of_length_le (by rw [List.length_take]; omega)]
end Go.Proofs.Ytoidfoalhkoajaa
namespace Go.Proofs.Ytoidfoalhkoajaa
open Go.RowKit

theorem take_codes (L : List UInt8) : (Crc.take L).2.2 = 0 ∨ (Crc.take L).2.2 = 2 ∨ (Crc.take L).2.2 = 10 := by
  unfold Crc.take
  split
  · exact .inr (.inl rfl)
  · split
    · exact .inr (.inr rfl)
    · split
      · exact .inr (.inl rfl)
      · split
        · exact .inr (.inr rfl)
        · split
          · exact .inr (.inr rfl)
          · exact .inl rfl
def OpenPostR (b : List UInt8) (w : World) (e : Ending) (w' : World) : Prop :=
  (match openB b with
  | some (n, t) => e = .returned (.tuple #[.int .i64 n, .string (txt t), .int .i64 0])
  | none => e = .returned (.tuple #[.int .i64 0, .string ⟨#[]⟩, .int .i64 10])) ∧ Gr w w'
theorem len5 {x : List UInt8} (h : x.length = 5) : ∃ a b c d e, x = [a, b, c, d, e] := by
  match x, h with
  | [a, b, c, d, e], _ => exact ⟨a, b, c, d, e, rfl⟩
set_option maxHeartbeats 4000000 in
set_option maxRecDepth 100000 in
theorem ropen_any (L : List UInt8) (w : World) (hL : L.length ≤ 1000000000) : Calls Try.prog 18 #[.string (txt L)] w (OpenPostR L w) := by
  have cT := take_any (txt L) w (by rw [txt_size]; unfold maxLen; omega)
  rw [txt_data] at cT
  unfold TakeAns at cT
  unfold OpenPostR openB
  rcases hc : Crc.take L with ⟨x, t, c⟩
  rw [hc] at cT
  simp only at cT ⊢
  have hco := take_codes L
  rw [hc] at hco
  simp only at hco
  by_cases h0 : c = 0
  · subst h0
    by_cases h5 : x.length = 5
    · obtain ⟨a, b, e, p, q, rfl⟩ := len5 h5
      have cP := fun W => Try.strings_HasPrefix (txt [a, b, e, p, q]) (txt [76, 69, 80]) W
      rw [txt_data, txt_data] at cP
      have hd : dvN ([a, b, e, p, q].drop 3) = p.toNat * 256 + q.toNat := by show dvN [p, q] = _; simp [dvN]
      have hg3 : ∀ h : 3 < (txt [a, b, e, p, q]).size, (txt [a, b, e, p, q])[3]'h = p := fun _ => rfl
      have hg4 : ∀ h : 4 < (txt [a, b, e, p, q]).size, (txt [a, b, e, p, q])[4]'h = q := fun _ => rfl
      have hp := p.toNat_lt
      have hq := q.toNat_lt
      have hor := or256 p.toNat q.toNat (by omega) (by omega)
      have hw8 : IntKind.i64.wrap ((p.toNat : Int) * 256) = (p.toNat : Int) * 256 := IntWalk.i64_in _ (by omega)
      rw [hd]
      have e3 : txt [76, 69, 80] = ⟨#[76, 69, 80]⟩ := rfl
      rw [e3] at cP
      have hsz : (txt [a, b, e, p, q]).size = 5 := txt_size _
      by_cases hpre : [a, b, e, p, q].take 3 = [76, 69, 80]
      · have hb : Lib.hasPrefix [a, b, e, p, q] [76, 69, 80] = true := by
          have : [a, b, e] = ([76, 69, 80] : List UInt8) := hpre
          injection this with e1 this
          injection this with e2 this
          injection this with e3 _
          subst e1 e2 e3
          rfl
        rw [hb] at cP
        replace cP := Lib.hid cP
        replace cT := Lib.hid cT
        by_cases hn : p.toNat * 256 + q.toNat ≤ 2000
        · rw [if_pos ⟨rfl, rfl, hpre, hn⟩]
          have hnI : ¬ (2000 : Int) < ((p.toNat * 256 + q.toNat : Nat) : Int) := by omega
          clear hpre hc hco h5 hd e3 hn
          generalize p.toNat * 256 + q.toNat = N at *
          generalize txt [a, b, e, p, q] = X at *
          go_enter Try.func18, Try.ntmps18
          go_wp2_with fail
          refine cT.out.mono ?_
          rintro e2 w2 ⟨rfl, g2⟩
          go_wp2_with fail
          refine (cP.out _).mono ?_
          rintro e2 w3 ⟨rfl, rfl⟩
          go_wp2_with fail
          go_quiet (fail)
          go_wp2_with fail
          go_ret3
          exact ⟨rfl, gr_trans g2 (gr_drewN _ _ _)⟩
        · rw [if_neg (fun h => hn h.2.2.2)]
          have hnI : (2000 : Int) < ((p.toNat * 256 + q.toNat : Nat) : Int) := by omega
          clear hpre hc hco h5 hd e3 hn
          generalize p.toNat * 256 + q.toNat = N at *
          generalize txt [a, b, e, p, q] = X at *
          go_enter Try.func18, Try.ntmps18
          go_wp2_with fail
          refine cT.out.mono ?_
          rintro e2 w2 ⟨rfl, g2⟩
          go_wp2_with fail
          refine (cP.out _).mono ?_
          rintro e2 w3 ⟨rfl, rfl⟩
          go_wp2_with fail
          go_quiet (fail)
          go_wp2_with fail
          go_ret3
          exact ⟨rfl, gr_trans g2 (gr_drewN _ _ _)⟩
      · rw [if_neg (fun h => hpre h.2.2.1)]
        have hb : Lib.hasPrefix [a, b, e, p, q] [76, 69, 80] = false := by
          apply Bool.eq_false_iff.2
          intro h
          apply hpre
          have h2 := List.isPrefixOf_iff_prefix.1 h
          obtain ⟨r, hr⟩ := h2
          rw [← hr]
          rfl
        rw [hb] at cP
        replace cP := Lib.hid cP
        replace cT := Lib.hid cT
        clear hpre hc hco h5 hd e3 hp hq
        generalize txt [a, b, e, p, q] = X at *
        go_enter Try.func18, Try.ntmps18
        go_wp2_with fail
        refine cT.out.mono ?_
        rintro e2 w2 ⟨rfl, g2⟩
        go_wp2_with fail
        refine (cP.out _).mono ?_
        rintro e2 w3 ⟨rfl, rfl⟩
        go_wp2_with fail
        go_ret3
        exact ⟨rfl, g2⟩
    · rw [if_neg (fun h => h5 h.2.1)]
      have h5I : ((x.length : Int) == 5) = false := eqF (by omega)
      replace cT := Lib.hid cT
      clear hc hco
      go_enter Try.func18, Try.ntmps18
      go_wp2_with fail
      refine cT.out.mono ?_
      rintro e2 w2 ⟨rfl, g2⟩
      go_wp2_with fail
      go_ret3
      exact ⟨rfl, g2⟩
  · rw [if_neg (fun h => h0 h.1)]
    have h0I : (c == 0) = false := eqF h0
    have h0J : (c != 0) = true := by simp [h0]
    replace cT := Lib.hid cT
    clear hc hco
    go_enter Try.func18, Try.ntmps18
    go_wp2_with fail
    refine cT.out.mono ?_
    rintro e2 w2 ⟨rfl, g2⟩
    go_wp2_with fail
    go_ret3
    exact ⟨rfl, g2⟩
set_option maxRecDepth 100000 in
theorem rcount_any (L : List UInt8) (w : World) (hL : L.length ≤ 1000000000) : Calls Try.prog 17 #[.string (txt L)] w fun e w' => e = .returned (match openB L with | some (n, _) => .tuple #[.int .i64 n, .int .i64 0] | none => .tuple #[.int .i64 0, .int .i64 10]) ∧ Gr w w' := by
  have cO := ropen_any L w hL
  unfold OpenPostR at cO
  cases h : openB L with
  | none =>
    rw [h] at cO
    simp only at cO
    replace cO := Lib.hid cO
    clear h
    go_enter Try.func17, Try.ntmps17
    go_wp2_with fail
    refine cO.out.mono ?_
    rintro e2 w2 ⟨rfl, g2⟩
    go_wp2_with fail
    go_ret2
    exact ⟨rfl, g2⟩
  | some p =>
    obtain ⟨n, t⟩ := p
    rw [h] at cO
    simp only at cO
    replace cO := Lib.hid cO
    clear h
    go_enter Try.func17, Try.ntmps17
    go_wp2_with fail
    refine cO.out.mono ?_
    rintro e2 w2 ⟨rfl, g2⟩
    go_wp2_with fail
    go_ret2
    exact ⟨rfl, g2⟩
end Go.Proofs.Ytoidfoalhkoajaa
namespace Go.Proofs.Ytoidfoalhkoajaa
open Go.RowKit

def strLen : Value → Nat
  | .string s => s.size
  | _ => 0
/-- Rows that the call has laid itself. -/
def OwnRs (w : World) (base : Nat) (v : Value) (l : List Rw) : Prop := ∃ hs, OwnRows w base hs l ∧ w.ownsRow base 40 2 v l.length (sR hdC hs)
theorem ownRs_gr {w w' : World} {base : Nat} {v : Value} {l : List Rw} (h : OwnRs w base v l) (g : Gr w w') : OwnRs w' base v l := by
  obtain ⟨hs, h1, h2⟩ := h
  exact ⟨hs, ownRows_gr h1 g, h2.kept g (Classical.em _)⟩
theorem ownRs_base {w : World} {base base' : Nat} {v : Value} {l : List Rw} (h : OwnRs w base v l) (hb : base' ≤ base) : OwnRs w base' v l := by
  obtain ⟨hs, h1, h2⟩ := h
  exact ⟨hs, ⟨h1.1, fun i r hr => by obtain ⟨k, e, k1, k2, k3⟩ := h1.2 i r hr; exact ⟨k, e, k1, k2, own_mono k3 hb⟩⟩, own_mono h2 hb⟩
theorem ownRs_nil (w : World) (base : Nat) : OwnRs w base (.slice none 0 0) [] := ⟨[], ⟨rfl, by intro i r h; simp at h⟩, World.ownsRow_nil _ _ _ _⟩
theorem ownRs_rows {w : World} {base n c : Nat} {A : Option Addr} {l : List Rw} (h : OwnRs w base (.slice A n c) l) (hn : l.length = n) : Rows w A n l := by
  obtain ⟨hs, h1, h2⟩ := h
  rw [hn] at h2
  exact ownRows_rows h1 hn (row_own h2)
def RowsPostQ (R : Option (List Rw)) (n : Nat) (w : World) (e : Ending) (w' : World) : Prop :=
  (match R with
  | some l => ∃ A c, e = .returned (.tuple #[.slice A l.length c, .bool (decide (l.length = n))]) ∧ OwnRs w' w.heap.size (.slice A l.length c) l
  | none => e = .returned (.tuple #[.slice none 0 0, .bool false])) ∧ Gr w w'
set_option maxHeartbeats 16000000 in
set_option maxRecDepth 100000 in
theorem rrows_any (b : List UInt8) (n : Nat) (w : World) (hb : b.length ≤ 1000000) (hn : n ≤ 1000000) : Calls Try.prog 20 #[.string (txt b), .int .i64 n] w (RowsPostQ (allR b) n w) := by
  obtain ⟨ii, hi, hz0, hz1, hz2⟩ := info_parts infoRow3
  obtain ⟨R, hR⟩ : ∃ R, R = allR b := ⟨_, rfl⟩
  rw [← hR]
  go_enter Try.func20, Try.ntmps20
  go_wp2_with fail
  go_loopw [0, 6] (fun bv ov wr => ∃ (bk : List UInt8) (out : List Rw) (A : Option Addr) (c : Nat), bv = .string (txt bk) ∧ ov = .slice A out.length c ∧ Hid (bk.length ≤ b.length) ∧ Hid (out.length + bk.length ≤ b.length) ∧ Hid (R = (allR bk).map (out ++ ·)) ∧ Hid (OwnRs wr w.heap.size (.slice A out.length c) out) ∧ Hid (Gr w wr)) (fun bv _ _ => strLen bv)
  case atStart => exact ⟨b, [], none, 0, rfl, rfl, Lib.hid (Nat.le_refl _), Lib.hid (by simp), Lib.hid (by rw [hR]; cases allR b <;> rfl), Lib.hid (ownRs_nil _ _), Lib.hid (gr_refl _ _)⟩
  case round =>
    obtain ⟨bk, out, A, c, rfl, rfl, hbl, hol, hRk, ho, hg⟩ := hrel
    replace hR := Lib.hid hR
    have hob := hol.out
    by_cases hbk : bk = []
    · subst hbk
      have hR2 : R = some out := by rw [hRk.out, allR_nil]; simp
      have e0 : txt [] = ⟨#[]⟩ := rfl
      rw [e0]
      replace hR2 := Lib.hid hR2
      clear hRk hbl
      by_cases hln : out.length = n
      · have hlI : (out.length : Int) = (n : Int) := by omega
        go_wp2
        go_ret2
        unfold RowsPostQ
        refine ⟨?_, hg.out⟩
        rw [hR2.out]
        refine ⟨A, c, ?_, ho.out⟩
        rw [decide_eq_true hln]
        rfl
      · have hlI : ((out.length : Int) == (n : Int)) = false := eqF (by omega)
        go_wp2
        go_ret2
        unfold RowsPostQ
        refine ⟨?_, hg.out⟩
        rw [hR2.out]
        refine ⟨A, c, ?_, ho.out⟩
        rw [decide_eq_false hln]
        rfl
    · have hne : bk.isEmpty = false := by cases bk with | nil => exact absurd rfl hbk | cons _ _ => rfl
      have hgt := get_any bk wr (by have := hbl.out; omega)
      replace hgt := Lib.hid hgt
      replace hbk := Lib.hid hbk
      go_wp2_with fail
      refine hgt.out.mono ?_
      rintro e w5 ⟨⟨r, t, Ag, cg, hgr, rfl, hown⟩ | ⟨hgr, rfl⟩, g5⟩
      · have hless := getR_less hgr
        have hR3 : R = (allR t).map ((out ++ [r]) ++ ·) := by
          rw [hRk.out, allR_cons hgr hbk.out]
          cases allR t with
          | none => rfl
          | some l => simp
        go_upto_region 6 with fail
        obtain ⟨w6, hw6⟩ : ∃ w6, w6 = w5.alloc (.cells #[.slice Ag r.l.length cg, .int .i64 r.v] 40) := ⟨_, rfl⟩
        have g6 : Gr w5 w6 := by rw [hw6]; exact gr_alloc _ _ _
        have d0 : w6.cell? ⟨w5.heap.size, 0, none⟩ = some (.slice Ag r.l.length cg) := by rw [hw6, World.cell?_alloc_new]; rfl
        have d1 : w6.cell? ⟨w5.heap.size, 1, none⟩ = some (.int .i64 r.v) := by rw [hw6, World.cell?_alloc_new]; rfl
        have hk1 : OwnHd w6 w.heap.size ⟨Ag, r.l.length, cg, r.v⟩ r := ⟨rfl, rfl, (own_mono hown hg.out.size).kept g6 (Classical.em _)⟩
        obtain ⟨hs2, hh, ho2⟩ := ho.out
        have hrs := ownRows_snoc (ownRows_gr hh (gr_trans g5 g6)) hk1
        have ho6 := ho2.kept (gr_trans g5 g6) (Classical.em _)
        have G6 := gr_trans hg.out (gr_trans g5 g6)
        have G7 := gr_trans G6 (gr_alloc w6 (.cells (hdC ⟨Ag, r.l.length, cg, r.v⟩).toArray 40) none)
        have hs6 := G7.size
        rw [← hw6]
        replace hrs := Lib.hid hrs
        replace ho6 := Lib.hid ho6
        replace G7 := Lib.hid G7
        replace hs6 := Lib.hid hs6
        replace hR3 := Lib.hid hR3
        clear hw6 hk1 hh ho2 ho hg hgt g5 g6 G6 hown hgr hRk
        go_wp2_with (at_builtin; refine wpList_append_row rfl _ _ 23 rfl w.heap.size 40 ii (.agg #[.slice none 0 0, .int .i64 0]) 2 32 Try.underlying23 hi hz0 hz1 hz2 rfl (by decide) (.slice A out.length c) out.length (sR hdC hs2) rfl (ho6.out.alloc _) (some ⟨w6.heap.size, 0, none⟩) 1 1 (hdC ⟨Ag, r.l.length, cg, r.v⟩) rfl (by intro e; cases e) (row_newS hdC_len w6 ⟨Ag, r.l.length, cg, r.v⟩ 40) (hdC_ones _) (out.length + 1) (sR hdC (hs2 ++ [⟨Ag, r.l.length, cg, r.v⟩])) rfl (by rw [sR_append, sR_one]) (by unfold maxLen; omega) (by omega) hs6.out ?_; intro v7 w7 hown7 hgrow7; obtain ⟨A7, c7, rfl, _, _, _⟩ := own_sliceS hown7)
        have hr7 := ownRows_kept (ownRows_gr hrs.out (gr_alloc w6 (.cells (hdC ⟨Ag, r.l.length, cg, r.v⟩).toArray 40) none)) (ho6.out.alloc _) hgrow7
        have G8 : Gr w w7 := gr_of_below ((gr_below G7.out).grown hgrow7 G7.out.size (fun q hq => (ho6.out.lt q hq).1)) (Nat.le_refl _)
        have hfin : OwnRs w7 w.heap.size (.slice A7 (out.length + 1) c7) (out ++ [r]) := ⟨_, hr7, by rw [List.length_append]; exact hown7⟩
        have hle : (out ++ [r]).length = out.length + 1 := by simp
        have hb1 := hbl.out
        replace hfin := Lib.hid hfin
        replace G8 := Lib.hid G8
        replace hless := Lib.hid hless
        clear hgrow7 hrs ho6 G7 hs6 hr7 hown7
        go_wp2
        go_roundw
        case rel => exact ⟨t, out ++ [r], A7, c7, rfl, by rw [hle], Lib.hid (by have := hless.out; omega), Lib.hid (by have := hless.out; rw [hle]; omega), hR3, Lib.hid (by rw [hle]; exact hfin.out), G8⟩
        case measure => unfold strLen; simp only [txt_size]; have := hless.out; omega
      · have hR3 : R = none := by rw [hRk.out, allR_bad hgr hbk.out]; rfl
        replace hR3 := Lib.hid hR3
        have hG := gr_trans hg.out g5
        replace hG := Lib.hid hG
        clear hgr hRk hbl ho hg g5
        go_wp2
        go_ret2
        unfold RowsPostQ
        refine ⟨?_, gr_trans hG.out (gr_alloc _ _ _)⟩
        rw [hR3.out]
        rfl
end Go.Proofs.Ytoidfoalhkoajaa
namespace Go.Proofs.Ytoidfoalhkoajaa
open Go.RowKit

def pageAns (L : List UInt8) (fr n : Int) : Int ⊕ List Rw :=
  match openB L with
  | none => .inl 10
  | some (al, rest) => if fr < 0 ∨ (al : Int) < fr ∨ n < 0 then .inl 1 else
    match pageB al fr.toNat (fr.toNat + min n.toNat (al - fr.toNat)) rest with
    | none => .inl 10
    | some l => .inr l
def PagePost (ans : Int ⊕ List Rw) (w : World) (e : Ending) (w' : World) : Prop :=
  (match ans with
  | .inl c => e = .returned (.tuple #[.slice none 0 0, .int .i64 c])
  | .inr l => ∃ A c, e = .returned (.tuple #[.slice A l.length c, .int .i64 0]) ∧ OwnRs w' w.heap.size (.slice A l.length c) l) ∧ Gr w w'
theorem stP_none {al fr tt : Nat} {b : List UInt8} {j : Nat} (h : stP al fr tt b j = none) : ∀ q, stP al fr tt b (j + q) = none
  | 0 => h
  | q + 1 => by
    rw [← Nat.add_assoc, stP, stP_none h q]
theorem stP_step {al fr tt : Nat} {b rest : List UInt8} {out : List Rw} {j : Nat} (h : stP al fr tt b j = some (rest, out)) : stP al fr tt b (j + 1) =
      if (Crc.take rest).2.2 = 0 then
        if 8 * j + 8 ≤ fr then some ((Crc.take rest).2.1, out)
        else match allR (Crc.take rest).1 with
          | none => none
          | some l => if l.length = min 8 (al - 8 * j) then some ((Crc.take rest).2.1, out ++ sliceR l fr tt j) else none
      else none := by
  rw [stP, h] <;> rfl
theorem pageB_none {al fr tt : Nat} {b : List UInt8} {j : Nat} (h : stP al fr tt b j = none) (hj : j ≤ roundsP fr tt) : pageB al fr tt b = none := by
  unfold pageB
  obtain ⟨q, hq⟩ := Nat.exists_eq_add_of_le hj
  rw [hq, stP_none h q]
  rfl
theorem sliceR_len {l : List Rw} {fr tt j : Nat} : (sliceR l fr tt j).length = min (tt - 8 * j) l.length - (fr - 8 * j) := by
  unfold sliceR
  rw [List.length_drop, List.length_take]
  omega
theorem take_less {L : List UInt8} (h : (Crc.take L).2.2 = 0) : (Crc.take L).1.length + (Crc.take L).2.1.length + 10 = L.length := by
  unfold Crc.take at h ⊢
  split at h
  · simp at h
  · rename_i h1
    rw [if_neg h1]
    split at h
    · simp at h
    · rename_i h2
      rw [if_neg h2]
      split at h
      · simp at h
      · rename_i h3
        rw [if_neg h3]
        split at h
        · simp at h
        · rename_i h4
          rw [if_neg h4]
          split at h
          · simp at h
          · rename_i h5
            rw [if_neg h5]
            simp only [List.length_take, List.length_drop]
            omega
/-- Some of the rows that the call has laid itself, as they stand in memory. -/
theorem ownRs_part {w : World} {base g n c lo hi : Nat} {hs : List Hd} {l : List Rw} (h1 : OwnRows w base hs l) (h2 : w.ownsRow base 40 2 (.slice (some ⟨g, 0, none⟩) n c) n (sR hdC hs)) (hhi : hi ≤ n) :
    Row w (some ⟨g, lo * 2, none⟩) (hi - lo) 2 (sR hdC ((hs.take hi).drop lo)) := by
  have r1 := row_take (row_own h2) hi hhi
  rw [← sR_take hdC 2 hdC_len] at r1
  have r2 := row_drop r1 lo (some ⟨g, lo * 2, none⟩) (fun B o e _ => by injection e with e; injection e with e1 e2; subst e1 e2; simp) (by decide)
  rw [← sR_drop hdC 2 hdC_len] at r2
  exact r2
theorem ownRows_part {w : World} {base : Nat} {hs : List Hd} {l : List Rw} (h : OwnRows w base hs l) (lo hi : Nat) : OwnRows w base ((hs.take hi).drop lo) ((l.take hi).drop lo) := by
  refine ⟨by rw [List.length_drop, List.length_drop, List.length_take, List.length_take, h.1], fun i r hr => ?_⟩
  rw [List.getElem?_drop, List.getElem?_take] at hr ⊢
  split at hr
  · next hlt => rw [if_pos hlt]; exact h.2 _ r hr
  · cases hr
theorem ownRows_base {w : World} {base base' : Nat} {hs : List Hd} {l : List Rw} (h : OwnRows w base hs l) (hb : base' ≤ base) : OwnRows w base' hs l :=
  ⟨h.1, fun i r hr => by obtain ⟨k, e, k1, k2, k3⟩ := h.2 i r hr; exact ⟨k, e, k1, k2, own_mono k3 hb⟩⟩
theorem ownRows_append {w : World} {base : Nat} {hs ks : List Hd} {l m : List Rw} (h : OwnRows w base hs l) (k : OwnRows w base ks m) : OwnRows w base (hs ++ ks) (l ++ m) := by
  refine ⟨by rw [List.length_append, List.length_append, h.1, k.1], fun i r hr => ?_⟩
  by_cases hi : i < l.length
  · rw [List.getElem?_append_left hi] at hr
    rw [List.getElem?_append_left (by rw [h.1]; exact hi)]
    exact h.2 i r hr
  · rw [List.getElem?_append_right (by omega)] at hr
    rw [List.getElem?_append_right (by rw [h.1]; omega), h.1]
    exact k.2 _ r hr
theorem hds_onesR (hs : List Hd) : ∀ u ∈ sR hdC hs, u.oneCell' = true := fun u hu => by
  obtain ⟨x, _, hx⟩ := List.mem_flatMap.1 hu
  exact hdC_ones x u hx
set_option maxHeartbeats 16000000 in
set_option maxRecDepth 100000 in
theorem rpage_any (L : List UInt8) (fr n : Int) (w : World) (hL : L.length ≤ 1000000) (hfr : -9223372036854775808 ≤ fr ∧ fr ≤ 9223372036854775807) (hn : -9223372036854775808 ≤ n ∧ n ≤ 9223372036854775807) : Calls Try.prog 9 #[.string (txt L), .int .i64 fr, .int .i64 n] w (PagePost (pageAns L fr n) w) := by
  obtain ⟨ii, hi, hz0, hz1, hz2⟩ := info_parts infoRow3
  have cO := ropen_any L w (by omega)
  unfold OpenPostR at cO
  obtain ⟨R, hR⟩ : ∃ R, R = pageAns L fr n := ⟨_, rfl⟩
  rw [← hR]
  unfold pageAns at hR
  cases ho : openB L with
  | none =>
    rw [ho] at cO hR
    simp only at cO hR
    rw [hR]
    replace cO := Lib.hid cO
    clear ho hR
    go_enter Try.func9, Try.ntmps9
    go_wp2_with fail
    refine cO.out.mono ?_
    rintro e2 w2 ⟨rfl, g2⟩
    go_wp2_with fail
    go_ret2
    exact ⟨rfl, g2⟩
  | some p =>
    obtain ⟨al, rest⟩ := p
    rw [ho] at cO hR
    simp only at cO hR
    have hal : al ≤ 2000 ∧ rest.length ≤ 1000000 := by
      unfold openB at ho
      split at ho
      · next h =>
        injection ho with ho
        injection ho with h1 h2
        have := take_less h.1
        subst h1 h2
        exact ⟨h.2.2.2, by omega⟩
      · cases ho
    obtain ⟨hal, hrl⟩ := hal
    replace cO := Lib.hid cO
    clear ho
    by_cases hbad : fr < 0 ∨ (al : Int) < fr ∨ n < 0
    · rw [if_pos hbad] at hR
      rw [hR]
      clear hR
      by_cases b1 : fr < 0
      · go_enter Try.func9, Try.ntmps9
        go_wp2_with fail
        refine cO.out.mono ?_
        rintro e2 w2 ⟨rfl, g2⟩
        clear hbad
        go_wp2_with fail
        go_ret2
        exact ⟨rfl, g2⟩
      · by_cases b2 : (al : Int) < fr
        · go_enter Try.func9, Try.ntmps9
          go_wp2_with fail
          refine cO.out.mono ?_
          rintro e2 w2 ⟨rfl, g2⟩
          clear hbad
          go_wp2_with fail
          go_ret2
          exact ⟨rfl, g2⟩
        · have b3 : n < 0 := by omega
          go_enter Try.func9, Try.ntmps9
          go_wp2_with fail
          refine cO.out.mono ?_
          rintro e2 w2 ⟨rfl, g2⟩
          clear hbad
          go_wp2_with fail
          go_ret2
          exact ⟨rfl, g2⟩
    · rw [if_neg hbad] at hR
      obtain ⟨F, rfl⟩ : ∃ F : Nat, fr = F := ⟨fr.toNat, by omega⟩
      obtain ⟨N, rfl⟩ : ∃ N : Nat, n = N := ⟨n.toNat, by omega⟩
      obtain ⟨tt, htt⟩ : ∃ tt, tt = F + min N (al - F) := ⟨_, rfl⟩
      simp only [Int.toNat_natCast] at hR
      rw [← htt] at hR
      have hFal : F ≤ al := by omega
      have htal : tt ≤ al := by omega
      have e1 : ¬ (al : Int) < (F : Int) := by omega
      have e0 : ¬ al < F := by omega
      obtain ⟨d, hd⟩ : ∃ d, d = al - F := ⟨_, rfl⟩
      obtain ⟨mm, hmm⟩ : ∃ mm, mm = min N d := ⟨_, rfl⟩
      have e2 : IntKind.i64.wrap ((al : Int) - (F : Int)) = (d : Int) := by rw [IntWalk.i64_in _ (by omega)]; omega
      have e3 : min (N : Int) (d : Int) = (mm : Int) := by omega
      have e4 : IntKind.i64.wrap ((F : Int) + (mm : Int)) = (tt : Int) := by rw [IntWalk.i64_in _ (by omega)]; omega
      replace hd := Lib.hid hd
      replace hmm := Lib.hid hmm
      clear hbad
      replace htt := Lib.hid htt
      replace hR := Lib.hid hR
      go_enter Try.func9, Try.ntmps9
      go_wp2_with fail
      refine cO.out.mono ?_
      rintro e9 w2 ⟨rfl, g2⟩
      replace g2 := Lib.hid g2
      clear cO
      go_wp2_with fail
      clear e1 e2 e3 e4
      go_loopw [9, 12, 13] (fun rv ov av wr => ∃ (j : Nat) (rs : List UInt8) (out : List Rw) (A : Option Addr) (c : Nat), av = .int .i64 ((8 * j : Nat) : Int) ∧ rv = .string (txt rs) ∧ ov = .slice A out.length c ∧ Hid (j ≤ roundsP F tt) ∧ Hid (rs.length ≤ 1000000) ∧ Hid (out.length ≤ 8 * j) ∧ Hid (stP al F tt rest j = some (rs, out)) ∧ Hid (OwnRs wr w.heap.size (.slice A out.length c) out) ∧ Hid (Gr w wr)) (fun _ _ av _ => tt + 8 - (intOf av).toNat)
      case atStart => exact ⟨0, rest, [], none, 0, rfl, rfl, rfl, Lib.hid (Nat.zero_le _), Lib.hid hrl, Lib.hid (Nat.zero_le _), Lib.hid rfl, Lib.hid (ownRs_nil _ _), g2⟩
      case round =>
        obtain ⟨j, rs, out, A, c, rfl, rfl, rfl, hj, hrs, hol, hst, ho, hg⟩ := hrel
        by_cases hlt : 8 * j < tt ∧ F < tt
        · obtain ⟨hl1, hl2⟩ := hlt
          have hI1 : ((8 * j : Nat) : Int) < (tt : Int) := by omega
          have hI2 : (F : Int) < (tt : Int) := by omega
          have hj1 : j + 1 ≤ roundsP F tt := by unfold roundsP; rw [if_pos hl2]; omega
          have hadd8 : IntKind.i64.wrap (((8 * j : Nat) : Int) + 8) = ((8 * (j + 1) : Nat) : Int) := by rw [IntWalk.i64_in _ (by omega)]; omega
          have cT := take_any (txt rs) wr (by rw [txt_size]; have := hrs.out; unfold maxLen; omega)
          rw [txt_data] at cT
          unfold TakeAns at cT
          have hst1 := stP_step hst.out
          have htl := fun h => take_less (L := rs) h
          rcases hc : Crc.take rs with ⟨x, t, cd⟩
          rw [hc] at cT hst1 htl
          simp only at cT hst1 htl
          replace cT := Lib.hid cT
          replace hst1 := Lib.hid hst1
          replace htl := Lib.hid htl
          replace hj1 := Lib.hid hj1
          clear hc hst
          by_cases hcd : cd = 0
          · subst hcd
            have htl' := htl.out rfl
            have hrs' := hrs.out
            have hxl : x.length ≤ 1000000 := by omega
            have htl2 : t.length ≤ 1000000 := by omega
            by_cases hskip : 8 * j + 8 ≤ F
            · have hsI : ((8 * (j + 1) : Nat) : Int) ≤ (F : Int) := by omega
              have hst2 := hst1.out
              rw [if_pos rfl, if_pos hskip] at hst2
              replace hst2 := Lib.hid hst2
              clear hst1 htl hskip
              go_wp2_with fail
              refine cT.out.mono ?_
              rintro e9 w3 ⟨rfl, g3⟩
              have ho3 := ownRs_gr ho.out g3
              have hg3 := gr_trans hg.out g3
              replace ho3 := Lib.hid ho3
              replace hg3 := Lib.hid hg3
              clear g3 ho hg cT
              go_wp2
              go_roundw
              case rel => exact ⟨j + 1, t, out, A, c, by go_num, rfl, rfl, hj1, Lib.hid htl2, Lib.hid (by have := hol.out; omega), hst2, ho3, hg3⟩
              case measure => simp [intOf]; omega
            · have hsI : ¬ ((8 * (j + 1) : Nat) : Int) ≤ (F : Int) := by omega
              have hst2 := hst1.out
              rw [if_pos rfl, if_neg hskip] at hst2
              obtain ⟨q, hq⟩ : ∃ q, q = al - 8 * j := ⟨_, rfl⟩
              obtain ⟨m8, hm8⟩ : ∃ m8, m8 = min 8 q := ⟨_, rfl⟩
              rw [← hq, ← hm8] at hst2
              have e6 : min (8 : Int) ((al : Int) - 8 * (j : Int)) = (m8 : Int) := by omega
              replace e6 := Lib.hid e6
              have cR := fun W (g : Gr wr W) => rrows_any x m8 W hxl (by omega)
              replace cR := Lib.hid cR
              replace hq := Lib.hid hq
              replace hm8 := Lib.hid hm8
              replace hst2 := Lib.hid hst2
              replace hskip := Lib.hid hskip
              clear hst1 htl
              go_wp2_with fail
              refine cT.out.mono ?_
              rintro e9 w3 ⟨rfl, g3⟩
              have ho3 := ownRs_gr ho.out g3
              have hg3 := gr_trans hg.out g3
              have cR3 := cR.out w3 g3
              replace cR3 := Lib.hid cR3
              replace ho3 := Lib.hid ho3
              replace hg3 := Lib.hid hg3
              clear g3 ho hg cT cR
              go_wp2_with fail
              rw [e6.out]
              refine cR3.out.mono ?_
              intro e9 w4 hpost
              clear cR3
              unfold RowsPostQ at hpost
              obtain ⟨hpost, g4⟩ := hpost
              cases hal2 : allR x with
              | none =>
                rw [hal2] at hpost hst2
                simp only at hpost hst2
                subst hpost
                have hpn := pageB_none hst2.out hj1.out
                have hR2 := hR.out
                rw [hpn] at hR2
                simp only at hR2
                replace hR2 := Lib.hid hR2
                clear hst2 hpn hR
                go_wp2
                go_ret2
                rw [hR2.out]
                exact ⟨rfl, gr_trans hg3.out g4⟩
              | some l =>
                rw [hal2] at hpost hst2
                simp only at hpost hst2
                obtain ⟨A4, c4, rfl, hO4⟩ := hpost
                by_cases hlm : l.length = m8
                · rw [decide_eq_true hlm]
                  have hst3 := hst2.out
                  rw [if_pos hlm] at hst3
                  replace hst3 := Lib.hid hst3
                  clear hst2 hal2
                  obtain ⟨hs4, hh4, ho4⟩ := hO4
                  have hm8' := hm8.out
                  have hq' := hq.out
                  have hskip' := hskip.out
                  obtain ⟨g, cap, hv, hbg, hgl⟩ := ho4.form (by omega)
                  obtain ⟨A5, c5, hv5, hlc, hcm⟩ := own_openS ho4
                  injection hv5 with hA5 _ hc5
                  subst hA5 hc5
                  injection hv with hA4 _ hc4
                  subst hA4 hc4
                  obtain ⟨lo, hlo⟩ : ∃ lo, lo = F - 8 * j := ⟨_, rfl⟩
                  obtain ⟨hi9, hhi9⟩ : ∃ hi9, hi9 = min (tt - 8 * j) l.length := ⟨_, rfl⟩
                  have f2 : max ((F : Int) - 8 * (j : Int)) 0 = (lo : Int) := by omega
                  have f4 : min ((tt : Int) - 8 * (j : Int)) (l.length : Int) = (hi9 : Int) := by omega
                  have f5 : lo < hi9 := by omega
                  have f6 : hi9 ≤ l.length := by omega
                  have f7 : hi9 ≤ c4 := by omega
                  have f8 : hi9 ≤ 8 := by omega
                  have hsl : (l.take hi9).drop lo = sliceR l F tt j := by unfold sliceR; rw [← hlo, ← hhi9]
                  have hsll : (sliceR l F tt j).length = hi9 - lo := by rw [← hsl, List.length_drop, List.length_take]; omega
                  have hpr := ownRs_part (lo := lo) hh4 ho4 f6
                  have hgb : w.heap.size ≤ w3.heap.size := hg3.out.size
                  obtain ⟨hs0, hh0, ho0⟩ := ownRs_gr ho3.out g4
                  have G4 := gr_trans hg3.out g4
                  have hho4 := ownRows_append hh0 (ownRows_part (ownRows_base hh4 hgb) lo hi9)
                  rw [hsl] at hho4
                  have hj8 : out.length ≤ 1000000 := by have := hol.out; omega
                  have hj9 : out.length + (hi9 - lo) ≤ 8 * (j + 1) := by have := hol.out; omega
                  have hsum : (hi9 - lo) = ((hs4.take hi9).drop lo).length := by rw [List.length_drop, List.length_take, hh4.1]; omega
                  have hs6 := G4.size
                  replace hm8' := Lib.hid hm8'
                  replace hq' := Lib.hid hq'
                  replace hskip' := Lib.hid hskip'
                  replace hlm := Lib.hid hlm
                  replace hlo := Lib.hid hlo
                  replace hhi9 := Lib.hid hhi9
                  replace hsl := Lib.hid hsl
                  replace hsll := Lib.hid hsll
                  replace hpr := Lib.hid hpr
                  replace ho0 := Lib.hid ho0
                  replace hh0 := Lib.hid hh0
                  replace G4 := Lib.hid G4
                  replace hho4 := Lib.hid hho4
                  replace hsum := Lib.hid hsum
                  replace hs6 := Lib.hid hs6
                  replace hj9 := Lib.hid hj9
                  clear hh4 ho4 g4 hgb hbg hgl htl' hrs' ho3 hg3
                  go_wp2_with (at_builtin; refine wpList_append_row rfl _ _ 23 rfl w.heap.size 40 ii (.agg #[.slice none 0 0, .int .i64 0]) 2 32 Try.underlying23 hi hz0 hz1 hz2 rfl (by decide) (.slice A out.length c) out.length (sR hdC hs0) rfl ho0.out (some ⟨g, lo * 2, none⟩) (hi9 - lo) (c4 - lo) (sR hdC ((hs4.take hi9).drop lo)) rfl (by intro e; cases e) hpr.out (hds_onesR _) (out.length + (hi9 - lo)) (sR hdC (hs0 ++ (hs4.take hi9).drop lo)) rfl (by rw [sR_append]) (by unfold maxLen; omega) (by omega) hs6.out ?_; intro v7 w7 hown7 hgrow7; obtain ⟨A7, c7, rfl, _, _, _⟩ := own_sliceS hown7)
                  have hr7 := ownRows_kept hho4.out ho0.out hgrow7
                  have G8 : Gr w w7 := gr_of_below ((gr_below G4.out).grown hgrow7 G4.out.size (fun q hq => (ho0.out.lt q hq).1)) (Nat.le_refl _)
                  have hln : (out ++ sliceR l F tt j).length = out.length + (hi9 - lo) := by rw [List.length_append, hsll.out]
                  have hfin : OwnRs w7 w.heap.size (.slice A7 (out.length + (hi9 - lo)) c7) (out ++ sliceR l F tt j) := ⟨_, hr7, by rw [hln]; exact hown7⟩
                  replace hfin := Lib.hid hfin
                  replace G8 := Lib.hid G8
                  replace hln := Lib.hid hln
                  clear hgrow7 hr7 hown7 hpr ho0 hh0 G4 hho4 hs6
                  go_wp2
                  go_roundw
                  case rel => exact ⟨j + 1, t, out ++ sliceR l F tt j, A7, c7, by go_num, rfl, by rw [hln.out], hj1, Lib.hid htl2, Lib.hid (by rw [hln.out]; exact hj9.out), hst3, Lib.hid (by rw [hln.out]; exact hfin.out), G8⟩
                  case measure => simp [intOf]; omega
                · rw [decide_eq_false hlm]
                  have hst3 := hst2.out
                  rw [if_neg hlm] at hst3
                  replace hst2 := Lib.hid hst3
                  clear hst3 hO4 hal2 hlm
                  have hpn := pageB_none hst2.out hj1.out
                  have hR2 := hR.out
                  rw [hpn] at hR2
                  simp only at hR2
                  replace hR2 := Lib.hid hR2
                  clear hst2 hpn hR
                  go_wp2
                  go_ret2
                  rw [hR2.out]
                  exact ⟨rfl, gr_trans hg3.out g4⟩
          · have h0J : (cd != 0) = true := by simp [hcd]
            have h0K : (cd == 0) = false := eqF hcd
            have hnone := hst1.out
            rw [if_neg hcd] at hnone
            have hpn := pageB_none hnone hj1.out
            have hR2 := hR.out
            rw [hpn] at hR2
            simp only at hR2
            replace hR2 := Lib.hid hR2
            have hgo := hg.out
            replace hgo := Lib.hid hgo
            clear hst1 htl hnone hpn hcd hR hg ho hol
            go_wp2_with fail
            refine cT.out.mono ?_
            rintro e9 w3 ⟨rfl, g3⟩
            go_wp2
            go_ret2
            rw [hR2.out]
            exact ⟨rfl, gr_trans hgo.out g3⟩
        · have hjr : j = roundsP F tt := by
            have := hj.out
            unfold roundsP at this ⊢
            by_cases hF : F < tt
            · rw [if_pos hF] at this ⊢
              have h2 : ¬ 8 * j < tt := fun h => hlt ⟨h, hF⟩
              omega
            · rw [if_neg hF] at this ⊢
              omega
          have hpb : pageB al F tt rest = some out := by
            unfold pageB
            rw [← hjr, hst.out]
            rfl
          have hR2 := hR.out
          rw [hpb] at hR2
          simp only at hR2
          replace hR2 := Lib.hid hR2
          clear hst hpb hR hjr hj hol hrs
          by_cases h8 : 8 * j < tt
          · have hF : ¬ (F : Int) < (tt : Int) := fun h => hlt ⟨h8, by omega⟩
            have h8I : ((8 * j : Nat) : Int) < (tt : Int) := by omega
            clear hlt
            go_wp2
            go_ret2
            rw [hR2.out]
            exact ⟨⟨A, c, rfl, ho.out⟩, hg.out⟩
          · have h8I : ¬ ((8 * j : Nat) : Int) < (tt : Int) := by omega
            clear hlt
            go_wp2
            go_ret2
            rw [hR2.out]
            exact ⟨⟨A, c, rfl, ho.out⟩, hg.out⟩
end Go.Proofs.Ytoidfoalhkoajaa
namespace Go.Proofs.Ytoidfoalhkoajaa
open Go.RowKit

theorem infoIfcR : (Try.prog.info? 20).map (fun i => (i.zero, i.size, i.bytes)) = some (some .nilIface, 1, 16) := by kernel_rfl
def firstV (n : Nat) : Value := .iface 87 (.agg #[.int .i64 n])
def blkV (A : Option Addr) (n c j : Nat) : Value := .iface 89 (.agg #[.slice (A.map fun a => a.add (8 * j * 2)) (min (8 * j + 8) n - 8 * j) (c - 8 * j)])
def lastV : Value := .iface 91 (.agg #[])
def partVs (A : Option Addr) (n c : Nat) : List Value := firstV n :: ((List.range (nbR n)).map (blkV A n c) ++ [lastV])
theorem partVs_len (A : Option Addr) (n c : Nat) : (partVs A n c).length = nbR n + 2 := by simp [partVs]
set_option maxHeartbeats 16000000 in
set_option maxRecDepth 100000 in
theorem rparts_any (A : Option Addr) (n c : Nat) (w : World) (hn : n ≤ 2000) (hc : n ≤ c) (hA : A = none → n = 0) : Calls Try.prog 25 #[.slice A n c] w fun e w' => ∃ v, e = .returned v ∧ w'.ownsRow w.heap.size 20 1 v (nbR n + 2) (partVs A n c) ∧ Gr w w' := by
  obtain ⟨ii, hi, hz0, hz1, hz2⟩ := info_parts infoIfcR
  go_enter Try.func25, Try.ntmps25
  go_upto_region 2 with fail
  obtain ⟨W1, hW1⟩ : ∃ W1, W1 = w.alloc (.cells #[firstV n] 20) := ⟨_, rfl⟩
  have g1 : Gr w W1 := by rw [hW1]; exact gr_alloc _ _ _
  have ho1 : W1.ownsRow w.heap.size 20 1 (.slice (some ⟨w.heap.size, 0, none⟩) 1 1) 1 [firstV n] := by
    rw [hW1]
    exact ⟨rfl, .inr ⟨w.heap.size, 1, #[firstV n], rfl, Nat.le_refl _, blk_new w _, Nat.le_refl _, by decide, rfl, rfl⟩⟩
  rw [show w.alloc (.cells #[.iface 87 (.agg #[.int .i64 n])] 20) = W1 from hW1.symm]
  replace g1 := Lib.hid g1
  replace ho1 := Lib.hid ho1
  clear hW1
  go_wp2_with fail
  go_loopw [3, 4] (fun ov iv wr => ∃ (j : Nat) (A2 : Option Addr) (c2 : Nat), iv = .int .i64 ((8 * j : Nat) : Int) ∧ ov = .slice A2 (j + 1) c2 ∧ Hid (j ≤ nbR n) ∧ Hid (wr.ownsRow w.heap.size 20 1 (.slice A2 (j + 1) c2) (j + 1) (firstV n :: (List.range j).map (blkV A n c))) ∧ Hid (Gr w wr)) (fun _ iv _ => n + 8 - (intOf iv).toNat)
  case atStart => exact ⟨0, _, _, rfl, rfl, Lib.hid (Nat.zero_le _), ho1, g1⟩
  case round =>
    obtain ⟨j, A2, c2, rfl, rfl, hj, ho, hg⟩ := hrel
    by_cases hlt : 8 * j < n
    · obtain ⟨a, rfl⟩ : ∃ a, A = some a := by
        cases A with
        | none => have := hA rfl; omega
        | some a => exact ⟨a, rfl⟩
      clear hA
      obtain ⟨hi9, hhi9⟩ : ∃ hi9, hi9 = min (8 * j + 8) n := ⟨_, rfl⟩
      have f4 : min (8 * (j : Int) + 8) (n : Int) = (hi9 : Int) := by omega
      have f5 : 8 * j ≤ hi9 := by omega
      have f6 : hi9 ≤ c := by omega
      have hltI : 8 * (j : Int) < (n : Int) := by omega
      have hj1 : j + 1 ≤ nbR n := by unfold nbR; omega
      have hjb : j ≤ 300 := by omega
      have hs := hg.out.size
      replace hj1 := Lib.hid hj1
      replace hhi9 := Lib.hid hhi9
      go_wp2_with (at_builtin; refine wpList_append_own (o := ⟨some 28, _, _, _, _, _⟩) _ rfl _ _ 58 rfl w.heap.size 20 ii .nilIface 1 16 Try.underlying58 hi hz0 hz1 hz2 rfl (by decide) (.slice A2 (j + 1) c2) (j + 1) _ rfl (ho.out.alloc _) ⟨wr.heap.size, 0, none⟩ 1 1 [.iface 89 (.agg #[.slice (some (a.add (8 * j * 2))) (hi9 - 8 * j) (c - 8 * j)])] rfl rfl (cell_one_new _ _ _) ?p12 ?p13 ?p14 ?p15 ?_; rotate_right; intro v4 W4 ho4 hg4 _nl; clear _nl; obtain ⟨A4, c4, rfl, _, _, _⟩ := own_sliceS ho4; have G4 : Gr w W4 := gr_of_below ((gr_below (gr_trans hg.out (gr_alloc wr _ none))).grown hg4 (Nat.le_trans hs (Nat.le_of_lt (by simp))) (fun q hq => (ho.out.lt q hq).1)) (Nat.le_refl _); clear hg4; replace ho4 := Lib.hid ho4; replace G4 := Lib.hid G4)
      case p12 => simp [Value.oneCell']
      case p13 => unfold maxLen; omega
      case p14 => omega
      case p15 => first | exact Nat.le_succ_of_le hs | (simp; omega) | omega
      go_wp2
      go_roundw
      case rel => exact ⟨j + 1, A4, c4, by go_num, rfl, hj1, Lib.hid (by
        rw [List.range_succ, List.map_append, ← List.cons_append]
        have e : blkV (some a) n c j = .iface 89 (.agg #[.slice (some (a.add (8 * j * 2))) (hi9 - 8 * j) (c - 8 * j)]) := by unfold blkV; rw [hhi9.out]; rfl
        rw [List.map_singleton, e]
        exact ho4.out), G4⟩
      case measure => simp [intOf]; omega
    · have hjn : j = nbR n := by have := hj.out; unfold nbR at this ⊢; omega
      have hltI : ¬ 8 * (j : Int) < (n : Int) := by omega
      have hjb : j ≤ 300 := by have := hj.out; unfold nbR at this; omega
      have hs := hg.out.size
      replace hjn := Lib.hid hjn
      go_wp2_with (at_builtin; refine wpList_append_own (o := ⟨some 33, _, _, _, _, _⟩) _ rfl _ _ 58 rfl w.heap.size 20 ii .nilIface 1 16 Try.underlying58 hi hz0 hz1 hz2 rfl (by decide) (.slice A2 (j + 1) c2) (j + 1) _ rfl (ho.out.alloc _) ⟨wr.heap.size, 0, none⟩ 1 1 [.iface 91 (.agg #[])] rfl rfl (cell_one_new _ _ _) ?p12 ?p13 ?p14 ?p15 ?_; rotate_right; intro v4 W4 ho4 hg4 _nl; clear _nl; obtain ⟨A4, c4, rfl, _, _, _⟩ := own_sliceS ho4; have G4 : Gr w W4 := gr_of_below ((gr_below (gr_trans hg.out (gr_alloc wr _ none))).grown hg4 (Nat.le_trans hs (Nat.le_of_lt (by simp))) (fun q hq => (ho.out.lt q hq).1)) (Nat.le_refl _); clear hg4; replace ho4 := Lib.hid ho4; replace G4 := Lib.hid G4)
      case p12 => simp [Value.oneCell']
      case p13 => unfold maxLen; omega
      case p14 => omega
      case p15 => first | exact Nat.le_succ_of_le hs | (simp; omega) | omega
      go_wp2
      go_ret
      refine ⟨_, rfl, ?_, G4.out⟩
      have h := ho4.out
      rw [hjn.out] at h ⊢
      exact h
end Go.Proofs.Ytoidfoalhkoajaa
namespace Go.Proofs.Ytoidfoalhkoajaa
open Go.RowKit

theorem ta_first_first (v : Value) (W : World) : (Instr.typeAssert (.iface 87 v) 20 87 true).run Try.prog W = .ok (.tuple #[v, .bool true]) W := by
  simp [Instr.typeAssert, Sem.run_bind, run_underlying Try.underlying87, Try.zeroValue87, Result.andThen]
theorem ta_block_first (v : Value) (W : World) : (Instr.typeAssert (.iface 89 v) 20 87 true).run Try.prog W = .ok (.tuple #[.agg #[.int .i64 0], .bool false]) W := by
  simp [Instr.typeAssert, Sem.run_bind, run_underlying Try.underlying87, Try.zeroValue87, Result.andThen]
theorem ta_last_first (v : Value) (W : World) : (Instr.typeAssert (.iface 91 v) 20 87 true).run Try.prog W = .ok (.tuple #[.agg #[.int .i64 0], .bool false]) W := by
  simp [Instr.typeAssert, Sem.run_bind, run_underlying Try.underlying87, Try.zeroValue87, Result.andThen]
theorem ta_block_block (v : Value) (W : World) : (Instr.typeAssert (.iface 89 v) 20 89 true).run Try.prog W = .ok (.tuple #[v, .bool true]) W := by
  simp [Instr.typeAssert, Sem.run_bind, run_underlying Try.underlying89, Try.zeroValue89, Result.andThen]
theorem ta_last_block (v : Value) (W : World) : (Instr.typeAssert (.iface 91 v) 20 89 true).run Try.prog W = .ok (.tuple #[.agg #[.slice none 0 0], .bool false]) W := by
  simp [Instr.typeAssert, Sem.run_bind, run_underlying Try.underlying89, Try.zeroValue89, Result.andThen]
def BytesPost (x : List UInt8) (w : World) (e : Ending) (w' : World) : Prop := e = .returned (.tuple #[.string (txt x), .int .i64 0]) ∧ Gr w w'
set_option maxHeartbeats 8000000 in
set_option maxRecDepth 100000 in
theorem rbytes_last (w : World) : Calls Try.prog 26 #[lastV] w (BytesPost endB w) := by
  unfold lastV
  have t1 := fun W => ta_last_first (.agg #[]) W
  have t2 := fun W => ta_last_block (.agg #[]) W
  go_enter Try.func26, Try.ntmps26
  go_wp2
  go_ret2
  exact ⟨rfl, gr_trans (gr_alloc _ _ _) (gr_alloc _ _ _)⟩
set_option maxHeartbeats 8000000 in
set_option maxRecDepth 100000 in
theorem rbytes_first (n : Nat) (hn : n ≤ 2000) (w : World) : Calls Try.prog 26 #[firstV n] w (BytesPost (firstB n) w) := by
  unfold firstV
  have t1 := fun W => ta_first_first (.agg #[.int .i64 n]) W
  have hs1 : (w.alloc (.cells #[.int .i64 n] 87)).heap.size = w.heap.size + 1 := by simp
  have hb1 : byteV (UInt8.ofNat (n / 256)) = .int .u8 ((n : Int) / 256) := by unfold byteV; rw [ofNat_len _ (by omega)]; congr 1
  have hb2 : byteV (UInt8.ofNat n) = .int .u8 ((n : Int) % 256) := by unfold byteV; rw [UInt8.toNat_ofNat']; congr 1
  have ho : ((w.alloc (.cells #[.int .i64 n] 87)).alloc (.cells #[.int .u8 ((n : Int) / 256), .int .u8 ((n : Int) % 256)] 5)).ownsRow (w.heap.size + 1) 5 1 (.slice (some ⟨w.heap.size + 1, 0, none⟩) 2 2) 2 ([UInt8.ofNat (n / 256), UInt8.ofNat n].map byteV) := by
    have hbk := blk_new (w.alloc (.cells #[.int .i64 n] 87)) (.cells #[.int .u8 ((n : Int) / 256), .int .u8 ((n : Int) % 256)] 5)
    rw [hs1] at hbk
    refine ⟨rfl, .inr ⟨w.heap.size + 1, 2, _, rfl, Nat.le_refl _, hbk, Nat.le_refl _, by decide, rfl, ?_⟩⟩
    show [Value.int .u8 ((n : Int) / 256), Value.int .u8 ((n : Int) % 256)] = _
    simp only [List.map_cons, List.map_nil, hb1, hb2]
  have hcv := run_string_own (P := Try.prog) _ 36 9 5 Try.underlying36 Try.underlying5 Try.underlying9 ho
  clear ho hb1 hb2 hs1
  go_enter Try.func26, Try.ntmps26
  go_wp2
  go_ret2
  refine ⟨?_, gr_trans (gr_alloc _ _ _) (gr_alloc _ _ _)⟩
  rfl
set_option maxHeartbeats 8000000 in
set_option maxRecDepth 100000 in
theorem rbytes_block (B : Option Addr) (k cc : Nat) (rs : List Rw) (w : World) (hk : k ≤ 8) (hr : Rows w B k rs) (hok : ∀ r ∈ rs, okR r) : Calls Try.prog 26 #[.iface 89 (.agg #[.slice B k cc])] w (BytesPost (flatL rs) w) := by
  have t1 := fun W => ta_block_first (.agg #[.slice B k cc]) W
  have t2 := fun W => ta_block_block (.agg #[.slice B k cc]) W
  have hl : rs.length = k := hr.1
  obtain ⟨W1, hW1⟩ : ∃ W1, W1 = (w.alloc (.cells #[.int .i64 0] 87)).alloc (.cells #[.slice B k cc] 89) := ⟨_, rfl⟩
  have g1 : Gr w W1 := by rw [hW1]; exact gr_trans (gr_alloc _ _ _) (gr_alloc _ _ _)
  obtain ⟨W2, hW2⟩ : ∃ W2, W2 = W1.alloc (.cells #[.pointer none, .slice none 0 0] 57) := ⟨_, rfl⟩
  have hbld := bld_new W1
  rw [← hW2] at hbld
  have g2 : Gr W1 W2 := by rw [hW2]; exact gr_alloc _ _ _
  have d0 : W2.cell? ⟨w.heap.size + 1, 0, none⟩ = some (.slice B k cc) := by
    refine gr_cell g2 ?_
    rw [hW1, show w.heap.size + 1 = (w.alloc (.cells #[.int .i64 0] 87)).heap.size by simp, World.cell?_alloc_new]
    rfl
  have hR := rows_gr hr g1
  obtain ⟨b, hb⟩ : ∃ b, b = W1.heap.size := ⟨_, rfl⟩
  rw [← hb] at hbld
  replace hbld := Lib.hid hbld
  replace hR := Lib.hid hR
  replace g1 := Lib.hid g1
  replace g2 := Lib.hid g2
  replace hok := Lib.hid hok
  replace hl := Lib.hid hl
  clear hr
  go_enter Try.func26, Try.ntmps26
  go_upto_region 7 with fail
  rw [← hW1]
  clear hW1
  go_upto_region 8 with fail
  rw [← hW2, ← hb]
  clear hW2
  replace hb := Lib.hid hb
  go_wp2_with fail
  clear d0
  go_loopw [39] (fun iv wr => ∃ (i : Nat), iv = .int .i64 (i : Int) ∧ Hid (i ≤ k) ∧ Hid (Bld b (flatL (rs.take i)) wr) ∧ Hid (Gr W1 wr)) (fun iv _ => k - (intOf iv).toNat)
  case atStart => exact ⟨0, rfl, Lib.hid (Nat.zero_le _), hbld, g2⟩
  case round =>
    obtain ⟨i, rfl, hi, hB, hg⟩ := hrel
    have hi2 := hi.out
    by_cases hlt : i < k
    · obtain ⟨⟨rl, rv⟩, ⟨Ah, nh, ch, vh⟩, gA, oA, hre, hk1, rfl, c0, c1⟩ := rows_at (rows_gr hR.out hg.out) hlt
      have hev := hk1.v
      simp only at hev c0 c1
      subst hev
      have hokr := hok.out _ (List.mem_of_getElem? hre)
      have hki : (i : Int) < (k : Int) := by omega
      have hk0 : (0 : Int) ≤ (i : Int) := by omega
      have hLt := okLbs_light hokr.1
      have hnh : nh = rl.length := hk1.n
      have hL1 : rl.length ≤ 20 := hLt.1
      have hput := fun W (g : Gr wr W) => put_any Ah nh ch rl vh W (by omega) hk1.nil (row_gr hk1.row g) (light_short hLt) (by have := hokr.2; unfold okV at this; simp only at this; omega)
      unfold PutPost at hput
      rw [if_pos hokr] at hput
      have hf := flatL_snoc hre
      have hfl := flatL_le (rs.take (i + 1)) (fun r hr => hok.out r (List.mem_of_mem_take hr))
      rw [hf, List.length_append, List.length_take] at hfl
      have hfb : (flatL (rs.take i)).length ≤ 100000 ∧ (rowL ⟨rl, vh⟩).length ≤ 100000 := by have := Nat.min_le_left (i + 1) rs.length; omega
      replace hput := Lib.hid hput
      replace hf := Lib.hid hf
      replace hfb := Lib.hid hfb
      clear hk1 hre hLt hfl hnh hL1 hokr
      go_upto_region 11 with fail
      obtain ⟨W5, hW5⟩ : ∃ W5, W5 = wr.alloc (.cells #[.slice Ah nh ch, .int .i64 vh] 40) := ⟨_, rfl⟩
      have g5 : Gr wr W5 := by rw [hW5]; exact gr_alloc _ _ _
      have d0 : W5.cell? ⟨wr.heap.size, 0, none⟩ = some (.slice Ah nh ch) := by rw [hW5, World.cell?_alloc_new]; rfl
      have d1 : W5.cell? ⟨wr.heap.size, 1, none⟩ = some (.int .i64 vh) := by rw [hW5, World.cell?_alloc_new]; rfl
      have hp5 := hput.out W5 g5
      replace hp5 := Lib.hid hp5
      have hB5 := bld_gr hB.out g5
      have hg5 := gr_trans hg.out g5
      replace hB5 := Lib.hid hB5
      replace hg5 := Lib.hid hg5
      rw [← hW5]
      clear hW5 g5 hB hg hput c0 c1
      go_wp2_with fail
      refine hp5.out.mono ?_
      rintro e w6 ⟨rfl, g6⟩
      have hB6 := bld_gr hB5.out g6
      have hg6 := gr_trans hg5.out g6
      have hwr := writeString_any b _ (rowL ⟨rl, vh⟩) w6 hB6 (by have := hfb.out.1; omega) (by have := hfb.out.2; omega)
      replace hwr := Lib.hid hwr
      replace hg6 := Lib.hid hg6
      clear hB5 hg5 hp5 g6 hB6 d0 d1
      go_wp2_with fail
      refine hwr.out.mono ?_
      rintro e w7 ⟨rfl, hB7, hk7⟩
      rw [← hf.out] at hB7
      have hg7 : Gr W1 w7 := gr_of_below ((gr_below hg6.out).trans (hb.out ▸ hk7.bel)) (Nat.le_refl _)
      replace hB7 := Lib.hid hB7
      replace hg7 := Lib.hid hg7
      clear hk7 hwr hg6
      go_wp2
      go_roundw
      case rel => exact ⟨i + 1, by go_num, Lib.hid hlt, hB7, hg7⟩
      case measure => simp [intOf]; omega
    · obtain rfl : i = k := by omega
      have hki : ¬ (i : Int) < (i : Int) := by omega
      have hB2 := hB.out
      rw [List.take_of_length_le (by rw [hl.out]; exact Nat.le_refl _)] at hB2
      have hst := builderString_any b _ wr hB2
      replace hst := Lib.hid hst
      clear hB2 hB hi hi2 hlt hki
      go_wp2_with fail
      refine hst.out.mono ?_
      rintro e w7 ⟨rfl, hB7, hk7⟩
      have hg7 : Gr W1 w7 := gr_of_below ((gr_below hg.out).trans (hb.out ▸ hk7.bel)) (Nat.le_refl _)
      replace hg7 := Lib.hid hg7
      clear hk7 hB7 hst hg
      go_wp2
      go_ret2
      exact ⟨rfl, gr_trans g1.out hg7.out⟩
end Go.Proofs.Ytoidfoalhkoajaa
namespace Go.Proofs.Ytoidfoalhkoajaa
open Go.RowKit

theorem builderLen_any (b : Nat) (l : List UInt8) (w : World) (h : Bld b l w) : Calls Try.prog 29 #[.pointer (some ⟨b, 0, none⟩)] w fun e w' => e = .returned (.int .i64 l.length) ∧ w' = w := by
  have := Try.Builder_Len_f b b _ w h.1
  rw [Lib.byteCells_length] at this
  exact this
theorem own_bk {w w' : World} {base b size n : Nat} {e : TypeId} {v : Value} {xs : List Value} (h : w.ownsRow base e size v n xs) (hb : b < base) (he : e ≠ 5) (k : BKept b w w') : w'.ownsRow base e size v n xs := by
  refine ⟨h.1, ?_⟩
  rcases h.2 with hn | ⟨g, cap, cur, hv, hbg, hg, rest⟩
  · exact .inl hn
  · exact .inr ⟨g, cap, cur, hv, hbg, k.oth g _ hg (by simp; omega) (by intro c fz e1; injection e1 with _ e2; exact he e2), rest⟩
theorem addr_add (B o n : Nat) : (⟨B, o, none⟩ : Addr).add n = ⟨B, o + n, none⟩ := by
  unfold Addr.add
  split
  · next h => subst h; rfl
  · rfl
theorem rows_part {w : World} {A : Option Addr} {n : Nat} {rs : List Rw} (h : Rows w A n rs) {lo hi : Nat} (hhi : hi ≤ n) :
    Rows w (A.map fun a => a.add (lo * 2)) (hi - lo) ((rs.take hi).drop lo) := by
  obtain ⟨h1, hs, h2, h3⟩ := h
  refine ⟨by rw [List.length_drop, List.length_take]; omega, (hs.take hi).drop lo, ?_, fun i r hr => ?_⟩
  · have r1 := row_take h2 hi hhi
    rw [← sR_take hdC 2 hdC_len] at r1
    have r2 := row_drop r1 lo (A.map fun a => a.add (lo * 2)) (fun B o e _ => by rw [e]; simp only [Option.map_some, addr_add]) (by decide)
    rw [← sR_drop hdC 2 hdC_len] at r2
    exact r2
  · rw [List.getElem?_drop, List.getElem?_take] at hr ⊢
    split at hr
    · next hlt => rw [if_pos hlt]; exact h3 _ r hr
    · cases hr
theorem blkR_part (rs : List Rw) (j : Nat) : (rs.take (min (8 * j + 8) rs.length)).drop (8 * j) = blkR rs j := by
  unfold blkR
  rw [List.drop_take]
  by_cases h : 8 * j + 8 ≤ rs.length
  · rw [Nat.min_eq_left h]; congr 1; omega
  · rw [Nat.min_eq_right (by omega), List.take_of_length_le (by rw [List.length_drop]; exact Nat.le_refl _), List.take_of_length_le (by rw [List.length_drop]; omega)]
theorem cat_le : ∀ (l : List (List UInt8)), (∀ x ∈ l, x.length ≤ 12000) → (Crc.cat l).length ≤ 12010 * l.length
  | [], _ => by simp [Crc.cat]
  | x :: l, h => by
    rw [Crc.cat_cons, List.length_append, Crc.frm_length, List.length_cons]
    have h1 := h x List.mem_cons_self
    have h2 := cat_le l fun y hy => h y (List.mem_cons_of_mem _ hy)
    omega
theorem partsB_len (rs : List Rw) : (partsB rs).length = nbR rs.length + 2 := by simp [partsB, blksB]
/-- What each value of a frame is as bytes. -/
theorem part_bytes {A : Option Addr} {n c : Nat} {rs : List Rw} {w : World} (hn : n ≤ 2000) (hr : Rows w A n rs) (hok : ∀ r ∈ rs, okR r) {k : Nat} {v : Value} (hv : (partVs A n c)[k]? = some v) :
    ∃ x, (partsB rs)[k]? = some x ∧ ∀ W, Gr w W → Calls Try.prog 26 #[v] W (BytesPost x W) := by
  have hl := hr.1
  cases k with
  | zero =>
    simp only [partVs, List.getElem?_cons_zero, Option.some.injEq] at hv
    subst hv
    refine ⟨firstB rs.length, rfl, fun W _ => ?_⟩
    rw [hl]
    exact rbytes_first n hn W
  | succ j =>
    simp only [partVs, List.getElem?_cons_succ] at hv
    simp only [partsB, List.getElem?_cons_succ]
    by_cases hj : j < nbR n
    · rw [List.getElem?_append_left (by simpa using hj), List.getElem?_map, List.getElem?_range hj] at hv
      simp only [Option.map_some, Option.some.injEq] at hv
      subst hv
      refine ⟨blkB rs j, ?_, fun W g => ?_⟩
      · rw [List.getElem?_append_left (by simpa [blksB, hl] using hj)]
        simp [blksB, hl, List.getElem?_range hj]
      · have hp := rows_part (rows_gr hr g) (lo := 8 * j) (hi := min (8 * j + 8) n) (by omega)
        rw [show min (8 * j + 8) n = min (8 * j + 8) rs.length by rw [hl], blkR_part] at hp
        rw [hl] at hp
        exact rbytes_block _ _ _ _ W (by omega) hp (blkR_ok hok j)
    · have hj2 : j = nbR n := by
        have := (List.getElem?_eq_some_iff.1 hv).1
        simp at this
        omega
      subst hj2
      rw [List.getElem?_append_right (by simp)] at hv
      simp at hv
      subst hv
      refine ⟨endB, ?_, fun W _ => rbytes_last W⟩
      rw [List.getElem?_append_right (by simp [blksB, hl])]
      simp [blksB, hl]
theorem sR_self (xs : List Value) : sR (fun v => [v]) xs = xs := by simp [sR]
def MakePost (rs : List Rw) (w : World) (e : Ending) (w' : World) : Prop :=
  e = .returned (if (fileB rs).length ≤ 60000 then .tuple #[.string (txt (fileB rs)), .int .i64 0] else .tuple #[.string ⟨#[]⟩, .int .i64 8]) ∧ Gr w w'
set_option maxHeartbeats 16000000 in
set_option maxRecDepth 100000 in
theorem rmake_any (A : Option Addr) (n c : Nat) (rs : List Rw) (w : World) (hn : n ≤ 2000) (hc : n ≤ c) (hA : A = none → n = 0) (hr : Rows w A n rs) (hok : ∀ r ∈ rs, okR r) : Calls Try.prog 12 #[.slice A n c] w (MakePost rs w) := by
  have hnI : ¬ (n : Int) > 2000 := by omega
  obtain ⟨W1, hW1⟩ : ∃ W1, W1 = w.alloc (.cells #[.pointer none, .slice none 0 0] 57) := ⟨_, rfl⟩
  have hbld := bld_new w
  rw [← hW1] at hbld
  have g1 : Gr w W1 := by rw [hW1]; exact gr_alloc _ _ _
  have hs1 : W1.heap.size = w.heap.size + 1 := by rw [hW1]; simp
  have hp := rparts_any A n c W1 hn hc hA
  rw [hs1] at hp
  obtain ⟨R, hR⟩ : ∃ R : Value, R = (if (fileB rs).length ≤ 60000 then .tuple #[.string (txt (fileB rs)), .int .i64 0] else .tuple #[.string ⟨#[]⟩, .int .i64 8]) := ⟨_, rfl⟩
  have hpb := fun (k : Nat) (v : Value) (h : (partVs A n c)[k]? = some v) => part_bytes hn hr hok h
  have hpl : (partsB rs).length = nbR n + 2 := by rw [partsB_len, hr.1]
  have hple := parts_le hok
  have hnb : nbR n ≤ 251 := by unfold nbR; omega
  unfold MakePost
  rw [← hR]
  obtain ⟨b, hb⟩ : ∃ b, b = w.heap.size := ⟨_, rfl⟩
  rw [← hb] at hp hbld
  obtain ⟨nb, hnbe⟩ : ∃ nb, nb = nbR n + 2 := ⟨_, rfl⟩
  rw [← hnbe] at hp hpl
  have hnb2 : nb ≤ 253 := by omega
  replace hR := Lib.hid hR
  replace hp := Lib.hid hp
  replace hbld := Lib.hid hbld
  replace hpb := Lib.hid hpb
  replace hpl := Lib.hid hpl
  replace hple := Lib.hid hple
  replace g1 := Lib.hid g1
  have hvl := partVs_len A n c
  replace hnbe := Lib.hid hnbe
  replace hvl := Lib.hid hvl
  clear hs1 hr hok hA hc hnb
  go_enter Try.func12, Try.ntmps12
  go_upto_region 4 with fail
  rw [← hW1, ← hb]
  clear hW1
  replace hb := Lib.hid hb
  go_wp2_with fail
  refine hp.out.mono ?_
  rintro e w2 ⟨v, rfl, hown, g2⟩
  obtain ⟨A2, c2, rfl, _, _, _⟩ := own_sliceS hown
  have hB2 := bld_gr hbld.out g2
  have G2 := gr_trans g1.out g2
  replace hown := Lib.hid hown
  replace hB2 := Lib.hid hB2
  replace G2 := Lib.hid G2
  clear hp hbld g1 g2
  go_wp2_with fail
  go_loopw [16] (fun iv wr => ∃ (k : Nat), iv = .int .i64 (k : Int) ∧ Hid (k ≤ nb) ∧ Hid (Bld b (Crc.cat ((partsB rs).take k)) wr) ∧ Hid (wr.ownsRow (b + 1) 20 1 (.slice A2 nb c2) nb (partVs A n c)) ∧ Hid (Gr w wr)) (fun iv _ => nb - (intOf iv).toNat)
  case atStart => exact ⟨0, rfl, Lib.hid (Nat.zero_le _), hB2, hown, G2⟩
  case round =>
    obtain ⟨k, rfl, hk, hB, ho, hg⟩ := hrel
    have hk2 := hk.out
    by_cases hlt : k < nb
    · have hki : (k : Int) < (nb : Int) := by omega
      have hk0 : (0 : Int) ≤ (k : Int) := by omega
      have hrow := row_own ho.out
      rw [← sR_self (partVs A n c)] at hrow
      obtain ⟨v, gA, oA, hv, rfl, _, ha⟩ := rowS_elem (f := fun v => [v]) (fun _ => rfl) hrow (by decide) hlt
      have c0 := ha 0 (by decide)
      simp only [List.length_cons, List.length_nil, Nat.mul_one, Nat.add_zero] at c0
      obtain ⟨x, hx, hby⟩ := hpb.out _ _ hv
      have hby2 := hby wr hg.out
      have hxl := hple.out x (List.mem_of_getElem? hx)
      have hcat : Crc.cat ((partsB rs).take (k + 1)) = Crc.cat ((partsB rs).take k) ++ Crc.frm x := by
        obtain ⟨h1, h2⟩ := List.getElem?_eq_some_iff.1 hx
        rw [List.take_succ_eq_append_getElem h1, h2, Crc.cat_snoc]
      have hcl := cat_le ((partsB rs).take k) fun y hy => hple.out y (List.mem_of_mem_take hy)
      rw [List.length_take] at hcl
      have hcl2 : (Crc.cat ((partsB rs).take k)).length ≤ 100000000 := by have := Nat.min_le_left k (partsB rs).length; omega
      replace hby2 := Lib.hid hby2
      replace hcat := Lib.hid hcat
      replace hcl2 := Lib.hid hcl2
      replace hxl := Lib.hid hxl
      clear hrow ha hv hx hby hcl
      go_wp2_with fail
      refine hby2.out.mono ?_
      rintro e w4 ⟨rfl, g4⟩
      have hf := frame_any (txt x) w4 (by rw [txt_size]; exact hxl.out)
      rw [txt_data] at hf
      have hB4 := bld_gr hB.out g4
      have ho4 := ho.out.kept g4 (Classical.em _)
      have hg4 := gr_trans hg.out g4
      replace hf := Lib.hid hf
      replace hB4 := Lib.hid hB4
      replace ho4 := Lib.hid ho4
      replace hg4 := Lib.hid hg4
      clear hby2 g4 hB ho hg c0
      go_wp2_with fail
      refine hf.out.mono ?_
      rintro e w5 ⟨rfl, g5⟩
      have hB5 := bld_gr hB4.out g5
      have ho5 := ho4.out.kept g5 (Classical.em _)
      have hg5 := gr_trans hg4.out g5
      have hwr := writeString_any b _ (Crc.frm x) w5 hB5 (by have := hcl2.out; omega) (by rw [Crc.frm_length]; have := hxl.out; omega)
      replace hwr := Lib.hid hwr
      replace ho5 := Lib.hid ho5
      replace hg5 := Lib.hid hg5
      clear hf g5 hB4 ho4 hg4 hB5
      go_wp2_with fail
      refine hwr.out.mono ?_
      rintro e w6 ⟨rfl, hB6, hk6⟩
      rw [← hcat.out] at hB6
      have ho6 := own_bk ho5.out (Nat.lt_succ_self _) (by decide) hk6
      have hg6 : Gr w w6 := gr_of_below ((gr_below hg5.out).trans (hb.out ▸ hk6.bel)) (Nat.le_refl _)
      replace hB6 := Lib.hid hB6
      replace ho6 := Lib.hid ho6
      replace hg6 := Lib.hid hg6
      clear hk6 hwr hg5 ho5
      go_wp2
      go_roundw
      case rel => exact ⟨k + 1, by go_num, Lib.hid hlt, hB6, ho6, hg6⟩
      case measure => simp [intOf]; omega
    · obtain rfl : k = nb := by omega
      have hki : ¬ (k : Int) < (k : Int) := by omega
      have hB2 := hB.out
      rw [List.take_of_length_le (by rw [hpl.out]; exact Nat.le_refl _)] at hB2
      have hln := builderLen_any b _ wr hB2
      have hst := builderString_any b _ wr hB2
      have hfe : fileB rs = Crc.cat (partsB rs) := rfl
      rw [← hfe] at hln hst
      generalize fileB rs = F at hR hln hst
      replace hln := Lib.hid hln
      replace hst := Lib.hid hst
      clear hB2 hB hk hk2 hlt hki ho hfe
      go_wp2_with fail
      refine hln.out.mono ?_
      rintro e w7 ⟨rfl, rfl⟩
      by_cases hbig : F.length ≤ 60000
      · have hR2 := hR.out
        rw [if_pos hbig] at hR2
        have hbi : ¬ (F.length : Int) > 60000 := by omega
        replace hR2 := Lib.hid hR2
        clear hR hln
        go_wp2_with fail
        refine hst.out.mono ?_
        rintro e w8 ⟨rfl, hB8, hk8⟩
        have hg8 : Gr w w8 := gr_of_below ((gr_below hg.out).trans (hb.out ▸ hk8.bel)) (Nat.le_refl _)
        replace hg8 := Lib.hid hg8
        clear hB8 hk8 hst hg
        go_wp2
        go_ret2
        exact ⟨by rw [hR2.out]; rfl, hg8.out⟩
      · have hR2 := hR.out
        rw [if_neg hbig] at hR2
        have hbi : (F.length : Int) > 60000 := by omega
        replace hR2 := Lib.hid hR2
        clear hR hln hst
        go_wp2
        go_ret2
        exact ⟨by rw [hR2.out]; rfl, hg.out⟩
end Go.Proofs.Ytoidfoalhkoajaa
namespace Go.Proofs.Ytoidfoalhkoajaa
open Go.RowKit

theorem stP_ok {al fr tt : Nat} {b : List UInt8} : ∀ {j : Nat} {rest : List UInt8} {out : List Rw}, stP al fr tt b j = some (rest, out) → (∀ r ∈ out, okR r) ∧ out.length ≤ 8 * j
  | 0, rest, out, h => by
    simp only [stP, Option.some.injEq, Prod.mk.injEq] at h
    rw [← h.2]
    exact ⟨fun r hr => by simp at hr, by simp⟩
  | j + 1, rest, out, h => by
    cases hp : stP al fr tt b j with
    | none => rw [stP, hp] at h; cases h
    | some p =>
      obtain ⟨rest0, out0⟩ := p
      obtain ⟨h1, h2⟩ := stP_ok hp
      rw [stP_step hp] at h
      split at h
      · split at h
        · simp only [Option.some.injEq, Prod.mk.injEq] at h
          rw [← h.2]
          exact ⟨h1, by omega⟩
        · split at h
          · cases h
          · next l hl =>
            split at h
            · next hln =>
              simp only [Option.some.injEq, Prod.mk.injEq] at h
              rw [← h.2]
              have h3 := (allR_ok rfl hl).1
              refine ⟨fun r hr => ?_, ?_⟩
              · rcases List.mem_append.1 hr with hr | hr
                · exact h1 r hr
                · exact h3 r (List.mem_of_mem_take (List.mem_of_mem_drop hr))
              · rw [List.length_append, sliceR_len]; omega
            · cases h
      · cases h
theorem pageB_ok {al fr tt : Nat} {b : List UInt8} {l : List Rw} (h : pageB al fr tt b = some l) (ht : tt ≤ 2000) : (∀ r ∈ l, okR r) ∧ l.length ≤ 2000 := by
  unfold pageB at h
  cases hp : stP al fr tt b (roundsP fr tt) with
  | none => rw [hp] at h; cases h
  | some p =>
    obtain ⟨rest, out⟩ := p
    rw [hp] at h
    simp only [Option.map_some, Option.some.injEq] at h
    subst h
    obtain ⟨h1, h2⟩ := stP_ok hp
    refine ⟨h1, ?_⟩
    have h3 : roundsP fr tt ≤ (tt + 7) / 8 := by unfold roundsP; split <;> omega
    omega
/-- What Read answers. -/
def readB (L : List UInt8) : Option (List Rw) :=
  match openB L with
  | none => none
  | some (n, rest) => match pageB n 0 n rest with
    | none => none
    | some l => if (fileB l).length ≤ 60000 ∧ fileB l = L then some l else none
theorem openB_le {L rest : List UInt8} {n : Nat} (h : openB L = some (n, rest)) : n ≤ 2000 := by
  unfold openB at h
  split at h
  · next h1 =>
    injection h with h
    injection h with h2 h3
    subst h2
    exact h1.2.2.2
  · cases h
theorem pageAns_all {L rest : List UInt8} {n : Nat} (h : openB L = some (n, rest)) : pageAns L 0 n = match pageB n 0 n rest with | none => .inl 10 | some l => .inr l := by
  unfold pageAns
  rw [h]
  simp only
  rw [if_neg (by omega)]
  simp only [Int.toNat_zero, Int.toNat_natCast, Nat.sub_zero, Nat.min_self, Nat.zero_add] <;> cases pageB n 0 n rest <;> rfl
def ReadPost (ans : Option (List Rw)) (w : World) (e : Ending) (w' : World) : Prop :=
  (match ans with
  | none => e = .returned (.tuple #[.slice none 0 0, .int .i64 10])
  | some l => ∃ A c, e = .returned (.tuple #[.slice A l.length c, .int .i64 0]) ∧ OwnRs w' w.heap.size (.slice A l.length c) l) ∧ Gr w w'
theorem txt_inj9 {a b : List UInt8} (h : txt a = txt b) : a = b := by
  have := congrArg (fun s => s.data.toList) h
  simpa [txt_data] using this
set_option maxHeartbeats 16000000 in
set_option maxRecDepth 100000 in
theorem rread_any (L : List UInt8) (w : World) (hL : L.length ≤ 1000000) : Calls Try.prog 8 #[.string (txt L)] w (ReadPost (readB L) w) := by
  obtain ⟨R, hR⟩ : ∃ R, R = readB L := ⟨_, rfl⟩
  rw [← hR]
  have cO := ropen_any L w (by omega)
  unfold OpenPostR at cO
  unfold readB at hR
  cases ho : openB L with
  | none =>
    rw [ho] at cO hR
    simp only at cO hR
    rw [hR]
    replace cO := Lib.hid cO
    clear ho hR
    go_enter Try.func8, Try.ntmps8
    go_wp2_with fail
    refine cO.out.mono ?_
    rintro e2 w2 ⟨rfl, g2⟩
    go_wp2_with fail
    go_ret2
    unfold ReadPost
    exact ⟨rfl, g2⟩
  | some p =>
    obtain ⟨n, rest⟩ := p
    have hn := openB_le ho
    have cP := fun W => rpage_any L 0 n W hL (by omega) (by omega)
    unfold PagePost at cP
    rw [pageAns_all ho] at cP
    rw [ho] at cO hR
    simp only at cO hR
    replace cO := Lib.hid cO
    clear ho
    cases hp : pageB n 0 n rest with
    | none =>
      rw [hp] at cP hR
      simp only at cP hR
      rw [hR]
      replace cP := Lib.hid cP
      clear hp hR
      go_enter Try.func8, Try.ntmps8
      go_wp2_with fail
      refine cO.out.mono ?_
      rintro e2 w2 ⟨rfl, g2⟩
      go_wp2_with fail
      refine (cP.out _).mono ?_
      rintro e3 w3 ⟨rfl, g3⟩
      clear cP cO
      go_wp2_with fail
      go_ret2
      unfold ReadPost
      exact ⟨rfl, gr_trans g2 g3⟩
    | some l =>
      rw [hp] at cP hR
      simp only at cP hR
      obtain ⟨hok, hl2⟩ := pageB_ok hp hn
      replace cP := Lib.hid cP
      replace hR := Lib.hid hR
      replace hok := Lib.hid hok
      replace hl2 := Lib.hid hl2
      clear hp
      go_enter Try.func8, Try.ntmps8
      go_wp2_with fail
      refine cO.out.mono ?_
      rintro e2 w2 ⟨rfl, g2⟩
      replace g2 := Lib.hid g2
      clear cO
      go_wp2_with fail
      refine (cP.out _).mono ?_
      rintro e3 w3 ⟨⟨A, c, rfl, hO⟩, g3⟩
      have hcc := (by obtain ⟨hs0, _, ho0⟩ := hO; obtain ⟨A', c', e, h1, h2⟩ := own_openS ho0; injection e with e1 _ e3; subst e1 e3; exact h1 : l.length ≤ c)
      have hAn : A = none → l.length = 0 := by
        intro e
        obtain ⟨hs0, _, ho0⟩ := hO
        by_cases h0 : 0 < l.length
        · obtain ⟨g, cap, hv, _, _⟩ := ho0.form h0
          injection hv with h1 _ _
          rw [e] at h1
          cases h1
        · omega
      have cM := rmake_any A l.length c l w3 hl2.out hcc hAn (ownRs_rows hO rfl) hok.out
      unfold MakePost at cM
      have hO3 := ownRs_base hO g2.out.size
      have G3 := gr_trans g2.out g3
      replace cM := Lib.hid cM
      replace hO3 := Lib.hid hO3
      replace G3 := Lib.hid G3
      clear hO g3 g2 cP hAn hcc
      generalize fileB l = F at hR cM
      go_wp2_with fail
      refine cM.out.mono ?_
      rintro e4 w4 ⟨rfl, g4⟩
      have hO4 := ownRs_gr hO3.out g4
      have G4 := gr_trans G3.out g4
      replace hO4 := Lib.hid hO4
      replace G4 := Lib.hid G4
      clear hO3 G3 g4 cM
      by_cases hbig : F.length ≤ 60000
      · rw [if_pos hbig]
        by_cases hE : F = L
        · have hR2 := hR.out
          rw [if_pos ⟨hbig, hE⟩] at hR2
          subst hE
          replace hR2 := Lib.hid hR2
          clear hR hbig
          go_wp2_with fail
          go_ret2
          unfold ReadPost
          rw [hR2.out]
          exact ⟨⟨A, c, rfl, hO4.out⟩, G4.out⟩
        · have hR2 := hR.out
          rw [if_neg (fun h => hE h.2)] at hR2
          have hne : (F == L) = false := beq_eq_false_iff_ne.2 hE
          have hne2 : (F != L) = true := by simp only [bne, hne, Bool.not_false]
          replace hR2 := Lib.hid hR2
          clear hR hbig hE
          go_wp2_with fail
          go_ret2
          unfold ReadPost
          rw [hR2.out]
          exact ⟨rfl, G4.out⟩
      · rw [if_neg hbig]
        have hR2 := hR.out
        rw [if_neg (fun h => hbig h.1)] at hR2
        replace hR2 := Lib.hid hR2
        clear hR hbig
        go_wp2_with fail
        go_ret2
        unfold ReadPost
        rw [hR2.out]
        exact ⟨rfl, G4.out⟩
end Go.Proofs.Ytoidfoalhkoajaa
namespace Go.Proofs.Ytoidfoalhkoajaa
open Go.RowKit

theorem pageR_all (rs : List Rw) : pageR rs 0 rs.length = rs := by simp [pageR]
theorem page_ans_file {rs : List Rw} (ho : ∀ r ∈ rs, okR r) (hn : rs.length ≤ 2000) (fr n : Int) : pageAns (fileB rs) fr n =
    if fr < 0 ∨ (rs.length : Int) < fr ∨ n < 0 then .inl 1 else .inr (pageR rs fr.toNat (fr.toNat + min n.toNat (rs.length - fr.toNat))) := by
  unfold pageAns
  rw [open_file hn]
  simp only
  by_cases h : fr < 0 ∨ (rs.length : Int) < fr ∨ n < 0
  · rw [if_pos h, if_pos h]
  · rw [if_neg h, if_neg h, page_file ho (by omega)]
theorem read_file {rs : List Rw} (ho : ∀ r ∈ rs, okR r) (hn : rs.length ≤ 2000) (hf : (fileB rs).length ≤ 60000) : readB (fileB rs) = some rs := by
  unfold readB
  rw [open_file hn]
  simp only
  rw [page_file ho (Nat.le_refl _)]
  simp only
  rw [pageR_all, if_pos ⟨hf, rfl⟩]
def rw3 : List Rw := [⟨[], 1⟩, ⟨[], 2⟩, ⟨[], 3⟩]
theorem rw3_ok : ∀ r ∈ rw3, okR r := by decide +kernel
theorem rw3_len : (fileB rw3).length ≤ 60000 := by decide +kernel
theorem hdOk_none (w : World) (v : Int) : HdOk w ⟨none, 0, 0, v⟩ ⟨[], v⟩ := ⟨rfl, rfl, row_nil _ _ _, fun _ => ⟨rfl, rfl⟩, Nat.le_refl _, Nat.zero_le _⟩
theorem rw3_rows (w : World) : Rows (w.alloc (.cells #[.slice none 0 0, .int .i64 1, .slice none 0 0, .int .i64 2, .slice none 0 0, .int .i64 3] 40)) (some ⟨w.heap.size, 0, none⟩) 3 rw3 := by
  refine ⟨rfl, [⟨none, 0, 0, 1⟩, ⟨none, 0, 0, 2⟩, ⟨none, 0, 0, 3⟩], ⟨rfl, fun j u hj => ⟨w.heap.size, 0, rfl, by simp, ?_⟩⟩, fun i r' hr => ?_⟩
  · rw [Nat.zero_add, World.cell?_alloc_new]
    have e : (#[.slice none 0 0, .int .i64 1, .slice none 0 0, .int .i64 2, .slice none 0 0, .int .i64 3] : Array Value) = (sR hdC [⟨none, 0, 0, 1⟩, ⟨none, 0, 0, 2⟩, ⟨none, 0, 0, 3⟩]).toArray := rfl
    rw [e, List.getElem?_toArray]
    exact hj
  · match i, hr with
    | 0, hr => simp [rw3] at hr; subst hr; exact ⟨_, rfl, hdOk_none _ _⟩
    | 1, hr => simp [rw3] at hr; subst hr; exact ⟨_, rfl, hdOk_none _ _⟩
    | 2, hr => simp [rw3] at hr; subst hr; exact ⟨_, rfl, hdOk_none _ _⟩
    | i + 3, hr => simp [rw3] at hr
theorem own_at {w : World} {base n c : Nat} {A : Option Addr} {l : List Rw} (h : OwnRs w base (.slice A n c) l) (hn : l.length = n) {i : Nat} {r : Rw} (hi : l[i]? = some r) : ∃ B o, A = some ⟨B, o, none⟩ ∧ w.cell? ⟨B, o + i * 2 + 1, none⟩ = some (.int .i64 r.v) := by
  have h1 := ownRs_rows h hn
  obtain ⟨r', k, B, o, hr, hk, hA, _, c1⟩ := rows_at h1 (i := i) (by have := (List.getElem?_eq_some_iff.1 hi).1; omega)
  rw [hi] at hr
  obtain rfl := Option.some.inj hr
  rw [hk.v] at c1
  exact ⟨B, o, hA, c1⟩
set_option maxHeartbeats 16000000 in
set_option maxRecDepth 100000 in
theorem alive_any (w : World) : Calls Try.prog 7 #[] w fun e w' => e = .returned (.bool true) ∧ Gr w w' := by
  obtain ⟨W1, hW1⟩ : ∃ W1, W1 = w.alloc (.cells #[.slice none 0 0, .int .i64 1, .slice none 0 0, .int .i64 2, .slice none 0 0, .int .i64 3] 40) := ⟨_, rfl⟩
  have g1 : Gr w W1 := by rw [hW1]; exact gr_alloc _ _ _
  have hr1 := rw3_rows w
  rw [← hW1] at hr1
  have cM := rmake_any _ 3 3 rw3 W1 (by decide) (Nat.le_refl _) (by intro e; cases e) hr1 rw3_ok
  unfold MakePost at cM
  rw [if_pos rw3_len] at cM
  have hl : (fileB rw3).length ≤ 1000000 := Nat.le_trans rw3_len (by decide)
  have cR := fun W => rread_any (fileB rw3) W hl
  unfold ReadPost at cR
  rw [read_file rw3_ok (by decide) rw3_len] at cR
  have cP := fun W => rpage_any (fileB rw3) 1 1 W hl (by decide) (by decide)
  unfold PagePost at cP
  rw [page_ans_file rw3_ok (by decide)] at cP
  rw [if_neg (by decide)] at cP
  have e2 : pageR rw3 (Int.toNat 1) (Int.toNat 1 + min (Int.toNat 1) (rw3.length - Int.toNat 1)) = [⟨[], 2⟩] := rfl
  rw [e2] at cP
  have cC := fun W => rcount_any (fileB rw3) W (by omega)
  rw [open_file (by decide)] at cC
  simp only at cR cP cC
  have e3 : rw3.length = 3 := rfl
  have e4 : ([⟨[], 2⟩] : List Rw).length = 1 := rfl
  rw [e3] at cR cC
  rw [e4] at cP
  generalize fileB rw3 = F at cM cR cP cC
  replace cM := Lib.hid cM
  replace cR := Lib.hid cR
  replace cP := Lib.hid cP
  replace cC := Lib.hid cC
  replace g1 := Lib.hid g1
  clear hr1 hl e2 e3 e4
  go_enter Try.func7, Try.ntmps7
  go_upto_region 2 with fail
  rw [← hW1]
  clear hW1
  go_wp2_with fail
  refine cM.out.mono ?_
  rintro e w2 ⟨rfl, g2⟩
  go_wp2_with fail
  refine (cR.out _).mono ?_
  rintro e w3 ⟨⟨A, c, rfl, hO⟩, g3⟩
  obtain ⟨B, o, rfl, k1⟩ := own_at hO rfl (i := 2) (r := ⟨[], 3⟩) rfl
  clear hO
  go_wp2_with fail
  refine (cP.out _).mono ?_
  rintro e w4 ⟨⟨A2, c2, rfl, hO⟩, g4⟩
  obtain ⟨B2, o2, rfl, k2⟩ := own_at hO rfl (i := 0) (r := ⟨[], 2⟩) rfl
  have k3 := gr_cell g4 k1
  clear hO k1
  go_wp2_with fail
  refine (cC.out _).mono ?_
  rintro e w5 ⟨rfl, g5⟩
  have k4 := gr_cell g5 k3
  have k5 := gr_cell g5 k2
  simp only [Nat.reduceMul, Nat.add_assoc, Nat.reduceAdd] at k4 k5
  have G5 := gr_trans g1.out (gr_trans g2 (gr_trans g3 (gr_trans g4 g5)))
  replace G5 := Lib.hid G5
  clear cM cR cP cC g1 g2 g3 g4 g5 k2 k3
  go_wp2
  go_ret
  exact ⟨rfl, G5.out⟩
end Go.Proofs.Ytoidfoalhkoajaa
namespace Go.Proofs.Ytoidfoalhkoajaa
open Go.RowKit

theorem take_eq_succ {α : Type} {a b : List α} {k : Nat} {x y : α} (h : a.take k = b.take k) (ha : a[k]? = some x) (hb : b[k]? = some y) (e : x = y) : a.take (k + 1) = b.take (k + 1) := by
  obtain ⟨h1, h2⟩ := List.getElem?_eq_some_iff.1 ha
  obtain ⟨h3, h4⟩ := List.getElem?_eq_some_iff.1 hb
  rw [List.take_succ_eq_append_getElem h1, List.take_succ_eq_append_getElem h3, h2, h4, h, e]
set_option maxHeartbeats 16000000 in
set_option maxRecDepth 100000 in
theorem bookRows_any (A B : Option Addr) (n m ca cb : Nat) (rs ss : List Rw) (w : World) (hn : n ≤ 1000000000) (hm : m ≤ 1000000000) (hr : Rows w A n rs) (hs : Rows w B m ss) (hb1 : ∀ r ∈ rs, r.l.length ≤ 1000000000) (hb2 : ∀ r ∈ ss, r.l.length ≤ 1000000000) :
    Calls Try.prog 11 #[.slice A n ca, .slice B m cb] w fun e w' => e = .returned (.bool (decide (rs = ss))) ∧ Gr w w' := by
  have hl : rs.length = n := hr.1
  have hk : ss.length = m := hs.1
  obtain ⟨R, hR⟩ : ∃ R, R = decide (rs = ss) := ⟨_, rfl⟩
  rw [← hR]
  replace hl := Lib.hid hl
  replace hk := Lib.hid hk
  replace hr := Lib.hid hr
  replace hs := Lib.hid hs
  replace hb1 := Lib.hid hb1
  replace hb2 := Lib.hid hb2
  by_cases hnm : n = m
  · subst hnm
    replace hR := Lib.hid hR
    go_enter Try.func11, Try.ntmps11
    go_wp2_with fail
    go_loopw [5] (fun iv wr => ∃ (k : Nat), iv = .int .i64 (k : Int) ∧ Hid (k ≤ n) ∧ Hid (rs.take k = ss.take k) ∧ Hid (Gr w wr)) (fun iv _ => n - (intOf iv).toNat)
    case atStart => exact ⟨0, rfl, Lib.hid (Nat.zero_le _), Lib.hid rfl, Lib.hid (gr_refl _ _)⟩
    case round =>
      obtain ⟨k, rfl, hkn, he, hg⟩ := hrel
      have hk2 := hkn.out
      by_cases hlt : k < n
      · obtain ⟨⟨xl, xv⟩, ⟨A1, n1, c1, v1⟩, g1, o1, hx, k1, rfl, a0, a1⟩ := rows_at (rows_gr hr.out hg.out) hlt
        obtain ⟨⟨yl, yv⟩, ⟨A2, n2, c2, v2⟩, g2, o2, hy, k2, rfl, b0, b1⟩ := rows_at (rows_gr hs.out hg.out) hlt
        have e1 := k1.v
        have e2 := k2.v
        simp only at e1 e2 a0 a1 b0 b1
        subst e1 e2
        have d0 : ∀ p : Grown wr, p.wd.cell? ⟨g1, o1 + k * 2, none⟩ = some (.slice A1 n1 c1) := fun p => cell_to a0 p
        have d1 : ∀ p : Grown wr, p.wd.cell? ⟨g1, o1 + k * 2 + 1, none⟩ = some (.int .i64 v1) := fun p => cell_to a1 p
        have f0 : ∀ p : Grown wr, p.wd.cell? ⟨g2, o2 + k * 2, none⟩ = some (.slice A2 n2 c2) := fun p => cell_to b0 p
        have f1 : ∀ p : Grown wr, p.wd.cell? ⟨g2, o2 + k * 2 + 1, none⟩ = some (.int .i64 v2) := fun p => cell_to b1 p
        have hn1 : n1 ≤ 1000000000 := by have := k1.n; have := hb1.out _ (List.mem_of_getElem? hx); simp only at *; omega
        have hn2 : n2 ≤ 1000000000 := by have := k2.n; have := hb2.out _ (List.mem_of_getElem? hy); simp only at *; omega
        have hC : ∀ p : Grown wr, Calls Try.prog 24 #[.slice A1 n1 c1, .slice A2 n2 c2] p.wd fun e w' => e = .returned (.bool (decide (xl = yl))) ∧ Gr p.wd w' := fun p => sameLabels_any A1 A2 n1 n2 c1 c2 xl yl p.wd hn1 hn2 (row_gr k1.row p.gr) (row_gr k2.row p.gr)
        have hki : (k : Int) < (n : Int) := by omega
        have hk0 : (0 : Int) ≤ (k : Int) := by omega
        have hstep := fun (h : (⟨xl, v1⟩ : Rw) = ⟨yl, v2⟩) => take_eq_succ he.out hx hy h
        have hdiff : (⟨xl, v1⟩ : Rw) ≠ ⟨yl, v2⟩ → R = false := fun h => by
          rw [hR.out]
          refine decide_eq_false fun e => h ?_
          rw [e, hy] at hx
          exact (Option.some.inj hx).symm
        replace hC := Lib.hid hC
        replace hstep := Lib.hid hstep
        replace hdiff := Lib.hid hdiff
        clear a0 a1 b0 b1 k1 k2 hx hy he hn1 hn2
        by_cases hv : v1 = v2
        · subst hv
          by_cases hll : xl = yl
          · subst hll
            rw [decide_eq_true rfl] at hC
            have hst := hstep.out rfl
            replace hst := Lib.hid hst
            clear hstep hdiff
            go_upto_region 6 with fail
            refine wp_region_quiet_gr (by kernel_rfl) (by kernel_rfl) ?_
            repeat (go_big_quiet_step ((go_at_call 24; exact calls_gr (hC.out _))))
            refine wpQuiet_nil ?_
            intro wq hwq
            obtain ⟨⟨wp, gq⟩, rfl⟩ := hwq
            clear d0 d1 f0 f1 hC
            go_wp2
            go_roundw
            case rel => exact ⟨k + 1, by go_num, Lib.hid hlt, hst, Lib.hid (gr_trans hg.out gq)⟩
            case measure => simp [intOf]; omega
          · rw [decide_eq_false hll] at hC
            have hst := hdiff.out (fun e => hll (by injection e))
            replace hst := Lib.hid hst
            clear hstep hdiff
            go_upto_region 6 with fail
            refine wp_region_quiet_gr (by kernel_rfl) (by kernel_rfl) ?_
            repeat (go_big_quiet_step ((go_at_call 24; exact calls_gr (hC.out _))))
            refine wpQuiet_nil ?_
            intro wq hwq
            obtain ⟨⟨wp, gq⟩, rfl⟩ := hwq
            clear d0 d1 f0 f1 hC
            go_wp2
            go_ret
            rw [hst.out]
            exact ⟨rfl, gr_trans hg.out gq⟩
        · have hst := hdiff.out (fun e => hv (by injection e))
          have hvF : (v1 == v2) = false := eqF hv
          replace hst := Lib.hid hst
          replace hv := Lib.hid hv
          clear hstep hdiff
          go_upto_region 6 with fail
          refine wp_region_quiet_gr (by kernel_rfl) (by kernel_rfl) ?_
          repeat (go_big_quiet_step ((go_at_call 24; exact calls_gr (hC.out _))))
          refine wpQuiet_nil ?_
          intro wq hwq
          obtain ⟨⟨wp, gq⟩, rfl⟩ := hwq
          clear d0 d1 f0 f1 hC
          go_wp2
          go_ret
          rw [hst.out]
          exact ⟨rfl, gr_trans hg.out gq⟩
      · obtain rfl : k = n := by omega
        have hki : ¬ (k : Int) < (k : Int) := by omega
        have hRt : R = true := by
          rw [hR.out]
          refine decide_eq_true ?_
          have h := he.out
          rwa [List.take_of_length_le (by rw [hl.out]; exact Nat.le_refl _), List.take_of_length_le (by rw [hk.out]; exact Nat.le_refl _)] at h
        replace hRt := Lib.hid hRt
        clear hkn hk2 he hlt hki
        go_wp2
        go_ret
        rw [hRt.out]
        exact ⟨rfl, hg.out⟩
  · have hRf : R = false := by
      rw [hR]
      refine decide_eq_false fun e => hnm ?_
      rw [← hl.out, ← hk.out, e]
    have hnmI : ((n : Int) == (m : Int)) = false := eqF (by omega)
    have hnmJ : ((n : Int) != (m : Int)) = true := by simp only [bne, hnmI, Bool.not_false]
    replace hRf := Lib.hid hRf
    replace hR := Lib.hid hR
    replace hnm := Lib.hid hnm
    go_enter Try.func11, Try.ntmps11
    go_wp2
    go_ret
    rw [hRf.out]
    exact ⟨rfl, gr_refl _ _⟩
end Go.Proofs.Ytoidfoalhkoajaa
namespace Go.Proofs.Ytoidfoalhkoajaa
open Go.RowKit

/-- Rows that the call has laid itself, all of them right, in a slice of known shape. -/
structure Rgt (w : World) (A : Option Addr) (n c : Nat) (rs : List Rw) : Prop where
  rows : Rows w A n rs
  ok : ∀ r ∈ rs, okR r
  cap : n ≤ c
  nil : A = none → n = 0
theorem rgt_gr {w w' : World} {A : Option Addr} {n c : Nat} {rs : List Rw} (h : Rgt w A n c rs) (g : Gr w w') : Rgt w' A n c rs := ⟨rows_gr h.rows g, h.ok, h.cap, h.nil⟩
theorem rgt_make {w : World} {A : Option Addr} {n c : Nat} {rs : List Rw} (h : Rgt w A n c rs) (hn : n ≤ 2000) : Calls Try.prog 12 #[.slice A n c] w (MakePost rs w) := rmake_any A n c rs w hn h.cap h.nil h.rows h.ok
theorem ok_small {rs : List Rw} (h : ∀ r ∈ rs, okR r) : ∀ r ∈ rs, r.l.length ≤ 1000000000 := fun r hr => Nat.le_trans (h r hr).1.1 (by decide)
theorem own_rgt {w : World} {base n c : Nat} {A : Option Addr} {l : List Rw} (h : OwnRs w base (.slice A n c) l) (hn : l.length = n) (hok : ∀ r ∈ l, okR r) : Rgt w A n c l := by
  refine ⟨ownRs_rows h hn, hok, ?_, ?_⟩
  · obtain ⟨hs0, _, ho0⟩ := h
    obtain ⟨A', c', e, h1, h2⟩ := own_openS ho0
    injection e with e1 e2 e3
    subst e1 e3
    omega
  · intro e
    obtain ⟨hs0, _, ho0⟩ := h
    by_cases h0 : 0 < l.length
    · obtain ⟨g, cap, hv, _, _⟩ := ho0.form h0
      injection hv with h1 _ _
      rw [e] at h1
      cases h1
    · omega
theorem tidyRs_any (A : Option Addr) (n c : Nat) (rs : List Rw) (w : World) (hn : n ≤ 60) (hr : Rows w A n rs) (hL : ∀ r ∈ rs, LightL r.l) :
    Calls Try.prog 14 #[.slice A n c] w fun e w' => (∃ A' m c' rs', e = .returned (.slice A' m c') ∧ m ≤ 60 ∧ Rgt w' A' m c' rs') ∧ Gr w w' := by
  refine (rtidy10_any A n c rs w hn hr hL).mono ?_
  rintro e w' ⟨⟨v, m, hs1, rfl, hm, hsl, hgood, ho⟩, g⟩
  obtain ⟨A', c', rfl, hmc, hc9, hnone⟩ := own_sliceS ho
  obtain ⟨ls, hrl, hrok, hrh⟩ := goodRows hs1 hgood
  refine ⟨⟨A', m, c', ls, rfl, by omega, ⟨⟨by rw [hrl, hsl], hs1, row_own ho, hrh⟩, hrok, hmc, fun e => ?_⟩⟩, g⟩
  by_cases h0 : 0 < m
  · obtain ⟨g, cap, hv, _, _⟩ := ho.form h0
    injection hv with h1 _ _
    rw [e] at h1
    cases h1
  · omega
end Go.Proofs.Ytoidfoalhkoajaa
