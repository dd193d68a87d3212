/-
  Notes as numbers and bytes: which may be, their bytes and back, the notes of frames. No condition.
-/
import Derived.Test.YtmldoeeangekoaaGreatGuardCutMath
import Derived.Test.YtmldoeeangekoaaGreatDiaryCur
namespace Go.Proofs.YtmldoeeangekoaaGreat
open Go.RowKit

/-- A number of bytes, the highest first. -/
def dvN (l : List UInt8) : Nat := l.foldl (fun v b => v * 256 + b.toNat) 0
theorem dvN_snoc (l : List UInt8) (b : UInt8) : dvN (l ++ [b]) = dvN l * 256 + b.toNat := by simp [dvN]
theorem dfold_lt : ∀ (l : List UInt8) (a : Nat), l.foldl (fun v b => v * 256 + b.toNat) a < (a + 1) * 256 ^ l.length := by
  intro l
  induction l with
  | nil => intro a; simp
  | cons b l ih =>
    intro a
    have h1 := ih (a * 256 + b.toNat)
    have h2 := b.toNat_lt
    rw [List.foldl_cons, List.length_cons, Nat.pow_succ]
    refine Nat.lt_of_lt_of_le h1 ?_
    have : (a * 256 + b.toNat + 1) ≤ (a + 1) * 256 := by omega
    calc (a * 256 + b.toNat + 1) * 256 ^ l.length ≤ (a + 1) * 256 * 256 ^ l.length := Nat.mul_le_mul_right _ this
      _ = (a + 1) * (256 ^ l.length * 256) := by rw [Nat.mul_assoc, Nat.mul_comm 256]
theorem dvN_lt (l : List UInt8) : dvN l < 256 ^ l.length := by
  have := dfold_lt l 0
  simpa [dvN] using this
theorem dlen4 {x : List UInt8} (h : x.length = 4) : ∃ a b c d, x = [a, b, c, d] := by
  match x, h with
  | [a, b, c, d], _ => exact ⟨a, b, c, d, rfl⟩
theorem dbe_val {x : List UInt8} (h : x.length = 4) : Crc.be 4 (dvN x) = x := by
  obtain ⟨a, b, c, d, rfl⟩ := dlen4 h
  have ha := a.toNat_lt
  have hb := b.toNat_lt
  have hc := c.toNat_lt
  have hd := d.toNat_lt
  simp only [Crc.be, List.range, List.range.loop, List.map, Nat.reduceSub, Nat.reduceMul, Nat.reducePow, Nat.div_one, dvN, List.foldl]
  congr 1
  · apply UInt8.toNat_inj.1; simp <;> omega
  congr 1
  · apply UInt8.toNat_inj.1; simp <;> omega
  congr 1
  · apply UInt8.toNat_inj.1; simp <;> omega
  congr 1
  · apply UInt8.toNat_inj.1; simp <;> omega
theorem dval_be (s : Nat) (h : s < 4294967296) : dvN (Crc.be 4 s) = s := by
  simp only [Crc.be, List.range, List.range.loop, List.map, Nat.reduceSub, Nat.reduceMul, Nat.reducePow, Nat.div_one, dvN, List.foldl]
  simp
  omega

/-- A note's bytes. -/
def noteL (x : Nte) : List UInt8 := [UInt8.ofNat x.kind.toNat] ++ Crc.be 4 x.c.id.toNat ++ Crc.be 4 x.c.rows.toNat ++ Crc.be 4 x.c.size.toNat ++ Crc.be 4 x.c.tl.toNat ++ x.c.file
theorem noteL_len (x : Nte) : (noteL x).length = 17 + x.c.file.length := by simp [noteL, Crc.be_length]; omega
/-- The note of bytes. -/
def noteOf (f : List UInt8) : Nte := ⟨((f.getD 0 0).toNat : Int), ⟨(dvN ((f.drop 1).take 4) : Nat), (dvN ((f.drop 5).take 4) : Nat), (dvN ((f.drop 9).take 4) : Nat), (dvN ((f.drop 13).take 4) : Nat), f.drop 17⟩⟩
theorem noteL_of {f : List UInt8} (h : 17 ≤ f.length) : noteL (noteOf f) = f := by
  cases f with
  | nil => simp at h
  | cons b f =>
    unfold noteL noteOf
    simp only [List.getD_cons_zero, List.drop_succ_cons, List.drop_zero, Int.toNat_natCast]
    rw [List.length_cons] at h
    rw [dbe_val (by rw [List.length_take]; omega), dbe_val (by rw [List.length_take, List.length_drop]; omega), dbe_val (by rw [List.length_take, List.length_drop]; omega), dbe_val (by rw [List.length_take, List.length_drop]; omega)]
    have e0 : UInt8.ofNat b.toNat = b := by apply UInt8.toNat_inj.1; simp
    rw [e0]
    have e1 : f = f.take 4 ++ ((f.drop 4).take 4 ++ ((f.drop 8).take 4 ++ ((f.drop 12).take 4 ++ f.drop 16))) := by
      have h1 := (List.take_append_drop 4 f).symm
      have h2 := (List.take_append_drop 4 (f.drop 4)).symm
      have h3 := (List.take_append_drop 4 (f.drop 8)).symm
      have h4 := (List.take_append_drop 4 (f.drop 12)).symm
      rw [List.drop_drop] at h2 h3 h4
      rw [← h4, ← h3, ← h2, ← h1]
    conv => rhs; rw [e1]
    simp [List.append_assoc]
theorem ok_bounds {x : Nte} (h : okN x) : (1 ≤ x.kind ∧ x.kind ≤ 4) ∧ (0 ≤ x.c.id ∧ x.c.id ≤ 1000000) ∧ (0 ≤ x.c.rows ∧ x.c.rows ≤ 2000) ∧ (0 ≤ x.c.size ∧ x.c.size ≤ 100) ∧ (0 ≤ x.c.tl ∧ x.c.tl ≤ 1000000000) ∧ x.c.file.length ≤ 60 := by
  rcases h with h | h | h | h
  · obtain ⟨a, b, c, d, e, f⟩ := h; omega
  · obtain ⟨a, b, c, d, e, f⟩ := h; rw [f]; simp; omega
  · obtain ⟨a, b, c, d, e, f⟩ := h; rw [f]; simp; omega
  · obtain ⟨a, b, c, d, e, f⟩ := h; omega
theorem noteOf_L {x : Nte} (h : okN x) : noteOf (noteL x) = x := by
  obtain ⟨⟨k0, k1⟩, ⟨i0, i1⟩, ⟨r0, r1⟩, ⟨s0, s1⟩, ⟨t0, t1⟩, _⟩ := ok_bounds h
  obtain ⟨kd, ⟨id, rows, size, tl, file⟩⟩ := x
  simp only at *
  obtain ⟨k, rfl⟩ : ∃ k : Nat, kd = k := ⟨kd.toNat, by omega⟩
  obtain ⟨i, rfl⟩ : ∃ k : Nat, id = k := ⟨id.toNat, by omega⟩
  obtain ⟨r, rfl⟩ : ∃ k : Nat, rows = k := ⟨rows.toNat, by omega⟩
  obtain ⟨s, rfl⟩ : ∃ k : Nat, size = k := ⟨size.toNat, by omega⟩
  obtain ⟨t, rfl⟩ : ∃ k : Nat, tl = k := ⟨tl.toNat, by omega⟩
  have l4 : ∀ v, (Crc.be 4 v).length = 4 := fun v => Crc.be_length 4 v
  unfold noteOf noteL
  simp only [Int.toNat_natCast, List.append_assoc, List.cons_append, List.nil_append, List.getD_cons_zero, List.drop_succ_cons, List.drop_zero]
  have e1 : ∀ (v : Nat) (R : List UInt8), (Crc.be 4 v ++ R).take 4 = Crc.be 4 v := fun v R => List.take_left' (l4 v)
  have e2 : ∀ (v : Nat) (R : List UInt8), (Crc.be 4 v ++ R).drop 4 = R := fun v R => List.drop_left' (l4 v)
  have d8 : ∀ (L : List UInt8), L.drop 8 = (L.drop 4).drop 4 := fun L => by rw [List.drop_drop]
  have d12 : ∀ (L : List UInt8), L.drop 12 = ((L.drop 4).drop 4).drop 4 := fun L => by rw [List.drop_drop, List.drop_drop]
  have d16 : ∀ (L : List UInt8), L.drop 16 = (((L.drop 4).drop 4).drop 4).drop 4 := fun L => by rw [List.drop_drop, List.drop_drop, List.drop_drop]
  rw [d8, d12, d16]
  simp only [e1, e2]
  rw [dval_be _ (by omega), dval_be _ (by omega), dval_be _ (by omega), dval_be _ (by omega)]
  have ek : (UInt8.ofNat k).toNat = k := by simp; omega
  rw [ek]
/-- The notes of frames, as far as they are notes. -/
def readN : List (List UInt8) → List Nte
  | [] => []
  | f :: fs => if 17 ≤ f.length ∧ okN (noteOf f) then noteOf f :: readN fs else []
theorem readN_len : ∀ fs : List (List UInt8), (readN fs).length ≤ fs.length
  | [] => Nat.le_refl _
  | f :: fs => by
    unfold readN
    split
    · simp; exact readN_len fs
    · simp
theorem readN_notes : ∀ l : List Nte, (∀ x ∈ l, okN x) → readN (l.map noteL) = l
  | [], _ => rfl
  | x :: l, h => by
    have hx := h x (by simp)
    rw [List.map_cons]
    unfold readN
    rw [noteOf_L hx, if_pos ⟨by rw [noteL_len]; omega, hx⟩, readN_notes l (fun y hy => h y (by simp [hy]))]
theorem readN_frames : ∀ fs : List (List UInt8), (readN fs).map noteL = fs.take (readN fs).length
  | [] => rfl
  | f :: fs => by
    unfold readN
    split
    · next h => rw [List.map_cons, List.length_cons, List.take_succ_cons, noteL_of h.1, readN_frames fs]
    · simp
/-- As far as k: where readN stands. -/
theorem readN_step {fs : List (List UInt8)} {k : Nat} (hk : k < fs.length) (h : readN (fs.take k) = (fs.take k).map noteOf) (h2 : 17 ≤ (fs[k]).length ∧ okN (noteOf fs[k])) : readN (fs.take (k + 1)) = (fs.take (k + 1)).map noteOf := by
  have key : ∀ (g : List (List UInt8)) (f : List UInt8), readN g = g.map noteOf → 17 ≤ f.length ∧ okN (noteOf f) → readN (g ++ [f]) = (g ++ [f]).map noteOf := by
    intro g
    induction g with
    | nil => intro f _ h; show readN [f] = _; unfold readN; rw [if_pos h]; rfl
    | cons a g ih =>
      intro f hg h
      rw [List.cons_append]
      have hg' := hg
      unfold readN at hg' ⊢
      split at hg'
      · next hc =>
        rw [if_pos hc, List.map_cons]
        rw [List.map_cons] at hg'
        rw [ih f (List.cons.inj hg').2 h]
      · simp at hg'
  rw [List.take_succ_eq_append_getElem hk]
  exact key _ _ h h2
theorem readN_stop {fs : List (List UInt8)} {k : Nat} (hk : k < fs.length) (h : readN (fs.take k) = (fs.take k).map noteOf) (h2 : ¬ (17 ≤ (fs[k]).length ∧ okN (noteOf fs[k]))) : readN fs = (fs.take k).map noteOf := by
  have key : ∀ (g : List (List UInt8)) (f : List UInt8) (r : List (List UInt8)), readN g = g.map noteOf → ¬ (17 ≤ f.length ∧ okN (noteOf f)) → readN (g ++ f :: r) = g.map noteOf := by
    intro g
    induction g with
    | nil => intro f r _ h; show readN (f :: r) = _; unfold readN; rw [if_neg h]; rfl
    | cons a g ih =>
      intro f r hg h
      rw [List.cons_append]
      have hg' := hg
      unfold readN at hg' ⊢
      split at hg'
      · next hc =>
        rw [if_pos hc, List.map_cons]
        rw [List.map_cons] at hg'
        rw [ih f r (List.cons.inj hg').2 h]
      · simp at hg'
  have e : fs = fs.take k ++ fs[k] :: fs.drop (k + 1) := by rw [← List.drop_eq_getElem_cons hk, List.take_append_drop]
  conv => lhs; rw [e]
  exact key _ _ _ h h2
end Go.Proofs.YtmldoeeangekoaaGreat
