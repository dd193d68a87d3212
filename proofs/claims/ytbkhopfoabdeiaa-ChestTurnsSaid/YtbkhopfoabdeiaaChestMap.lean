/-
  A map of files in memory: looked up, stored into, deleted from. No condition but bounds on a name's length and on how many there are.
-/
import Derived.Test.YtbkhopfoabdeiaaAid
import Derived.Test.YtbkhopfoabdeiaaProg
import Derived.Maps.RangeWalk
import Derived.Maps.OwnOps
import Derived.WalkKit
namespace Go.Proofs.Ytbkhopfoabdeiaa
open Go.RowKit Go.Maps Go.ChangeMaps Go.WideElems Go.MapKept

structure Fl where
  b : List UInt8
  fx : Int
deriving DecidableEq
abbrev Fs := List (List UInt8 × Fl)
def flV (f : Fl) : Value := .agg #[.string (txt f.b), .int .i64 f.fx]
def flD (f : Fl) : DataW Unit := .agg [.lit (.string f.b), .lit (.int .i64 f.fx)]
def flR : Value → Option (DataW Unit × List MemPlace)
  | .agg cs => match cs.toList with
    | [.string s, .int .i64 n] => some (.agg [.lit (.string s.data.toList), .lit (.int .i64 n)], [])
    | _ => none
  | _ => none
theorem flR_mk (f : Fl) : flR (flV f) = some (flD f, []) := by
  simp [flV, flR, flD, txt_data]
theorem flR_inv {v : Value} {z : DataW Unit × List MemPlace} (h : flR v = some z) : ∃ f : Fl, v = flV f ∧ z.1 = flD f := by
  unfold flR at h
  split at h
  · next cs =>
    split at h
    · next s n hcs =>
      cases h
      have e : cs = #[.string s, .int .i64 n] := by rw [← Array.toList_inj]; exact hcs
      exact ⟨⟨s.data.toList, n⟩, by rw [e]; simp [flV, txt_of], rfl⟩
    · cases h
  · cases h
theorem flD_inj {f g : Fl} (h : flD f = flD g) : f = g := by
  cases f; cases g
  simp only [flD, DataW.agg.injEq, List.cons.injEq, DataW.lit.injEq, Lit.string.injEq, Lit.int.injEq, true_and, and_true] at h
  rw [h.1, h.2]
def entF (p : List UInt8 × Fl) : Lit × DataW Unit := (.string p.1, flD p.2)
theorem lawF : Keyed Try.prog 9 := string_keyed Try.underlying9
theorem key_ok (l : List UInt8) (h : l.length ≤ 1000000) : keyOf Try.prog 9 (.string (txt l)) = some (.string l) :=
  Go.WideMaps.keyOf_string_mk Try.underlying9 (by show l.toArray.size ≤ maxLen; unfold maxLen; simp; omega)
theorem key_inv {v : Value} {kl : Lit} (h : keyOf Try.prog 9 v = some kl) : ∃ l : List UInt8, v = .string (txt l) ∧ kl = .string l := by
  unfold keyOf at h
  rw [Try.underlying9] at h
  cases v <;> simp [mapKey, Try.underlying9] at h
  next s => exact ⟨s.data.toList, by rw [txt_of], h.2.symm⟩
/-- Block M is a map of just these files, their names rising. -/
def MapF (w : World) (M : Nat) (fs : Fs) : Prop := w.ownsMap Try.prog 9 flR M fs.length (.map (fs.map entF))
theorem mapF_gr {w w' : World} {M : Nat} {fs : Fs} (h : MapF w M fs) (g : Gr w w') : MapF w' M fs := h.kept g (by simp)
theorem mapF_grB {w w' : World} {M b : Nat} {fs : Fs} (h : MapF w M fs) (g : GrB b w w') (hb : b ≠ M) : MapF w' M fs := h.kept g (by simp; omega)
theorem mapF_new (w : World) : MapF (w.alloc (.map #[] 0)) w.heap.size [] := World.ownsMap_made w Try.prog 9 flR
theorem ownsMap_tight {w : World} {M n : Nat} {es : List (Lit × DataW Unit)} (h : w.ownsMap Try.prog 9 flR M n (.map es)) : w.ownsMap Try.prog 9 flR M es.length (.map es) := by
  obtain ⟨a, clock, hb, F, _, hD⟩ := h
  refine ⟨a, clock, hb, F, ?_, hD⟩
  injection hD with hD
  rw [hD, length_sorted]
  simp
def getF (fs : Fs) (n : List UInt8) : Option Fl := (fs.find? (fun p => p.1 == n)).map (·.2)
def delF (n : List UInt8) (fs : Fs) : Fs := fs.filter (fun p => !(p.1 == n))
def insF (x : List UInt8 × Fl) : Fs → Fs
  | [] => [x]
  | y :: r => if bytesBefore x.1 y.1 then x :: y :: r else y :: insF x r
def putF (n : List UInt8) (f : Fl) (fs : Fs) : Fs := insF (n, f) (delF n fs)
def sumF (fs : Fs) : Nat := (fs.map (fun p => p.2.b.length)).sum
def Dist (fs : Fs) : Prop := fs.Pairwise (fun p q => p.1 ≠ q.1)
theorem ent_del (n : List UInt8) (fs : Fs) : (fs.map entF).filter (fun p => !p.1.sameKey (.string n)) = (delF n fs).map entF := by
  unfold delF
  rw [List.filter_map]
  rfl
theorem ent_ins (x : List UInt8 × Fl) : ∀ fs : Fs, DataW.insert (entF x) (fs.map entF) = (insF x fs).map entF
  | [] => rfl
  | y :: r => by
    show (if (entF x).1.before (entF y).1 then _ else _) = _
    unfold insF
    have e : (entF x).1.before (entF y).1 = bytesBefore x.1 y.1 := rfl
    rw [e]
    split
    · rfl
    · rw [ent_ins x r]; rfl
theorem ent_put (n : List UInt8) (f : Fl) (fs : Fs) : (DataW.map (fs.map entF)).put (.string n) (flD f) = .map ((putF n f fs).map entF) := by
  show DataW.map (DataW.insert (entF (n, f)) _) = _
  rw [ent_del, ent_ins]
  rfl
theorem ent_get (n : List UInt8) (z : DataW Unit) : ∀ fs : Fs, (DataW.map (fs.map entF)).atKey (.string n) z = match getF fs n with | some f => flD f | none => z := by
  intro fs
  unfold DataW.atKey getF
  simp only
  rw [List.find?_map]
  have e : ((fun p : Lit × DataW Unit => p.1.sameKey (.string n)) ∘ entF) = fun p => p.1 == n := rfl
  rw [e]
  cases fs.find? (fun p => p.1 == n) <;> rfl
theorem mapF_dist {w : World} {M : Nat} {fs : Fs} (h : MapF w M fs) : Dist fs := by
  obtain ⟨es, he, hp, _⟩ := World.ownsMap.entries h lawF
  injection he with he
  rw [← he] at hp
  unfold Dist
  rw [List.pairwise_map] at hp
  exact hp.imp (fun {a b} hab e => hab (by show Lit.string a.1 = Lit.string b.1; rw [e]))
theorem zeroF (w : World) : (zeroValue 47).run Try.prog w = .ok (flV ⟨[], 0⟩) w := by kernel_rfl
/-- v, is := m[n] -/
theorem look2 {w : World} {M : Nat} {fs : Fs} (h : MapF w M fs) (n : List UInt8) (hn : n.length ≤ 1000000) :
    (Instr.lookup 41 (.map (some M)) (.string (txt n)) true).run Try.prog w = .ok (.tuple #[flV ((getF fs n).getD ⟨[], 0⟩), .bool (getF fs n).isSome]) w := by
  obtain ⟨es, clock, hb, F, _, hD⟩ := h
  rcases fit_look true lawF Try.underlying41 (zeroF w) hb F (key_ok n hn) with ⟨hrun, _, hat⟩ | ⟨e0, y, _, _, hrun, hRv, hat, _⟩
  · rw [← hD] at hat
    have hg : getF fs n = none := by
      cases hg : getF fs n with
      | none => rfl
      | some f =>
        have h1 := hat (.nil)
        rw [ent_get, hg] at h1
        cases h1
    rw [hg]
    exact hrun
  · rw [← hD] at hat
    obtain ⟨f, hv, hy⟩ := flR_inv hRv
    have hg : getF fs n = some f := by
      cases hg : getF fs n with
      | none =>
        have h1 := hat (.nil)
        rw [ent_get, hg, hy] at h1
        cases h1
      | some g =>
        have h1 := hat (.nil)
        rw [ent_get, hg, hy] at h1
        rw [flD_inj h1]
    rw [hg]
    rw [hv] at hrun
    exact hrun
/-- m[n] -/
theorem look1 {w : World} {M : Nat} {fs : Fs} (h : MapF w M fs) (n : List UInt8) (hn : n.length ≤ 1000000) :
    (Instr.lookup 41 (.map (some M)) (.string (txt n)) false).run Try.prog w = .ok (flV ((getF fs n).getD ⟨[], 0⟩)) w := by
  obtain ⟨es, clock, hb, F, _, hD⟩ := h
  rcases fit_look false lawF Try.underlying41 (zeroF w) hb F (key_ok n hn) with ⟨hrun, _, hat⟩ | ⟨e0, y, _, _, hrun, hRv, hat, _⟩
  · rw [← hD] at hat
    have hg : getF fs n = none := by
      cases hg : getF fs n with
      | none => rfl
      | some f =>
        have h1 := hat (.nil)
        rw [ent_get, hg] at h1
        cases h1
    rw [hg]
    exact hrun
  · rw [← hD] at hat
    obtain ⟨f, hv, hy⟩ := flR_inv hRv
    have hg : getF fs n = some f := by
      cases hg : getF fs n with
      | none =>
        have h1 := hat (.nil)
        rw [ent_get, hg, hy] at h1
        cases h1
      | some g =>
        have h1 := hat (.nil)
        rw [ent_get, hg, hy] at h1
        rw [flD_inj h1]
    rw [hg]
    rw [hv] at hrun
    exact hrun
/-- m[n] = f -/
theorem store1 {w : World} {M : Nat} {fs : Fs} (h : MapF w M fs) (n : List UInt8) (f : Fl) (hn : n.length ≤ 1000000) (hf : fs.length < 1000000) :
    ∃ w', (Instr.mapUpdate 41 (.map (some M)) (.string (txt n)) (flV f)).run Try.prog w = .ok () w' ∧ MapF w' M (putF n f fs) ∧ GrB M w w' := by
  obtain ⟨w', hrun, hown, hg⟩ := World.ownsMap.update h lawF Try.underlying41 (by unfold maxLen; omega) (key_ok n hn) (flR_mk f)
  refine ⟨w', hrun, ?_, hg⟩
  rw [ent_put] at hown
  have := ownsMap_tight hown
  rw [List.length_map] at this
  exact this
/-- delete(m, n) -/
theorem drop1 {w : World} {M : Nat} {fs : Fs} (h : MapF w M fs) (n : List UInt8) (hn : n.length ≤ 1000000) (ty : TypeId) :
    ∃ w', (Builtin.delete_ #[41, 9] ty #[.map (some M), .string (txt n)]).run Try.prog w = .ok (.tuple #[]) w' ∧ MapF w' M (delF n fs) ∧ GrB M w w' := by
  obtain ⟨es, clock, hb, F, _, hD⟩ := h
  obtain ⟨es', hrun, F', _, hdel, _⟩ := fit_drop (ty := ty) lawF Try.underlying41 hb F (key_ok n hn)
  refine ⟨_, hrun, ?_, ⟨rfl, rfl, rfl, by simp [setBlock], fun i _ hi => heap_setBlock_other hb _ (fun e => hi (by rw [e]))⟩⟩
  injection hD with hD
  have hD' : DataW.map ((delF n fs).map entF) = .map ((es'.toList.map (rg Try.prog 9 flR)).foldr DataW.insert []) := by
    rw [hdel, ← hD]
    show _ = DataW.map ((fs.map entF).filter _)
    rw [← ent_del]
    rfl
  have := ownsMap_tight (n := es'.size) (⟨es', clock, heap_setBlock_same hb _, F', Nat.le_refl _, hD'⟩ : World.ownsMap _ Try.prog 9 flR M es'.size (.map ((delF n fs).map entF)))
  rw [List.length_map] at this
  exact this
/-! plain laws -/
theorem get_nil (n : List UInt8) : getF [] n = none := rfl
theorem get_cons (p : List UInt8 × Fl) (fs : Fs) (n : List UInt8) : getF (p :: fs) n = if p.1 = n then some p.2 else getF fs n := by
  unfold getF
  by_cases h : p.1 = n
  · rw [if_pos h, List.find?_cons_of_pos (by simpa using h)]; rfl
  · rw [if_neg h, List.find?_cons_of_neg (by simpa using h)]
theorem get_del_self (n : List UInt8) : ∀ fs : Fs, getF (delF n fs) n = none
  | [] => rfl
  | p :: r => by
    unfold delF
    by_cases h : p.1 = n
    · rw [List.filter_cons_of_neg (by simpa using h)]; exact get_del_self n r
    · rw [List.filter_cons_of_pos (by simpa using h), get_cons, if_neg h]; exact get_del_self n r
theorem get_del_other {n m : List UInt8} (hm : m ≠ n) : ∀ fs : Fs, getF (delF n fs) m = getF fs m
  | [] => rfl
  | p :: r => by
    have ih := get_del_other hm r
    unfold delF at ih ⊢
    by_cases h : p.1 = n
    · rw [List.filter_cons_of_neg (by simpa using h), ih, get_cons, if_neg (by rw [h]; exact fun e => hm e.symm)]
    · rw [List.filter_cons_of_pos (by simpa using h), get_cons, get_cons, ih]
theorem get_ins_self (x : List UInt8 × Fl) : ∀ fs : Fs, getF fs x.1 = none → getF (insF x fs) x.1 = some x.2
  | [], _ => by unfold insF; rw [get_cons, if_pos rfl]
  | y :: r, h => by
    rw [get_cons] at h
    by_cases hy : y.1 = x.1
    · rw [if_pos hy] at h; cases h
    · rw [if_neg hy] at h
      unfold insF
      split
      · rw [get_cons, if_pos rfl]
      · rw [get_cons, if_neg hy]; exact get_ins_self x r h
theorem get_ins_other {x : List UInt8 × Fl} {m : List UInt8} (hm : m ≠ x.1) : ∀ fs : Fs, getF (insF x fs) m = getF fs m
  | [] => by unfold insF; rw [get_cons, if_neg (fun e => hm e.symm)]
  | y :: r => by
    unfold insF
    split
    · rw [get_cons, if_neg (fun e => hm e.symm)]
    · rw [get_cons, get_cons, get_ins_other hm r]
theorem get_put_self (n : List UInt8) (f : Fl) (fs : Fs) : getF (putF n f fs) n = some f := get_ins_self (n, f) _ (get_del_self n fs)
theorem get_put_other {n m : List UInt8} (f : Fl) (fs : Fs) (hm : m ≠ n) : getF (putF n f fs) m = getF fs m := by
  unfold putF
  rw [get_ins_other (x := (n, f)) hm, get_del_other hm]
theorem sum_ins (x : List UInt8 × Fl) : ∀ fs : Fs, sumF (insF x fs) = x.2.b.length + sumF fs
  | [] => rfl
  | y :: r => by
    unfold insF
    split
    · rfl
    · have := sum_ins x r
      unfold sumF at this ⊢
      simp only [List.map_cons, List.sum_cons] at this ⊢
      omega
theorem del_none {n : List UInt8} : ∀ {fs : Fs}, getF fs n = none → delF n fs = fs
  | [], _ => rfl
  | p :: r, h => by
    rw [get_cons] at h
    by_cases hp : p.1 = n
    · rw [if_pos hp] at h; cases h
    · rw [if_neg hp] at h
      have := del_none h
      unfold delF at this ⊢
      rw [List.filter_cons_of_pos (by simpa using hp), this]
theorem dist_none {p : List UInt8 × Fl} {fs : Fs} (h : ∀ q ∈ fs, p.1 ≠ q.1) : getF fs p.1 = none := by
  unfold getF
  rw [List.find?_eq_none.2 (fun q hq => by simpa using fun e => h q hq e.symm)]
  rfl
theorem sum_del (n : List UInt8) : ∀ fs : Fs, Dist fs → sumF fs = sumF (delF n fs) + ((getF fs n).getD ⟨[], 0⟩).b.length
  | [], _ => rfl
  | p :: r, h => by
    obtain ⟨h1, h2⟩ := List.pairwise_cons.1 h
    have ih := sum_del n r h2
    by_cases hp : p.1 = n
    · subst hp
      have hn := dist_none h1
      have hd := del_none hn
      have e : delF p.1 (p :: r) = r := by
        unfold delF at hd ⊢
        rw [List.filter_cons_of_neg (by simp), hd]
      rw [e, get_cons, if_pos rfl]
      show sumF (p :: r) = _
      unfold sumF
      simp only [List.map_cons, List.sum_cons, Option.getD_some]
      omega
    · have e : delF n (p :: r) = p :: delF n r := by
        unfold delF
        rw [List.filter_cons_of_pos (by simpa using hp)]
      rw [e, get_cons, if_neg hp]
      unfold sumF at ih ⊢
      simp only [List.map_cons, List.sum_cons]
      omega
theorem ins_len (x : List UInt8 × Fl) : ∀ fs : Fs, (insF x fs).length = fs.length + 1
  | [] => rfl
  | y :: r => by
    unfold insF
    split
    · rfl
    · rw [List.length_cons, ins_len x r]; rfl
theorem put_len (n : List UInt8) (f : Fl) (fs : Fs) : (putF n f fs).length ≤ fs.length + 1 := by
  unfold putF
  rw [ins_len]
  have := List.length_filter_le (fun p : List UInt8 × Fl => !(p.1 == n)) fs
  unfold delF
  omega
theorem mem_get {fs : Fs} {n : List UInt8} : (getF fs n).isSome = true ↔ n ∈ fs.map (·.1) := by
  unfold getF
  rw [Option.isSome_map, List.find?_isSome]
  simp [List.mem_map]
end Go.Proofs.Ytbkhopfoabdeiaa
