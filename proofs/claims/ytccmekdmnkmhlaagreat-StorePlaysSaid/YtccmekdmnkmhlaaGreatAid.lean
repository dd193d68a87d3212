/-
  Small general facts on worlds that the proofs of this seat share. No condition.
-/
import Derived.WalkKit
import Derived.Deep.QuietTactic
import Derived.BigQuiet
import Derived.RegionTactic
import Derived.BigRegion
import Derived.IntWalk
import Derived.ProofKit
import Derived.Lib.Hide
import Derived.WalkSmall
import Derived.OwnWalk
import Derived.WalkSpells
import Derived.WalkLawsBesides
import Derived.Deep.DeepCutAuto
import Derived.Deep.RegionHeld3
import Derived.Deep.LoopGhost
import Derived.Deep.Slices
import Derived.Deep.Fields
import Derived.ChangeSame
import Derived.Laws.RangeAny
import Derived.Lib.RuneCount
import Derived.SliceStrings
import Derived.Laws.BytesArg
import Derived.Lib.Strings
import Derived.Laws.IdiomStrings
namespace Go.Proofs.YtccmekdmnkmhlaaGreat
open Go.RowKit

theorem lt_of_blk {w : World} {b : Nat} {o : Obj} (h : w.heap[b]? = some o) : b < w.heap.size := by
  rcases Nat.lt_or_ge b w.heap.size with h' | h'
  · exact h'
  · simp [Array.getElem?_eq_none h'] at h

theorem blk_set {w : World} {b : Nat} {cs : Array Value} {t : TypeId} {fr : Nat × Nat} (h : w.heap[b]? = some (.cells cs t fr)) (i : Nat) (v : Value) :
    (w.setCell ⟨b, i, none⟩ v).heap[b]? = some (.cells (cs.setIfInBounds i v) t fr) := by
  have hlt := lt_of_blk h
  have h' : w.heap[b] = .cells cs t fr := by simpa [Array.getElem?_eq_getElem hlt] using h
  show (w.heap.modify b _)[b]? = _
  rw [Array.getElem?_eq_getElem (by simpa using hlt), Array.getElem_modify_self, h']
  simp

/-- Nothing that was there has turned. -/
abbrev Gr (w w' : World) : Prop := w.grownBy w' none
/-- Of what was there block b alone may have turned. -/
abbrev GrB (b : Nat) (w w' : World) : Prop := w.grownBy w' (some b)

theorem gr_refl (w : World) (r : Option Nat) : w.grownBy w r := ⟨rfl, rfl, rfl, Nat.le_refl _, fun _ _ _ => rfl⟩
theorem gr_trans {w w1 w2 : World} {r : Option Nat} (h : w.grownBy w1 r) (k : w1.grownBy w2 r) : w.grownBy w2 r :=
  ⟨k.os.trans h.os, k.tape.trans h.tape, k.output.trans h.output, Nat.le_trans h.size k.size, fun i hi hr => (k.block i (Nat.lt_of_lt_of_le hi h.size) hr).trans (h.block i hi hr)⟩
theorem gr_more {w w1 : World} (r : Option Nat) (h : Gr w w1) : w.grownBy w1 r := ⟨h.os, h.tape, h.output, h.size, fun i hi _ => h.block i hi (by simp)⟩
theorem gr_drewN (w : World) (k : Nat) (r : Option Nat) : w.grownBy (w.drewN k) r := ⟨rfl, rfl, rfl, Nat.le_refl _, fun _ _ _ => rfl⟩
theorem gr_drew (w : World) (r : Option Nat) : w.grownBy w.drew r := ⟨rfl, rfl, rfl, Nat.le_refl _, fun _ _ _ => rfl⟩
theorem gr_alloc (w : World) (o : Obj) (r : Option Nat) : w.grownBy (w.alloc o) r := World.grownBy_alloc w o r
theorem gr_set (w : World) (p : Addr) (v : Value) : w.grownBy (w.setCell p v) (some p.block) :=
  ⟨rfl, rfl, rfl, by simp, fun k _ hk => Below.heap_setCell w p v k (fun e => hk (by rw [e]))⟩
theorem gr_below {w w' : World} (h : Gr w w') : Below w.heap.size w w' :=
  ⟨h.os, h.tape, h.output, h.size, fun k hk => h.block k hk (by simp)⟩
theorem below_gr {B : Nat} {a w w' : World} {r : Option Nat} (h : Below B a w) (hg : w.grownBy w' r) (hB : B ≤ w.heap.size) (hr : ∀ k, r = some k → B ≤ k) : Below B a w' := h.grown hg hB hr
theorem gr_of_below {B : Nat} {a w : World} (h : Below B a w) (hB : a.heap.size ≤ B) : Gr a w := ⟨h.os, h.tape, h.output, h.size, fun k hk _ => h.block k (by omega)⟩
theorem gr_blk {w w' : World} {r : Option Nat} (h : w.grownBy w' r) {b : Nat} {o : Obj} (hb : w.heap[b]? = some o) (hr : some b ≠ r) : w'.heap[b]? = some o :=
  (h.block b (lt_of_blk hb) hr).trans hb
theorem gr_cell {w w' : World} (h : Gr w w') {a : Addr} {v : Value} (hc : w.cell? a = some v) : w'.cell? a = some v := h.cell hc (by simp)
theorem blk_new (w : World) (o : Obj) : (w.alloc o).heap[w.heap.size]? = some o := by
  show (w.heap.push _)[w.heap.size]? = _
  simp

/-- What an append onto a row of the call's own leaves as it was: all below the call's own blocks. -/
theorem below_append {W W' : World} {base : Nat} {e : TypeId} {size n : Nat} {v : Value} {xs : List Value} {o : Obj} (hown : W.ownsRow base e size v n xs) (hg : (W.alloc o).grownBy W' v.ownBlock) (hB : base ≤ W.heap.size) : Below base W W' :=
  ((Below.refl _ _).alloc hB o).grown hg (by simp; omega) (fun k hk => (hown.lt k hk).1)
theorem cell_add {B : Nat} {w w' : World} (h : Below B w w') {a : Addr} {i : Nat} {v : Value} (hc : w.cell? (a.add i) = some v) (hb : a.block < B) : w'.cell? (a.add i) = some v :=
  (h.cell (by rw [Go.ChangeShapes.block_add]; exact hb)).trans hc

/-- A slice of the call's own, of cells of one place each: its length, and what it holds. -/
theorem own_open {w : World} {base : Nat} {e : TypeId} {v : Value} {n : Nat} {xs : List Value} (h : w.ownsRow base e 1 v n xs) :
    ∃ A c, v = .slice A n c ∧ xs.length = n ∧ ∀ j u, xs[j]? = some u → ∃ g, A = some ⟨g, 0, none⟩ ∧ base ≤ g ∧ g < w.heap.size ∧ w.cell? ⟨g, j, none⟩ = some u := by
  have hl : xs.length = n := by simpa using h.1
  rcases h.2 with ⟨rfl, rfl⟩ | ⟨g, cap, cur, rfl, hg, hh, hn, hc, hs, hx⟩
  · refine ⟨none, 0, rfl, hl, fun j u hu => ?_⟩
    have : xs = [] := List.eq_nil_of_length_eq_zero hl
    subst this; simp at hu
  · refine ⟨_, cap, rfl, hl, fun j u hu => ⟨g, rfl, hg, lt_of_blk hh, ?_⟩⟩
    have hj : j < xs.length := (List.getElem?_eq_some_iff.1 hu).1
    subst hx
    rw [List.getElem?_take] at hu
    split at hu
    · simp [World.cell?, hh]
      simpa using hu
    · simp at hu

/-- One for each number below n: a list of them. -/
theorem list_of {α : Type} {n : Nat} {P : Nat → α → Prop} (h : ∀ i, i < n → ∃ x, P i x) : ∃ zs : List α, zs.length = n ∧ ∀ i x, zs[i]? = some x → P i x := by
  induction n with
  | zero => exact ⟨[], rfl, by simp⟩
  | succ n ih =>
    obtain ⟨zs, hl, hz⟩ := ih (fun i hi => h i (by omega))
    obtain ⟨x, hx⟩ := h n (by omega)
    refine ⟨zs ++ [x], by simp [hl], fun i y hy => ?_⟩
    rw [List.getElem?_append] at hy
    split at hy
    · exact hz i y hy
    · rename_i hi
      have : i = n := by
        have := (List.getElem?_eq_some_iff.1 hy).1
        simp at this; omega
      subst this
      simp [hl] at hy
      subst hy; exact hx

/-- An address at which a cell lies is a plain one. -/
theorem addr_plain {w : World} {a : Addr} {v : Value} (h : w.cell? a = some v) : ∃ B o, a = ⟨B, o, none⟩ ∧ B < w.heap.size ∧ ∀ j, a.add j = ⟨B, o + j, none⟩ := by
  obtain ⟨B, o, s⟩ := a
  have hb := World.block_lt_of_cell? _ _ h
  have hs : s = none := by
    cases s with
    | none => rfl
    | some x =>
      exfalso
      unfold World.cell? at h
      revert h
      split <;> simp
  subst hs
  refine ⟨B, o, rfl, hb, fun j => ?_⟩
  unfold Addr.add
  by_cases hj : j = 0 <;> simp [hj]

theorem eqF {a b : Int} (h : a ≠ b) : (a == b) = false := by rw [beq_eq_false_iff_ne]; exact h
theorem eqT {a b : Int} (h : a = b) : (a == b) = true := by rw [beq_iff_eq]; exact h
/-- A place that is reckoned out of any number: '(at%m + m) % m'. -/
theorem cut_place (a : Int) (m : Nat) (hm : 0 < m) (hb : m ≤ 1000000000) : ∃ K : Nat, (wrap64 (a.tmod (m : Int) + (m : Int))).tmod (m : Int) = (K : Int) ∧ K < m := by
  have h0 : (0 : Int) < m := by omega
  have h1 := Int.tmod_lt_of_pos a h0
  have h2 : -(m : Int) < a.tmod m := by
    rcases Int.le_total 0 a with ha | ha
    · have := Int.tmod_nonneg (m : Int) ha; omega
    · have h3 := Int.tmod_lt_of_pos (-a) h0
      rw [Int.neg_tmod] at h3
      omega
  have e : wrap64 (a.tmod (m : Int) + (m : Int)) = a.tmod (m : Int) + (m : Int) := by unfold wrap64; omega
  rw [e]
  generalize a.tmod (m : Int) = t at *
  have h4 : 0 ≤ t + m := by omega
  have h5 := Int.tmod_nonneg (m : Int) h4
  have h6 := Int.tmod_lt_of_pos (t + m) h0
  exact ⟨((t + m).tmod m).toNat, by omega, by omega⟩
/-- A place that is reckoned out of any number: '(at%(m+1) + m + 1) % (m+1)'. -/
theorem cut_place2 (a : Int) (m : Nat) (hb : m ≤ 1000000000) : ∃ K : Nat, (wrap64 (wrap64 (a.tmod ((m : Int) + 1) + (m : Int)) + 1)).tmod ((m : Int) + 1) = (K : Int) ∧ K ≤ m := by
  have h0 : (0 : Int) < (m : Int) + 1 := by omega
  have h1 := Int.tmod_lt_of_pos a h0
  have h2 : -((m : Int) + 1) < a.tmod ((m : Int) + 1) := by
    rcases Int.le_total 0 a with ha | ha
    · have := Int.tmod_nonneg ((m : Int) + 1) ha; omega
    · have h3 := Int.tmod_lt_of_pos (-a) h0
      rw [Int.neg_tmod] at h3
      omega
  have e : wrap64 (wrap64 (a.tmod ((m : Int) + 1) + (m : Int)) + 1) = a.tmod ((m : Int) + 1) + ((m : Int) + 1) := by unfold wrap64; omega
  rw [e]
  generalize a.tmod ((m : Int) + 1) = t at *
  have h4 : 0 ≤ t + ((m : Int) + 1) := by omega
  have h5 := Int.tmod_nonneg ((m : Int) + 1) h4
  have h6 := Int.tmod_lt_of_pos (t + ((m : Int) + 1)) h0
  exact ⟨((t + ((m : Int) + 1)).tmod ((m : Int) + 1)).toNat, by omega, by omega⟩
theorem add_plain (B o j : Nat) : (⟨B, o, none⟩ : Addr).add j = ⟨B, o + j, none⟩ := by
  unfold Addr.add
  by_cases hj : j = 0 <;> simp [hj]
theorem rng_i32 {a : Int} (h : (Lit.int .i32 a).wf = true) : -2147483648 ≤ a ∧ a ≤ 2147483647 := by
  simpa [Lit.wf, IntKind.min, IntKind.max, IntKind.signed, IntKind.bits] using h
theorem rng_i64 {a : Int} (h : (Lit.int .i64 a).wf = true) : -9223372036854775808 ≤ a ∧ a ≤ 9223372036854775807 := by
  simpa [Lit.wf, IntKind.min, IntKind.max, IntKind.signed, IntKind.bits] using h

/-- A slice of integers that came in: nil, or a row of 'cap' cells of which the first 'len' are its elements. -/
def IsRow (k : IntKind) (w : World) (a : Option Addr) (len cap : Nat) (zs : List Int) : Prop :=
  (a = none ∧ len = 0 ∧ cap = 0 ∧ zs = []) ∨
  ∃ x, a = some x ∧ len ≤ cap ∧ cap ≤ maxLen ∧ zs.length = cap ∧ (∀ i, i < zs.length → w.cell? (x.add i) = some (.int k (zs.getD i 0))) ∧ ∀ n ∈ zs, (Lit.int k n).wf = true

section
open Go.ChangeShapes Go.WideShapes Go.ChangeAt
theorem isRow_open {H : Type} {enc : TypeId × Value → H} {P : Program} {W : World} {st et : TypeId} {k : IntKind} {a : Option Addr} {len cap : Nat} {d : DataW H} {p : List MemPlace} {base : Nat} {sp : Nat → Bool} {hd : Bool}
    (hs : P.underlying st = some (.slice et)) (he : P.underlying et = some (.int k)) (hc : P.cellsOf et = 1)
    (h : DataW.Trod enc P W base sp hd st (.slice a len cap) d p) (hsp : sp = (fun _ => true)) : ∃ zs, IsRow k W a len cap zs := by
  subst hsp
  obtain ⟨fuel, hf⟩ := h
  rcases open_ints hs he hc hf with ⟨hcs, _⟩ | ⟨x, l, c, zs, hcs, _, hl, hm, hz, _, hcell, hwz⟩
  · simp [Value.cells] at hcs
    obtain ⟨rfl, rfl, rfl⟩ := hcs
    exact ⟨[], .inl ⟨rfl, rfl, rfl, rfl⟩⟩
  · simp [Value.cells] at hcs
    obtain ⟨rfl, rfl, rfl⟩ := hcs
    exact ⟨zs, .inr ⟨_, rfl, hl, hm, by simpa using hz, hcell, hwz⟩⟩

theorem isRow_at {k : IntKind} {w : World} {a : Option Addr} {len cap : Nat} {zs : List Int} (h : IsRow k w a len cap zs) {i : Nat} (hi : i < len) :
    ∃ (x : Int) (ad : Addr), a = some ad ∧ zs[i]? = some x ∧ w.cell? (ad.add i) = some (.int k x) ∧ (Lit.int k x).wf = true ∧ ad.block < w.heap.size := by
  rcases h with ⟨_, rfl, _, _⟩ | ⟨ad, rfl, hl, hm, hz, hc, hw⟩
  · omega
  · have h1 := hc i (by omega)
    have h2 : zs[i]? = some (zs.getD i 0) := by rw [List.getD_eq_getElem?_getD, List.getElem?_eq_getElem (by omega)]; rfl
    refine ⟨_, ad, rfl, h2, h1, hw _ (List.mem_of_getElem? h2), ?_⟩
    have h3 := World.block_lt_of_cell? _ _ h1
    rwa [block_add] at h3
end

section
open Go.ChangeShapes Go.WideShapes Go.Deep
section
variable {H : Type} {enc : TypeId × Value → H} {P : Program} {w : World} {base : Nat} {spare : Nat → Bool} {held : Bool}
theorem open_slice_fields {t e : TypeId} {fs : Array Field} {fuel : Nat} {cs : List Value} {x : DataW H × List MemPlace} (ht : P.underlying t = some (.slice e)) (he : P.underlying e = some (.struct fs))
    (hone : oneCellFields P fs = true) (hC : P.cellsOf e = fs.size) (h : DataW.trod enc P w base spare held fuel t cs = some x) :
    (cs = [.slice none 0 0] ∧ x = (.nil, [])) ∨
    ∃ (a : Addr) (len cap m : Nat) (D : Nat → DataW H) (Pl : Nat → List MemPlace), cs = [.slice (some a) len cap] ∧ base ≤ a.block ∧ len ≤ cap ∧ cap ≤ maxLen ∧ m = (if spare a.block then cap else len) ∧
      x = (.slice ((List.range len).map D) ((List.range (m - len)).map fun j => D (len + j)), MemPlace.row a (m * fs.size) ++ (List.range m).flatMap Pl) ∧
      ∀ i, i < m → ∃ (ys : List (DataW H × List MemPlace)) (n : Nat), D i = .agg (ys.map (·.1)) ∧ Pl i = ys.flatMap (·.2) ∧ ys.length = fs.size ∧
        ∀ (j : Nat) (f : Field), fs[j]? = some f → ∃ (v : Value) (y : DataW H × List MemPlace), w.cell? (a.add (i * fs.size + j)) = some v ∧ ys[j]? = some y ∧ DataW.trod enc P w base spare held n f.type [v] = some y := by
  rcases open_slice ht h with h0 | ⟨a, len, cap, m, n, D, Pl, hcs, hb, hl, hm, hmm, hx, hi⟩
  · exact .inl h0
  · refine .inr ⟨a, len, cap, m, D, Pl, hcs, hb, hl, hm, hmm, by rw [hC] at hx; exact hx, fun i him => ?_⟩
    obtain ⟨cs', hc, ht'⟩ := hi i him
    rw [hC] at hc
    obtain ⟨ys, n', hn', hy, hlen, hyl, hf⟩ := DataW.trod_struct he ht'
    obtain ⟨_, hcl, hat⟩ := World.cells?_some hc
    simp only [Prod.mk.injEq] at hy
    refine ⟨ys, n', hy.1, hy.2, hyl, fun j f hj => ?_⟩
    obtain ⟨ho, hk⟩ := hone_of hone j f hj
    have hjl : j < fs.size := (Array.getElem?_eq_some_iff.1 hj).1
    have hcell := hat j hjl
    have hv : cs'[j]? = some (cs'[j]'(by omega)) := List.getElem?_eq_getElem (by omega)
    have h1 := hf j f hj
    rw [ho, hk] at h1
    have hone' : (cs'.drop j).take 1 = [cs'[j]'(by omega)] := by
      rw [List.drop_eq_getElem_cons (by omega)]
      rfl
    rw [hone'] at h1
    have hys : ys[j]? = some (ys[j]'(by omega)) := List.getElem?_eq_getElem (by omega)
    refine ⟨_, _, ?_, hys, h1.trans hys⟩
    rw [← Go.Deep.add_add, hcell, hv]
end
end

/-! ### Bytes -/
def byteV (b : UInt8) : Value := .int .u8 b.toNat
/-- A text of a list of bytes. -/
def txt (l : List UInt8) : ByteArray := ⟨l.toArray⟩
theorem txt_data (l : List UInt8) : (txt l).data.toList = l := rfl
theorem txt_size (l : List UInt8) : (txt l).size = l.length := by simp [txt, ByteArray.size]
theorem txt_of (s : ByteArray) : txt s.data.toList = s := by cases s; simp [txt]
theorem txt_append (l m : List UInt8) : txt l ++ txt m = txt (l ++ m) := by
  apply ByteArray.ext
  simp [txt, ByteArray.data_append]
theorem txt_toList (l : List UInt8) : (txt l).toList = l := by rw [Lib.toList_data, txt_data]
attribute [go_sem] txt_data txt_size txt_append txt_toList
theorem txt_inj {l m : List UInt8} (h : txt l = txt m) : l = m := by
  have := congrArg (fun s : ByteArray => s.data.toList) h
  simpa [txt] using this
theorem ext_end (s : ByteArray) (a : Nat) : (s.extract a s.size).data.toList = s.data.toList.drop a := by
  rw [Lib.extract_data, List.take_of_length_le]
  rw [List.length_drop]
  simp
theorem str_eq {s : ByteArray} {l : List UInt8} (h : s.data.toList = l) : s = txt l := by rw [← h, txt_of]
theorem bytes_fold (l : List UInt8) : (l.map fun b => ((b.toNat : Nat) : Int)).foldl (fun r n => r.push (UInt8.ofNat n.toNat)) ByteArray.empty = txt l := by
  rw [foldl_push_bytes]
  simp [txt, Function.comp_def]
theorem byteV_oneCell (l : List UInt8) : ∀ u ∈ l.map byteV, u.oneCell' = true := by
  intro u hu
  obtain ⟨b, _, rfl⟩ := List.mem_map.1 hu
  rfl
section
variable {P : Program} (w : World)
/-- 'string(b)' of cells that hold these bytes. -/
theorem run_string_cells (src dst e : TypeId) (hs : P.underlying src = some (.slice e)) (he : P.underlying e = some (.int .u8)) (hd : P.underlying dst = some .string) (a : Addr) (l : List UInt8) (c : Nat)
    (h : ∀ j b, l[j]? = some b → w.cell? (a.add j) = some (byteV b)) : (convert src dst (.slice (some a) l.length c)).run P w = .ok (.string (txt l)) w := by
  rw [run_convert_bytes_string w src dst e (some a) l.length c hs he hd]
  rw [run_bytesToString w a l.length c (l.map fun b => ((b.toNat : Nat) : Int)), bytes_fold]
  have h1 := run_loadCells_list (P := P) w a (l.map byteV) (fun j v hv => by
    rw [List.getElem?_map] at hv
    cases hb : l[j]? with
    | none => simp [hb] at hv
    | some b => simp [hb] at hv; subst hv; exact h j b hb)
  rw [List.length_map] at h1
  rw [h1]
  simp [byteV, Function.comp_def]
theorem run_string_own (src dst e : TypeId) (hs : P.underlying src = some (.slice e)) (he : P.underlying e = some (.int .u8)) (hd : P.underlying dst = some .string) {base n : Nat} {v : Value} {l : List UInt8}
    (h : w.ownsRow base e 1 v n (l.map byteV)) : (convert src dst v).run P w = .ok (.string (txt l)) w := by
  have hl : l.length = n := by simpa using h.1
  subst hl
  rcases h.2 with ⟨rfl, hn⟩ | ⟨g, cap, cur, rfl, hg, hh, hn, hc, hsz, hx⟩
  · have : l = [] := List.eq_nil_of_length_eq_zero hn
    subst this
    rw [run_convert_bytes_string w src dst e none 0 0 hs he hd]
    simp [Conv.bytesToString, Sem.run_pure]
    rfl
  · refine run_string_cells w src dst e hs he hd ⟨g, 0, none⟩ l cap fun j b hb => ?_
    have h2 := World.ownsRow.cells h (g := g) rfl j (byteV b) (by simp [hb])
    exact h2
end

/-! ### A row of bytes that the call may write -/
/-- Block b is a row of cells of type e of which the first are these bytes; they may be written. -/
def Bts (e : TypeId) (w : World) (b : Nat) (l : List UInt8) : Prop :=
  ∃ cur fr, w.heap[b]? = some (.cells cur e fr) ∧ cur.toList.take l.length = l.map byteV ∧ l.length ≤ fr.1
theorem bts_cell {e : TypeId} {w : World} {b : Nat} {l : List UInt8} (h : Bts e w b l) {j : Nat} {x : UInt8} (hj : l[j]? = some x) : w.cell? ⟨b, j, none⟩ = some (byteV x) := by
  obtain ⟨cur, fr, hb, hc, _⟩ := h
  have h1 : (cur.toList.take l.length)[j]? = some (byteV x) := by rw [hc]; simp [hj]
  rw [List.getElem?_take] at h1
  split at h1
  · unfold World.cell?
    rw [hb]
    simpa using h1
  · simp at h1
theorem bts_free {e : TypeId} {w : World} {b : Nat} {l : List UInt8} (h : Bts e w b l) {j : Nat} (hj : j < l.length) : w.frozen? ⟨b, j, none⟩ = false := by
  obtain ⟨cur, ⟨lo, hi⟩, hb, hc, hf⟩ := h
  unfold World.frozen?
  rw [hb]
  simp at hf ⊢
  omega
theorem bts_lt {e : TypeId} {w : World} {b : Nat} {l : List UInt8} (h : Bts e w b l) : b < w.heap.size := by
  obtain ⟨cur, fr, hb, _⟩ := h; exact lt_of_blk hb
theorem bts_set {e : TypeId} {w : World} {b : Nat} {l : List UInt8} (h : Bts e w b l) (j : Nat) (x : UInt8) : Bts e (w.setCell ⟨b, j, none⟩ (byteV x)) b (l.set j x) := by
  obtain ⟨cur, fr, hb, hc, hf⟩ := h
  refine ⟨_, fr, blk_set hb j (byteV x), ?_, by simpa using hf⟩
  rw [List.length_set, Array.toList_setIfInBounds, List.take_set, hc, List.map_set]
theorem bts_keep {e : TypeId} {w w' : World} {r : Option Nat} {b : Nat} {l : List UInt8} (h : Bts e w b l) (g : w.grownBy w' r) (hr : some b ≠ r) : Bts e w' b l := by
  obtain ⟨cur, fr, hb, hc, hf⟩ := h
  exact ⟨cur, fr, gr_blk g hb hr, hc, hf⟩
theorem bts_gr {e : TypeId} {w w' : World} {b : Nat} {l : List UInt8} (h : Bts e w b l) (g : Gr w w') : Bts e w' b l := bts_keep h g (by simp)
/-- The world behind '[]byte(s)'. -/
def bW (e : TypeId) (w : World) (s : ByteArray) : World := w.drew.alloc (.cells (bytesRow s (grownCap w s.size 0 e)) e ((bytesRow s (grownCap w s.size 0 e)).size, (bytesRow s (grownCap w s.size 0 e)).size + 1))
def bC (e : TypeId) (w : World) (s : ByteArray) : Nat := grownCap w s.size 0 e
theorem bW_gr (e : TypeId) (w : World) (s : ByteArray) : Gr w (bW e w s) := gr_trans (gr_drew w none) (gr_alloc _ _ _)
theorem bW_bts (e : TypeId) (w : World) (s : ByteArray) : Bts e (bW e w s) w.heap.size s.data.toList := by
  refine ⟨_, _, blk_new w.drew _, ?_, ?_⟩
  · apply List.ext_getElem?
    intro j
    rw [List.getElem?_take]
    split
    · rename_i hj
      have hj' : j < s.data.size := by simpa using hj
      have := bytesRow_at s (grownCap w s.size 0 e) j hj'
      rw [Array.getElem?_toList, this, List.getElem?_map, List.getElem?_eq_getElem hj]
      simp [byteV]
    · rename_i hj
      rw [List.getElem?_eq_none (by simpa using hj)]
  · show _ ≤ (bytesRow s _).size
    unfold bytesRow
    simp
theorem run_to_bytes {P : Program} (src dst e : TypeId) (s : ByteArray) (hs : P.underlying src = some .string) (hd : P.underlying dst = some (.slice e)) (he : P.underlying e = some (.int .u8)) (w : World) :
    (convert src dst (.string s)).run P w = .ok (.slice (some ⟨w.heap.size, 0, none⟩) s.size (bC e w s)) (bW e w s) := run_bytes_of_string w src dst e s hs hd he
theorem run_of_bytes {P : Program} (src dst e : TypeId) (hs : P.underlying src = some (.slice e)) (he : P.underlying e = some (.int .u8)) (hd : P.underlying dst = some .string) {w : World} {b : Nat} {l : List UInt8} (h : Bts e w b l) (c n : Nat) (hn : n = l.length) :
    (convert src dst (.slice (some ⟨b, 0, none⟩) n c)).run P w = .ok (.string (txt l)) w := by
  subst hn
  refine run_string_cells w src dst e hs he hd ⟨b, 0, none⟩ l c fun j x hx => ?_
  have := bts_cell h hx
  unfold Addr.add
  by_cases hj : j = 0
  · subst hj; simpa using this
  · simpa [hj] using this

/-! ### A slice that reads as a list of cells, wherever it came from -/
def Row (w : World) (A : Option Addr) (n size : Nat) (xs : List Value) : Prop :=
  xs.length = n * size ∧ ∀ (j : Nat) (u : Value), xs[j]? = some u → ∃ B o, A = some ⟨B, o, none⟩ ∧ B < w.heap.size ∧ w.cell? ⟨B, o + j, none⟩ = some u
theorem row_nil (w : World) (A : Option Addr) (size : Nat) : Row w A 0 size [] := ⟨by simp, fun j u h => by simp at h⟩
theorem row_gr {w w' : World} {A : Option Addr} {n size : Nat} {xs : List Value} (h : Row w A n size xs) (g : Gr w w') : Row w' A n size xs :=
  ⟨h.1, fun j u hj => by obtain ⟨B, o, e, hb, hc⟩ := h.2 j u hj; exact ⟨B, o, e, Nat.lt_of_lt_of_le hb g.size, gr_cell g hc⟩⟩
theorem row_below {w w' : World} {A : Option Addr} {n size : Nat} {xs : List Value} (h : Row w A n size xs) (g : Below w.heap.size w w') : Row w' A n size xs := row_gr h (gr_of_below g (Nat.le_refl _))
theorem row_own {w : World} {base : Nat} {e : TypeId} {size n c : Nat} {A : Option Addr} {xs : List Value} (h : w.ownsRow base e size (.slice A n c) n xs) : Row w A n size xs := by
  refine ⟨h.1, fun j u hu => ?_⟩
  rcases h.2 with ⟨hv, hn⟩ | ⟨g, cap, cur, hv, hg, hh, hn, hc, hs, hx⟩
  · subst hn
    have : xs = [] := List.eq_nil_of_length_eq_zero (by rw [h.1]; simp)
    subst this
    simp at hu
  · have hA : A = some ⟨g, 0, none⟩ := by injection hv
    subst hA
    refine ⟨g, 0, rfl, lt_of_blk hh, ?_⟩
    subst hx
    rw [List.getElem?_take] at hu
    split at hu
    · simp [World.cell?, hh]
      simpa using hu
    · simp at hu
/-- A row that has just been made. -/
theorem row_new (w : World) (cs : Array Value) (e : TypeId) (n : Nat) (hn : cs.size = n) : Row (w.alloc (.cells cs e)) (some ⟨w.heap.size, 0, none⟩) n 1 cs.toList := by
  refine ⟨by simp [hn], fun j u hj => ⟨w.heap.size, 0, rfl, by simp, ?_⟩⟩
  rw [Nat.zero_add, World.cell?_alloc_new]
  simpa using hj
theorem row_elem {α : Type} {f : α → Value} {w : World} {A : Option Addr} {n : Nat} {zs : List α} (h : Row w A n 1 (zs.map f)) {k : Nat} (hk : k < n) :
    ∃ x B o, zs[k]? = some x ∧ A = some ⟨B, o, none⟩ ∧ w.cell? ⟨B, o + k, none⟩ = some (f x) := by
  have hl : zs.length = n := by simpa using h.1
  have hx : zs[k]? = some (zs[k]'(by omega)) := List.getElem?_eq_getElem (by omega)
  obtain ⟨B, o, e, _, hc⟩ := h.2 k (f (zs[k]'(by omega))) (by rw [List.getElem?_map, hx]; rfl)
  exact ⟨_, B, o, hx, e, hc⟩
/-- Its elements from k on. -/
theorem row_drop {w : World} {A : Option Addr} {n size : Nat} {xs : List Value} (h : Row w A n size xs) (k : Nat) (A' : Option Addr) (hA : ∀ B o, A = some ⟨B, o, none⟩ → k < n → A' = some ⟨B, o + k * size, none⟩) (_hs : 0 < size) : Row w A' (n - k) size (xs.drop (k * size)) := by
  refine ⟨by rw [List.length_drop, h.1, Nat.sub_mul], fun j u hj => ?_⟩
  rw [List.getElem?_drop] at hj
  obtain ⟨B, o, e, hb, hc⟩ := h.2 _ _ hj
  have hlt := (List.getElem?_eq_some_iff.1 hj).1
  rw [h.1] at hlt
  have hk : k < n := by
    rcases Nat.lt_or_ge k n with h' | h'
    · exact h'
    · have := Nat.mul_le_mul_right size h'; omega
  exact ⟨B, o + k * size, hA B o e hk, hb, by rw [Nat.add_assoc]; exact hc⟩
/-- Its first k elements. -/
theorem row_take {w : World} {A : Option Addr} {n size : Nat} {xs : List Value} (h : Row w A n size xs) (k : Nat) (hk : k ≤ n) : Row w A k size (xs.take (k * size)) := by
  refine ⟨?_, fun j u hj => ?_⟩
  · rw [List.length_take, h.1]
    exact Nat.min_eq_left (Nat.mul_le_mul_right _ hk)
  · rw [List.getElem?_take] at hj
    split at hj
    · exact h.2 j u hj
    · simp at hj
theorem row_isRow {k : IntKind} {w : World} {a : Option Addr} {len cap : Nat} {zs : List Int} (h : IsRow k w a len cap zs) : Row w a len 1 ((zs.take len).map (.int k)) := by
  rcases h with ⟨rfl, rfl, rfl, rfl⟩ | ⟨ad, rfl, hl, hm, hz, hc, hw⟩
  · exact row_nil _ _ _
  · refine ⟨by simp [hz, hl], fun j u hj => ?_⟩
    have hjl : j < len := by have := (List.getElem?_eq_some_iff.1 hj).1; simp at this; omega
    have h0 := hc 0 (by omega)
    obtain ⟨B, o, rfl, hb, hadd⟩ := addr_plain (a := ad) (by simpa [Addr.add] using h0)
    refine ⟨B, o, rfl, hb, ?_⟩
    have h1 := hc j (by omega)
    rw [hadd] at h1
    rw [h1]
    rw [List.getElem?_map, List.getElem?_take, if_pos hjl] at hj
    rw [List.getD_eq_getElem?_getD]
    cases hz2 : zs[j]? with
    | none => simp [hz2] at hj
    | some z => simp [hz2] at hj; subst hj; rfl

/-- A slice of texts that came in. -/
def IsTexts (w : World) (a : Option Addr) (len cap : Nat) (ss : List ByteArray) : Prop :=
  len ≤ cap ∧ cap ≤ maxLen ∧ Row w a len 1 (ss.map .string) ∧ ∀ s ∈ ss, s.size ≤ maxLen
section
open Go.ChangeShapes Go.WideShapes Go.ChangeAt
theorem isTexts_open {H : Type} {enc : TypeId × Value → H} {P : Program} {W : World} {st et : TypeId} {a : Option Addr} {len cap : Nat} {d : DataW H} {p : List MemPlace} {base : Nat} {sp : Nat → Bool} {hd : Bool}
    (hs : P.underlying st = some (.slice et)) (he : P.underlying et = some .string) (hc : P.cellsOf et = 1)
    (h : DataW.Trod enc P W base sp hd st (.slice a len cap) d p) (hsp : sp = (fun _ => true)) : ∃ ss, IsTexts W a len cap ss := by
  subst hsp
  obtain ⟨fuel, hf⟩ := h
  rcases open_strings hs he hc hf with ⟨hcs, _⟩ | ⟨x, l, c, ss, hcs, _, hl, hm, hz, _, hcell, hws⟩
  · simp [Value.cells] at hcs
    obtain ⟨rfl, rfl, rfl⟩ := hcs
    exact ⟨[], Nat.le_refl _, Nat.zero_le _, row_nil _ _ _, by simp⟩
  · simp [Value.cells] at hcs
    obtain ⟨rfl, rfl, rfl⟩ := hcs
    refine ⟨ss.take len, hl, hm, ⟨by simp at hz; simp [hz, hl], fun j u hj => ?_⟩, fun s hs => hws s (List.mem_of_mem_take hs)⟩
    have hss : ss.length = cap := by simpa using hz
    have hjl : j < len := by have := (List.getElem?_eq_some_iff.1 hj).1; simp at this; omega
    have h0 := hcell 0 (by omega)
    obtain ⟨B, o, rfl, hb, hadd⟩ := addr_plain (a := x) (by simpa [Addr.add] using h0)
    refine ⟨B, o, rfl, hb, ?_⟩
    have h1 := hcell j (by omega)
    rw [hadd] at h1
    rw [h1]
    rw [List.getElem?_map, List.getElem?_take, if_pos hjl] at hj
    rw [List.getD_eq_getElem?_getD]
    cases hz2 : ss[j]? with
    | none => simp [hz2] at hj
    | some z => simp [hz2] at hj; subst hj; rfl
end

/-! ### A range over a text -/
/-- Block b is the range over the text s, at this byte. -/
def It (w : World) (b : Nat) (s : ByteArray) (p : Nat) : Prop := w.heap[b]? = some (.stringIter s p)
def itW (w : World) (b : Nat) (s : ByteArray) (p : Nat) : World := { w with heap := w.heap.setIfInBounds b (.stringIter s p) }
theorem it_pos {w : World} {b : Nat} {s : ByteArray} {p : Nat} (h : It w b s p) : w.iterPos b = p := by
  unfold It at h
  simp [World.iterPos, h]
theorem it_lt {w : World} {b : Nat} {s : ByteArray} {p : Nat} (h : It w b s p) : b < w.heap.size := lt_of_blk h
theorem it_new (w : World) (s : ByteArray) : It (w.iter s 0) w.heap.size s 0 := World.iter_heap w s 0
theorem it_new_gr (w : World) (s : ByteArray) (r : Option Nat) : w.grownBy (w.iter s 0) r := gr_alloc w _ r
theorem it_step {w : World} {b : Nat} {s : ByteArray} {p : Nat} (h : It w b s p) (q : Nat) : It (itW w b s q) b s q := by
  have := it_lt h
  simp [It, itW, this]
theorem it_gr (w : World) (b : Nat) (s : ByteArray) (q : Nat) : GrB b w (itW w b s q) :=
  ⟨rfl, rfl, rfl, by simp [itW], fun k _ hk => by
    have : b ≠ k := fun e => hk (by rw [e])
    simp [itW, this]⟩
theorem it_keep {w w' : World} {r : Option Nat} {b : Nat} {s : ByteArray} {p : Nat} (h : It w b s p) (g : w.grownBy w' r) (hr : some b ≠ r) : It w' b s p := gr_blk g h hr
section
variable {P : Program}
theorem run_next_it {w : World} {b : Nat} {s : ByteArray} {p : Nat} (h : It w b s p) (hp : p < s.size) (ty : TypeId) :
    (Instr.next (.pointer (some ⟨b, 0, none⟩)) true ty).run P w = .ok (.tuple #[.bool true, .int .i64 p, .int .i32 (Utf8.decode s p).1]) (itW w b s (p + (Utf8.decode s p).2)) := by
  unfold It at h
  simp only [Instr.next, getObj, setObj, Sem.run_bind, Sem.run, h, Result.andThen, hp, if_true]
  simp [goInt, itW]
theorem run_next_it_end {w : World} {b : Nat} {s : ByteArray} {p : Nat} (h : It w b s p) (hp : ¬ p < s.size) (ty : TypeId) :
    (Instr.next (.pointer (some ⟨b, 0, none⟩)) true ty).run P w = .ok (.tuple #[.bool false]) w := by
  unfold It at h
  simp only [Instr.next, getObj, Sem.run_bind, Sem.run, h, Result.andThen]
  simp [hp, Sem.run_pure]
end

end Go.Proofs.YtccmekdmnkmhlaaGreat
