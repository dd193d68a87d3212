/-
  Several facts, one behind the other; no condition but bounds: The pattern's machine as it is built: its steps in memory, and what adds one. No condition but that they are few. What build and again make of a pattern's tree. No condition but that it has few parts. What build makes of a pattern's tree: a part of the machine that takes just what the tree means. No condition but that it has few parts. build, of alternatives, and of every tree. No condition but that it has few parts. What pattern.Compile answers: a machine that takes just what the pattern means, or an error. No condition but a bound on the length.
-/
import Derived.Test.YtccmekdmnkmhlaaGreatSqPatAlts
import Derived.Test.YtccmekdmnkmhlaaGreatAEX
namespace Go.Proofs.YtccmekdmnkmhlaaGreat
open Go.RowKit
variable {lo : Nat}

theorem infoStep : (Tryz.prog.info? 189).map (fun i => (i.zero, i.size, i.bytes)) = some (some (.agg #[.bool false, .bool false, .slice none 0 0, .bool false, .int .i64 0, .int .i64 0]), 6, 56) := by kernel_rfl
def sc (z : Stp × Lst) : List Value := [.bool z.1.s.all, .bool z.1.s.neg, .slice z.2.A z.2.n z.2.c, .bool z.1.rune, .int .i64 z.1.a, .int .i64 z.1.b]
def scs (zs : List (Stp × Lst)) : List Value := zs.flatMap sc
theorem scs_cons (z : Stp × Lst) (zs : List (Stp × Lst)) : scs (z :: zs) = sc z ++ scs zs := rfl
theorem scs_len (zs : List (Stp × Lst)) : (scs zs).length = zs.length * 6 := by
  induction zs with
  | nil => rfl
  | cons z zs ih => rw [scs_cons, List.length_append, ih, List.length_cons]; simp [sc]; omega
theorem scs_append (a b : List (Stp × Lst)) : scs (a ++ b) = scs a ++ scs b := by simp [scs]
theorem scs_get {zs : List (Stp × Lst)} {k : Nat} {z : Stp × Lst} (h : zs[k]? = some z) (j : Nat) (hj : j < 6) : (scs zs)[k * 6 + j]? = (sc z)[j]? := by
  induction zs generalizing k with
  | nil => simp at h
  | cons y ys ih =>
    rw [scs_cons]
    have hl : (sc y).length = 6 := rfl
    cases k with
    | zero =>
      obtain rfl : y = z := by simpa using h
      rw [Nat.zero_mul, Nat.zero_add, List.getElem?_append_left (by rw [hl]; exact hj)]
    | succ k =>
      rw [List.getElem?_append_right (by rw [hl]; omega), hl, show (k + 1) * 6 + j - 6 = k * 6 + j by omega]
      exact ih (by simpa using h)
theorem scs_set {zs : List (Stp × Lst)} {k : Nat} {z : Stp × Lst} (h : zs[k]? = some z) (a : Int) : (scs zs).set (k * 6 + 4) (.int .i64 a) = scs (zs.set k ({ z.1 with a := a }, z.2)) := by
  induction zs generalizing k with
  | nil => simp at h
  | cons y ys ih =>
    have hl : (sc y).length = 6 := rfl
    cases k with
    | zero =>
      obtain rfl : y = z := by simpa using h
      rw [scs_cons, Nat.zero_mul, Nat.zero_add, List.set_append_left _ _ (by rw [hl]; omega)]
      rfl
    | succ k =>
      rw [scs_cons, List.set_append_right _ _ (by rw [hl]; omega), hl, show (k + 1) * 6 + 4 - 6 = k * 6 + 4 by omega, ih (by simpa using h)]
      rfl
/-- A step's set lies below p. -/
def ItOk (lo : Nat) (w : World) (p : Nat) (z : Stp × Lst) : Prop := z.2.n = z.1.s.items.length ∧ Row w z.2.A z.2.n 2 (ics z.1.s.items) ∧ (∀ B o, z.2.A = some ⟨B, o, none⟩ → z.1.s.items ≠ [] → lo ≤ B ∧ B < p) ∧ z.1.s.items.length ≤ 1000000
structure BldAt (lo : Nat) (w : World) (p : Nat) (text : ByteArray) (zs : List (Stp × Lst)) (A : Option Addr) (c : Nat) (first : Int) : Prop where
  pb : w.heap[p]? = some (.cells #[.string text, .slice A zs.length c, .int .i64 first] 173 (0, 0))
  own : w.ownsRow (p + 1) 189 6 (.slice A zs.length c) zs.length (scs zs)
  it : ∀ z ∈ zs, ItOk lo w p z
/-- What building leaves as it was. -/
structure BFr (p : Nat) (w w' : World) : Prop where
  os : w'.os = w.os
  tape : w'.tape = w.tape
  output : w'.output = w.output
  size : w.heap.size ≤ w'.heap.size
  low : ∀ k, k < p → w'.heap[k]? = w.heap[k]?
  typed : ∀ (k : Nat) (cs : Array Value) (ty : TypeId) (fr : Nat × Nat), w.heap[k]? = some (.cells cs ty fr) → ty ≠ 189 → k ≠ p → w'.heap[k]? = some (.cells cs ty fr)
theorem bfr_refl (p : Nat) (w : World) : BFr p w w := ⟨rfl, rfl, rfl, Nat.le_refl _, fun _ _ => rfl, fun _ _ _ _ h _ _ => h⟩
theorem bfr_trans {p : Nat} {w w1 w2 : World} (h : BFr p w w1) (k : BFr p w1 w2) : BFr p w w2 :=
  ⟨k.os.trans h.os, k.tape.trans h.tape, k.output.trans h.output, Nat.le_trans h.size k.size, fun i hi => (k.low i hi).trans (h.low i hi), fun i cs ty fr hi ht hp => k.typed i cs ty fr (h.typed i cs ty fr hi ht hp) ht hp⟩
theorem bfr_gr {p : Nat} {w w' : World} (hp : p ≤ w.heap.size) (g : Gr w w') : BFr p w w' :=
  ⟨g.os, g.tape, g.output, g.size, fun k hk => g.block k (by omega) (by simp), fun k cs ty fr h _ _ => gr_blk g h (by simp)⟩
theorem bfr_step {p q : Nat} {w w' : World} {base n : Nat} {v : Value} {xs : List Value} (hp : p ≤ w.heap.size) (hown : w.ownsRow base 189 6 v n xs) (hv : v.ownBlock = some q) (hpq : p < q) (g : w.grownBy w' (some q)) : BFr p w w' :=
  ⟨g.os, g.tape, g.output, g.size, fun k hk => g.block k (by omega) (fun e => by have := Option.some.inj e; omega), fun k cs ty fr h ht _ => gr_blk g h (fun e => own_not_blk hown h (fun e2 => ht e2.symm) (by rw [hv, e]))⟩
theorem bfr_p {p : Nat} {w w' : World} (hp : p ≤ w.heap.size) (g : w.grownBy w' (some p)) : BFr p w w' :=
  ⟨g.os, g.tape, g.output, g.size, fun k hk => g.block k (by omega) (fun e => by have := Option.some.inj e; omega), fun k cs ty fr h _ hk => gr_blk g h (fun e => hk (Option.some.inj e))⟩
theorem bfr_gr_of {p : Nat} {w w' : World} (h : BFr p w w') (hp : w.heap.size ≤ p) : Gr w w' := ⟨h.os, h.tape, h.output, h.size, fun k hk _ => h.low k (by omega)⟩
/-- A row in blocks that are as they were. -/
theorem row_same {w w' : World} {A : Option Addr} {n size : Nat} {xs : List Value} {P : Nat → Prop} (h : Row w A n size xs) (hs : w.heap.size ≤ w'.heap.size) (hb : ∀ k, P k → w'.heap[k]? = w.heap[k]?) (hP : ∀ B o, A = some ⟨B, o, none⟩ → xs ≠ [] → P B) : Row w' A n size xs := by
  refine ⟨h.1, fun j u hj => ?_⟩
  obtain ⟨B, o, e, hB, hc⟩ := h.2 j u hj
  have hne : xs ≠ [] := fun e => by subst e; simp at hj
  refine ⟨B, o, e, Nat.lt_of_lt_of_le hB hs, ?_⟩
  rw [World.cell?_of_block (hb B (hP B o e hne))]
  exact hc
theorem tv_same {P : Nat → Prop} {w w' : World} (hs : w.heap.size ≤ w'.heap.size) (hb : ∀ k, P k → w'.heap[k]? = w.heap[k]?) {v : Value} {x : T} (h : Tv P w v x) : Tv P w' v x := by
  induction h with
  | one h1 h2 h3 => exact .one (row_same h1 hs hb (fun B o e ne => h2 B o e (ics_ne ne))) h2 h3
  | row h1 h2 h3 h4 _ ih => exact .row (row_same h1 hs hb h2) h2 h3 h4 ih
  | alt h1 h2 h3 h4 _ ih => exact .alt (row_same h1 hs hb h2) h2 h3 h4 ih
  | rep _ ih => exact .rep ih
theorem it_same {w w' : World} {p : Nat} {z : Stp × Lst} (h : ItOk lo w p z) (hs : w.heap.size ≤ w'.heap.size) (hb : ∀ k, k < p → w'.heap[k]? = w.heap[k]?) : ItOk lo w' p z :=
  ⟨h.1, row_same (P := fun k => k < p) h.2.1 hs hb (fun B o e ne => (h.2.2.1 B o e (ics_ne ne)).2), h.2.2⟩
theorem bld_gr {w w' : World} {p : Nat} {text : ByteArray} {zs : List (Stp × Lst)} {A : Option Addr} {c : Nat} {first : Int} (h : BldAt lo w p text zs A c first) (g : Gr w w') : BldAt lo w' p text zs A c first :=
  ⟨gr_blk g h.pb (by simp), h.own.kept g (by cases (Value.slice A zs.length c).ownBlock <;> simp), fun z hz => it_same (h.it z hz) g.size (fun k hk => g.block k (Nat.lt_trans hk (lt_of_blk h.pb)) (by simp))⟩
def aggV (z : Stp × Lst) : Value := .agg #[.bool z.1.s.all, .bool z.1.s.neg, .slice z.2.A z.2.n z.2.c, .bool z.1.rune, .int .i64 z.1.a, .int .i64 z.1.b]
theorem six_new (w : World) (z : Stp × Lst) (t : TypeId) : ∀ (j : Nat) (u : Value), (sc z)[j]? = some u → (w.alloc (.cells (sc z).toArray t)).cell? ((⟨w.heap.size, 0, none⟩ : Addr).add j) = some u := by
  intro j u hj
  have hb := blk_new w (.cells (sc z).toArray t)
  have e : ((⟨w.heap.size, 0, none⟩ : Addr).add j) = ⟨w.heap.size, j, none⟩ := by unfold Addr.add; by_cases h0 : j = 0 <;> simp [h0]
  rw [e]
  exact blk_cell hb (by simpa using hj)
theorem bld_push {W2 W3 : World} {p : Nat} {text : ByteArray} {zs : List (Stp × Lst)} {A : Option Addr} {c : Nat} {first : Int} {z : Stp × Lst} {g cap : Nat} (h : BldAt lo W2 p text zs A c first) (hz : ItOk lo W2 p z)
    (hown : W3.ownsRow (p + 1) 189 6 (.slice (some ⟨g, 0, none⟩) (zs.length + 1) cap) (zs.length + 1) (scs zs ++ sc z)) (hat : ((Value.slice A zs.length c).ownBlock = some g ∧ W2.grownBy W3 (some g)) ∨ (g = W2.heap.size ∧ Gr W2 W3)) :
    W3.heap[p]? = some (.cells #[.string text, .slice A zs.length c, .int .i64 first] 173 (0, 0)) ∧
    BldAt lo (W3.setCell ⟨p, 1, none⟩ (.slice (some ⟨g, 0, none⟩) (zs.length + 1) cap)) p text (zs ++ [z]) (some ⟨g, 0, none⟩) cap first ∧ BFr p W2 (W3.setCell ⟨p, 1, none⟩ (.slice (some ⟨g, 0, none⟩) (zs.length + 1) cap)) := by
  have hpW : p < W2.heap.size := lt_of_blk h.pb
  have hg : p + 1 ≤ g := (hown.lt g rfl).1
  have b1 : BFr p W2 W3 := by
    rcases hat with ⟨e, g1⟩ | ⟨_, g1⟩
    · exact bfr_step (Nat.le_of_lt hpW) h.own e (by omega) g1
    · exact bfr_gr (Nat.le_of_lt hpW) g1
  have g2 : W3.grownBy (W3.setCell ⟨p, 1, none⟩ (.slice (some ⟨g, 0, none⟩) (zs.length + 1) cap)) (some p) := gr_set W3 ⟨p, 1, none⟩ _
  have hp3 : W3.heap[p]? = some (.cells #[.string text, .slice A zs.length c, .int .i64 first] 173 (0, 0)) := by
    rcases hat with ⟨e, g1⟩ | ⟨_, g1⟩
    · exact gr_blk g1 h.pb (fun e2 => by have := Option.some.inj e2; omega)
    · exact gr_blk g1 h.pb (by simp)
  have b2 : BFr p W2 (W3.setCell ⟨p, 1, none⟩ (.slice (some ⟨g, 0, none⟩) (zs.length + 1) cap)) := bfr_trans b1 (bfr_p (by have := b1.size; omega) g2)
  have hl : (zs ++ [z]).length = zs.length + 1 := by simp
  refine ⟨hp3, ⟨?_, ?_, fun y hy => ?_⟩, b2⟩
  · have hb := blk_set hp3 1 (.slice (some ⟨g, 0, none⟩) (zs.length + 1) cap)
    rw [hl]
    exact hb
  · have e : scs (zs ++ [z]) = scs zs ++ sc z := by rw [scs_append]; simp [scs]
    rw [hl, e]
    exact hown.kept g2 (.inr fun e => by have : g = p := Option.some.inj e; omega)
  · rcases List.mem_append.1 hy with hy | hy
    · exact it_same (h.it y hy) b2.size b2.low
    · obtain rfl : y = z := by simpa using hy
      exact it_same hz b2.size b2.low
set_option maxHeartbeats 4000000 in
set_option maxRecDepth 100000 in
theorem add_any (p : Nat) (text : ByteArray) (zs : List (Stp × Lst)) (A : Option Addr) (c : Nat) (first : Int) (z : Stp × Lst) (w : World) (hn : zs.length ≤ 100000) (h : BldAt lo w p text zs A c first) (hz : ItOk lo w p z) :
    Calls Tryz.prog 135 #[.pointer (some ⟨p, 0, none⟩), aggV z] w fun e w' => e = .returned (.int .i64 zs.length) ∧ ∃ A' c', BldAt lo w' p text (zs ++ [z]) A' c' first ∧ BFr p w w' := by
  obtain ⟨ii, hi, hz0, hz1, hz2⟩ := info_parts infoStep
  have hp := lt_of_blk h.pb
  obtain ⟨W0, hW0⟩ : ∃ W0, W0 = w.alloc (.cells (sc z).toArray 189) := ⟨_, rfl⟩
  have hb0 : W0.heap[w.heap.size]? = some (.cells (sc z).toArray 189 (0, 0)) := by rw [hW0]; exact blk_new _ _
  have g0 : Gr w W0 := by rw [hW0]; exact gr_alloc _ _ _
  have h1 := bld_gr (bld_gr h g0) (gr_drew W0 none)
  have h2 := bld_gr h1 (gr_alloc W0.drew (.cells (sc z).toArray 189) none)
  have hb1 := gr_blk (gr_drew W0 none) hb0 (by simp)
  have hb2 := gr_blk (gr_alloc W0.drew (.cells (sc z).toArray 189) none) hb1 (by simp)
  have s0 : w.heap.size < W0.heap.size := lt_of_blk hb0
  have six := six_new W0.drew z 189
  have hsz : (sc z).length = 6 := rfl
  have hones : ∀ u ∈ sc z, u.oneCell' = true := by
    intro u hu
    simp only [sc, List.mem_cons, List.not_mem_nil, or_false] at hu
    rcases hu with rfl | rfl | rfl | rfl | rfl | rfl <;> rfl
  have hsc : (sc z).toArray = #[.bool z.1.s.all, .bool z.1.s.neg, .slice z.2.A z.2.n z.2.c, .bool z.1.rune, .int .i64 z.1.a, .int .i64 z.1.b] := rfl
  have kp1 : W0.drew.cell? ⟨p, 1, none⟩ = some (.slice A zs.length c) := blk_cell h1.pb rfl
  have kp2 : (W0.drew.alloc (.cells (sc z).toArray 189)).cell? ⟨p, 1, none⟩ = some (.slice A zs.length c) := blk_cell h2.pb rfl
  have kp3 : (W0.alloc (.cells (sc z).toArray 189)).cell? ⟨p, 1, none⟩ = some (.slice A zs.length c) := blk_cell (bld_gr (bld_gr h g0) (gr_alloc W0 (.cells (sc z).toArray 189) none)).pb rfl
  have ks1 : ∀ (j : Nat) u, (sc z)[j]? = some u → W0.drew.cell? ⟨w.heap.size, j, none⟩ = some u := fun j u hj => blk_cell hb1 (by simpa using hj)
  have ka := ks1 0 _ rfl
  have kb := ks1 1 _ rfl
  have kc := ks1 2 _ rfl
  have kd := ks1 3 _ rfl
  have ke := ks1 4 _ rfl
  have kf := ks1 5 _ rfl
  obtain ⟨sz, hsze⟩ : ∃ sz, sz = sc z := ⟨_, rfl⟩
  rw [hsc] at hW0 kp2 kp3 hb2 h2
  replace six := Lib.hid six
  replace h1 := Lib.hid h1
  replace h2 := Lib.hid h2
  replace hb1 := Lib.hid hb1
  replace hb2 := Lib.hid hb2
  replace hb0 := Lib.hid hb0
  replace g0 := Lib.hid g0
  replace h := Lib.hid h
  replace hz := Lib.hid hz
  replace hones := Lib.hid hones
  replace hsz := Lib.hid hsz
  clear ks1 hsc hsze
  unfold aggV
  go_enter Tryz.func135, Tryz.ntmps135
  go_wp2_with fail
  rw [← hW0]
  replace hW0 := Lib.hid hW0
  go_region_law (first
    | (refine step_append_strong (o := ⟨some 12, _, _, _, _, _⟩) (by rfl) _ _ 171 (by rfl) (p + 1) 189 ii (.agg #[.bool false, .bool false, .slice none 0 0, .bool false, .int .i64 0, .int .i64 0]) 6 56 Tryz.underlying171 hi hz0 hz1 hz2 (by decide) (by decide) (.slice A zs.length c) zs.length _ (by rfl) h2.out.own ⟨W0.heap.size, 0, none⟩ 1 1 (sc z) (by rfl) (by rfl) six.out hones.out (by omega) (zs.length + 1) (by rfl) (by unfold maxLen; omega) (by omega) (by simp; omega) ?_
       intro g cap W3 hown3 hat3
       have hb02 : BFr p w (W0.drew.alloc (.cells #[.bool z.1.s.all, .bool z.1.s.neg, .slice z.2.A z.2.n z.2.c, .bool z.1.rune, .int .i64 z.1.a, .int .i64 z.1.b] 189)) := bfr_gr (Nat.le_of_lt hp) (gr_trans (gr_trans g0.out (gr_drew _ _)) (gr_alloc _ _ _))
       have hpush := bld_push h2.out (it_same hz.out hb02.size hb02.low) hown3 hat3
       have k3 : W3.cell? ⟨p, 1, none⟩ = some (.slice A zs.length c) := blk_cell hpush.1 rfl
       have f3 : W3.frozen? ⟨p, 1, none⟩ = false := blk_free hpush.1 1
       replace hpush := Lib.hid hpush
       replace hb02 := Lib.hid hb02
       replace hown3 := Lib.hid hown3
       replace hat3 := Lib.hid hat3))
  all_goals
    obtain ⟨W4, hW4⟩ : ∃ W4, W4 = W3.setCell ⟨p, 1, none⟩ (.slice (some ⟨g, 0, none⟩) (zs.length + 1) cap) := ⟨_, rfl⟩
    have hp4 := hpush.out
    rw [← hW4] at hp4
    have k4 : W4.cell? ⟨p, 1, none⟩ = some (.slice (some ⟨g, 0, none⟩) (zs.length + 1) cap) := by
      have := hp4.2.1.pb
      exact blk_cell (v := .slice (some ⟨g, 0, none⟩) (zs.length + 1) cap) this (by simp)
    replace hp4 := Lib.hid hp4
    rw [← hW4]
    replace hW4 := Lib.hid hW4
    go_wp2
    go_ret
    exact ⟨by first | rfl | (congr 2; omega), _, _, hp4.out.2.1, bfr_trans hb02.out hp4.out.2.2⟩
end Go.Proofs.YtccmekdmnkmhlaaGreat
namespace Go.Proofs.YtccmekdmnkmhlaaGreat
open Go.RowKit
variable {lo : Nat}

def BldPost (lo : Nat) (p : Nat) (text : ByteArray) (first : Int) (zs : List (Stp × Lst)) (th : Nat) (x : T) (w : World) (e : Ending) (w' : World) : Prop :=
  ∃ (at' : Nat) (zs' : List (Stp × Lst)) (A' : Option Addr) (c' : Nat), e = .returned (.int .i64 at') ∧ BldAt lo w' p text zs' A' c' first ∧ BFr p w w' ∧ zs.length ≤ zs'.length ∧ zs'.length ≤ zs.length + tsize x ∧ (∀ i, i < zs.length → zs'[i]? = zs[i]?) ∧ Frag (zs'.map (·.1)) zs.length zs'.length x at' th
def BldC (lo : Nat) (p : Nat) (text : ByteArray) (first : Int) (v : Value) (x : T) : Prop :=
  ∀ (zs : List (Stp × Lst)) (A : Option Addr) (c : Nat) (th : Nat) (w : World), BldAt lo w p text zs A c first → Tv (fun k => lo ≤ k ∧ k < p) w v x → zs.length + tsize x ≤ 100000 →
    Calls Tryz.prog 136 #[.pointer (some ⟨p, 0, none⟩), v, .int .i64 th] w (BldPost lo p text first zs th x w)
theorem map_get {zs zs' : List (Stp × Lst)} {i : Nat} (h : zs'[i]? = zs[i]?) : (zs'.map (·.1))[i]? = (zs.map (·.1))[i]? := by rw [List.getElem?_map, List.getElem?_map, h]
theorem snoc_get {zs : List (Stp × Lst)} {z : Stp × Lst} : ∀ i, i < zs.length → (zs ++ [z])[i]? = zs[i]? := fun _ hi => List.getElem?_append_left hi
theorem snoc_last (zs : List (Stp × Lst)) (z : Stp × Lst) : ((zs ++ [z]).map (·.1))[zs.length]? = some z.1 := by simp
theorem none_it (w : World) (p : Nat) (r : Bool) (a b : Int) : ItOk lo w p (⟨⟨false, false, []⟩, r, a, b⟩, ⟨none, 0, 0⟩) := ⟨rfl, row_zero _ _ _, (fun B o e => by cases e), by simp⟩
/-- A step's next place is set. -/
theorem bld_set {w : World} {p : Nat} {text : ByteArray} {zs : List (Stp × Lst)} {A : Option Addr} {c : Nat} {first : Int} (h : BldAt lo w p text zs A c first) {k : Nat} {z : Stp × Lst} (hk : zs[k]? = some z) (a : Int) :
    ∃ g, A = some ⟨g, 0, none⟩ ∧ w.cell? ⟨g, k * 6 + 4, none⟩ = some (.int .i64 z.1.a) ∧ w.frozen? ⟨g, k * 6 + 4, none⟩ = false ∧ BldAt lo (w.setCell ⟨g, k * 6 + 4, none⟩ (.int .i64 a)) p text (zs.set k ({ z.1 with a := a }, z.2)) A c first ∧ BFr p w (w.setCell ⟨g, k * 6 + 4, none⟩ (.int .i64 a)) := by
  have hkl := (List.getElem?_eq_some_iff.1 hk).1
  obtain ⟨g, cap, hv, hb, hlt⟩ := h.own.form (by omega)
  injection hv with h1 h2 h3
  subst h1 h3
  have hcell : w.cell? ⟨g, k * 6 + 4, none⟩ = some (.int .i64 z.1.a) := by
    rw [h.own.cellAt (k * 6 + 4) (by omega), scs_get hk 4 (by omega)]
    rfl
  obtain ⟨s1, s2⟩ := h.own.stored (k * 6 + 4) (.int .i64 a)
  have hf := h.own.frozenAt (k * 6 + 4)
  have hbf : BFr p w (w.setCell ⟨g, k * 6 + 4, none⟩ (.int .i64 a)) := bfr_step (Nat.le_of_lt (lt_of_blk h.pb)) h.own rfl hb s2
  refine ⟨g, rfl, hcell, hf, ⟨?_, ?_, fun y hy => ?_⟩, hbf⟩
  · rw [List.length_set]
    exact gr_blk s2 h.pb (fun e => by have := Option.some.inj e; omega)
  · rw [List.length_set, ← scs_set hk]
    exact s1
  · obtain ⟨i, hi⟩ := List.mem_iff_getElem?.1 hy
    rw [List.getElem?_set] at hi
    split at hi
    · first
        | (have := Option.some.inj hi
           subst this
           exact it_same (h.it z (List.mem_of_getElem? hk)) hbf.size hbf.low)
        | (split at hi
           · have := Option.some.inj hi
             subst this
             exact it_same (h.it z (List.mem_of_getElem? hk)) hbf.size hbf.low
           · cases hi)
    · exact it_same (h.it y (List.mem_of_getElem? hi)) hbf.size hbf.low
set_option maxHeartbeats 4000000 in
set_option maxRecDepth 100000 in
theorem again_any (p : Nat) (text : ByteArray) (first : Int) (vt : TypeId) (vu : Value) (x : T) (nn ag : Bool) (ih : BldC lo p text first (.iface vt vu) x)
    (zs : List (Stp × Lst)) (A : Option Addr) (c : Nat) (th : Nat) (w : World) (h : BldAt lo w p text zs A c first) (ht : Tv (fun k => lo ≤ k ∧ k < p) w (.iface vt vu) x) (hsz : zs.length + tsize x + 2 ≤ 100000) :
    Calls Tryz.prog 148 #[.pointer (some ⟨p, 0, none⟩), .agg #[.iface vt vu, .bool nn, .bool ag], .int .i64 th] w (BldPost lo p text first zs th (.rep x nn ag) w) := by
  have hp := lt_of_blk h.pb
  obtain ⟨W0, hW0⟩ : ∃ W0, W0 = w.alloc (.cells #[.iface vt vu, .bool nn, .bool ag] 209) := ⟨_, rfl⟩
  have hb0 : W0.heap[w.heap.size]? = some (.cells #[.iface vt vu, .bool nn, .bool ag] 209 (0, 0)) := by rw [hW0]; exact blk_new _ _
  have g0 : Gr w W0 := by rw [hW0]; exact gr_alloc _ _ _
  have f0 : BFr p w W0 := bfr_gr (Nat.le_of_lt hp) g0
  have h0 := bld_gr h g0
  have t0 := tv_same f0.size (fun k hk => f0.low k hk.2) ht
  have k0 : W0.cell? ⟨w.heap.size, 0, none⟩ = some (.iface vt vu) := blk_cell hb0 rfl
  have k1 : W0.cell? ⟨w.heap.size, 1, none⟩ = some (.bool nn) := blk_cell hb0 rfl
  have k2 : W0.cell? ⟨w.heap.size, 2, none⟩ = some (.bool ag) := blk_cell hb0 rfl
  cases ag with
  | false =>
    have hB := ih zs A c th W0 h0 t0 (by omega)
    replace hB := Lib.hid hB
    replace h := Lib.hid h
    replace h0 := Lib.hid h0
    replace ht := Lib.hid ht
    replace t0 := Lib.hid t0
    replace f0 := Lib.hid f0
    replace g0 := Lib.hid g0
    replace ih := Lib.hid ih
    go_enter Tryz.func148, Tryz.ntmps148
    go_upto_region 1 with fail
    rw [← hW0]
    replace hW0 := Lib.hid hW0
    go_wp2_with fail
    refine hB.out.mono ?_
    rintro e w1 ⟨a, zs1, A1, c1, rfl, h1, f1, hl1, hs1, hpre, hfr⟩
    have hadd := add_any p text zs1 A1 c1 first (⟨⟨false, false, []⟩, false, (a : Int), (th : Int)⟩, ⟨none, 0, 0⟩) w1 (by omega) h1 (none_it _ _ _ _ _)
    unfold aggV at hadd
    simp only at hadd
    replace hadd := Lib.hid hadd
    replace h1 := Lib.hid h1
    replace hpre := Lib.hid hpre
    go_wp2_with fail
    refine hadd.out.mono ?_
    rintro e w2 ⟨rfl, A2, c2, h2, f2⟩
    go_wp2
    go_ret
    refine ⟨zs1.length, _, A2, c2, rfl, h2, bfr_trans f0.out (bfr_trans f1 f2), by simp; omega, by simp [tsize]; omega, fun i hi => by rw [snoc_get i (by omega)]; exact hpre.out i hi, ?_⟩
    unfold Frag
    simp only [Bool.false_eq_true, if_false]
    refine ⟨hl1, by simp, a, _, snoc_last _ _, frag_mono (Nat.le_refl _) (by simp) (fun i _ hi => map_get (snoc_get i hi)) _ _ _ hfr⟩
  | true =>
    have hadd := add_any p text zs A c first (⟨⟨false, false, []⟩, false, (th : Int), (th : Int)⟩, ⟨none, 0, 0⟩) W0 (by omega) h0 (none_it _ _ _ _ _)
    unfold aggV at hadd
    simp only at hadd
    replace hadd := Lib.hid hadd
    replace h := Lib.hid h
    replace h0 := Lib.hid h0
    replace ht := Lib.hid ht
    replace t0 := Lib.hid t0
    replace f0 := Lib.hid f0
    replace g0 := Lib.hid g0
    replace ih := Lib.hid ih
    go_enter Tryz.func148, Tryz.ntmps148
    go_upto_region 1 with fail
    rw [← hW0]
    replace hW0 := Lib.hid hW0
    go_wp2_with fail
    refine hadd.out.mono ?_
    rintro e w1 ⟨rfl, A1, c1, h1, f1⟩
    have hb1 := f1.typed _ _ _ _ hb0 (by decide) (by omega)
    have t1 := tv_same f1.size (fun k hk => f1.low k hk.2) t0.out
    have hB := ih.out (zs ++ [(⟨⟨false, false, []⟩, false, (th : Int), (th : Int)⟩, ⟨none, 0, 0⟩)]) A1 c1 zs.length w1 h1 t1 (by simp; omega)
    have k01 : w1.cell? ⟨w.heap.size, 0, none⟩ = some (.iface vt vu) := blk_cell hb1 rfl
    replace hB := Lib.hid hB
    replace h1 := Lib.hid h1
    replace t1 := Lib.hid t1
    clear k0 k1 k2
    go_wp2_with fail
    refine hB.out.mono ?_
    rintro e w2 ⟨a, zs2, A2, c2, rfl, h2, f2, hl2, hs2, hpre2, hfr2⟩
    have hlz : (zs ++ [((⟨⟨false, false, []⟩, false, (th : Int), (th : Int)⟩ : Stp), (⟨none, 0, 0⟩ : Lst))]).length = zs.length + 1 := by simp
    rw [hlz] at hl2 hs2 hfr2 hpre2
    have hz2 : zs2[zs.length]? = some ((⟨⟨false, false, []⟩, false, (th : Int), (th : Int)⟩ : Stp), (⟨none, 0, 0⟩ : Lst)) := by rw [hpre2 _ (by omega)]; simp
    obtain ⟨g, rfl, kc, kf, hset, fset⟩ := bld_set h2 hz2 (a : Int)
    have hb2 := f2.typed _ _ _ _ hb1 (by decide) (by omega)
    have hb3 := fset.typed _ _ _ _ hb2 (by decide) (by omega)
    have kp2 : w2.cell? ⟨p, 1, none⟩ = some (.slice (some ⟨g, 0, none⟩) zs2.length c2) := blk_cell h2.pb rfl
    obtain ⟨W3, hW3⟩ : ∃ W3, W3 = w2.setCell ⟨g, zs.length * 6 + 4, none⟩ (.int .i64 (a : Int)) := ⟨_, rfl⟩
    rw [← hW3] at hset fset hb3
    have k13 : W3.cell? ⟨w.heap.size, 1, none⟩ = some (.bool nn) := blk_cell hb3 rfl
    have hnn : (zs.length : Int) < (zs2.length : Int) := by omega
    have hn0 : (0 : Int) ≤ (zs.length : Int) := by omega
    have fin : Frag ((zs2.set zs.length ({ (⟨⟨false, false, []⟩, false, (th : Int), (th : Int)⟩ : Stp) with a := (a : Int) }, ⟨none, 0, 0⟩)).map (·.1)) zs.length zs2.length x a zs.length := frag_mono (by omega) (Nat.le_refl _) (fun i hi _ => map_get (by rw [List.getElem?_set_ne (by omega)])) _ _ _ hfr2
    have hturn : ((zs2.set zs.length ({ (⟨⟨false, false, []⟩, false, (th : Int), (th : Int)⟩ : Stp) with a := (a : Int) }, ⟨none, 0, 0⟩)).map (·.1))[zs.length]? = some (⟨⟨false, false, []⟩, false, (a : Int), (th : Int)⟩ : Stp) := by
      rw [List.getElem?_map, List.getElem?_set_self (by omega)]
      rfl
    have hpre3 : ∀ i, i < zs.length → (zs2.set zs.length ({ (⟨⟨false, false, []⟩, false, (th : Int), (th : Int)⟩ : Stp) with a := (a : Int) }, (⟨none, 0, 0⟩ : Lst)))[i]? = zs[i]? := fun i hi => by
      rw [List.getElem?_set_ne (by omega), hpre2 i (by omega), snoc_get i hi]
    have hpost : ∀ at' : Nat, at' = (if nn then zs.length else a) → BldPost lo p text first zs th (.rep x nn true) w (.returned (.int .i64 at')) W3 := fun at' hat => by
      refine ⟨at', _, _, c2, rfl, hset, bfr_trans f0.out (bfr_trans f1 (bfr_trans f2 fset)), by simp; omega, by simp [tsize]; omega, hpre3, ?_⟩
      unfold Frag
      simp only [if_true]
      refine ⟨zs.length, a, _, Nat.le_refl _, by simp; omega, hturn, ?_, hat⟩
      simp only [List.length_set]
      exact fin
    replace hpost := Lib.hid hpost
    replace fin := Lib.hid fin
    replace hturn := Lib.hid hturn
    replace hpre3 := Lib.hid hpre3
    replace hpre2 := Lib.hid hpre2
    replace hz2 := Lib.hid hz2
    replace hset := Lib.hid hset
    replace fset := Lib.hid fset
    replace h2 := Lib.hid h2
    replace hlz := Lib.hid hlz
    go_upto_region 5 with fail
    go_cut [4, 7, 8] (fun s4 s7 s8 wx => s4 = .pointer (some ⟨w.heap.size, 0, none⟩) ∧ s7 = .int .i64 zs.length ∧ s8 = .int .i64 a ∧ W3 = wx)
    case first =>
      replace hW3 := Lib.hid hW3
      go_wp2
      go_meet
      exact ⟨rfl, rfl, rfl, hW3.out⟩
    case rest =>
    obtain ⟨rfl, rfl, rfl, rfl⟩ := hcut
    replace hW3 := Lib.hid hW3
    clear kc kf kp2 k01
    cases nn with
    | true =>
      go_wp2
      go_ret
      exact hpost.out _ rfl
    | false =>
      go_wp2
      go_ret
      exact hpost.out _ rfl
end Go.Proofs.YtccmekdmnkmhlaaGreat
namespace Go.Proofs.YtccmekdmnkmhlaaGreat
open Go.RowKit
variable {lo : Nat}

theorem ta_one (u : Value) (W : World) : (Instr.typeAssert (.iface 204 u) 20 204 true).run Tryz.prog W = .ok (.tuple #[u, .bool true]) W := by
  simp [Instr.typeAssert, Sem.run_bind, run_underlying Tryz.underlying204, Result.andThen]
theorem ta_row1 (u : Value) (W : World) : (Instr.typeAssert (.iface 206 u) 20 204 true).run Tryz.prog W = .ok (.tuple #[.agg #[.bool false, .bool false, .slice none 0 0], .bool false]) W := by
  simp [Instr.typeAssert, Sem.run_bind, run_underlying Tryz.underlying204, Tryz.zeroValue204, Result.andThen]
theorem ta_row2 (u : Value) (W : World) : (Instr.typeAssert (.iface 206 u) 20 206 true).run Tryz.prog W = .ok (.tuple #[u, .bool true]) W := by
  simp [Instr.typeAssert, Sem.run_bind, run_underlying Tryz.underlying206, Result.andThen]
theorem ta_rep1 (u : Value) (W : World) : (Instr.typeAssert (.iface 209 u) 20 204 true).run Tryz.prog W = .ok (.tuple #[.agg #[.bool false, .bool false, .slice none 0 0], .bool false]) W := by
  simp [Instr.typeAssert, Sem.run_bind, run_underlying Tryz.underlying204, Tryz.zeroValue204, Result.andThen]
theorem ta_rep2 (u : Value) (W : World) : (Instr.typeAssert (.iface 209 u) 20 206 true).run Tryz.prog W = .ok (.tuple #[.agg #[.slice none 0 0], .bool false]) W := by
  simp [Instr.typeAssert, Sem.run_bind, run_underlying Tryz.underlying206, Tryz.zeroValue206, Result.andThen]
theorem ta_rep3 (u : Value) (W : World) : (Instr.typeAssert (.iface 209 u) 20 209 true).run Tryz.prog W = .ok (.tuple #[u, .bool true]) W := by
  simp [Instr.typeAssert, Sem.run_bind, run_underlying Tryz.underlying209, Result.andThen]
theorem ta_any1' (u : Value) (W : World) : (Instr.typeAssert (.iface 202 u) 20 204 true).run Tryz.prog W = .ok (.tuple #[.agg #[.bool false, .bool false, .slice none 0 0], .bool false]) W := by
  simp [Instr.typeAssert, Sem.run_bind, run_underlying Tryz.underlying204, Tryz.zeroValue204, Result.andThen]
theorem ta_any2 (u : Value) (W : World) : (Instr.typeAssert (.iface 202 u) 20 206 true).run Tryz.prog W = .ok (.tuple #[.agg #[.slice none 0 0], .bool false]) W := by
  simp [Instr.typeAssert, Sem.run_bind, run_underlying Tryz.underlying206, Tryz.zeroValue206, Result.andThen]
theorem ta_any3 (u : Value) (W : World) : (Instr.typeAssert (.iface 202 u) 20 209 true).run Tryz.prog W = .ok (.tuple #[.agg #[.nilIface, .bool false, .bool false], .bool false]) W := by
  simp [Instr.typeAssert, Sem.run_bind, run_underlying Tryz.underlying209, Tryz.zeroValue209, Result.andThen]
theorem ta_any4 (u : Value) (W : World) : (Instr.typeAssert (.iface 202 u) 20 202 false).run Tryz.prog W = .ok u W := by
  simp [Instr.typeAssert, Sem.run_bind, run_underlying Tryz.underlying202, Result.andThen]
abbrev Z1 : Obj := .cells #[.bool false, .bool false, .slice none 0 0] 204
abbrev Z2 : Obj := .cells #[.slice none 0 0] 206
abbrev Z3 : Obj := .cells #[.nilIface, .bool false, .bool false] 209
set_option maxHeartbeats 4000000 in
set_option maxRecDepth 100000 in
theorem build_one (p : Nat) (text : ByteArray) (first : Int) (s : PSet) (iA : Option Addr) (iC : Nat) (zs : List (Stp × Lst)) (A : Option Addr) (c : Nat) (th : Nat) (w : World) (h : BldAt lo w p text zs A c first)
    (hr : Row w iA s.items.length 2 (ics s.items)) (hP : ∀ B o, iA = some ⟨B, o, none⟩ → s.items ≠ [] → lo ≤ B ∧ B < p) (hni : s.items.length ≤ 1000000) (hsz : zs.length + 1 ≤ 100000) :
    Calls Tryz.prog 136 #[.pointer (some ⟨p, 0, none⟩), .iface 204 (setV s iA s.items.length iC), .int .i64 th] w (BldPost lo p text first zs th (.one s) w) := by
  have hp := lt_of_blk h.pb
  obtain ⟨W0, hW0⟩ : ∃ W0, W0 = w.alloc (.cells #[.bool s.all, .bool s.neg, .slice iA s.items.length iC] 204) := ⟨_, rfl⟩
  have g0 : Gr w W0 := by rw [hW0]; exact gr_alloc _ _ _
  have hb0 : W0.heap[w.heap.size]? = some (.cells #[.bool s.all, .bool s.neg, .slice iA s.items.length iC] 204 (0, 0)) := by rw [hW0]; exact blk_new _ _
  have f0 : BFr p w W0 := bfr_gr (Nat.le_of_lt hp) g0
  have h0 := bld_gr h g0
  have hadd := add_any p text zs A c first (⟨s, true, (th : Int), 0⟩, ⟨iA, s.items.length, iC⟩) W0 (by omega) h0 (it_same ⟨rfl, hr, hP, hni⟩ f0.size f0.low)
  unfold aggV at hadd
  simp only at hadd
  have k0 : W0.cell? ⟨w.heap.size, 0, none⟩ = some (.bool s.all) := blk_cell hb0 rfl
  have k1 : W0.cell? ⟨w.heap.size, 1, none⟩ = some (.bool s.neg) := blk_cell hb0 rfl
  have k2 : W0.cell? ⟨w.heap.size, 2, none⟩ = some (.slice iA s.items.length iC) := blk_cell hb0 rfl
  have ta := ta_one (.agg #[.bool s.all, .bool s.neg, .slice iA s.items.length iC])
  replace hadd := Lib.hid hadd
  replace h := Lib.hid h
  replace h0 := Lib.hid h0
  replace f0 := Lib.hid f0
  replace g0 := Lib.hid g0
  replace hb0 := Lib.hid hb0
  unfold setV
  go_enter Tryz.func136, Tryz.ntmps136
  go_upto_region 2 with fail
  rw [← hW0]
  replace hW0 := Lib.hid hW0
  go_wp2_with fail
  refine hadd.out.mono ?_
  rintro e w2 ⟨rfl, A2, c2, h2, f2⟩
  go_wp2
  go_ret
  refine ⟨zs.length, _, A2, c2, rfl, h2, bfr_trans f0.out f2, by simp, by simp [tsize], snoc_get, ?_⟩
  exact ⟨Nat.le_refl _, by simp, 0, snoc_last _ _⟩
set_option maxHeartbeats 4000000 in
set_option maxRecDepth 100000 in
theorem build_rep (p : Nat) (text : ByteArray) (first : Int) (vt : TypeId) (vu : Value) (x : T) (nn ag : Bool) (ih : BldC lo p text first (.iface vt vu) x)
    (zs : List (Stp × Lst)) (A : Option Addr) (c : Nat) (th : Nat) (w : World) (h : BldAt lo w p text zs A c first) (ht : Tv (fun k => lo ≤ k ∧ k < p) w (.iface vt vu) x) (hsz : zs.length + tsize x + 2 ≤ 100000) :
    Calls Tryz.prog 136 #[.pointer (some ⟨p, 0, none⟩), .iface 209 (.agg #[.iface vt vu, .bool nn, .bool ag]), .int .i64 th] w (BldPost lo p text first zs th (.rep x nn ag) w) := by
  have hp := lt_of_blk h.pb
  obtain ⟨W0, hW0⟩ : ∃ W0, W0 = ((w.alloc Z1).alloc Z2).alloc (.cells #[.iface vt vu, .bool nn, .bool ag] 209) := ⟨_, rfl⟩
  have g0 : Gr w W0 := by rw [hW0]; exact gr_trans (gr_trans (gr_alloc _ _ _) (gr_alloc _ _ _)) (gr_alloc _ _ _)
  have hb0 : W0.heap[w.heap.size + 1 + 1]? = some (.cells #[.iface vt vu, .bool nn, .bool ag] 209 (0, 0)) := by
    rw [hW0]
    have := blk_new ((w.alloc Z1).alloc Z2) (.cells #[.iface vt vu, .bool nn, .bool ag] 209)
    have e : ((w.alloc Z1).alloc Z2).heap.size = w.heap.size + 1 + 1 := by simp
    rw [e] at this
    exact this
  have f0 : BFr p w W0 := bfr_gr (Nat.le_of_lt hp) g0
  have h0 := bld_gr h g0
  have hag := again_any p text first vt vu x nn ag ih zs A c th W0 h0 (tv_same f0.size (fun k hk => f0.low k hk.2) ht) hsz
  have k0 : W0.cell? ⟨w.heap.size + 1 + 1, 0, none⟩ = some (.iface vt vu) := blk_cell hb0 rfl
  have k1 : W0.cell? ⟨w.heap.size + 1 + 1, 1, none⟩ = some (.bool nn) := blk_cell hb0 rfl
  have k2 : W0.cell? ⟨w.heap.size + 1 + 1, 2, none⟩ = some (.bool ag) := blk_cell hb0 rfl
  have t1 := ta_rep1 (.agg #[.iface vt vu, .bool nn, .bool ag])
  have t2 := ta_rep2 (.agg #[.iface vt vu, .bool nn, .bool ag])
  have t3 := ta_rep3 (.agg #[.iface vt vu, .bool nn, .bool ag])
  replace hag := Lib.hid hag
  replace h := Lib.hid h
  replace h0 := Lib.hid h0
  replace f0 := Lib.hid f0
  replace g0 := Lib.hid g0
  replace hb0 := Lib.hid hb0
  replace ht := Lib.hid ht
  replace ih := Lib.hid ih
  go_enter Tryz.func136, Tryz.ntmps136
  go_upto_region 13 with fail
  rw [← hW0]
  replace hW0 := Lib.hid hW0
  go_wp2_with fail
  refine hag.out.mono ?_
  rintro e w2 ⟨a, zs2, A2, c2, rfl, h2, f2, hl2, hs2, hpre2, hfr2⟩
  go_wp2
  go_ret
  exact ⟨a, zs2, A2, c2, rfl, h2, bfr_trans f0.out f2, hl2, hs2, hpre2, hfr2⟩
theorem tsum_len (xs : List T) : xs.length ≤ tsum xs := by
  induction xs with
  | nil => simp
  | cons x xs ih => rw [tsum_cons, List.length_cons]; omega
set_option maxHeartbeats 8000000 in
set_option maxRecDepth 100000 in
theorem build_row (p : Nat) (text : ByteArray) (first : Int) (vA : Option Addr) (vc : Nat) (vs : List Value) (xs : List T) (ih : ∀ (i : Nat) v x, vs[i]? = some v → xs[i]? = some x → BldC lo p text first v x)
    (zs : List (Stp × Lst)) (A : Option Addr) (c : Nat) (th : Nat) (w : World) (h : BldAt lo w p text zs A c first)
    (hr : Row w vA vs.length 1 vs) (hP : ∀ B o, vA = some ⟨B, o, none⟩ → vs ≠ [] → lo ≤ B ∧ B < p) (hl : vs.length = xs.length) (hx : ∀ (i : Nat) v x, vs[i]? = some v → xs[i]? = some x → Tv (fun k => lo ≤ k ∧ k < p) w v x) (hsz : zs.length + tsum xs + 1 ≤ 100000) :
    Calls Tryz.prog 136 #[.pointer (some ⟨p, 0, none⟩), .iface 206 (.agg #[.slice vA vs.length vc]), .int .i64 th] w (BldPost lo p text first zs th (xs.foldl .rowS .row0) w) := by
  have hp := lt_of_blk h.pb
  have hxl := tsum_len xs
  obtain ⟨W0, hW0⟩ : ∃ W0, W0 = (w.alloc Z1).alloc (.cells #[.slice vA vs.length vc] 206) := ⟨_, rfl⟩
  have g0 : Gr w W0 := by rw [hW0]; exact gr_trans (gr_alloc _ _ _) (gr_alloc _ _ _)
  have hb0 : W0.heap[w.heap.size + 1]? = some (.cells #[.slice vA vs.length vc] 206 (0, 0)) := by
    rw [hW0]
    have := blk_new (w.alloc Z1) (.cells #[.slice vA vs.length vc] 206)
    have e : (w.alloc Z1).heap.size = w.heap.size + 1 := by simp
    rw [e] at this
    exact this
  have f0 : BFr p w W0 := bfr_gr (Nat.le_of_lt hp) g0
  have h0 := bld_gr h g0
  have k0 : W0.cell? ⟨w.heap.size + 1, 0, none⟩ = some (.slice vA vs.length vc) := blk_cell hb0 rfl
  have t1 := ta_row1 (.agg #[.slice vA vs.length vc])
  have t2 := ta_row2 (.agg #[.slice vA vs.length vc])
  obtain ⟨n, hn⟩ : ∃ n, n = vs.length := ⟨_, rfl⟩
  rw [← hn] at hW0 hb0 k0 t1 t2 hr hl ⊢
  have hnb : n ≤ 100000 := by omega
  replace hn := Lib.hid hn
  replace hl := Lib.hid hl
  replace h := Lib.hid h
  replace h0 := Lib.hid h0
  replace f0 := Lib.hid f0
  replace g0 := Lib.hid g0
  replace hb0 := Lib.hid hb0
  replace hr := Lib.hid hr
  replace hP := Lib.hid hP
  replace hx := Lib.hid hx
  replace ih := Lib.hid ih
  go_enter Tryz.func136, Tryz.ntmps136
  go_upto_region 5 with fail
  rw [← hW0]
  replace hW0 := Lib.hid hW0
  go_wp2
  go_loopw [2, 39] (fun tv kv wr => ∃ (k th' : Nat) (zs' : List (Stp × Lst)) (A' : Option Addr) (c' : Nat), k ≤ n ∧ kv = .int .i64 k ∧ tv = .int .i64 th' ∧ Hid (BldAt lo wr p text zs' A' c' first) ∧ Hid (BFr p W0 wr) ∧ zs.length ≤ zs'.length ∧ zs'.length ≤ zs.length + tsum (xs.drop (n - k)) ∧ Hid (∀ i, i < zs.length → zs'[i]? = zs[i]?) ∧ Hid (FragL (zs'.map (·.1)) zs.length zs'.length (xs.drop (n - k)) th' th)) (fun _ k _ => n - (intOf k).toNat)
  case atStart =>
    have e : xs.drop n = [] := List.drop_of_length_le (by rw [hl.out]; exact Nat.le_refl _)
    exact ⟨0, th, zs, A, c, Nat.zero_le _, rfl, rfl, h0, Lib.hid (bfr_refl _ _), Nat.le_refl _, by omega, Lib.hid (fun _ _ => rfl), Lib.hid (by rw [Nat.sub_zero, e]; rfl)⟩
  case round =>
    obtain ⟨k, th', zs', A', c', hk, rfl, rfl, h1, f1, hl1, hs1, hpre, hfl⟩ := hrel
    have hb1 := f1.out.typed _ _ _ _ hb0.out (by decide) (by omega)
    have kK : wr.cell? ⟨w.heap.size + 1, 0, none⟩ = some (.slice vA n vc) := blk_cell hb1 rfl
    by_cases hlt : k < n
    · obtain ⟨j, hj⟩ : ∃ j, j = n - 1 - k := ⟨_, rfl⟩
      have hjn : j < n := by omega
      have hki : (k : Int) < (n : Int) := by omega
      have hji : (n : Int) - 1 - (k : Int) = (j : Int) := by omega
      have hji0 : (0 : Int) ≤ (j : Int) := by omega
      have hji1 : (j : Int) < (n : Int) := by omega
      obtain ⟨v, hv⟩ : ∃ v, vs[j]? = some v := ⟨_, List.getElem?_eq_getElem (by rw [← hn.out]; exact hjn)⟩
      obtain ⟨x, hxj⟩ : ∃ x, xs[j]? = some x := ⟨_, List.getElem?_eq_getElem (by rw [← hl.out]; exact hjn)⟩
      have hrw := row_same (P := fun k => k < p) hr.out (Nat.le_trans f0.out.size f1.out.size) (fun q hq => (f1.out.low q hq).trans (f0.out.low q hq)) (fun B o e ne => (hP.out B o e ne).2)
      obtain ⟨B, o, rfl, hB, hc⟩ := hrw.2 j v hv
      have htv := tv_same (Nat.le_trans f0.out.size f1.out.size) (fun q hq => (f1.out.low q hq.2).trans (f0.out.low q hq.2)) (hx.out j v x hv hxj)
      have hts := tsum_drop hxj
      have e1 : j + 1 = n - k := by omega
      rw [e1] at hts
      have htl := tsum_drop_le xs j
      have hB := ih.out j v x hv hxj zs' A' c' th' wr h1.out htv (by omega)
      have hd : xs.drop j = x :: xs.drop (n - k) := by
        obtain ⟨q1, q2⟩ := List.getElem?_eq_some_iff.1 hxj
        rw [List.drop_eq_getElem_cons q1, q2, e1]
      replace hB := Lib.hid hB
      replace hv := Lib.hid hv
      replace hxj := Lib.hid hxj
      replace hd := Lib.hid hd
      replace hj := Lib.hid hj
      replace hrw := Lib.hid hrw
      replace htv := Lib.hid htv
      replace hb1 := Lib.hid hb1
      replace e1 := Lib.hid e1
      replace hts := Lib.hid hts
      go_wp2_with fail
      refine hB.out.mono ?_
      rintro e w2 ⟨a, zs2, A2, c2, rfl, h2, f2, hl2, hs2, hpre2, hfr2⟩
      have e2 : n - (k + 1) = j := by have := hj.out; omega
      have hts2 := hts.out
      go_wp2
      go_roundw
      case rel => exact ⟨k + 1, a, zs2, A2, c2, by omega, by go_num, rfl, Lib.hid h2, Lib.hid (bfr_trans f1.out f2), by omega, by rw [e2]; omega, Lib.hid (fun i hi => (hpre2 i (by omega)).trans (hpre.out i hi)), Lib.hid (by
        rw [e2, hd.out]
        exact ⟨th', frag_mono hl1 (Nat.le_refl _) (fun _ _ _ => rfl) _ _ _ hfr2, fragL_mono (Nat.le_refl _) hl2 (fun i _ hi => map_get (hpre2 i hi)) _ _ _ hfl.out⟩)⟩
      case measure => simp [intOf]; omega
    · obtain rfl : k = n := by omega
      have e0 : xs.drop (k - k) = xs := by rw [Nat.sub_self]; rfl
      have hfr := fragL_row xs .row0 th' th' th rfl (by have := hfl.out; rwa [e0] at this)
      have hs2 : zs'.length ≤ zs.length + tsize (xs.foldl .rowS .row0) := by rw [tsize_row]; rw [e0] at hs1; simp only [tsize]; omega
      replace hfr := Lib.hid hfr
      replace hb1 := Lib.hid hb1
      replace e0 := Lib.hid e0
      go_wp2
      go_ret
      exact ⟨th', zs', A', c', rfl, h1.out, bfr_trans f0.out f1.out, hl1, hs2, hpre.out, hfr.out⟩
end Go.Proofs.YtccmekdmnkmhlaaGreat
namespace Go.Proofs.YtccmekdmnkmhlaaGreat
open Go.RowKit
variable {lo : Nat}

set_option maxRecDepth 100000 in
theorem fld_any1 (A : Option Addr) (n c : Nat) (W : World) : (Instr.field 202 (.agg #[.slice A n c]) 0).run Tryz.prog W = .ok (.slice A n c) W := by
  first
    | kernel_rfl
    | rfl
    | simp [Instr.field, Sem.run_bind, run_underlying Tryz.underlying202, Result.andThen, go_sem]
set_option maxHeartbeats 8000000 in
set_option maxRecDepth 100000 in
theorem build_alt (p : Nat) (text : ByteArray) (first : Int) (vA : Option Addr) (vc m : Nat) (vs : List Value) (x0 : T) (xs : List T) (hm : vs.length = m + 1) (ih : ∀ (i : Nat) v x, vs[i]? = some v → (x0 :: xs)[i]? = some x → BldC lo p text first v x)
    (zs : List (Stp × Lst)) (A : Option Addr) (c : Nat) (th : Nat) (w : World) (h : BldAt lo w p text zs A c first)
    (hr : Row w vA (m + 1) 1 vs) (hP : ∀ B o, vA = some ⟨B, o, none⟩ → vs ≠ [] → lo ≤ B ∧ B < p) (hl : m = xs.length) (hvc : m + 1 ≤ vc) (hx : ∀ (i : Nat) v x, vs[i]? = some v → (x0 :: xs)[i]? = some x → Tv (fun k => lo ≤ k ∧ k < p) w v x) (hsz : zs.length + (tsize x0 + 1 + tsum xs) ≤ 100000) :
    Calls Tryz.prog 136 #[.pointer (some ⟨p, 0, none⟩), .iface 202 (.agg #[.slice vA (m + 1) vc]), .int .i64 th] w (BldPost lo p text first zs th (xs.foldl .altS (.alt1 x0)) w) := by
  have hp := lt_of_blk h.pb
  have hxl := tsum_len xs
  obtain ⟨W0, hW0⟩ : ∃ W0, W0 = ((w.alloc Z1).alloc Z2).alloc Z3 := ⟨_, rfl⟩
  have g0 : Gr w W0 := by rw [hW0]; exact gr_trans (gr_trans (gr_alloc _ _ _) (gr_alloc _ _ _)) (gr_alloc _ _ _)
  have f0 : BFr p w W0 := bfr_gr (Nat.le_of_lt hp) g0
  have h0 := bld_gr h g0
  have t1 := ta_any1' (.agg #[.slice vA (m + 1) vc])
  have t2 := ta_any2 (.agg #[.slice vA (m + 1) vc])
  have t3 := ta_any3 (.agg #[.slice vA (m + 1) vc])
  have t4 := ta_any4 (.agg #[.slice vA (m + 1) vc])
  have t5 := fld_any1 vA (m + 1) vc
  have hnb : m ≤ 100000 := by omega
  obtain ⟨v0, hv0⟩ : ∃ v, vs[0]? = some v := ⟨_, List.getElem?_eq_getElem (by omega)⟩
  have hr0 := row_same (P := fun k => k < p) hr f0.size f0.low (fun B o e ne => (hP B o e ne).2)
  obtain ⟨B, o, rfl, hB, hc0⟩ := hr0.2 0 v0 hv0
  rw [Nat.add_zero] at hc0
  have hB0 := ih 0 v0 x0 hv0 rfl zs A c th W0 h0 (tv_same f0.size (fun k hk => f0.low k hk.2) (hx 0 v0 x0 hv0 rfl)) (by omega)
  have hm0 : (0 : Int) < (m : Int) + 1 := by omega
  have hm1 : (1 : Int) ≤ (m : Int) + 1 := by omega
  have hvc1 : (1 : Int) ≤ (vc : Int) := by omega
  have hvc2 : (m : Int) + 1 ≤ (vc : Int) := by omega
  replace hm := Lib.hid hm
  replace hl := Lib.hid hl
  replace h := Lib.hid h
  replace h0 := Lib.hid h0
  replace f0 := Lib.hid f0
  replace g0 := Lib.hid g0
  replace hr := Lib.hid hr
  replace hr0 := Lib.hid hr0
  replace hP := Lib.hid hP
  replace hx := Lib.hid hx
  replace ih := Lib.hid ih
  replace hB0 := Lib.hid hB0
  replace hv0 := Lib.hid hv0
  go_enter Tryz.func136, Tryz.ntmps136
  go_upto_region 15 with fail
  rw [← hW0]
  replace hW0 := Lib.hid hW0
  go_wp2_with fail
  refine hB0.out.mono ?_
  rintro e W1 ⟨a0, zs1, A1, c1, rfl, h1, f1, hl1, hs1, hpre1, hfr1⟩
  replace h1 := Lib.hid h1
  replace f1 := Lib.hid f1
  replace hpre1 := Lib.hid hpre1
  replace hfr1 := Lib.hid hfr1
  clear t1 t2 t3 t4
  go_wp2
  all_goals
    go_loopw [15, 79] (fun av kv wr => ∃ (k at' : Nat) (zs' : List (Stp × Lst)) (A' : Option Addr) (c' : Nat), k ≤ m ∧ kv = .int .i64 k ∧ av = .int .i64 at' ∧ Hid (BldAt lo wr p text zs' A' c' first) ∧ Hid (BFr p W0 wr) ∧ zs.length ≤ zs'.length ∧ zs'.length ≤ zs.length + (tsize x0 + 1 + tsum (xs.take k)) ∧ Hid (∀ i, i < zs.length → zs'[i]? = zs[i]?) ∧ Hid (Frag (zs'.map (·.1)) zs.length zs'.length ((xs.take k).foldl .altS (.alt1 x0)) at' th)) (fun _ k _ => m - (intOf k).toNat)
    case atStart => exact ⟨0, a0, zs1, A1, c1, Nat.zero_le _, rfl, rfl, h1, f1, hl1, by omega, hpre1, hfr1⟩
    case round =>
      obtain ⟨k, at', zs', A', c', hk, rfl, rfl, h2, f2, hl2, hs2, hpre2, hfr2⟩ := hrel
      by_cases hlt : k < m
      · have hki : (k : Int) < (m : Int) := by omega
        have hk0 : (0 : Int) ≤ (k : Int) := by omega
        try (exfalso; omega)
        all_goals
          obtain ⟨v, hv⟩ : ∃ v, vs[k + 1]? = some v := ⟨_, List.getElem?_eq_getElem (by rw [hm.out]; omega)⟩
          obtain ⟨x, hxk⟩ : ∃ x, xs[k]? = some x := ⟨_, List.getElem?_eq_getElem (by rw [← hl.out]; exact hlt)⟩
          have hxk1 : (x0 :: xs)[k + 1]? = some x := by simpa using hxk
          have hrw := row_same (P := fun k => k < p) hr.out (Nat.le_trans f0.out.size f2.out.size) (fun q hq => (f2.out.low q hq).trans (f0.out.low q hq)) (fun B o e ne => (hP.out B o e ne).2)
          obtain ⟨B', o', e', hB', hc⟩ := hrw.2 (k + 1) v hv
          have e2 := Option.some.inj e'
          injection e2 with e3 e4
          subst e3 e4
          have hc2 : wr.cell? ⟨B, o + 1 + k, none⟩ = some v := by rw [show o + 1 + k = o + (k + 1) by omega]; exact hc
          have htv := tv_same (Nat.le_trans f0.out.size f2.out.size) (fun q hq => (f2.out.low q hq.2).trans (f0.out.low q hq.2)) (hx.out (k + 1) v x hv hxk1)
          have hts := tsum_take hxk
          have htl := tsum_take_le xs (k + 1)
          have hBk := ih.out (k + 1) v x hv hxk1 zs' A' c' th wr h2.out htv (by omega)
          have hd : xs.take (k + 1) = xs.take k ++ [x] := by
            obtain ⟨q1, q2⟩ := List.getElem?_eq_some_iff.1 hxk
            rw [List.take_succ_eq_append_getElem q1, q2]
          replace hBk := Lib.hid hBk
          replace hv := Lib.hid hv
          replace hxk := Lib.hid hxk
          replace hxk1 := Lib.hid hxk1
          replace hd := Lib.hid hd
          replace hrw := Lib.hid hrw
          replace htv := Lib.hid htv
          replace hts := Lib.hid hts
          clear hc e'
          go_wp2_with fail
          refine hBk.out.mono ?_
          rintro e w2 ⟨b, zs3, A3, c3, rfl, h3, f3, hl3, hs3, hpre3, hfr3⟩
          have hts2 := hts.out
          have hadd := add_any p text zs3 A3 c3 first (⟨⟨false, false, []⟩, false, (at' : Int), (b : Int)⟩, ⟨none, 0, 0⟩) w2 (by omega) h3 (none_it _ _ _ _ _)
          unfold aggV at hadd
          simp only at hadd
          replace hadd := Lib.hid hadd
          replace h3 := Lib.hid h3
          replace f3 := Lib.hid f3
          replace hpre3 := Lib.hid hpre3
          replace hfr3 := Lib.hid hfr3
          go_wp2_with fail
          refine hadd.out.mono ?_
          rintro e w3 ⟨rfl, A4, c4, h4, f4⟩
          go_wp2
          go_roundw
          case rel => exact ⟨k + 1, zs3.length, _, A4, c4, by omega, by go_num, rfl, Lib.hid h4, Lib.hid (bfr_trans f2.out (bfr_trans f3.out f4)), by simp; omega, by rw [hts2]; simp; omega, Lib.hid (fun i hi => by rw [snoc_get i (by omega), hpre3.out i (by omega)]; exact hpre2.out i hi), Lib.hid (by
            rw [hd.out, List.foldl_append]
            refine ⟨by omega, by simp, at', b, _, snoc_last _ _, frag_mono (Nat.le_refl _) (by simp; omega) (fun i _ hi => map_get ((snoc_get i (by omega)).trans (hpre3.out i hi))) _ _ _ hfr2.out, frag_mono hl2 (by simp) (fun i _ hi => map_get (snoc_get i hi)) _ _ _ hfr3.out⟩)⟩
          case measure => simp [intOf]; omega
      · obtain rfl : k = m := by omega
        have e0 : xs.take k = xs := List.take_of_length_le (by rw [← hl.out]; exact Nat.le_refl _)
        have hfr := hfr2.out
        rw [e0] at hfr hs2
        have hs3 : zs'.length ≤ zs.length + tsize (xs.foldl .altS (.alt1 x0)) := by rw [tsize_alt]; simp only [tsize]; omega
        replace hfr := Lib.hid hfr
        replace e0 := Lib.hid e0
        go_wp2
        go_ret
        exact ⟨at', zs', A', c', rfl, h2.out, bfr_trans f0.out f2.out, hl2, hs3, hpre2.out, hfr.out⟩
theorem tsize_pos (x : T) : 1 ≤ tsize x := by cases x <;> simp [tsize] <;> omega
/-- build, of every tree. -/
theorem build_any (p : Nat) (text : ByteArray) (first : Int) : ∀ (n : Nat) (x : T) (v : Value), tsize x ≤ n → BldC lo p text first v x := by
  intro n
  induction n with
  | zero => intro x v hn; have := tsize_pos x; omega
  | succ n ih =>
    intro x v hn zs A c th w h ht hsz
    cases ht with
    | one hr hP hni => exact build_one p text first _ _ _ zs A c th w h hr hP hni (by simp only [tsize] at hsz; omega)
    | @row A' c' vs xs hr hP hl hc hx =>
      rw [tsize_row] at hn hsz
      simp only [tsize] at hn hsz
      exact build_row p text first A' c' vs xs (fun i v x hv hx' => ih x v (by have := tsum_mem hx'; omega)) zs A c th w h hr hP hl hx (by omega)
    | @alt A' c' vs x0 xs hr hP hl hc hx =>
      rw [tsize_alt] at hn hsz
      simp only [tsize] at hn hsz
      rw [hl] at hr hc ⊢
      refine build_alt p text first A' c' xs.length vs x0 xs hl (fun i v x hv hx' => ih x v ?_) zs A c th w h hr hP rfl hc hx (by omega)
      cases i with
      | zero =>
        obtain rfl : x0 = x := by simpa using hx'
        omega
      | succ i =>
        have := tsum_mem (xs := xs) (k := i) (by simpa using hx')
        omega
    | @rep v x nn ag hv =>
      obtain ⟨vt, vu, rfl⟩ := tv_one hv
      simp only [tsize] at hn hsz
      exact build_rep p text first vt vu x nn ag (ih x _ (by omega)) zs A c th w h hv (by omega)
end Go.Proofs.YtccmekdmnkmhlaaGreat
namespace Go.Proofs.YtccmekdmnkmhlaaGreat
open Go.RowKit

/-- A pattern in memory, behind lo. -/
def PatIn (lo : Nat) (w : World) (p : Nat) (l : List UInt8) (x : T) : Prop := ∃ (zs : List (Stp × Lst)) (A : Option Addr) (c first : Nat), BldAt lo w p (txt l) zs A c (first : Int) ∧ Mach (zs.map (·.1)) first x ∧ zs.length ≤ 1000 ∧ first < 1000
theorem it_lo {lo lo' : Nat} {w : World} {p : Nat} {z : Stp × Lst} (h : ItOk lo w p z) (hl : lo' ≤ lo) : ItOk lo' w p z := ⟨h.1, h.2.1, fun B o e ne => by have := h.2.2.1 B o e ne; omega, h.2.2.2⟩
theorem pat_lo {lo lo' : Nat} {w : World} {p : Nat} {l : List UInt8} {x : T} (h : PatIn lo w p l x) (hl : lo' ≤ lo) : PatIn lo' w p l x := by
  obtain ⟨zs, A, c, first, h1, h2⟩ := h
  exact ⟨zs, A, c, first, ⟨h1.pb, h1.own, fun z hz => it_lo (h1.it z hz) hl⟩, h2⟩
theorem patIn_gr {lo : Nat} {w w' : World} {p : Nat} {l : List UInt8} {x : T} (h : PatIn lo w p l x) (g : Gr w w') : PatIn lo w' p l x := by
  obtain ⟨zs, A, c, first, h1, h2, h3⟩ := h
  exact ⟨zs, A, c, first, bld_gr h1 g, h2, h3⟩
/-- A pattern is kept where only an elder block turns, or one that is no pattern's. -/
theorem patIn_keep {lo k : Nat} {w w' : World} {p : Nat} {l : List UInt8} {x : T} {cs : Array Value} {t : TypeId} {fr : Nat × Nat} (h : PatIn lo w p l x) (g : w.grownBy w' (some k)) (hk : w.heap[k]? = some (.cells cs t fr)) (ht : t ≠ 173) (ht2 : t ≠ 189) (hlt : k < lo ∨ p < k) : PatIn lo w' p l x := by
  obtain ⟨zs, A, c, first, h1, h2, h3⟩ := h
  refine ⟨zs, A, c, first, ⟨gr_blk g h1.pb (fun e => ?_), h1.own.kept g ?_, fun z hz => ?_⟩, h2, h3⟩
  · have e2 := Option.some.inj e
    subst e2
    have e3 := hk.symm.trans h1.pb
    injection e3 with e4
    injection e4 with _ e5
    exact ht e5
  · rcases h1.own.2 with ⟨hv, _⟩ | ⟨g0, cap, cur, hv, _, hg, _⟩
    · rw [hv]; exact .inl rfl
    · rw [hv]
      refine .inr fun e => ?_
      have e2 : g0 = k := by simpa [Value.ownBlock] using e
      subst e2
      have e3 := hk.symm.trans hg
      injection e3 with e4
      injection e4 with _ e5
      exact ht2 e5
  · obtain ⟨q1, q2, q3, q4⟩ := h1.it z hz
    exact ⟨q1, row_kept (P := fun b => lo ≤ b ∧ b < p) q2 g (fun B o e ne => q3 B o e (ics_ne ne)) (fun b hb e => by have := Option.some.inj e; omega), q3, q4⟩
/-- A pattern in memory. -/
abbrev PatAt (w : World) (p : Nat) (l : List UInt8) (x : T) : Prop := PatIn 0 w p l x
theorem pat_gr {w w' : World} {p : Nat} {l : List UInt8} {x : T} (h : PatAt w p l x) (g : Gr w w') : PatAt w' p l x := patIn_gr h g
def CmpPost (n : Nat) (l : List UInt8) (w : World) (e : Ending) (w' : World) : Prop :=
  Gr w w' ∧ ((40 < (runesOf l).length ∧ e = .returned (.tuple #[.pointer none, .int .i64 1])) ∨ ((runesOf l).length ≤ 40 ∧ (∀ x, pAlt n (runesOf l) ≠ some (x, [])) ∧ e = .returned (.tuple #[.pointer none, .int .i64 2])) ∨
    ((runesOf l).length ≤ 40 ∧ ∃ p x, pAlt n (runesOf l) = some (x, []) ∧ w.heap.size ≤ p ∧ e = .returned (.tuple #[.pointer (some ⟨p, 0, none⟩), .int .i64 0]) ∧ PatAt w' p l x))
def CmpIn (n : Nat) (l : List UInt8) (w : World) (e : Ending) (w' : World) : Prop :=
  Gr w w' ∧ ((40 < (runesOf l).length ∧ e = .returned (.tuple #[.pointer none, .int .i64 1])) ∨ ((runesOf l).length ≤ 40 ∧ (∀ x, pAlt n (runesOf l) ≠ some (x, [])) ∧ e = .returned (.tuple #[.pointer none, .int .i64 2])) ∨
    ((runesOf l).length ≤ 40 ∧ ∃ p x, pAlt n (runesOf l) = some (x, []) ∧ w.heap.size ≤ p ∧ e = .returned (.tuple #[.pointer (some ⟨p, 0, none⟩), .int .i64 0]) ∧ PatIn w.heap.size w' p l x))
theorem gr_out {w w1 w2 : World} {R : Nat} (h : Gr w w1) (g : w1.grownBy w2 (some R)) (hR : w.heap.size ≤ R) : Gr w w2 :=
  ⟨g.os.trans h.os, g.tape.trans h.tape, g.output.trans h.output, Nat.le_trans h.size g.size, fun k hk hr => (g.block k (Nat.lt_of_lt_of_le hk h.size) (fun e => by have := Option.some.inj e; omega)).trans (h.block k hk hr)⟩
set_option maxHeartbeats 4000000 in
set_option maxRecDepth 100000 in
theorem compile_in (n : Nat) (hn : 123 ≤ n) (l : List UInt8) (w : World) (hl : l.length ≤ 1000000) : Calls Tryz.prog 121 #[.string (txt l)] w (CmpIn n l w) := by
  have hrm : (chunks l).map runeV = (runesOf l).map (.int .i32) := by unfold runesOf; rw [List.map_map]; rfl
  have hrl := runes_len l
  have hok : ∀ r ∈ runesOf l, RuneOk r := fun r hr => runes_ok hr
  have hle := runes_le l
  go_enter Tryz.func121, Tryz.ntmps121
  go_wp2_with fail
  refine (spell_any l _ (by omega)).mono ?_
  rintro e W1 ⟨v, rfl, hown, g1⟩
  rw [hrm, ← hrl] at hown
  obtain ⟨A, c, rfl, _, _⟩ := own_open hown
  have hrow := row_own hown
  have hcap : (runesOf l).length ≤ c := by
    rcases hown.2 with ⟨hv, hz⟩ | ⟨g, cap, cur, hv, _, _, hz, _⟩
    · injection hv with _ h2 h3; omega
    · injection hv with _ h2 h3; omega
  have hBlt : ∀ B o, A = some ⟨B, o, none⟩ → B < W1.heap.size := fun B o e => (hown.lt B (by rw [e]; rfl)).2
  obtain ⟨rs, hrs⟩ : ∃ rs, rs = runesOf l := ⟨_, rfl⟩
  rw [← hrs] at hrow hcap hok hle hrl ⊢
  obtain ⟨N, hN⟩ : ∃ N, N = rs.length := ⟨_, rfl⟩
  rw [← hN] at hrow hcap hle ⊢
  clear hrm hrl hown
  replace hrs := Lib.hid hrs
  replace hN := Lib.hid hN
  by_cases hbig : 40 < N
  · have hbi : (40 : Int) < (N : Int) := by omega
    replace hrow := Lib.hid hrow
    go_wp2
    go_ret2
    unfold CmpIn
    rw [← hrs.out]
    exact ⟨g1, .inl ⟨by have := hN.out; omega, rfl⟩⟩
  have hbi : ((40 : Int) < (N : Int)) = False := by simp; omega
  obtain ⟨W2, hW2⟩ : ∃ W2, W2 = W1.alloc (.cells #[.slice A N c, .bool false] 182) := ⟨_, rfl⟩
  have g2 : Gr W1 W2 := by rw [hW2]; exact gr_alloc _ _ _
  have hb2 : W2.heap[W1.heap.size]? = some (.cells #[.slice A N c, .bool false] 182 (0, 0)) := by rw [hW2]; exact blk_new _ _
  have hs2 : W1.heap.size + 1 ≤ W2.heap.size := lt_of_blk hb2
  have hrd : RdAt (W1.heap.size + 1) W2 W1.heap.size rs false := ⟨by omega, hok, A, c, by rw [← hN.out]; exact hb2, by rw [← hN.out]; exact row_gr hrow g2, by rw [← hN.out]; exact hcap, fun _ B o e => by have := hBlt B o e; omega⟩
  have hA := (all_C n).1 (W1.heap.size + 1) W1.heap.size rs W2 (by have := hN.out; omega) (by have := hN.out; omega) hs2 hrd
  replace hrow := Lib.hid hrow
  replace hA := Lib.hid hA
  replace hb2 := Lib.hid hb2
  replace hrd := Lib.hid hrd
  replace hok := Lib.hid hok
  clear hBlt
  go_wp2_with fail
  have hchg : ∀ (Q : Ending → World → Prop), Calls Tryz.prog 134 #[.pointer (some ⟨W1.heap.size, 0, none⟩)] W2 Q → Calls Tryz.prog 134 #[.pointer (some ⟨W1.heap.size, 0, none⟩)] (W1.alloc (.cells #[.slice A N c, .bool false] 182)) Q := fun Q h => by rw [← hW2]; exact h
  refine hchg _ ?_
  clear hchg
  refine hA.out.mono ?_
  rintro e W3 ⟨tv, l3, bad3, rfl, hif, hr3, hl3, g3, hor⟩
  have G3 : Gr w W3 := gr_out (gr_trans g1 g2) g3 g1.size
  obtain ⟨k31, _⟩ := rd_c1 hr3
  have k30 : ∃ A3 c3, W3.cell? ⟨W1.heap.size, 0, none⟩ = some (.slice A3 l3.length c3) := by
    obtain ⟨_, _, A3, c3, q1, _⟩ := hr3
    exact ⟨A3, c3, blk_cell q1 rfl⟩
  obtain ⟨A3, c3, k30⟩ := k30
  replace hW2 := Lib.hid hW2
  replace hr3 := Lib.hid hr3
  replace g3 := Lib.hid g3
  replace g1 := Lib.hid g1
  replace g2 := Lib.hid g2
  cases bad3 with
  | true =>
    have hno : ∀ x, pAlt n rs ≠ some (x, []) := fun x hx => by
      rcases hor with ⟨e, _⟩ | ⟨_, h | h⟩
      · cases e
      · cases h
      · rw [h] at hx; cases hx
    replace hno := Lib.hid hno
    clear hor
    go_wp2
    go_ret2
    unfold CmpIn
    rw [← hrs.out]
    exact ⟨G3, .inr (.inl ⟨by have := hN.out; omega, hno.out, rfl⟩)⟩
  | false =>
    obtain ⟨x, hx, htv⟩ : ∃ x, pAlt n rs = some (x, l3) ∧ Tv (fun k => W2.heap.size ≤ k ∧ k < W3.heap.size) W3 tv x := by
      rcases hor with ⟨_, _, x, h1, h2⟩ | ⟨e, _⟩
      · exact ⟨x, h1, h2⟩
      · cases e
    clear hor
    cases l3 with
    | cons d t3 =>
      have hno : ∀ x, pAlt n rs ≠ some (x, []) := fun y hy => by rw [hx] at hy; cases hy
      have hd0 : (0 : Int) < ((d :: t3).length : Int) := by have : (d :: t3).length = t3.length + 1 := rfl
                                                            omega
      generalize (d :: t3).length = q at *
      replace hno := Lib.hid hno
      replace hx := Lib.hid hx
      replace htv := Lib.hid htv
      go_wp2
      go_ret2
      unfold CmpIn
      rw [← hrs.out]
      exact ⟨G3, .inr (.inl ⟨by have := hN.out; omega, hno.out, rfl⟩)⟩
    | nil =>
      obtain ⟨W4, hW4⟩ : ∃ W4, W4 = W3.alloc (.cells #[.string (txt l), .slice none 0 0, .int .i64 0] 173) := ⟨_, rfl⟩
      have g4 : Gr W3 W4 := by rw [hW4]; exact gr_alloc _ _ _
      have hb4 : W4.heap[W3.heap.size]? = some (.cells #[.string (txt l), .slice none 0 0, .int .i64 0] 173 (0, 0)) := by rw [hW4]; exact blk_new _ _
      have h4 : BldAt w.heap.size W4 W3.heap.size (txt l) [] none 0 0 := ⟨hb4, World.ownsRow_nil _ _ _ _, by simp⟩
      have hadd := add_any W3.heap.size (txt l) [] none 0 0 (⟨⟨false, false, []⟩, false, (-1 : Int), (-1 : Int)⟩, ⟨none, 0, 0⟩) W4 (by simp) h4 (none_it _ _ _ _ _)
      unfold aggV at hadd
      simp only at hadd
      have htv4 := tv_keep g4 (fun k _ e => by cases e) htv
      have hsz := pAlt_size hx
      rw [← hN.out] at hsz
      replace hadd := Lib.hid hadd
      replace h4 := Lib.hid h4
      replace hb4 := Lib.hid hb4
      replace hx := Lib.hid hx
      replace htv := Lib.hid htv
      replace htv4 := Lib.hid htv4
      replace g4 := Lib.hid g4
      obtain ⟨vt, vu, rfl⟩ := hif
      go_wp2_with fail
      have hchg : ∀ (Q : Ending → World → Prop) args, Calls Tryz.prog 135 args W4 Q → Calls Tryz.prog 135 args (W3.alloc (.cells #[.string (txt l), .slice none 0 0, .int .i64 0] 173)) Q := fun Q args h => by rw [← hW4]; exact h
      refine hchg _ _ ?_
      clear hchg
      replace hW4 := Lib.hid hW4
      refine hadd.out.mono ?_
      rintro e W5 ⟨rfl, A5, c5, h5, f5⟩
      have htv5 := tv_same (P := fun k => w.heap.size ≤ k ∧ k < W3.heap.size) f5.size (fun k hk => f5.low k hk.2) (tv_sub (fun k hk => ⟨Nat.le_trans (Nat.le_trans g1.out.size g2.out.size) hk.1, hk.2⟩) htv4.out)
      have hB := build_any W3.heap.size (txt l) 0 (tsize x) x _ (Nat.le_refl _) _ A5 c5 0 W5 h5 htv5 (by simp; omega)
      replace hB := Lib.hid hB
      replace h5 := Lib.hid h5
      replace f5 := Lib.hid f5
      replace htv5 := Lib.hid htv5
      go_wp2_with fail
      refine hB.out.mono ?_
      rintro e W6 ⟨at', zs, A6, c6, rfl, h6, f6, hl6, hs6, hpre6, hfr6⟩
      have k6 : W6.cell? ⟨W3.heap.size, 2, none⟩ = some (.int .i64 0) := blk_cell h6.pb rfl
      have q6 : W6.frozen? ⟨W3.heap.size, 2, none⟩ = false := blk_free h6.pb 2
      have hp6 : W3.heap.size < W6.heap.size := lt_of_blk h6.pb
      have gset : W6.grownBy (W6.setCell ⟨W3.heap.size, 2, none⟩ (.int .i64 at')) (some W3.heap.size) := gr_set W6 ⟨W3.heap.size, 2, none⟩ _
      have f7 : BFr W3.heap.size W6 (W6.setCell ⟨W3.heap.size, 2, none⟩ (.int .i64 at')) := bfr_p (Nat.le_of_lt hp6) gset
      have h7 : BldAt w.heap.size (W6.setCell ⟨W3.heap.size, 2, none⟩ (.int .i64 at')) W3.heap.size (txt l) zs A6 c6 (at' : Int) := ⟨blk_set h6.pb 2 (.int .i64 at'), h6.own.kept gset (by
        cases hb : (Value.slice A6 zs.length c6).ownBlock with
        | none => exact .inl rfl
        | some k => exact .inr fun e => by have := (h6.own.lt k hb).1; have := Option.some.inj e; omega), fun z hz => it_same (h6.it z hz) f7.size f7.low⟩
      simp only [List.nil_append, List.length_cons, List.length_nil, Nat.zero_add] at hl6 hs6 hpre6 hfr6
      have hmach : Mach (zs.map (·.1)) at' x := by
        refine ⟨⟨⟨false, false, []⟩, ?_⟩, ?_⟩
        · have := hpre6 0 (by omega)
          rw [List.getElem?_map, this]
          rfl
        · rw [List.length_map]; exact hfr6
      have hfin : Gr w (W6.setCell ⟨W3.heap.size, 2, none⟩ (.int .i64 at')) := by
        have hf : BFr W3.heap.size W4 (W6.setCell ⟨W3.heap.size, 2, none⟩ (.int .i64 at')) := bfr_trans f5.out (bfr_trans f6 f7)
        have hg : Gr W3 (W6.setCell ⟨W3.heap.size, 2, none⟩ (.int .i64 at')) := ⟨hf.os.trans g4.out.os, hf.tape.trans g4.out.tape, hf.output.trans g4.out.output, Nat.le_trans g4.out.size hf.size, fun k hk hr => (hf.low k hk).trans (g4.out.block k hk hr)⟩
        exact gr_trans G3 hg
      have hfirst : at' < 1000 ∨ 1000 ≤ at' := by omega
      have hpat : PatIn w.heap.size (W6.setCell ⟨W3.heap.size, 2, none⟩ (.int .i64 at')) W3.heap.size l x := ⟨zs, A6, c6, at', h7, hmach, by omega, frag_at hmach (by rw [List.length_map]; omega)⟩
      have hw3 : w.heap.size ≤ W3.heap.size := G3.size
      replace hfin := Lib.hid hfin
      replace hpat := Lib.hid hpat
      replace h6 := Lib.hid h6
      replace h7 := Lib.hid h7
      replace f6 := Lib.hid f6
      replace f7 := Lib.hid f7
      replace gset := Lib.hid gset
      replace hmach := Lib.hid hmach
      replace hpre6 := Lib.hid hpre6
      replace hfr6 := Lib.hid hfr6
      clear hfirst
      go_wp2
      go_ret2
      unfold CmpIn
      rw [← hrs.out]
      exact ⟨hfin.out, .inr (.inr ⟨by have := hN.out; omega, _, x, hx.out, hw3, rfl, hpat.out⟩)⟩
theorem compile_any (n : Nat) (hn : 123 ≤ n) (l : List UInt8) (w : World) (hl : l.length ≤ 1000000) : Calls Tryz.prog 121 #[.string (txt l)] w (CmpPost n l w) :=
  (compile_in n hn l w hl).mono fun e w' h => by
    obtain ⟨g, h⟩ := h
    refine ⟨g, ?_⟩
    rcases h with h | h | ⟨h1, p, x, h2, h3, h4, h5⟩
    · exact .inl h
    · exact .inr (.inl h)
    · exact .inr (.inr ⟨h1, p, x, h2, h3, h4, pat_lo h5 (Nat.zero_le _)⟩)
end Go.Proofs.YtccmekdmnkmhlaaGreat
