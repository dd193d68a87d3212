/-
  The pattern's machine as it is built: its steps in memory, and what adds one. No condition but that they are few.
-/
import Derived.Test.YthlkcoiaahpmoaaPatAlts
import Derived.Test.YthlkcoiaahpmoaaPatMath5
namespace Go.Proofs.Ythlkcoiaahpmoaa
open Go.RowKit
variable {lo : Nat}

theorem infoStep : (Try.prog.info? 127).map (fun i => (i.zero, i.size, i.bytes)) = some (some (.agg #[.bool false, .bool false, .slice none 0 0, .bool false, .int .i64 0, .int .i64 0]), 6, 56) := by kernel_rfl
def sc (z : Stp × Lst) : List Value := [.bool z.1.s.all, .bool z.1.s.neg, .slice z.2.A z.2.n z.2.c, .bool z.1.rune, .int .i64 z.1.a, .int .i64 z.1.b]
def scs (zs : List (Stp × Lst)) : List Value := zs.flatMap sc
theorem scs_cons (z : Stp × Lst) (zs : List (Stp × Lst)) : scs (z :: zs) = sc z ++ scs zs := rfl
theorem scs_len (zs : List (Stp × Lst)) : (scs zs).length = zs.length * 6 := by
  induction zs with
  | nil => rfl
  | cons z zs ih => rw [scs_cons, List.length_append, ih, List.length_cons]; simp [sc]; omega
theorem scs_append (a b : List (Stp × Lst)) : scs (a ++ b) = scs a ++ scs b := by simp [scs]
theorem scs_get {zs : List (Stp × Lst)} {k : Nat} {z : Stp × Lst} (h : zs[k]? = some z) (j : Nat) (hj : j < 6) : (scs zs)[k * 6 + j]? = (sc z)[j]? := by
  induction zs generalizing k with
  | nil => simp at h
  | cons y ys ih =>
    rw [scs_cons]
    have hl : (sc y).length = 6 := rfl
    cases k with
    | zero =>
      obtain rfl : y = z := by simpa using h
      rw [Nat.zero_mul, Nat.zero_add, List.getElem?_append_left (by rw [hl]; exact hj)]
    | succ k =>
      rw [List.getElem?_append_right (by rw [hl]; omega), hl, show (k + 1) * 6 + j - 6 = k * 6 + j by omega]
      exact ih (by simpa using h)
theorem scs_set {zs : List (Stp × Lst)} {k : Nat} {z : Stp × Lst} (h : zs[k]? = some z) (a : Int) : (scs zs).set (k * 6 + 4) (.int .i64 a) = scs (zs.set k ({ z.1 with a := a }, z.2)) := by
  induction zs generalizing k with
  | nil => simp at h
  | cons y ys ih =>
    have hl : (sc y).length = 6 := rfl
    cases k with
    | zero =>
      obtain rfl : y = z := by simpa using h
      rw [scs_cons, Nat.zero_mul, Nat.zero_add, List.set_append_left _ _ (by rw [hl]; omega)]
      rfl
    | succ k =>
      rw [scs_cons, List.set_append_right _ _ (by rw [hl]; omega), hl, show (k + 1) * 6 + 4 - 6 = k * 6 + 4 by omega, ih (by simpa using h)]
      rfl
/-- A step's set lies below p. -/
def ItOk (lo : Nat) (w : World) (p : Nat) (z : Stp × Lst) : Prop := z.2.n = z.1.s.items.length ∧ Row w z.2.A z.2.n 2 (ics z.1.s.items) ∧ (∀ B o, z.2.A = some ⟨B, o, none⟩ → z.1.s.items ≠ [] → lo ≤ B ∧ B < p) ∧ z.1.s.items.length ≤ 1000000
structure BldAt (lo : Nat) (w : World) (p : Nat) (text : ByteArray) (zs : List (Stp × Lst)) (A : Option Addr) (c : Nat) (first : Int) : Prop where
  pb : w.heap[p]? = some (.cells #[.string text, .slice A zs.length c, .int .i64 first] 111 (0, 0))
  own : w.ownsRow (p + 1) 127 6 (.slice A zs.length c) zs.length (scs zs)
  it : ∀ z ∈ zs, ItOk lo w p z
/-- What building leaves as it was. -/
structure BFr (p : Nat) (w w' : World) : Prop where
  os : w'.os = w.os
  tape : w'.tape = w.tape
  output : w'.output = w.output
  size : w.heap.size ≤ w'.heap.size
  low : ∀ k, k < p → w'.heap[k]? = w.heap[k]?
  typed : ∀ (k : Nat) (cs : Array Value) (ty : TypeId) (fr : Nat × Nat), w.heap[k]? = some (.cells cs ty fr) → ty ≠ 127 → k ≠ p → w'.heap[k]? = some (.cells cs ty fr)
theorem bfr_refl (p : Nat) (w : World) : BFr p w w := ⟨rfl, rfl, rfl, Nat.le_refl _, fun _ _ => rfl, fun _ _ _ _ h _ _ => h⟩
theorem bfr_trans {p : Nat} {w w1 w2 : World} (h : BFr p w w1) (k : BFr p w1 w2) : BFr p w w2 :=
  ⟨k.os.trans h.os, k.tape.trans h.tape, k.output.trans h.output, Nat.le_trans h.size k.size, fun i hi => (k.low i hi).trans (h.low i hi), fun i cs ty fr hi ht hp => k.typed i cs ty fr (h.typed i cs ty fr hi ht hp) ht hp⟩
theorem bfr_gr {p : Nat} {w w' : World} (hp : p ≤ w.heap.size) (g : Gr w w') : BFr p w w' :=
  ⟨g.os, g.tape, g.output, g.size, fun k hk => g.block k (by omega) (by simp), fun k cs ty fr h _ _ => gr_blk g h (by simp)⟩
theorem bfr_step {p q : Nat} {w w' : World} {base n : Nat} {v : Value} {xs : List Value} (hp : p ≤ w.heap.size) (hown : w.ownsRow base 127 6 v n xs) (hv : v.ownBlock = some q) (hpq : p < q) (g : w.grownBy w' (some q)) : BFr p w w' :=
  ⟨g.os, g.tape, g.output, g.size, fun k hk => g.block k (by omega) (fun e => by have := Option.some.inj e; omega), fun k cs ty fr h ht _ => gr_blk g h (fun e => own_not_blk hown h (fun e2 => ht e2.symm) (by rw [hv, e]))⟩
theorem bfr_p {p : Nat} {w w' : World} (hp : p ≤ w.heap.size) (g : w.grownBy w' (some p)) : BFr p w w' :=
  ⟨g.os, g.tape, g.output, g.size, fun k hk => g.block k (by omega) (fun e => by have := Option.some.inj e; omega), fun k cs ty fr h _ hk => gr_blk g h (fun e => hk (Option.some.inj e))⟩
theorem bfr_gr_of {p : Nat} {w w' : World} (h : BFr p w w') (hp : w.heap.size ≤ p) : Gr w w' := ⟨h.os, h.tape, h.output, h.size, fun k hk _ => h.low k (by omega)⟩
/-- A row in blocks that are as they were. -/
theorem row_same {w w' : World} {A : Option Addr} {n size : Nat} {xs : List Value} {P : Nat → Prop} (h : Row w A n size xs) (hs : w.heap.size ≤ w'.heap.size) (hb : ∀ k, P k → w'.heap[k]? = w.heap[k]?) (hP : ∀ B o, A = some ⟨B, o, none⟩ → xs ≠ [] → P B) : Row w' A n size xs := by
  refine ⟨h.1, fun j u hj => ?_⟩
  obtain ⟨B, o, e, hB, hc⟩ := h.2 j u hj
  have hne : xs ≠ [] := fun e => by subst e; simp at hj
  refine ⟨B, o, e, Nat.lt_of_lt_of_le hB hs, ?_⟩
  rw [World.cell?_of_block (hb B (hP B o e hne))]
  exact hc
theorem tv_same {P : Nat → Prop} {w w' : World} (hs : w.heap.size ≤ w'.heap.size) (hb : ∀ k, P k → w'.heap[k]? = w.heap[k]?) {v : Value} {x : T} (h : Tv P w v x) : Tv P w' v x := by
  induction h with
  | one h1 h2 h3 => exact .one (row_same h1 hs hb (fun B o e ne => h2 B o e (ics_ne ne))) h2 h3
  | row h1 h2 h3 h4 _ ih => exact .row (row_same h1 hs hb h2) h2 h3 h4 ih
  | alt h1 h2 h3 h4 _ ih => exact .alt (row_same h1 hs hb h2) h2 h3 h4 ih
  | rep _ ih => exact .rep ih
theorem it_same {w w' : World} {p : Nat} {z : Stp × Lst} (h : ItOk lo w p z) (hs : w.heap.size ≤ w'.heap.size) (hb : ∀ k, k < p → w'.heap[k]? = w.heap[k]?) : ItOk lo w' p z :=
  ⟨h.1, row_same (P := fun k => k < p) h.2.1 hs hb (fun B o e ne => (h.2.2.1 B o e (ics_ne ne)).2), h.2.2⟩
theorem bld_gr {w w' : World} {p : Nat} {text : ByteArray} {zs : List (Stp × Lst)} {A : Option Addr} {c : Nat} {first : Int} (h : BldAt lo w p text zs A c first) (g : Gr w w') : BldAt lo w' p text zs A c first :=
  ⟨gr_blk g h.pb (by simp), h.own.kept g (by cases (Value.slice A zs.length c).ownBlock <;> simp), fun z hz => it_same (h.it z hz) g.size (fun k hk => g.block k (Nat.lt_trans hk (lt_of_blk h.pb)) (by simp))⟩
def aggV (z : Stp × Lst) : Value := .agg #[.bool z.1.s.all, .bool z.1.s.neg, .slice z.2.A z.2.n z.2.c, .bool z.1.rune, .int .i64 z.1.a, .int .i64 z.1.b]
theorem six_new (w : World) (z : Stp × Lst) (t : TypeId) : ∀ (j : Nat) (u : Value), (sc z)[j]? = some u → (w.alloc (.cells (sc z).toArray t)).cell? ((⟨w.heap.size, 0, none⟩ : Addr).add j) = some u := by
  intro j u hj
  have hb := blk_new w (.cells (sc z).toArray t)
  have e : ((⟨w.heap.size, 0, none⟩ : Addr).add j) = ⟨w.heap.size, j, none⟩ := by unfold Addr.add; by_cases h0 : j = 0 <;> simp [h0]
  rw [e]
  exact blk_cell hb (by simpa using hj)
theorem bld_push {W2 W3 : World} {p : Nat} {text : ByteArray} {zs : List (Stp × Lst)} {A : Option Addr} {c : Nat} {first : Int} {z : Stp × Lst} {g cap : Nat} (h : BldAt lo W2 p text zs A c first) (hz : ItOk lo W2 p z)
    (hown : W3.ownsRow (p + 1) 127 6 (.slice (some ⟨g, 0, none⟩) (zs.length + 1) cap) (zs.length + 1) (scs zs ++ sc z)) (hat : ((Value.slice A zs.length c).ownBlock = some g ∧ W2.grownBy W3 (some g)) ∨ (g = W2.heap.size ∧ Gr W2 W3)) :
    W3.heap[p]? = some (.cells #[.string text, .slice A zs.length c, .int .i64 first] 111 (0, 0)) ∧
    BldAt lo (W3.setCell ⟨p, 1, none⟩ (.slice (some ⟨g, 0, none⟩) (zs.length + 1) cap)) p text (zs ++ [z]) (some ⟨g, 0, none⟩) cap first ∧ BFr p W2 (W3.setCell ⟨p, 1, none⟩ (.slice (some ⟨g, 0, none⟩) (zs.length + 1) cap)) := by
  have hpW : p < W2.heap.size := lt_of_blk h.pb
  have hg : p + 1 ≤ g := (hown.lt g rfl).1
  have b1 : BFr p W2 W3 := by
    rcases hat with ⟨e, g1⟩ | ⟨_, g1⟩
    · exact bfr_step (Nat.le_of_lt hpW) h.own e (by omega) g1
    · exact bfr_gr (Nat.le_of_lt hpW) g1
  have g2 : W3.grownBy (W3.setCell ⟨p, 1, none⟩ (.slice (some ⟨g, 0, none⟩) (zs.length + 1) cap)) (some p) := gr_set W3 ⟨p, 1, none⟩ _
  have hp3 : W3.heap[p]? = some (.cells #[.string text, .slice A zs.length c, .int .i64 first] 111 (0, 0)) := by
    rcases hat with ⟨e, g1⟩ | ⟨_, g1⟩
    · exact gr_blk g1 h.pb (fun e2 => by have := Option.some.inj e2; omega)
    · exact gr_blk g1 h.pb (by simp)
  have b2 : BFr p W2 (W3.setCell ⟨p, 1, none⟩ (.slice (some ⟨g, 0, none⟩) (zs.length + 1) cap)) := bfr_trans b1 (bfr_p (by have := b1.size; omega) g2)
  have hl : (zs ++ [z]).length = zs.length + 1 := by simp
  refine ⟨hp3, ⟨?_, ?_, fun y hy => ?_⟩, b2⟩
  · have hb := blk_set hp3 1 (.slice (some ⟨g, 0, none⟩) (zs.length + 1) cap)
    rw [hl]
    exact hb
  · have e : scs (zs ++ [z]) = scs zs ++ sc z := by rw [scs_append]; simp [scs]
    rw [hl, e]
    exact hown.kept g2 (.inr fun e => by have : g = p := Option.some.inj e; omega)
  · rcases List.mem_append.1 hy with hy | hy
    · exact it_same (h.it y hy) b2.size b2.low
    · obtain rfl : y = z := by simpa using hy
      exact it_same hz b2.size b2.low
set_option maxHeartbeats 4000000 in
set_option maxRecDepth 100000 in
theorem add_any (p : Nat) (text : ByteArray) (zs : List (Stp × Lst)) (A : Option Addr) (c : Nat) (first : Int) (z : Stp × Lst) (w : World) (hn : zs.length ≤ 100000) (h : BldAt lo w p text zs A c first) (hz : ItOk lo w p z) :
    Calls Try.prog 74 #[.pointer (some ⟨p, 0, none⟩), aggV z] w fun e w' => e = .returned (.int .i64 zs.length) ∧ ∃ A' c', BldAt lo w' p text (zs ++ [z]) A' c' first ∧ BFr p w w' := by
  obtain ⟨ii, hi, hz0, hz1, hz2⟩ := info_parts infoStep
  have hp := lt_of_blk h.pb
  obtain ⟨W0, hW0⟩ : ∃ W0, W0 = w.alloc (.cells (sc z).toArray 127) := ⟨_, rfl⟩
  have hb0 : W0.heap[w.heap.size]? = some (.cells (sc z).toArray 127 (0, 0)) := by rw [hW0]; exact blk_new _ _
  have g0 : Gr w W0 := by rw [hW0]; exact gr_alloc _ _ _
  have h1 := bld_gr (bld_gr h g0) (gr_drew W0 none)
  have h2 := bld_gr h1 (gr_alloc W0.drew (.cells (sc z).toArray 127) none)
  have hb1 := gr_blk (gr_drew W0 none) hb0 (by simp)
  have hb2 := gr_blk (gr_alloc W0.drew (.cells (sc z).toArray 127) none) hb1 (by simp)
  have s0 : w.heap.size < W0.heap.size := lt_of_blk hb0
  have six := six_new W0.drew z 127
  have hsz : (sc z).length = 6 := rfl
  have hones : ∀ u ∈ sc z, u.oneCell' = true := by
    intro u hu
    simp only [sc, List.mem_cons, List.not_mem_nil, or_false] at hu
    rcases hu with rfl | rfl | rfl | rfl | rfl | rfl <;> rfl
  have hsc : (sc z).toArray = #[.bool z.1.s.all, .bool z.1.s.neg, .slice z.2.A z.2.n z.2.c, .bool z.1.rune, .int .i64 z.1.a, .int .i64 z.1.b] := rfl
  have kp1 : W0.drew.cell? ⟨p, 1, none⟩ = some (.slice A zs.length c) := blk_cell h1.pb rfl
  have kp2 : (W0.drew.alloc (.cells (sc z).toArray 127)).cell? ⟨p, 1, none⟩ = some (.slice A zs.length c) := blk_cell h2.pb rfl
  have kp3 : (W0.alloc (.cells (sc z).toArray 127)).cell? ⟨p, 1, none⟩ = some (.slice A zs.length c) := blk_cell (bld_gr (bld_gr h g0) (gr_alloc W0 (.cells (sc z).toArray 127) none)).pb rfl
  have ks1 : ∀ (j : Nat) u, (sc z)[j]? = some u → W0.drew.cell? ⟨w.heap.size, j, none⟩ = some u := fun j u hj => blk_cell hb1 (by simpa using hj)
  have ka := ks1 0 _ rfl
  have kb := ks1 1 _ rfl
  have kc := ks1 2 _ rfl
  have kd := ks1 3 _ rfl
  have ke := ks1 4 _ rfl
  have kf := ks1 5 _ rfl
  obtain ⟨sz, hsze⟩ : ∃ sz, sz = sc z := ⟨_, rfl⟩
  rw [hsc] at hW0 kp2 kp3 hb2 h2
  replace six := Lib.hid six
  replace h1 := Lib.hid h1
  replace h2 := Lib.hid h2
  replace hb1 := Lib.hid hb1
  replace hb2 := Lib.hid hb2
  replace hb0 := Lib.hid hb0
  replace g0 := Lib.hid g0
  replace h := Lib.hid h
  replace hz := Lib.hid hz
  replace hones := Lib.hid hones
  replace hsz := Lib.hid hsz
  clear ks1 hsc hsze
  unfold aggV
  go_enter Try.func74, Try.ntmps74
  go_wp2_with fail
  rw [← hW0]
  replace hW0 := Lib.hid hW0
  go_region_law (first
    | (refine step_append_strong (o := ⟨some 12, _, _, _, _, _⟩) (by rfl) _ _ 109 (by rfl) (p + 1) 127 ii (.agg #[.bool false, .bool false, .slice none 0 0, .bool false, .int .i64 0, .int .i64 0]) 6 56 Try.underlying109 hi hz0 hz1 hz2 (by decide) (by decide) (.slice A zs.length c) zs.length _ (by rfl) h2.out.own ⟨W0.heap.size, 0, none⟩ 1 1 (sc z) (by rfl) (by rfl) six.out hones.out (by omega) (zs.length + 1) (by rfl) (by unfold maxLen; omega) (by omega) (by simp; omega) ?_
       intro g cap W3 hown3 hat3
       have hb02 : BFr p w (W0.drew.alloc (.cells #[.bool z.1.s.all, .bool z.1.s.neg, .slice z.2.A z.2.n z.2.c, .bool z.1.rune, .int .i64 z.1.a, .int .i64 z.1.b] 127)) := bfr_gr (Nat.le_of_lt hp) (gr_trans (gr_trans g0.out (gr_drew _ _)) (gr_alloc _ _ _))
       have hpush := bld_push h2.out (it_same hz.out hb02.size hb02.low) hown3 hat3
       have k3 : W3.cell? ⟨p, 1, none⟩ = some (.slice A zs.length c) := blk_cell hpush.1 rfl
       have f3 : W3.frozen? ⟨p, 1, none⟩ = false := blk_free hpush.1 1
       replace hpush := Lib.hid hpush
       replace hb02 := Lib.hid hb02
       replace hown3 := Lib.hid hown3
       replace hat3 := Lib.hid hat3))
  all_goals
    obtain ⟨W4, hW4⟩ : ∃ W4, W4 = W3.setCell ⟨p, 1, none⟩ (.slice (some ⟨g, 0, none⟩) (zs.length + 1) cap) := ⟨_, rfl⟩
    have hp4 := hpush.out
    rw [← hW4] at hp4
    have k4 : W4.cell? ⟨p, 1, none⟩ = some (.slice (some ⟨g, 0, none⟩) (zs.length + 1) cap) := by
      have := hp4.2.1.pb
      exact blk_cell (v := .slice (some ⟨g, 0, none⟩) (zs.length + 1) cap) this (by simp)
    replace hp4 := Lib.hid hp4
    rw [← hW4]
    replace hW4 := Lib.hid hW4
    go_wp2
    go_ret
    exact ⟨by first | rfl | (congr 2; omega), _, _, hp4.out.2.1, bfr_trans hb02.out hp4.out.2.2⟩
end Go.Proofs.Ythlkcoiaahpmoaa
