/-
  Small facts on worlds in which a set of blocks may turn, and on lists of lists that own what they hold. No condition.
-/
import Derived.Test.YtccmekdmnkmhlaaGreatAid
import Derived.Deep.AppendLies
import Derived.Laws.OwnMore
namespace Go.Proofs.YtccmekdmnkmhlaaGreat
open Go.RowKit

/-- Of what was there blocks of S alone may have turned. -/
structure GrS (S : Nat → Prop) (w w' : World) : Prop where
  os : w'.os = w.os
  tape : w'.tape = w.tape
  output : w'.output = w.output
  size : w.heap.size ≤ w'.heap.size
  block : ∀ k, k < w.heap.size → ¬ S k → w'.heap[k]? = w.heap[k]?
theorem grs_refl (S : Nat → Prop) (w : World) : GrS S w w := ⟨rfl, rfl, rfl, Nat.le_refl _, fun _ _ _ => rfl⟩
theorem grs_of {S : Nat → Prop} {w w' : World} {r : Option Nat} (h : w.grownBy w' r) (hr : ∀ k, r = some k → k < w.heap.size → S k) : GrS S w w' :=
  ⟨h.os, h.tape, h.output, h.size, fun k hk hs => h.block k hk (fun e => hs (hr k e.symm hk))⟩
theorem grs_gr {w w' : World} (S : Nat → Prop) (h : Gr w w') : GrS S w w' := grs_of h (by simp)
theorem grs_trans {S : Nat → Prop} {w w1 w2 : World} (h : GrS S w w1) (k : GrS S w1 w2) : GrS S w w2 :=
  ⟨k.os.trans h.os, k.tape.trans h.tape, k.output.trans h.output, Nat.le_trans h.size k.size, fun i hi hs => (k.block i (Nat.lt_of_lt_of_le hi h.size) hs).trans (h.block i hi hs)⟩
theorem grs_then {S : Nat → Prop} {w w1 w2 : World} {r : Option Nat} (h : GrS S w w1) (k : w1.grownBy w2 r) (hr : ∀ k, r = some k → k < w.heap.size → S k) : GrS S w w2 :=
  ⟨k.os.trans h.os, k.tape.trans h.tape, k.output.trans h.output, Nat.le_trans h.size k.size, fun i hi hs => (k.block i (Nat.lt_of_lt_of_le hi h.size) (fun e => hs (hr i e.symm hi))).trans (h.block i hi hs)⟩
theorem grs_sub {S T : Nat → Prop} {w w1 : World} (h : GrS S w w1) (k : ∀ i, i < w.heap.size → S i → T i) : GrS T w w1 :=
  ⟨h.os, h.tape, h.output, h.size, fun i hi hs => h.block i hi (fun e => hs (k i hi e))⟩
theorem below_grs {S : Nat → Prop} {B : Nat} {a w w' : World} (h : Below B a w) (g : GrS S w w') (hB : B ≤ w.heap.size) (hS : ∀ k, S k → B ≤ k) : Below B a w' :=
  ⟨g.os.trans h.os, g.tape.trans h.tape, g.output.trans h.output, Nat.le_trans h.size g.size, fun k hk => (g.block k (Nat.lt_of_lt_of_le hk hB) (fun e => Nat.lt_irrefl _ (Nat.lt_of_lt_of_le hk (hS k e)))).trans (h.block k hk)⟩
theorem grs_blk {S : Nat → Prop} {w w' : World} (h : GrS S w w') {b : Nat} {o : Obj} (hb : w.heap[b]? = some o) (hs : ¬ S b) : w'.heap[b]? = some o :=
  (h.block b (lt_of_blk hb) hs).trans hb
theorem own_grs {S : Nat → Prop} {w w' : World} {base : Nat} {e : TypeId} {size n : Nat} {v : Value} {xs : List Value} (h : w.ownsRow base e size v n xs) (g : GrS S w w') (hs : ∀ k, v.ownBlock = some k → ¬ S k) : w'.ownsRow base e size v n xs := by
  refine ⟨h.1, ?_⟩
  rcases h.2 with hn | ⟨b, cap, cur, rfl, hb, hg, rest⟩
  · exact .inl hn
  · exact .inr ⟨b, cap, cur, rfl, hb, grs_blk g hg (hs b rfl), rest⟩
theorem cell_grs {S : Nat → Prop} {w w' : World} (g : GrS S w w') {a : Addr} {v : Value} (hc : w.cell? a = some v) (hs : ¬ S a.block) : w'.cell? a = some v := by
  have := World.block_lt_of_cell? _ _ hc
  rw [World.cell?_of_block (g.block a.block this hs)]
  exact hc
theorem row_grs {S : Nat → Prop} {w w' : World} {A : Option Addr} {n size : Nat} {xs : List Value} (h : Row w A n size xs) (g : GrS S w w') (hs : ∀ a, A = some a → ¬ S a.block) : Row w' A n size xs :=
  ⟨h.1, fun j u hj => by
    obtain ⟨B, o, e, hb, hc⟩ := h.2 j u hj
    exact ⟨B, o, e, Nat.lt_of_lt_of_le hb g.size, cell_grs g hc (hs ⟨B, o, none⟩ e)⟩⟩

/-- A slice. -/
structure Lst where
  A : Option Addr
  n : Nat
  c : Nat
abbrev Lst.v (l : Lst) : Value := .slice l.A l.n l.c
/-- The blocks that are some list's own. -/
def InL (ls : List Lst) (k : Nat) : Prop := ∃ l ∈ ls, l.v.ownBlock = some k
/-- No two have a block in common. -/
def Parted (ls : List Lst) : Prop := ∀ (i j : Nat) (l m : Lst) (k : Nat), ls[i]? = some l → ls[j]? = some m → l.v.ownBlock = some k → m.v.ownBlock = some k → i = j
/-- List i owns what f says. -/
def Owned (w : World) (e : TypeId) (size : Nat) (ls : List Lst) (f : Nat → Nat → List Value → Prop) : Prop :=
  ∀ (i : Nat) (l : Lst), ls[i]? = some l → ∃ xs, f i l.n xs ∧ w.ownsRow 0 e size l.v l.n xs
theorem in_of {ls : List Lst} {i : Nat} {l : Lst} {k : Nat} (h : ls[i]? = some l) (hk : l.v.ownBlock = some k) : InL ls k := ⟨l, List.mem_of_getElem? h, hk⟩
theorem own_blk {l : Lst} {a : Addr} (h : l.A = some a) : l.v.ownBlock = some a.block := by unfold Lst.v; rw [h]; rfl
/-- Only one of the lists has turned: the others own what they did. -/
theorem own_other {w w' : World} {e : TypeId} {size n : Nat} {ls : List Lst} {i j : Nat} {l m : Lst} {xs : List Value} (hp : Parted ls) (hi : ls[i]? = some l) (hj : ls[j]? = some m) (hij : i ≠ j)
    (h : w.ownsRow 0 e size m.v n xs) (g : w.grownBy w' l.v.ownBlock) : w'.ownsRow 0 e size m.v n xs := by
  refine h.kept g ?_
  cases hb : m.v.ownBlock with
  | none => exact .inl rfl
  | some k => exact .inr fun e' => hij (hp i j l m k hi hj e'.symm hb)
theorem own_row {w : World} {e : TypeId} {size n : Nat} {l : Lst} {xs : List Value} (h : w.ownsRow 0 e size l.v n xs) (hn : l.n = n) : Row w l.A n size xs := by
  subst hn
  exact row_own h
/-- A cell of a kept list is written. -/
theorem own_set {w : World} {e : TypeId} {n c : Nat} {A : Option Addr} {xs : List Value} (h : w.ownsRow 0 e 1 (.slice A n c) n xs) {k : Nat} (hk : k < n) (u : Value) :
    ∃ g, A = some ⟨g, 0, none⟩ ∧ w.frozen? ⟨g, k, none⟩ = false ∧ g < w.heap.size ∧ (w.setCell ⟨g, k, none⟩ u).ownsRow 0 e 1 (.slice A n c) n (xs.set k u) := by
  obtain ⟨g, cap, hv, _, hlt⟩ := h.form (by omega)
  injection hv with h1 h2 h3
  subst h1 h3
  exact ⟨g, rfl, h.frozenAt k, hlt, (h.stored k u).1⟩

/-! ### append, and where the new slice lies: in the old one's block, or in a new one, and then nothing old has turned -/
section
variable {P : Program} (w : World)
theorem run_append_strong (t ty : TypeId) (base : Nat) (e : TypeId) (i : TypeInfo) (z : Value) (size bytes : Nat) (ht : P.underlying t = some (.slice e)) (hi : P.info? e = some i) (hz : i.zero = some z)
    (hsize : i.size = size) (hby : i.bytes = bytes) (hzs : z.cells.size = size) (hsz : 0 < size)
    (v : Value) (n : Nat) (xs : List Value) (hown : w.ownsRow base e size v n xs)
    (ad : Addr) (m c : Nat) (news : List Value) (hl : news.length = m * size) (hnews : ∀ j u, news[j]? = some u → w.cell? (ad.add j) = some u) (h1 : ∀ u ∈ news, u.oneCell' = true)
    (hm : 0 < m) (h63 : n + m ≤ maxLen) (hbytes : (n + m) * bytes ≤ 140737488355328) (hbase : base ≤ w.heap.size) :
    ∃ g cap w', (Builtin.append_ #[t, t] ty #[v, .slice (some ad) m c]).run P w = .ok (.slice (some ⟨g, 0, none⟩) (n + m) cap) w' ∧
      w'.ownsRow base e size (.slice (some ⟨g, 0, none⟩) (n + m) cap) (n + m) (xs ++ news) ∧ ((v.ownBlock = some g ∧ w.grownBy w' (some g)) ∨ (g = w.heap.size ∧ Gr w w')) := by
  obtain ⟨v', w', hr, h2, h3, _, h5⟩ := run_append_own_at (P := P) w base t ty e i z size bytes ht hi hz hsize hby hzs hsz v n xs hown ad m c news hl hnews h1 h63 hbytes hbase
  obtain ⟨g, cap, rfl, _, hlt⟩ := h2.form (by omega)
  refine ⟨g, cap, w', hr, h2, ?_⟩
  subst hsize hby
  rcases hown.2 with ⟨rfl, rfl⟩ | ⟨g0, cap0, cur, rfl, hbg, hg, hnc, hcm, hcs, htake⟩
  · have hr2 := run_append_nil (P := P) w t ty e i z ht hi hz ad m c news hl hnews hm (by unfold maxLen at h63; omega) (by have hb := hbytes; simp only [Nat.zero_add] at hb; omega)
    rw [hr] at hr2
    injection hr2 with h6 h7
    injection h6 with h8
    have h9 := Option.some.inj h8
    injection h9 with h10
    exact .inr ⟨h10, by rw [h7]; exact gr_trans (gr_drew _ _) (gr_alloc _ _ _)⟩
  · by_cases hroom : n + m ≤ cap0
    · have hfit : n * i.size + news.length ≤ cur.size := by rw [hl, hcs, ← Nat.add_mul]; exact Nat.mul_le_mul_right _ hroom
      have hr2 := run_append_room (P := P) w t ty e i ht hi g0 n cap0 cur hg ad m c news hl hnews h1 hroom hfit
      rw [hr] at hr2
      injection hr2 with h6 h7
      injection h6 with h8
      have h9 := Option.some.inj h8
      injection h9 with h10
      subst h10
      exact .inl ⟨rfl, h3⟩
    · have holds : ∀ j u, xs[j]? = some u → w.cell? ((⟨g0, 0, none⟩ : Addr).add j) = some u := hown.cells (g := g0) rfl
      have hr2 := run_append_grow (P := P) w t ty e i z ht hi hz ⟨g0, 0, none⟩ n cap0 xs hown.1 holds ad m c news hl hnews (by omega) (by unfold maxLen at h63; omega) (growslice_fits (by omega) hbytes)
      rw [hr] at hr2
      injection hr2 with h6 h7
      injection h6 with h8
      have h9 := Option.some.inj h8
      injection h9 with h10
      exact .inr ⟨h10, by rw [h7]; exact gr_trans (gr_drew _ _) (gr_alloc _ _ _)⟩
theorem wpList_append_strong {ops : Array Oper} {rest : List Oper} {o : Oper} {a : Act} {Q : Exit → Act → World → Prop} (hgd : o.guard = none) (s x : Operand) (t : TypeId)
    (ho : o.op = .call { callee := .builtin .append, args := #[s, x], argTypes := #[t, t] })
    (base : Nat) (e : TypeId) (i : TypeInfo) (z : Value) (size bytes : Nat) (ht : P.underlying t = some (.slice e)) (hi : P.info? e = some i) (hz : i.zero = some z)
    (hsize : i.size = size) (hby : i.bytes = bytes) (hzs : z.cells.size = size) (hsz : 0 < size)
    (v : Value) (n : Nat) (xs : List Value) (hs : a.eval s = v) (hown : w.ownsRow base e size v n xs)
    (ad : Addr) (m c : Nat) (news : List Value) (hx : a.eval x = .slice (some ad) m c) (hl : news.length = m * size) (hnews : ∀ j u, news[j]? = some u → w.cell? (ad.add j) = some u) (h1 : ∀ u ∈ news, u.oneCell' = true)
    (hm : 0 < m) (N : Nat) (hN : n + m = N) (h63 : N ≤ maxLen) (hbytes : N * bytes ≤ 140737488355328) (hbase : base ≤ w.heap.size)
    (h : ∀ g cap w', w'.ownsRow base e size (.slice (some ⟨g, 0, none⟩) N cap) N (xs ++ news) → ((v.ownBlock = some g ∧ w.grownBy w' (some g)) ∨ (g = w.heap.size ∧ Gr w w')) → wpList P ops Q rest (a.put o.dst (.slice (some ⟨g, 0, none⟩) N cap)) w') : wpList P ops Q (o :: rest) a w := by
  subst hN
  refine wpList_plain hgd fun K hK => ?_
  obtain ⟨g, cap, w', hr, h2, h3⟩ := run_append_strong (P := P) w t o.type base e i z size bytes ht hi hz hsize hby hzs hsz v n xs hown ad m c news hl hnews h1 hm h63 hbytes hbase
  unfold Oper.wp execOp
  simp only [ho, resolve, invoke, builtin, Sem.run_bind, Sem.run_pure, Result.andThen_ok, List.map_toArray, List.map_cons, List.map_nil, hs, hx, hr]
  exact hK _ _ (h g cap w' h2 h3)
end

theorem own_mono {w : World} {base base' : Nat} {e : TypeId} {size : Nat} {v : Value} {n : Nat} {xs : List Value} (h : w.ownsRow base e size v n xs) (hb : base' ≤ base) : w.ownsRow base' e size v n xs :=
  ⟨h.1, h.2.imp id fun ⟨g, cap, cur, h1, h2, h3⟩ => ⟨g, cap, cur, h1, Nat.le_trans hb h2, h3⟩⟩
/-- What owns cells of two types lies in two blocks. -/
theorem own_types {w : World} {b b' : Nat} {e e' : TypeId} {s s' n m : Nat} {u v : Value} {xs ys : List Value} (h : w.ownsRow b e s v n xs) (k : w.ownsRow b' e' s' u m ys) (he : e ≠ e') : v.ownBlock = none ∨ v.ownBlock ≠ u.ownBlock := by
  rcases h.2 with ⟨rfl, _⟩ | ⟨g, cap, cur, rfl, _, hg, _⟩
  · exact .inl rfl
  · right
    rcases k.2 with ⟨rfl, _⟩ | ⟨g', cap', cur', rfl, _, hg', _⟩
    · simp [Value.ownBlock]
    · intro e2
      have : g = g' := by simpa [Value.ownBlock] using e2
      subst this
      rw [hg] at hg'
      injection hg' with h1
      injection h1 with _ h2
      exact he h2
/-- A row is kept where its own block is not the one that turns. -/
theorem row_keep {w w' : World} {r : Option Nat} {A : Option Addr} {n size : Nat} {xs : List Value} (h : Row w A n size xs) (g : w.grownBy w' r) (hr : ∀ a, A = some a → some a.block ≠ r) : Row w' A n size xs :=
  ⟨h.1, fun j u hj => by
    obtain ⟨B, o, e, hb, hc⟩ := h.2 j u hj
    exact ⟨B, o, e, Nat.lt_of_lt_of_le hb g.size, g.cell (a := ⟨B, o + j, none⟩) hc (by have := hr _ e; simpa using this)⟩⟩
theorem row_zero (w : World) (A : Option Addr) (size : Nat) : Row w A 0 size [] := ⟨by simp, fun j u h => by simp at h⟩
theorem own_at0 {w : World} {e : TypeId} {size n b : Nat} {l : Lst} {xs : List Value} (h : w.ownsRow b e size l.v n xs) : ∀ a, l.A = some a → a = ⟨a.block, 0, none⟩ := by
  intro a ha
  rcases h.2 with ⟨hv, _⟩ | ⟨g, cap, cur, hv, _⟩
  · injection hv with h1
    rw [ha] at h1
    cases h1
  · injection hv with h1
    rw [ha] at h1
    rw [Option.some.inj h1]
theorem grs_own {S : Nat → Prop} {w w' : World} {base : Nat} {e : TypeId} {size n : Nat} {v : Value} {xs : List Value} (h : w.ownsRow base e size v n xs) (g : GrS S w w') (hs : ∀ k, S k → v.ownBlock ≠ some k) : w'.ownsRow base e size v n xs :=
  own_grs h g fun k hk hS => hs k hS hk

/-- The same as a step of a region that draws its order. -/
theorem step_append_strong {P : Program} {w : World} {ops : Array Oper} {o : Oper} {a : Act} {K : Act → World → Prop} {Q : Exit → Act → World → Prop} {E : Prop} (hgd : o.guard = none) (s x : Operand) (t : TypeId)
    (ho : o.op = .call { callee := .builtin .append, args := #[s, x], argTypes := #[t, t] })
    (base : Nat) (e : TypeId) (i : TypeInfo) (z : Value) (size bytes : Nat) (ht : P.underlying t = some (.slice e)) (hi : P.info? e = some i) (hz : i.zero = some z)
    (hsize : i.size = size) (hby : i.bytes = bytes) (hzs : z.cells.size = size) (hsz : 0 < size)
    (v : Value) (n : Nat) (xs : List Value) (hs : a.eval s = v) (hown : w.ownsRow base e size v n xs)
    (ad : Addr) (m c : Nat) (news : List Value) (hx : a.eval x = .slice (some ad) m c) (hl : news.length = m * size) (hnews : ∀ j u, news[j]? = some u → w.cell? (ad.add j) = some u) (h1 : ∀ u ∈ news, u.oneCell' = true)
    (hm : 0 < m) (N : Nat) (hN : n + m = N) (h63 : N ≤ maxLen) (hbytes : N * bytes ≤ 140737488355328) (hbase : base ≤ w.heap.size)
    (h : ∀ g cap w', w'.ownsRow base e size (.slice (some ⟨g, 0, none⟩) N cap) N (xs ++ news) → ((v.ownBlock = some g ∧ w.grownBy w' (some g)) ∨ (g = w.heap.size ∧ Gr w w')) → K (a.put o.dst (.slice (some ⟨g, 0, none⟩) N cap)) w') :
    if Region.wanted o (yielded ops a.tmps) = true then Oper.wp P o a w K Q else E := by
  subst hN
  have hw : Region.wanted o (yielded ops a.tmps) = true := by simp [Region.wanted, hgd]
  rw [if_pos hw]
  obtain ⟨g, cap, w', hr, h2, h3⟩ := run_append_strong (P := P) w t o.type base e i z size bytes ht hi hz hsize hby hzs hsz v n xs hown ad m c news hl hnews h1 hm h63 hbytes hbase
  unfold Oper.wp execOp
  simp only [ho, resolve, invoke, builtin, Sem.run_bind, Sem.run_pure, Result.andThen_ok, List.map_toArray, List.map_cons, List.map_nil, hs, hx, hr]
  exact h g cap w' h2 h3
theorem ones_nil {_α : Type} : ∀ u ∈ ([] : List Value), u.oneCell' = true := by simp
end Go.Proofs.YtccmekdmnkmhlaaGreat
