/-
  The document's pattern in memory, while it is read: its parts, its place. No condition.
-/
import Derived.Test.YtccmekdmnkmhlaaGreatSqPatRead
import Derived.Test.YtccmekdmnkmhlaaGreatBookRow
namespace Go.Proofs.YtccmekdmnkmhlaaGreat
open Go.RowKit

/-- A part of the document's pattern. -/
structure Prt where
  k : Int
  r : Int
  lA : Option Addr
  ln : Nat
  lc : Nat
  hA : Option Addr
  hn : Nat
  hc : Nat
  no : Bool
  a : Int
  b : Int
  least : Int
  once : Bool
def prtC (x : Prt) : List Value := [.int .i64 x.k, .int .i32 x.r, .slice x.lA x.ln x.lc, .slice x.hA x.hn x.hc, .bool x.no, .int .i64 x.a, .int .i64 x.b, .int .i64 x.least, .bool x.once]
def prtV (x : Prt) : Value := .agg #[.int .i64 x.k, .int .i32 x.r, .slice x.lA x.ln x.lc, .slice x.hA x.hn x.hc, .bool x.no, .int .i64 x.a, .int .i64 x.b, .int .i64 x.least, .bool x.once]
theorem prtC_len (x : Prt) : (prtC x).length = 9 := rfl
theorem prt_ones (x : Prt) : ∀ u ∈ prtC x, u.oneCell' = true := fun u hu => by
  simp [prtC] at hu
  rcases hu with rfl | rfl | rfl | rfl | rfl | rfl | rfl | rfl | rfl <;> rfl
/-- Part n is this tree. -/
inductive Node (w : World) (ps : List Prt) : Nat → T → Prop
  | zero {n : Nat} {p : Prt} (h : ps[n]? = some p) (hk : p.k = 0) : Node w ps n .row0
  | alt1 {n : Nat} {x : T} (h : Node w ps n x) : Node w ps n (.alt1 x)
  | row {n a b : Nat} {p : Prt} {x y : T} (h : ps[n]? = some p) (hk : p.k = 4) (ha : p.a = (a : Int)) (hb : p.b = (b : Int)) (han : a < n) (hbn : b < n) (hx : Node w ps a x) (hy : Node w ps b y) : Node w ps n (.rowS x y)
  | alt {n a b : Nat} {p : Prt} {x y : T} (h : ps[n]? = some p) (hk : p.k = 5) (ha : p.a = (a : Int)) (hb : p.b = (b : Int)) (han : a < n) (hbn : b < n) (hx : Node w ps a x) (hy : Node w ps b y) : Node w ps n (.altS x y)
  | rep {n a : Nat} {p : Prt} {x : T} {nn ag : Bool} (h : ps[n]? = some p) (hk : p.k = 6) (ha : p.a = (a : Int)) (han : a < n) (hx : Node w ps a x) (hl : p.least = if nn then 0 else 1) (ho : p.once = !ag) (hna : nn = true ∨ ag = true) : Node w ps n (.rep x nn ag)
  | rune {n : Nat} {p : Prt} {c : Int} (h : ps[n]? = some p) (hk : p.k = 1) (hr : p.r = c) : Node w ps n (oneOf c)
  | dot {n : Nat} {p : Prt} (h : ps[n]? = some p) (hk : p.k = 2) : Node w ps n (.one ⟨true, false, []⟩)
  | cls {n : Nat} {p : Prt} {neg : Bool} {its : List (Int × Int)} (h : ps[n]? = some p) (hk : p.k = 3) (hno : p.no = neg) (hln : p.ln = its.length) (hhn : p.hn = its.length)
      (hlo : w.ownsRow 0 21 1 (.slice p.lA p.ln p.lc) its.length (its.map fun z => .int .i32 z.1)) (hhi : w.ownsRow 0 21 1 (.slice p.hA p.hn p.hc) its.length (its.map fun z => .int .i32 z.2)) : Node w ps n (.one ⟨false, neg, its⟩)
theorem node_lt {w : World} {ps : List Prt} {n : Nat} {x : T} (h : Node w ps n x) : n < ps.length := by
  have : ∀ {n : Nat} {p : Prt}, ps[n]? = some p → n < ps.length := fun h => (List.getElem?_eq_some_iff.1 h).1
  induction h with
  | alt1 _ ih => exact ih
  | _ => exact this (by assumption)
theorem pre_at {ps more : List Prt} {n : Nat} {p : Prt} (h : ps[n]? = some p) : (ps ++ more)[n]? = some p := by
  rw [List.getElem?_append_left (List.getElem?_eq_some_iff.1 h).1, h]
theorem new_at (ps : List Prt) (p : Prt) : (ps ++ [p])[ps.length]? = some p := by simp
theorem node_more {w : World} {ps : List Prt} {n : Nat} {x : T} (more : List Prt) (h : Node w ps n x) : Node w (ps ++ more) n x := by
  induction h with
  | zero h hk => exact .zero (pre_at h) hk
  | alt1 _ ih => exact .alt1 ih
  | row h hk ha hb han hbn _ _ ih1 ih2 => exact .row (pre_at h) hk ha hb han hbn ih1 ih2
  | alt h hk ha hb han hbn _ _ ih1 ih2 => exact .alt (pre_at h) hk ha hb han hbn ih1 ih2
  | rep h hk ha han _ hl ho hna ih => exact .rep (pre_at h) hk ha han ih hl ho hna
  | rune h hk hr => exact .rune (pre_at h) hk hr
  | dot h hk => exact .dot (pre_at h) hk
  | cls h hk hno hln hhn hlo hhi => exact .cls (pre_at h) hk hno hln hhn hlo hhi

/-! ### The pattern's block -/
section
variable (X : Nat) (pA : Option Addr) (pc : Nat) (L : Rs)
structure PtAt (w : World) (ps : List Prt) (v : Value) (i : Nat) (bad : Bool) : Prop where
  blk : w.heap[X]? = some (.cells #[v, .int .i64 0, .slice pA L.length pc, .int .i64 i, .bool bad] 170 (0, 0))
  row : Row w pA L.length 1 (L.map (.int .i32))
  low : ∀ a, pA = some a → a.block < X
  own : w.ownsRow (X + 1) 194 9 v ps.length (sR prtC ps)
  ok : ∀ r ∈ L, RuneOk r
/-- What reading may turn: the pattern's block, and that of its parts. -/
structure Adv (v v' : Value) (w w' : World) : Prop where
  gr : GrS (fun k => k = X ∨ v.ownBlock = some k) w w'
  new : ∀ k, v'.ownBlock = some k → k < w.heap.size → v.ownBlock = some k
end
theorem adv_refl (X : Nat) (v : Value) (w : World) : Adv X v v w w := ⟨grs_refl _ _, fun _ h _ => h⟩
theorem adv_trans {X : Nat} {v v1 v2 : Value} {w w1 w2 : World} (h : Adv X v v1 w w1) (k : Adv X v1 v2 w1 w2) : Adv X v v2 w w2 := by
  refine ⟨⟨k.gr.os.trans h.gr.os, k.gr.tape.trans h.gr.tape, k.gr.output.trans h.gr.output, Nat.le_trans h.gr.size k.gr.size, fun b hb hs => ?_⟩, fun b hb hlt => h.new b (k.new b hb (Nat.lt_of_lt_of_le hlt h.gr.size)) hlt⟩
  refine (k.gr.block b (Nat.lt_of_lt_of_le hb h.gr.size) (fun e => hs ?_)).trans (h.gr.block b hb hs)
  rcases e with e | e
  · exact .inl e
  · exact .inr (h.new b e hb)
theorem adv_gr (X : Nat) (v : Value) {w w' : World} (g : Gr w w') : Adv X v v w w' := ⟨grs_gr _ g, fun _ h _ => h⟩
theorem adv_x {X : Nat} (v : Value) {w w' : World} (g : GrB X w w') : Adv X v v w w' := ⟨grs_of g (fun _ hk _ => .inl (Option.some.inj hk).symm), fun _ h _ => h⟩
theorem own_nX {w : World} {X b n s : Nat} {e : TypeId} {xs : List Value} {cs : Array Value} {u : Value} (hb : w.heap[X]? = some (.cells cs 170 (0, 0))) (hu : w.ownsRow b e s u n xs) (he : e ≠ 170) : u.ownBlock ≠ some X := by
  intro h
  rcases hu.2 with ⟨rfl, _⟩ | ⟨g, cap, cur, rfl, _, hg, _⟩
  · cases h
  · have : g = X := by simpa [Value.ownBlock] using h
    subst this
    rw [hb] at hg
    injection hg with hg
    injection hg with _ h2 _
    exact he h2.symm
/-- An own row of runes stays while it is read on. -/
theorem int_adv {X : Nat} {pA : Option Addr} {pc : Nat} {L : Rs} {w w' : World} {ps : List Prt} {v v' u : Value} {i n b : Nat} {bad : Bool} {xs : List Value} (h : PtAt X pA pc L w ps v i bad) (g : Adv X v v' w w') (hu : w.ownsRow b 21 1 u n xs) : w'.ownsRow b 21 1 u n xs := by
  refine own_grs hu g.gr (fun k hk hs => ?_)
  rcases hs with rfl | hs
  · exact own_nX h.blk hu (by decide) hk
  · rcases own_types h.own hu (by decide) with e | e
    · rw [e] at hs; cases hs
    · exact e (hs.trans hk.symm)
theorem node_adv {X : Nat} {pA : Option Addr} {pc : Nat} {L : Rs} {w w' : World} {ps : List Prt} {v v' : Value} {i : Nat} {bad : Bool} (h : PtAt X pA pc L w ps v i bad) (g : Adv X v v' w w') {qs : List Prt} {n : Nat} {x : T} (hn : Node w qs n x) : Node w' qs n x := by
  induction hn with
  | zero h hk => exact .zero h hk
  | alt1 _ ih => exact .alt1 ih
  | row h hk ha hb han hbn _ _ ih1 ih2 => exact .row h hk ha hb han hbn ih1 ih2
  | alt h hk ha hb han hbn _ _ ih1 ih2 => exact .alt h hk ha hb han hbn ih1 ih2
  | rep h hk ha han _ hl ho hna ih => exact .rep h hk ha han ih hl ho hna
  | rune h hk hr => exact .rune h hk hr
  | dot h hk => exact .dot h hk
  | cls hh hk hno hln hhn hlo hhi => exact .cls hh hk hno hln hhn (int_adv h g hlo) (int_adv h g hhi)
theorem rp_lt {X : Nat} {pA : Option Addr} {pc : Nat} {L : Rs} {w : World} {ps : List Prt} {v : Value} {i : Nat} {bad : Bool} (h : PtAt X pA pc L w ps v i bad) : X < w.heap.size := lt_of_blk h.blk
theorem rp_vX {X : Nat} {pA : Option Addr} {pc : Nat} {L : Rs} {w : World} {ps : List Prt} {v : Value} {i : Nat} {bad : Bool} (h : PtAt X pA pc L w ps v i bad) : v.ownBlock ≠ some X := fun e => by have := (h.own.lt X e).1; omega
/-- Nothing old has turned. -/
theorem rp_gr {X : Nat} {pA : Option Addr} {pc : Nat} {L : Rs} {w w' : World} {ps : List Prt} {v : Value} {i : Nat} {bad : Bool} (h : PtAt X pA pc L w ps v i bad) (g : Gr w w') : PtAt X pA pc L w' ps v i bad :=
  ⟨gr_blk g h.blk (by simp), row_gr h.row g, h.low, h.own.kept g (Classical.em _), h.ok⟩
theorem rp_rowB {X : Nat} {pA : Option Addr} {pc : Nat} {L : Rs} {w w' : World} {ps : List Prt} {v : Value} {i : Nat} {bad : Bool} (h : PtAt X pA pc L w ps v i bad) (g : GrB X w w') : Row w' pA L.length 1 (L.map (.int .i32)) :=
  row_keep h.row g (fun a ha e => by have := h.low a ha; have := Option.some.inj e; omega)
/-- The place is set. -/
theorem rp_i {X : Nat} {pA : Option Addr} {pc : Nat} {L : Rs} {w : World} {ps : List Prt} {v : Value} {i : Nat} {bad : Bool} (h : PtAt X pA pc L w ps v i bad) (j : Nat) : PtAt X pA pc L (w.setCell ⟨X, 3, none⟩ (.int .i64 j)) ps v j bad ∧ GrB X w (w.setCell ⟨X, 3, none⟩ (.int .i64 j)) := by
  have g : GrB X w (w.setCell ⟨X, 3, none⟩ (.int .i64 j)) := gr_set w ⟨X, 3, none⟩ _
  exact ⟨⟨blk_set h.blk 3 _, rp_rowB h g, h.low, h.own.kept g (.inr (fun e => rp_vX h e)), h.ok⟩, g⟩
/-- It is told to be bad, or not. -/
theorem rp_bad {X : Nat} {pA : Option Addr} {pc : Nat} {L : Rs} {w : World} {ps : List Prt} {v : Value} {i : Nat} {bad : Bool} (h : PtAt X pA pc L w ps v i bad) (b : Bool) : PtAt X pA pc L (w.setCell ⟨X, 4, none⟩ (.bool b)) ps v i b ∧ GrB X w (w.setCell ⟨X, 4, none⟩ (.bool b)) := by
  have g : GrB X w (w.setCell ⟨X, 4, none⟩ (.bool b)) := gr_set w ⟨X, 4, none⟩ _
  exact ⟨⟨blk_set h.blk 4 _, rp_rowB h g, h.low, h.own.kept g (.inr (fun e => rp_vX h e)), h.ok⟩, g⟩
theorem rp_cells {X : Nat} {pA : Option Addr} {pc : Nat} {L : Rs} {w : World} {ps : List Prt} {v : Value} {i : Nat} {bad : Bool} (h : PtAt X pA pc L w ps v i bad) : w.cell? ⟨X, 0, none⟩ = some v ∧ w.cell? ⟨X, 2, none⟩ = some (.slice pA L.length pc) ∧ w.cell? ⟨X, 3, none⟩ = some (.int .i64 i) ∧ w.cell? ⟨X, 4, none⟩ = some (.bool bad) ∧ w.frozen? ⟨X, 0, none⟩ = false ∧ w.frozen? ⟨X, 3, none⟩ = false ∧ w.frozen? ⟨X, 4, none⟩ = false :=
  ⟨blk_cell h.blk rfl, blk_cell h.blk rfl, blk_cell h.blk rfl, blk_cell h.blk rfl, blk_free h.blk 0, blk_free h.blk 3, blk_free h.blk 4⟩
/-- The rune that comes; none: -1. -/
def nxR : Rs → Int
  | [] => -1
  | c :: _ => c
end Go.Proofs.YtccmekdmnkmhlaaGreat
