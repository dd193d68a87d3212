/-
  What holds between two deeds of the desk and of the document's state: nobody shares memory, the book keeps its lists. What each deed brings. No condition but bounds.
-/
import Derived.Test.YtmldoeeangekoaaGreatDoorPkDeskPlayMath
import Derived.Test.YtmldoeeangekoaaGreatDoorPkBookC1
import Derived.Test.YtmldoeeangekoaaGreatDoorDkB
import Derived.Test.YtmldoeeangekoaaGreatDoorDkA
namespace Go.Proofs.YtmldoeeangekoaaGreatDoor
open Go.RowKit

theorem gr_keep {WK wr w' : World} {K : Nat} (hK : WK.heap.size ≤ K) (g : Gr WK wr) (b : Below K wr w') : Gr WK w' :=
  ⟨by rw [b.os, g.os], by rw [b.tape, g.tape], by rw [b.output, g.output], Nat.le_trans g.size b.size, fun i hi hn => by rw [b.block i (by omega), g.block i hi hn]⟩
/-- Block P holds the document's state. -/
def StB (w : World) (P : Nat) (s : Dy.StM) (v : Value) : Prop := w.heap[P]? = some (.cells #[.int .i64 s.next, .int .i64 s.now, v, .string (txt s.seg), .int .i64 s.pts] 32 (0, 0))
theorem stB_cells {w : World} {P : Nat} {s : Dy.StM} {v : Value} (h : StB w P s v) : w.cell? ⟨P, 0, none⟩ = some (.int .i64 s.next) ∧ w.cell? ⟨P, 1, none⟩ = some (.int .i64 s.now) ∧ w.cell? ⟨P, 2, none⟩ = some v ∧ w.cell? ⟨P, 3, none⟩ = some (.string (txt s.seg)) ∧ w.cell? ⟨P, 4, none⟩ = some (.int .i64 s.pts) :=
  ⟨fcellD h rfl, fcellD h rfl, fcellD h rfl, fcellD h rfl, fcellD h rfl⟩
theorem own_ty {w : World} {base size n : Nat} {e : TypeId} {v : Value} {xs : List Value} (ho : w.ownsRow base e size v n xs) : ∀ k, v.ownBlock = some k → ∃ cs fr, w.heap[k]? = some (.cells cs e fr) := by
  intro k hb
  rcases ho.2 with ⟨rfl, _⟩ | ⟨g', cap, cur, rfl, _, hg, _⟩
  · cases hb
  · have : g' = k := by simpa [Value.ownBlock] using hb
    subst this
    exact ⟨_, _, hg⟩
theorem ty_ne {w : World} {k : Nat} {e e' : TypeId} {cs cs' : Array Value} {f f' : Nat × Nat} (h1 : w.heap[k]? = some (.cells cs e f)) (h2 : w.heap[k]? = some (.cells cs' e' f')) : e = e' := by
  rw [h1] at h2
  injection h2 with q1
  injection q1 with _ q2
/-- Between two deeds: the desk at D is in state s1, the document's at P in state s2. -/
structure MidIs (w : World) (D P K mx : Nat) (wr : World) (s1 s2 : Dy.StM) (A : Option Addr) (n c : Nat) (A2 : Option Addr) (n2 c2 : Nat) (lx : List Lst) : Prop where
  dk : DkIn w wr D (dkS s1) A n c
  st : StB wr P s2 (.slice A2 n2 c2)
  li : wr.ownsRow w.heap.size 52 5 (.slice A2 n2 c2) n2 (sR curC s2.op)
  bk : BC wr K lx (Value.slice A n c).ownBlock
  lm : lx.length ≤ mx
  low : ∀ k, InL lx k → w.heap.size ≤ k
  ap : ∀ k, (Value.slice A2 n2 c2).ownBlock = some k → (Value.slice A n c).ownBlock ≠ some k
  dlt : D < K
  ple : w.heap.size ≤ P
  plt : P < K
theorem mid_len1 {w wr : World} {D P K mx : Nat} {s1 s2 : Dy.StM} {A A2 : Option Addr} {n c n2 c2 : Nat} {lx : List Lst} (h : MidIs w D P K mx wr s1 s2 A n c A2 n2 c2 lx) : s1.op.length = n := dkIs_len h.dk.dk
theorem mid_len2 {w wr : World} {D P K mx : Nat} {s1 s2 : Dy.StM} {A A2 : Option Addr} {n c n2 c2 : Nat} {lx : List Lst} (h : MidIs w D P K mx wr s1 s2 A n c A2 n2 c2 lx) : s2.op.length = n2 := by have := h.li.1; rw [sR_len curC 5 curC_len] at this; omega
theorem mid_gr {w wr wr' : World} {D P K mx : Nat} {s1 s2 : Dy.StM} {A A2 : Option Addr} {n c n2 c2 : Nat} {lx : List Lst} (h : MidIs w D P K mx wr s1 s2 A n c A2 n2 c2 lx) (g : Gr wr wr') : MidIs w D P K mx wr' s1 s2 A n c A2 n2 c2 lx :=
  ⟨dkIn_gr h.dk g, gr_blk g h.st (by simp), h.li.kept g (Classical.em _), bc_gr h.bk g, h.lm, h.low, h.ap, h.dlt, h.ple, h.plt⟩
theorem mid_obty {w wr : World} {D P K mx : Nat} {s1 s2 : Dy.StM} {A A2 : Option Addr} {n c n2 c2 : Nat} {lx : List Lst} (h : MidIs w D P K mx wr s1 s2 A n c A2 n2 c2 lx) : ∀ k, (Value.slice A n c).ownBlock = some k → ∃ cs fr, wr.heap[k]? = some (.cells cs 52 fr) := own_ty h.dk.dk.own
theorem mid_PD {w wr : World} {D P K mx : Nat} {s1 s2 : Dy.StM} {A A2 : Option Addr} {n c n2 c2 : Nat} {lx : List Lst} (h : MidIs w D P K mx wr s1 s2 A n c A2 n2 c2 lx) : P ≠ D := fun e => by
  have h1 : wr.heap[P]? = _ := h.st
  have h2 : wr.heap[D]? = _ := h.dk.dk.blk
  rw [← e] at h2
  exact absurd (ty_ne h1 h2) (by decide)
/-- The desk does something. -/
theorem mid_desk {w wr wr' : World} {D P K mx : Nat} {s1 s2 s1' : Dy.StM} {A A2 A' : Option Addr} {n c n2 c2 n' c' : Nat} {lx : List Lst} (h : MidIs w D P K mx wr s1 s2 A n c A2 n2 c2 lx) (g : GrS (TnD D (Value.slice A n c).ownBlock) wr wr') (hd : DkIn w wr' D (dkS s1') A' n' c') (hn : NewOr (Value.slice A n c).ownBlock wr.heap.size (Value.slice A' n' c').ownBlock) : MidIs w D P K mx wr' s1' s2 A' n' c' A2 n2 c2 lx := by
  have hD : wr.heap[D]? = _ := h.dk.dk.blk
  have hty := mid_obty h
  refine ⟨hd, grs_blk g h.st ?_, grs_own h.li g ?_, bc_desk h.bk g hD ⟨by decide, by decide, by decide⟩ hty hn, h.lm, h.low, ?_, h.dlt, h.ple, h.plt⟩
  · rintro (e | e)
    · exact mid_PD h e
    · obtain ⟨c1, f1, h1⟩ := hty P e
      have h2 : wr.heap[P]? = _ := h.st
      exact absurd (ty_ne h1 h2) (by decide)
  · rintro k (rfl | e) hb
    · obtain ⟨c1, f1, h1⟩ := own_ty h.li k hb
      exact absurd (ty_ne h1 hD) (by decide)
    · exact h.ap k hb e
  · intro k hb e
    rcases hn k e with h1 | h1
    · exact h.ap k hb h1
    · have := (h.li.lt k hb).2
      omega
/-- What the desk does leaves all rows but cursors' as they were. -/
def DkKeep (w w' : World) : Prop := ∀ (base : Nat) (e : TypeId) (size : Nat) (v : Value) (n : Nat) (xs : List Value), e ≠ 52 → e ≠ 80 → w.ownsRow base e size v n xs → w'.ownsRow base e size v n xs
theorem dkKeep_gr {w w' : World} (g : Gr w w') : DkKeep w w' := fun _ _ _ _ _ _ _ _ h => h.kept g (Classical.em _)
theorem mid_rows {w wr wr' : World} {D P K mx : Nat} {s1 s2 : Dy.StM} {A A2 : Option Addr} {n c n2 c2 : Nat} {lx : List Lst} (h : MidIs w D P K mx wr s1 s2 A n c A2 n2 c2 lx) (g : GrS (TnD D (Value.slice A n c).ownBlock) wr wr') : DkKeep wr wr' := by
  intro base e size v m xs h1 h2 ho
  refine grs_own ho g ?_
  rintro k (rfl | hk) hb
  · obtain ⟨c1, f1, q⟩ := own_ty ho k hb
    have hD : wr.heap[k]? = _ := h.dk.dk.blk
    exact h2 (ty_ne q hD)
  · obtain ⟨c1, f1, q⟩ := own_ty ho k hb
    obtain ⟨c2, f2, q2⟩ := mid_obty h k hk
    exact h1 (ty_ne q q2)
/-- Storing the document's state leaves all other rows as they were. -/
theorem mid_stored {w wr : World} {D P K mx : Nat} {s1 s2 : Dy.StM} {A A2 : Option Addr} {n c n2 c2 : Nat} {lx : List Lst} (h : MidIs w D P K mx wr s1 s2 A n c A2 n2 c2 lx) (vs : List Value) {base : Nat} {e : TypeId} {size : Nat} {v : Value} {m : Nat} {xs : List Value} (he : e ≠ 32) (ho : wr.ownsRow base e size v m xs) : (wr.setCells P 0 vs).ownsRow base e size v m xs :=
  ho.kept (gr_setCells wr P 0 vs) (.inr fun hb => by
    obtain ⟨c1, f1, q⟩ := own_ty ho P hb
    have hP : wr.heap[P]? = _ := h.st
    exact he (ty_ne q hP))
theorem mid_storedB {w wr : World} {D P K mx : Nat} {s1 s2 : Dy.StM} {A A2 : Option Addr} {n c n2 c2 : Nat} {lx : List Lst} (h : MidIs w D P K mx wr s1 s2 A n c A2 n2 c2 lx) (vs : List Value) {b : Nat} {x : Cur} (hx : CuB wr b x) : CuB (wr.setCells P 0 vs) b x :=
  gr_blk (gr_setCells wr P 0 vs) hx (fun e => by
    injection e with e
    have hP : wr.heap[P]? = _ := h.st
    have h2 : wr.heap[b]? = _ := hx
    rw [e] at h2
    exact absurd (ty_ne h2 hP) (by decide))
/-- The document's state is stored; nothing else that was there turns. -/
theorem mid_storeG {w wr w' : World} {D P K mx : Nat} {s1 s2 s3 : Dy.StM} {A A2 A3 : Option Addr} {n c n2 c2 n3 c3 : Nat} {lx : List Lst} (h : MidIs w D P K mx wr s1 s2 A n c A2 n2 c2 lx) (g : GrB P wr w') (hs : StB w' P s3 (.slice A3 n3 c3)) (hl : w'.ownsRow w.heap.size 52 5 (.slice A3 n3 c3) n3 (sR curC s3.op)) (ha : ∀ k, (Value.slice A3 n3 c3).ownBlock = some k → (Value.slice A n c).ownBlock ≠ some k) : MidIs w D P K mx w' s1 s3 A n c A3 n3 c3 lx := by
  have hP : wr.heap[P]? = some (.cells #[.int .i64 s2.next, .int .i64 s2.now, .slice A2 n2 c2, .string (txt s2.seg), .int .i64 s2.pts] 32 (0, 0)) := h.st
  have hne : (Value.slice A n c).ownBlock ≠ some P := fun e => by
    obtain ⟨c1, f1, h1⟩ := own_ty h.dk.dk.own P e
    exact absurd (ty_ne h1 hP) (by decide)
  refine ⟨dkin_grB h.dk g h.ple (mid_PD h) hne, hs, hl, ?_, h.lm, h.low, ha, h.dlt, h.ple, h.plt⟩
  exact bc_desk h.bk (tnd_B g (.inl rfl)) hP ⟨by decide, by decide, by decide⟩ (mid_obty h) (fun b hb => .inl hb)
theorem stB_set {wr : World} {P : Nat} {s2 s3 : Dy.StM} {v v3 : Value} (h : StB wr P s2 v) : StB (wr.setCells P 0 [.int .i64 s3.next, .int .i64 s3.now, v3, .string (txt s3.seg), .int .i64 s3.pts]) P s3 v3 := by
  have hP : wr.heap[P]? = some (.cells #[.int .i64 s2.next, .int .i64 s2.now, v, .string (txt s2.seg), .int .i64 s2.pts] 32 (0, 0)) := h
  exact blk_set (blk_set (blk_set (blk_set (blk_set hP 0 _) 1 _) 2 _) 3 _) 4 _
theorem cub_set {wr : World} {b : Nat} {x y : Cur} (h : CuB wr b x) : CuB (wr.setCells b 0 [.int .i64 y.id, .int .i64 y.rows, .int .i64 y.size, .int .i64 y.tl, .string (txt y.file)]) b y := by
  have hP : wr.heap[b]? = some (.cells #[.int .i64 x.id, .int .i64 x.rows, .int .i64 x.size, .int .i64 x.tl, .string (txt x.file)] 52 (0, 0)) := h
  exact blk_set (blk_set (blk_set (blk_set (blk_set hP 0 _) 1 _) 2 _) 3 _) 4 _
theorem own_neP {w : World} {P base size n : Nat} {s : Dy.StM} {v u : Value} {e : TypeId} {xs : List Value} (hP : StB w P s v) (ho : w.ownsRow base e size u n xs) (he : e ≠ 32) : u.ownBlock ≠ some P := fun hb => by
  obtain ⟨c1, f1, q⟩ := own_ty ho P hb
  have h2 : w.heap[P]? = _ := hP
  exact he (ty_ne q h2)
theorem grB_newD {P b : Nat} {w V V' : World} (h : GrB P w V) (k : GrB b V V') (hb : w.heap.size ≤ b) : GrB P w V' :=
  ⟨by rw [k.os, h.os], by rw [k.tape, h.tape], by rw [k.output, h.output], Nat.le_trans h.size k.size, fun i hi hn => by rw [k.block i (Nat.lt_of_lt_of_le hi h.size) (by simp; omega), h.block i hi hn]⟩
/-- The document's state is stored. -/
theorem mid_store {w wr : World} {D P K mx : Nat} {s1 s2 s3 : Dy.StM} {A A2 A3 : Option Addr} {n c n2 c2 n3 c3 : Nat} {lx : List Lst} (h : MidIs w D P K mx wr s1 s2 A n c A2 n2 c2 lx) (hl : wr.ownsRow w.heap.size 52 5 (.slice A3 n3 c3) n3 (sR curC s3.op)) (ha : ∀ k, (Value.slice A3 n3 c3).ownBlock = some k → (Value.slice A n c).ownBlock ≠ some k) : MidIs w D P K mx (wr.setCells P 0 [.int .i64 s3.next, .int .i64 s3.now, .slice A3 n3 c3, .string (txt s3.seg), .int .i64 s3.pts]) s1 s3 A n c A3 n3 c3 lx :=
  mid_storeG h (gr_setCells _ _ _ _) (stB_set h.st) (mid_stored h _ (by decide) hl) ha
/-- The book keeps one more list. -/
theorem mid_keep {w wr : World} {D P K mx : Nat} {s1 s2 : Dy.StM} {A A2 A3 : Option Addr} {n c n2 c2 n3 c3 : Nat} {lx : List Lst} (h : MidIs w D P K mx wr s1 s2 A n c A2 n2 c2 lx) (hmx : mx < 250) (hK : w.heap.size ≤ K) {base : Nat} (zs : List Cur) (hn3 : n3 ≤ 100000) (hr : wr.ownsRow base 52 5 (.slice A3 n3 c3) n3 (sR curC zs)) (hwb : w.heap.size ≤ base) (hnew : ∀ k, InL lx k → k < base) (ho : ∀ k, (Value.slice A3 n3 c3).ownBlock = some k → (Value.slice A n c).ownBlock ≠ some k) :
    Calls Tryz.prog 16 #[.pointer (some ⟨K, 0, none⟩), .slice A3 n3 c3] wr fun e w' => e = .returned (.tuple #[]) ∧ MidIs w D P K (mx + 1) w' s1 s2 A n c A2 n2 c2 (lx ++ [⟨A3, n3, c3⟩]) ∧ (∀ (base : Nat) (e' : TypeId) (size : Nat) (v : Value) (n : Nat) (xs : List Value), e' ≠ 28 → e' ≠ 46 → wr.ownsRow base e' size v n xs → w'.ownsRow base e' size v n xs) := by
  have hlx := h.lm
  refine (bc_keep h.bk ⟨A3, n3, c3⟩ zs (by omega) hn3 (own_mono hr (Nat.zero_le _)) (fun k hk hi => by have := (hr.lt k hk).1; have := hnew k hi; omega) ho (fun k hk => (h.dk.dk.own.lt k hk).2)).mono ?_
  rintro e w' ⟨rfl, hb, hbel, hty⟩
  have hc : ∀ (base : Nat) (v : Value) (n : Nat) (xs : List Value), wr.ownsRow base 52 5 v n xs → w'.ownsRow base 52 5 v n xs := fun base v n xs hh => hty base _ 5 v n xs (by decide) (by decide) hh
  refine ⟨rfl, ⟨⟨gr_keep hK h.dk.gr hbel, ⟨?_, hc _ _ _ _ h.dk.dk.own⟩, h.dk.le⟩, ?_, hc _ _ _ _ h.li, hb, by simp; omega, ?_, h.ap, h.dlt, h.ple, h.plt⟩, hty⟩
  · exact (hbel.block D h.dlt).trans h.dk.dk.blk
  · exact (hbel.block P h.plt).trans h.st
  · intro k hk
    rcases inl_snoc hk with hk | hk
    · exact h.low k hk
    · exact Nat.le_trans hwb (hr.lt k hk).1
theorem mid_more {w wr : World} {D P K mx mx' : Nat} {s1 s2 : Dy.StM} {A A2 : Option Addr} {n c n2 c2 : Nat} {lx : List Lst} (h : MidIs w D P K mx wr s1 s2 A n c A2 n2 c2 lx) (hm : mx ≤ mx') : MidIs w D P K mx' wr s1 s2 A n c A2 n2 c2 lx :=
  ⟨h.dk, h.st, h.li, h.bk, Nat.le_trans h.lm hm, h.low, h.ap, h.dlt, h.ple, h.plt⟩
/-- What holds between two deeds of the law. -/
def PlayInv (w : World) (D P K mx my : Nat) (wr : World) : Prop := ∃ s A n c A2 n2 c2 lx, Dy.InvM s ∧ s.op.length ≤ my ∧ MidIs w D P K mx wr s s A n c A2 n2 c2 lx
theorem playInv_gr {w wr wr' : World} {D P K mx my : Nat} (h : PlayInv w D P K mx my wr) (g : Gr wr wr') : PlayInv w D P K mx my wr' := by
  obtain ⟨s, A, n, c, A2, n2, c2, lx, h1, h2, h3⟩ := h
  exact ⟨s, A, n, c, A2, n2, c2, lx, h1, h2, mid_gr h3 g⟩
theorem own_lateD {w wr : World} {D P K mx : Nat} {s1 s2 : Dy.StM} {A A2 A3 : Option Addr} {n c n2 c2 n3 c3 : Nat} {lx : List Lst} {w' : World} (h : MidIs w D P K mx wr s1 s2 A n c A2 n2 c2 lx) (hl : ∀ k, (Value.slice A3 n3 c3).ownBlock = some k → (Value.slice A2 n2 c2).ownBlock = some k ∨ w'.heap.size ≤ k) (hw : wr.heap.size ≤ w'.heap.size) : ∀ k, (Value.slice A3 n3 c3).ownBlock = some k → (Value.slice A n c).ownBlock ≠ some k := fun k hk e => by
  rcases hl k hk with h1 | h1
  · exact h.ap k h1 e
  · have := (h.dk.dk.own.lt k e).2
    omega
/-! The deeds -/
/-- What closing tells: the cursor, the error, the state. -/
def closeX (s : Dy.StM) (id : Int) : Cur := if id < 1 ∨ s.next ≤ id then cu0 else match s.op.find? (fun y => y.id == id) with | none => cu0 | some x => x
def closeE (s : Dy.StM) (id : Int) : Int := if id < 1 ∨ s.next ≤ id then 11 else match s.op.find? (fun y => y.id == id) with | none => 12 | some _ => 0
def closeS (s : Dy.StM) (id : Int) : Dy.StM := if id < 1 ∨ s.next ≤ id then s else { s with op := s.op.filter fun y => !(y.id == id) }
theorem find_none {id : Int} {op : List Cur} (h : ∀ y ∈ op, y.id ≠ id) : op.find? (fun y => y.id == id) = none := List.find?_eq_none.2 fun y hy => by simpa using h y hy
theorem filt_none {id : Int} {op : List Cur} (h : ∀ y ∈ op, y.id ≠ id) : op.filter (fun y => !(y.id == id)) = op := List.filter_eq_self.2 fun y hy => by simpa using h y hy
theorem find_some {op : List Cur} (hs : Dy.Sorted op) {k : Nat} {x : Cur} (h : op[k]? = some x) : op.find? (fun y => y.id == x.id) = some x := by
  rcases hf : op.find? (fun y => y.id == x.id) with _ | y
  · exact absurd (List.find?_eq_none.1 hf x (List.mem_of_getElem? h)) (by simp)
  · have h1 := List.find?_some hf
    have h2 := List.mem_of_find?_eq_some hf
    obtain ⟨j, hj⟩ := List.getElem?_of_mem h2
    have h3 : y.id = x.id := by simpa using h1
    obtain rfl := ids_eq hs hj h h3
    rw [hj] at h
    rw [hf]
    exact h
theorem close_inv {s : Dy.StM} (h : Dy.InvM s) (id : Int) : Dy.InvM (closeS s id) := by
  unfold closeS
  split
  · exact h
  · exact inv_del h _
theorem close_len (s : Dy.StM) (id : Int) : (closeS s id).op.length ≤ s.op.length := by
  unfold closeS
  split
  · exact Nat.le_refl _
  · exact List.length_filter_le _ _
set_option maxRecDepth 100000 in
theorem mid_close {w wr : World} {D P K mx : Nat} {s : Dy.StM} {A A2 : Option Addr} {n c n2 c2 : Nat} {lx : List Lst} (h : MidIs w D P K mx wr s s A n c A2 n2 c2 lx) (hi : Dy.InvM s) (hn : n ≤ 100000) (id : Int) :
    Calls Tryz.prog 13 #[.pointer (some ⟨D, 0, none⟩), .int .i64 id] wr fun e w' => e = .returned (.tuple #[curV (closeX s id), .int .i64 (closeE s id)]) ∧ ∃ A' n' c', MidIs w D P K mx w' (closeS s id) s A' n' c' A2 n2 c2 lx ∧ DkKeep wr w' := by
  refine (dkin_close2 h.dk (by omega) id).mono ?_
  rintro e w' ⟨⟨x, ee, rfl, hx⟩, g⟩
  have hob : ∀ m : Nat, (Value.slice A m c).ownBlock = (Value.slice A n c).ownBlock := fun m => by cases A <;> rfl
  rcases hx with ⟨hne, rfl, ⟨v, hat⟩, hd⟩ | ⟨rfl, k, hk, hid, h1, h2, hd⟩
  · have key : closeX s id = cu0 ∧ closeE s id = ee ∧ closeS s id = s := by
      rcases hat with ⟨q, _, rfl⟩ | ⟨q1, q2, q3, _, rfl⟩ | ⟨_, _, q, _⟩
      · unfold closeX closeE closeS
        have q' : id < 1 ∨ s.next ≤ id := q
        rw [if_pos q', if_pos q', if_pos q']
        exact ⟨rfl, rfl, rfl⟩
      · unfold closeX closeE closeS
        have q' : ¬ (id < 1 ∨ s.next ≤ id) := by
          have : id < s.next := q2
          omega
        have q3' : ∀ y ∈ s.op, y.id ≠ id := q3
        rw [if_neg q', if_neg q', if_neg q', find_none q3', filt_none q3']
        exact ⟨rfl, rfl, rfl⟩
      · exact absurd q hne
    obtain ⟨k1, k2, k3⟩ := key
    rw [k1, k2, k3]
    exact ⟨rfl, A, n, c, mid_desk h g hd (fun b hb => .inl hb), mid_rows h g⟩
  · have hk' : s.op[k]? = some x := hk
    have q' : ¬ (id < 1 ∨ s.next ≤ id) := by
      have : id < s.next := h2
      omega
    have hf := find_some hi.so hk'
    have he := erase_eq hi.so hk'
    rw [hid] at hf he
    unfold closeX closeE closeS
    rw [if_neg q', if_neg q', if_neg q', hf]
    refine ⟨rfl, A, n - 1, c, mid_desk h g ?_ (fun b hb => .inl (by rw [hob] at hb; exact hb)), mid_rows h g⟩
    have hd' : DkIn w w' D ⟨s.next, s.now, s.op.eraseIdx k, s.seg, s.pts⟩ A (n - 1) c := hd
    rw [he] at hd'
    exact hd'
set_option maxRecDepth 100000 in
theorem mid_closed {w wr : World} {D P K mx : Nat} {s s1 : Dy.StM} {A A2 : Option Addr} {n c n2 c2 : Nat} {lx : List Lst} (h : MidIs w D P K mx wr s1 s A n c A2 n2 c2 lx) (hi : Dy.InvM s) (hn : n2 ≤ 100000) (id : Int) :
    Calls Tryz.prog 14 #[.agg #[.int .i64 s.next, .int .i64 s.now, .slice A2 n2 c2, .string (txt s.seg), .int .i64 s.pts], .int .i64 id] wr fun e w' => ∃ A3 n3 c3, e = .returned (.tuple #[.agg #[.int .i64 (closeS s id).next, .int .i64 (closeS s id).now, .slice A3 n3 c3, .string (txt (closeS s id).seg), .int .i64 (closeS s id).pts], curV (closeX s id), .int .i64 (closeE s id)]) ∧ MidIs w D P K mx w' s1 s A n c A2 n2 c2 lx ∧ w'.ownsRow w.heap.size 52 5 (.slice A3 n3 c3) n3 (sR curC (closeS s id).op) ∧ (∀ k, (Value.slice A3 n3 c3).ownBlock = some k → (Value.slice A n c).ownBlock ≠ some k) ∧ Gr wr w' := by
  refine (rclosed_any s.next s.now s.pts id A2 n2 c2 s.seg s.op wr hn (row_own h.li)).mono ?_
  rintro e w' ⟨hx, g⟩
  have hm := mid_gr h g
  rcases hx with ⟨q', rfl⟩ | ⟨q1, q2, rfl⟩ | ⟨k, x, v, q1, q2, hk, hid, rfl, ho⟩
  · unfold closeX closeE closeS
    rw [if_pos q', if_pos q', if_pos q']
    exact ⟨A2, n2, c2, rfl, hm, hm.li, hm.ap, g⟩
  · have q' : ¬ (id < 1 ∨ s.next ≤ id) := by omega
    have q3 := findI_none q2
    unfold closeX closeE closeS
    rw [if_neg q', if_neg q', if_neg q', find_none q3, filt_none q3]
    exact ⟨A2, n2, c2, rfl, hm, hm.li, hm.ap, g⟩
  · have q' : ¬ (id < 1 ∨ s.next ≤ id) := by omega
    have hf := find_some hi.so hk
    rw [hid] at hf
    unfold closeX closeE closeS
    rw [if_neg q', if_neg q', if_neg q', hf]
    obtain ⟨A3, c3, rfl, -, -⟩ := own_openS ho
    refine ⟨A3, _, c3, rfl, hm, own_mono ho h.dk.gr.size, fun b hb e => ?_, g⟩
    have h1 := (ho.lt b hb).1
    have h2 := (h.dk.dk.own.lt b e).2
    omega
/-- What a tick tells: which are over, the error, the state. -/
def tickBad (s : Dy.StM) (t : Int) : Prop := t < 1 ∨ 100000 < t ∨ 1000000000 < s.now + t
instance (s : Dy.StM) (t : Int) : Decidable (tickBad s t) := by unfold tickBad; exact inferInstance
def tickO (s : Dy.StM) (t : Int) : List Cur := if tickBad s t then [] else s.op.filter fun y => decide (y.tl < s.now + t)
def tickE (s : Dy.StM) (t : Int) : Int := if tickBad s t then 1 else 0
def tickSt (s : Dy.StM) (t : Int) : Dy.StM := if tickBad s t then s else ⟨s.next, s.now + t, s.op.filter (fun y => !decide (y.tl < s.now + t)), s.seg, s.pts⟩
theorem tick_inv {s : Dy.StM} (h : Dy.InvM s) (t : Int) : Dy.InvM (tickSt s t) := by
  unfold tickSt
  split
  · exact h
  · next hb =>
    have h1 := h.nw
    have h2 : 0 ≤ s.now + t ∧ s.now + t ≤ 1000000000 := by unfold tickBad at hb; omega
    exact ⟨h.nx, h2, List.Pairwise.filter _ h.so, fun y hy => h.ok y (List.mem_filter.1 hy).1, h.sg⟩
theorem tick_len (s : Dy.StM) (t : Int) : (tickSt s t).op.length ≤ s.op.length := by
  unfold tickSt
  split
  · exact Nat.le_refl _
  · exact List.length_filter_le _ _
theorem tickO_len (s : Dy.StM) (t : Int) : (tickO s t).length ≤ s.op.length := by
  unfold tickO
  split
  · exact Nat.zero_le _
  · exact List.length_filter_le _ _
set_option maxRecDepth 100000 in
theorem mid_tick {w wr : World} {D P K mx : Nat} {s : Dy.StM} {A A2 : Option Addr} {n c n2 c2 : Nat} {lx : List Lst} (h : MidIs w D P K mx wr s s A n c A2 n2 c2 lx) (hi : Dy.InvM s) (hn : n ≤ 100000) (t : Int) :
    Calls Tryz.prog 15 #[.pointer (some ⟨D, 0, none⟩), .int .i64 t] wr fun e w' => ∃ O oc, e = .returned (.tuple #[.slice O (tickO s t).length oc, .int .i64 (tickE s t)]) ∧ ∃ A' n' c', MidIs w D P K mx w' (tickSt s t) s A' n' c' A2 n2 c2 lx ∧ w'.ownsRow wr.heap.size 52 5 (.slice O (tickO s t).length oc) (tickO s t).length (sR curC (tickO s t)) ∧ (∀ k, (Value.slice O (tickO s t).length oc).ownBlock = some k → (Value.slice A' n' c').ownBlock ≠ some k) ∧ DkKeep wr w' := by
  by_cases hb : tickBad s t
  · have hE : tickE s t = 1 := if_pos hb
    have hO : tickO s t = [] := if_pos hb
    have hS : tickSt s t = s := if_pos hb
    rw [hE, hO, hS]
    have hc : Calls Tryz.prog 15 #[.pointer (some ⟨D, 0, none⟩), .int .i64 t] wr fun e w' => e = .returned (.tuple #[.slice none 0 0, .int .i64 1]) ∧ Gr wr w' := by
      by_cases h1 : t < 1 ∨ 100000 < t
      · exact dtick_bad D t wr h1
      · unfold tickBad at hb
        exact dtick_over D s.next s.now s.pts t A n c s.seg wr h.dk.dk.blk hi.nw (by omega) (by omega)
    refine hc.mono ?_
    rintro e w' ⟨rfl, g⟩
    exact ⟨none, 0, rfl, A, n, c, mid_gr h g, World.ownsRow_nil _ _ _ _, (fun k hk => by cases hk), dkKeep_gr g⟩
  · have hE : tickE s t = 0 := if_neg hb
    have hO : tickO s t = s.op.filter fun y => decide (y.tl < s.now + t) := if_neg hb
    have hS : tickSt s t = ⟨s.next, s.now + t, s.op.filter (fun y => !decide (y.tl < s.now + t)), s.seg, s.pts⟩ := if_neg hb
    rw [hE, hO, hS]
    unfold tickBad at hb
    obtain ⟨m, rfl⟩ : ∃ m : Nat, t = m := ⟨t.toNat, by omega⟩
    refine (dkin_tickS h.dk m (by omega) ⟨hi.nw.1, by have : ¬ (1000000000 < s.now + (m : Int)) := fun e => hb (.inr (.inr e)); show s.now + (m : Int) ≤ 1000000000; omega⟩ hn).mono ?_
    rintro e w' ⟨v, A', m', c', rfl, ho, hd, g, hnew⟩
    obtain ⟨O, oc, rfl, -, -⟩ := own_openS ho
    refine ⟨O, oc, rfl, A', m', c', mid_desk h (tnd_B g (.inl rfl)) hd (fun b hb => .inr (hnew b hb).1), ho, (fun k hk e => (hnew k e).2 hk), mid_rows h (tnd_B g (.inl rfl))⟩
set_option maxRecDepth 100000 in
theorem mid_ticked {w wr : World} {D P K mx : Nat} {s s1 : Dy.StM} {A A2 : Option Addr} {n c n2 c2 : Nat} {lx : List Lst} (h : MidIs w D P K mx wr s1 s A n c A2 n2 c2 lx) (hi : Dy.InvM s) (hn : n2 ≤ 90000) (t : Int) :
    Calls Tryz.prog 17 #[.agg #[.int .i64 s.next, .int .i64 s.now, .slice A2 n2 c2, .string (txt s.seg), .int .i64 s.pts], .int .i64 t] wr fun e w' => ∃ A3 n3 c3 O oc, e = .returned (.tuple #[.agg #[.int .i64 (tickSt s t).next, .int .i64 (tickSt s t).now, .slice A3 n3 c3, .string (txt (tickSt s t).seg), .int .i64 (tickSt s t).pts], .slice O (tickO s t).length oc, .int .i64 (tickE s t)]) ∧ MidIs w D P K mx w' s1 s A n c A2 n2 c2 lx ∧ w'.ownsRow w.heap.size 52 5 (.slice A3 n3 c3) n3 (sR curC (tickSt s t).op) ∧ (∀ k, (Value.slice A3 n3 c3).ownBlock = some k → (Value.slice A n c).ownBlock ≠ some k) ∧ w'.ownsRow wr.heap.size 52 5 (.slice O (tickO s t).length oc) (tickO s t).length (sR curC (tickO s t)) ∧ Gr wr w' := by
  refine (rticked_any s.next s.now s.pts A2 n2 c2 s.seg s.op t w.heap.size wr h.li h.dk.gr.size hn hi.so hi.nw).mono ?_
  rintro e w' ⟨hx, g⟩
  have hm := mid_gr h g
  rcases hx with ⟨hb, rfl⟩ | ⟨hb, A3, n3, c3, O, oc, rfl, h1, h2, h3⟩
  · have hb' : tickBad s t := hb
    have hE : tickE s t = 1 := if_pos hb'
    have hO : tickO s t = [] := if_pos hb'
    have hS : tickSt s t = s := if_pos hb'
    rw [hE, hO, hS]
    exact ⟨A2, n2, c2, none, 0, rfl, hm, hm.li, hm.ap, World.ownsRow_nil _ _ _ _, g⟩
  · have hb' : ¬ tickBad s t := hb
    have hE : tickE s t = 0 := if_neg hb'
    have hO : tickO s t = s.op.filter fun y => decide (y.tl < s.now + t) := if_neg hb'
    have hS : tickSt s t = ⟨s.next, s.now + t, s.op.filter (fun y => !decide (y.tl < s.now + t)), s.seg, s.pts⟩ := if_neg hb'
    have hnw := hi.nw
    have hmax : max s.now (s.now + t) = s.now + t := by omega
    have hf := foldM_tk s (s.now + t) (by omega)
    rw [hmax, ← hS] at hf
    have hf' : Dy.foldM ⟨s.next, s.now, s.op, s.seg, s.pts⟩ (tkN (s.now + t)) = tickSt s t := hf
    rw [hf'] at h1
    rw [hf', hE, hO]
    exact ⟨A3, n3, c3, O, oc, rfl, hm, h1, own_lateD h h3 (Nat.le_refl _), h2, g⟩
/-- What sealing tells. -/
def sealE (S : List UInt8) (v : Int) : Int := if okN (segN S v) then 0 else 1
def sealSt (s : Dy.StM) (S : List UInt8) (v : Int) : Dy.StM := if okN (segN S v) then { s with seg := S, pts := v } else s
theorem seal_fold (s : Dy.StM) (S : List UInt8) (v : Int) : sealSt s S v = Dy.foldM s (segN S v) := (foldM_seg s S v).symm
theorem seal_op (s : Dy.StM) (S : List UInt8) (v : Int) : (sealSt s S v).op = s.op := by
  unfold sealSt
  split <;> rfl
set_option maxRecDepth 100000 in
theorem mid_seal {w wr : World} {D P K mx : Nat} {s s2 : Dy.StM} {A A2 : Option Addr} {n c n2 c2 : Nat} {lx : List Lst} (h : MidIs w D P K mx wr s s2 A n c A2 n2 c2 lx) (S : List UInt8) (v : Int) :
    Calls Tryz.prog 20 #[.pointer (some ⟨D, 0, none⟩), .string (txt S), .int .i64 v] wr fun e w' => e = .returned (.int .i64 (sealE S v)) ∧ MidIs w D P K mx w' (sealSt s S v) s2 A n c A2 n2 c2 lx ∧ DkKeep wr w' := by
  refine (dseal_any h.dk S v).mono ?_
  rintro e w' ⟨hx, g⟩
  unfold sealE sealSt
  rcases hx with ⟨ho, rfl, hd⟩ | ⟨ho, rfl, hd⟩
  · rw [if_pos ho, if_pos ho]
    exact ⟨rfl, mid_desk h (tnd_B g (.inl rfl)) hd (fun b hb => .inl hb), mid_rows h (tnd_B g (.inl rfl))⟩
  · rw [if_neg ho, if_neg ho]
    exact ⟨rfl, mid_desk h (tnd_B g (.inl rfl)) hd (fun b hb => .inl hb), mid_rows h (tnd_B g (.inl rfl))⟩
set_option maxRecDepth 100000 in
theorem mid_fold {w wr : World} {D P K mx : Nat} {s s1 : Dy.StM} {A A2 : Option Addr} {n c n2 c2 : Nat} {lx : List Lst} (h : MidIs w D P K mx wr s1 s A n c A2 n2 c2 lx) (hi : Dy.InvM s) (hn : n2 ≤ 90000) (S : List UInt8) (v : Int) :
    Calls Tryz.prog 21 #[.agg #[.int .i64 s.next, .int .i64 s.now, .slice A2 n2 c2, .string (txt s.seg), .int .i64 s.pts], .agg #[.int .i64 4, .int .i64 0, .int .i64 v, .int .i64 0, .int .i64 0, .string (txt S)]] wr fun e w' => ∃ A3 n3 c3, e = .returned (.agg #[.int .i64 (sealSt s S v).next, .int .i64 (sealSt s S v).now, .slice A3 n3 c3, .string (txt (sealSt s S v).seg), .int .i64 (sealSt s S v).pts]) ∧ MidIs w D P K mx w' s1 s A n c A2 n2 c2 lx ∧ w'.ownsRow w.heap.size 52 5 (.slice A3 n3 c3) n3 (sR curC (sealSt s S v).op) ∧ (∀ k, (Value.slice A3 n3 c3).ownBlock = some k → (Value.slice A n c).ownBlock ≠ some k) ∧ Gr wr w' := by
  refine (Dy.rfold_any2 s A2 n2 c2 (segN S v) w.heap.size wr h.li h.dk.gr.size (by omega) hi.so).mono ?_
  rintro e w' ⟨⟨A3, n3, c3, rfl, h1, h2⟩, g⟩
  rw [seal_fold]
  exact ⟨A3, n3, c3, rfl, mid_gr h g, h1, own_lateD h h2 (Nat.le_refl _), g⟩
/-- What opening tells. -/
def openC (s : Dy.StM) (a b t : Int) : Cur := ⟨s.next, a, b, s.now + t, runL s.next.toNat⟩
def openX (s : Dy.StM) (a b t : Int) : Cur := if mayM s.next s.now s.op.length a b t = 0 then openC s a b t else cu0
def openSt (s : Dy.StM) (a b t : Int) : Dy.StM := if mayM s.next s.now s.op.length a b t = 0 then Dy.foldM s ⟨1, openC s a b t⟩ else s
theorem may_zero {nx now : Int} {n : Nat} {a b t : Int} (h : mayM nx now n a b t = 0) : (0 ≤ a ∧ a ≤ 2000) ∧ (1 ≤ b ∧ b ≤ 100) ∧ (0 ≤ t ∧ t ≤ 100000) ∧ now + t ≤ 1000000000 ∧ n < 20 ∧ nx ≤ 1000000 := by
  unfold mayM at h
  split at h
  · omega
  · split at h
    · omega
    · omega
theorem may_bad {nx now : Int} {n : Nat} {a b t : Int} (h : a < 0 ∨ 2000 < a ∨ t < 0 ∨ 100000 < t) : mayM nx now n a b t = 1 := by
  unfold mayM
  rw [if_pos (by omega)]
theorem open_ok {s : Dy.StM} (hi : Dy.InvM s) {a b t : Int} (h : mayM s.next s.now s.op.length a b t = 0) : okOpen (Dy.opN (openC s a b t)) := by
  obtain ⟨h1, h2, h3, h4, h5, h6⟩ := may_zero h
  have h7 := hi.nx
  have h8 := hi.nw
  have hd : (Lib.decDigits s.next.toNat).length ≤ 7 := dig_len (v := s.next.toNat) (n := 0) (s := Lib.decDigits s.next.toNat) (.inr ⟨dec_ne _, .inl ⟨rfl, rfl⟩⟩) (by omega)
  refine ⟨rfl, ⟨h7.1, h6⟩, h1, h2, ⟨?_, h4⟩, ?_⟩
  · show 0 ≤ s.now + t
    omega
  · show 1 ≤ (runL s.next.toNat).length ∧ (runL s.next.toNat).length ≤ 60
    unfold runL
    simp only [List.length_append, List.length_cons, List.length_nil]
    omega
theorem open_fold {s : Dy.StM} (hi : Dy.InvM s) {a b t : Int} (h : mayM s.next s.now s.op.length a b t = 0) : Dy.foldM s ⟨1, openC s a b t⟩ = ⟨s.next + 1, s.now, s.op ++ [openC s a b t], s.seg, s.pts⟩ := foldM_opn hi (open_ok hi h) rfl
theorem open_inv {s : Dy.StM} (hi : Dy.InvM s) (a b t : Int) : Dy.InvM (openSt s a b t) := by
  unfold openSt
  split
  · exact Dy.inv_fold hi _
  · exact hi
theorem open_len {s : Dy.StM} (a b t : Int) : (openSt s a b t).op.length ≤ s.op.length + 1 := by
  unfold openSt
  split
  · exact Dy.fold_len s _
  · omega
set_option maxRecDepth 100000 in
theorem mid_open {w wr : World} {D P K mx : Nat} {s : Dy.StM} {A A2 : Option Addr} {n c n2 c2 : Nat} {lx : List Lst} (h : MidIs w D P K mx wr s s A n c A2 n2 c2 lx) (hi : Dy.InvM s) (hv : Vars w) (a b t : Int) :
    Calls Tryz.prog 11 #[.pointer (some ⟨D, 0, none⟩), .int .i64 a, .int .i64 b, .int .i64 t] wr fun e w' => e = .returned (.tuple #[curV (openX s a b t), .int .i64 (mayM s.next s.now s.op.length a b t)]) ∧ ∃ A' n' c', MidIs w D P K mx w' (openSt s a b t) s A' n' c' A2 n2 c2 lx ∧ DkKeep wr w' := by
  have hlen := mid_len1 h
  by_cases hm : mayM s.next s.now s.op.length a b t = 0
  · unfold openX openSt
    rw [if_pos hm, if_pos hm, hm, open_fold hi hm]
    obtain ⟨h1, h2, h3, h4, h5, h6⟩ := may_zero hm
    have h7 := hi.nx
    have h8 := hi.nw
    obtain ⟨a', rfl⟩ : ∃ m : Nat, a = m := ⟨a.toNat, by omega⟩
    obtain ⟨b', rfl⟩ : ∃ m : Nat, b = m := ⟨b.toNat, by omega⟩
    obtain ⟨t', rfl⟩ : ∃ m : Nat, t = m := ⟨t.toNat, by omega⟩
    have hid : (dkS s).nx = ((s.next.toNat : Nat) : Int) := by show s.next = _; omega
    have hnx : ((s.next.toNat : Nat) : Int) = s.next := by omega
    refine (dopen_anyS D w.heap.size (dkS s) A n c a' b' t' s.next.toNat wr h.dk.dk (vars_gr hv h.dk.gr) h.dk.gr.size (by omega) (by omega) (by omega) (by omega) ⟨h8.1, h4⟩ (by omega) hid (by omega)).mono ?_
    rintro e w' ⟨rfl, ⟨A', c', hd, hnew⟩, g⟩
    have hC : (⟨((s.next.toNat : Nat) : Int), (a' : Int), (b' : Int), (dkS s).now + (t' : Int), runL s.next.toNat⟩ : Cur) = openC s a' b' t' := by rw [hnx]; rfl
    rw [hC] at hd ⊢
    refine ⟨rfl, A', n + 1, c', mid_desk h g ⟨gr_overS h.dk.gr g (dkIn_tn h.dk), hd, h.dk.le⟩ hnew, mid_rows h g⟩
  · unfold openX openSt
    rw [if_neg hm, if_neg hm]
    rw [hlen] at hm ⊢
    refine (dopen_no D s.next s.now s.pts a b t A n c s.seg wr h.dk.dk.blk hi.nw hm).mono ?_
    rintro e w' ⟨rfl, g⟩
    exact ⟨rfl, A, n, c, mid_gr h g, dkKeep_gr g⟩
set_option maxRecDepth 100000 in
theorem mid_opened {w wr : World} {D P K mx : Nat} {s s1 : Dy.StM} {A A2 : Option Addr} {n c n2 c2 : Nat} {lx : List Lst} (h : MidIs w D P K mx wr s1 s A n c A2 n2 c2 lx) (hi : Dy.InvM s) (a b t : Int) (hm : mayM s.next s.now s.op.length a b t = 0) :
    Calls Tryz.prog 12 #[.agg #[.int .i64 s.next, .int .i64 s.now, .slice A2 n2 c2, .string (txt s.seg), .int .i64 s.pts], .int .i64 a, .int .i64 b, .int .i64 t] wr fun e w' => ∃ A3 n3 c3, e = .returned (.tuple #[.agg #[.int .i64 (openSt s a b t).next, .int .i64 (openSt s a b t).now, .slice A3 n3 c3, .string (txt (openSt s a b t).seg), .int .i64 (openSt s a b t).pts], curV (openX s a b t)]) ∧ MidIs w D P K mx w' s1 s A n c A2 n2 c2 lx ∧ w'.ownsRow w.heap.size 52 5 (.slice A3 n3 c3) n3 (sR curC (openSt s a b t).op) ∧ (∀ k, (Value.slice A3 n3 c3).ownBlock = some k → (Value.slice A n c).ownBlock ≠ some k) ∧ (∀ k, (Value.slice A3 n3 c3).ownBlock = some k → (Value.slice A2 n2 c2).ownBlock = some k ∨ wr.heap.size ≤ k) ∧ Gr wr w' := by
  have hlen := mid_len2 h
  unfold openX openSt
  rw [if_pos hm, if_pos hm]
  obtain ⟨h1, h2, h3, h4, h5, h6⟩ := may_zero hm
  have h7 := hi.nx
  have hnx : ((s.next.toNat : Nat) : Int) = s.next := by omega
  have hc := ropened_any s.next.toNat s.now s.pts a b t A2 n2 c2 s.seg s.op w.heap.size wr h.li h.dk.gr.size (by omega) hi.so (by omega) hi.nw h3
  rw [hnx] at hc
  refine hc.mono ?_
  rintro e w' ⟨⟨A3, n3, c3, rfl, k1, k2⟩, g⟩
  exact ⟨A3, n3, c3, rfl, mid_gr h g, k1, own_lateD h k2 (Nat.le_refl _), k2, g⟩
/-! Finding -/
theorem nxt_eq {m R S fr : Nat} {l : List UInt8} (hR : R ≤ 2000) (hS : 0 < S) (hS2 : S ≤ 100) (hb : beginM R S fr) (h : NxtIs m R S fr l) : l = nxtL m R S fr := by
  unfold nxtL
  obtain ⟨_, _, _, hf, hmod⟩ := hb
  have hm0 : fr % S = 0 := by
    have : ((fr % S : Nat) : Int) = 0 := by simpa using hmod
    omega
  have he : fr / S * S = fr := Nat.div_mul_cancel (Nat.dvd_of_mod_eq_zero hm0)
  have hs : (fr / S + 1) * S = fr + S := by rw [Nat.add_mul, he, Nat.one_mul]
  rcases h with ⟨k, hk, hk1, rfl⟩ | ⟨hk, rfl⟩
  · have hk' : fr = k * S := by exact_mod_cast hk
    have h2 := (pages_more hS (Nat.succ_pos k)).1 hk1
    have h3 : (k + 1) * S = fr + S := by rw [Nat.add_mul, Nat.one_mul, hk']
    rw [h3] at h2
    rw [if_pos ⟨⟨⟨by omega, by omega⟩, ⟨by omega, by omega⟩, by omega, by omega, hmod⟩, by omega⟩, h3]
  · rw [if_neg]
    rintro ⟨_, h2⟩
    have h3 : fr / S + 1 < pagesN R S := (pages_more hS (Nat.succ_pos _)).2 (by rw [hs]; omega)
    exact hk _ h3 (by rw [he])
/-- Of what is found the desk's next slip and the document's are the same. -/
theorem find_nxt {s : Dy.StM} (hi : Dy.InvM s) {l : List UInt8} {y : Cur} {fr : Int} (k : RFindIs s.next s.op l y fr 0) : ∃ m R S f : Nat, y.id = m ∧ y.rows = R ∧ y.size = S ∧ fr = f ∧ (1 ≤ m ∧ m ≤ 1000000) ∧ R ≤ 2000 ∧ 0 < S ∧ S ≤ 100 ∧ f ≤ 2000 ∧ beginM R S f := by
  rcases k with ⟨_, _, _, e⟩ | ⟨m, n, hok, rfl, k⟩
  · cases e
  · rcases k with ⟨_, _, _, e⟩ | ⟨_, _, _, _, e⟩ | ⟨k1, j, z, k2, k3, k4, k⟩
    · cases e
    · cases e
    · rcases k with ⟨_, _, _, e⟩ | ⟨b, rfl, rfl, _⟩
      · cases e
      · obtain ⟨R, S, hR, hS, r1, r2, r3⟩ := pg_ok hi y (List.mem_of_getElem? k3)
        rw [hR, hS] at b
        exact ⟨m, R, S, n, k4, hR, hS, rfl, ⟨hok.1, hok.2.1⟩, r1, r2, r3, hok.2.2, b⟩
end Go.Proofs.YtmldoeeangekoaaGreatDoor
