/-
  What a round of the law about desks wants: rows, the code of its switch. No condition but bounds.
-/
import Derived.Test.YtmldoeeangekoaaGreatDoorPkDeskMid
import Derived.Test.YtmldoeeangekoaaGreatDoorPkDeskPlayMath
import Derived.Test.YtmldoeeangekoaaGreatDoorPkDeskAny2
import Derived.Test.YtmldoeeangekoaaGreatDoorDkB
import Derived.Test.YtmldoeeangekoaaGreatDoorPkBookC1
import Derived.Test.YtmldoeeangekoaaGreatDoorPkDySame
import Derived.Test.YtmldoeeangekoaaGreatDoorPkDopOpen
import Derived.Test.YtmldoeeangekoaaGreatDoorPkRefFoldLDy
import Derived.Test.YtmldoeeangekoaaGreatDoorSameCurs
import Derived.Test.YtmldoeeangekoaaGreatDoorSlipVars
import Derived.Test.YtmldoeeangekoaaGreatDoorDkA
namespace Go.Proofs.YtmldoeeangekoaaGreatDoor
open Go.RowKit
set_option linter.unusedVariables false

/-- A deed's block, as a row of one. -/
theorem own_op1 (w : World) (a b c d e : Value) : (w.alloc (.cells #[a, b, c, d, e] 48)).ownsRow w.heap.size 48 5 (.slice (some ⟨w.heap.size, 0, none⟩) 1 1) 1 [a, b, c, d, e] :=
  World.ownsRow_lit (e := 48) (size := 5) w #[a, b, c, d, e] 1 (Nat.le_refl _) (by unfold maxLen; omega) rfl
def OpR (w : World) (b : Nat) (kd xa xb xc : Int) (S : List UInt8) : Prop := w.ownsRow 0 48 5 (.slice (some ⟨b, 0, none⟩) 1 1) 1 [.int .i64 kd, .int .i64 xa, .int .i64 xb, .int .i64 xc, .string (txt S)]
theorem opr_cells {w : World} {b : Nat} {kd xa xb xc : Int} {S : List UInt8} (h : OpR w b kd xa xb xc S) : w.cell? ⟨b, 0, none⟩ = some (.int .i64 kd) ∧ w.cell? ⟨b, 1, none⟩ = some (.int .i64 xa) ∧ w.cell? ⟨b, 2, none⟩ = some (.int .i64 xb) ∧ w.cell? ⟨b, 3, none⟩ = some (.int .i64 xc) ∧ w.cell? ⟨b, 4, none⟩ = some (.string (txt S)) :=
  ⟨h.cellAt 0 (by decide), h.cellAt 1 (by decide), h.cellAt 2 (by decide), h.cellAt 3 (by decide), h.cellAt 4 (by decide)⟩
theorem opr_gr {w w' : World} {b : Nat} {kd xa xb xc : Int} {S : List UInt8} (h : OpR w b kd xa xb xc S) (g : Gr w w') : OpR w' b kd xa xb xc S := h.kept g (Classical.em _)
theorem opr_dk {w w' : World} {b : Nat} {kd xa xb xc : Int} {S : List UInt8} (h : OpR w b kd xa xb xc S) (g : DkKeep w w') : OpR w' b kd xa xb xc S := g _ _ _ _ _ _ (by decide) (by decide) h
theorem playK {w wr : World} {D P K mx : Nat} {s1 s2 : Dy.StM} {A A2 : Option Addr} {n c n2 c2 : Nat} {lx : List Lst} (h : MidIs w D P K mx wr s1 s2 A n c A2 n2 c2 lx) : w.heap.size ≤ K := by
  have := h.ple
  have := h.plt
  omega
theorem own_nt1 (w : World) (a b c d e f : Value) : (w.alloc (.cells #[a, b, c, d, e, f] 67)).ownsRow w.heap.size 67 6 (.slice (some ⟨w.heap.size, 0, none⟩) 1 1) 1 [a, b, c, d, e, f] :=
  World.ownsRow_lit (e := 67) (size := 6) w #[a, b, c, d, e, f] 1 (Nat.le_refl _) (by unfold maxLen; omega) rfl
def NtR (w : World) (b : Nat) (v : Int) (S : List UInt8) : Prop := w.ownsRow 0 67 6 (.slice (some ⟨b, 0, none⟩) 1 1) 1 [.int .i64 4, .int .i64 0, .int .i64 v, .int .i64 0, .int .i64 0, .string (txt S)]
theorem ntr_cells {w : World} {b : Nat} {v : Int} {S : List UInt8} (h : NtR w b v S) : w.cell? ⟨b, 0, none⟩ = some (.int .i64 4) ∧ w.cell? ⟨b, 1, none⟩ = some (.int .i64 0) ∧ w.cell? ⟨b, 2, none⟩ = some (.int .i64 v) ∧ w.cell? ⟨b, 3, none⟩ = some (.int .i64 0) ∧ w.cell? ⟨b, 4, none⟩ = some (.int .i64 0) ∧ w.cell? ⟨b, 5, none⟩ = some (.string (txt S)) :=
  ⟨h.cellAt 0 (by decide), h.cellAt 1 (by decide), h.cellAt 2 (by decide), h.cellAt 3 (by decide), h.cellAt 4 (by decide), h.cellAt 5 (by decide)⟩
theorem ntr_gr {w w' : World} {b : Nat} {v : Int} {S : List UInt8} (h : NtR w b v S) (g : Gr w w') : NtR w' b v S := h.kept g (Classical.em _)
theorem ntr_dk {w w' : World} {b : Nat} {v : Int} {S : List UInt8} (h : NtR w b v S) (g : DkKeep w w') : NtR w' b v S := g _ _ _ _ _ _ (by decide) (by decide) h
theorem playInv_w {w wr : World} {D P K mx my : Nat} (h : PlayInv w D P K mx my wr) : Gr w wr := by
  obtain ⟨s, A, n, c, A2, n2, c2, lx, h1, h2, h3⟩ := h
  exact h3.dk.gr
theorem playInv_K {w wr : World} {D P K mx my : Nat} (h : PlayInv w D P K mx my wr) : w.heap.size ≤ K := by
  obtain ⟨s, A, n, c, A2, n2, c2, lx, h1, h2, h3⟩ := h
  have := h3.ple
  have := h3.plt
  omega
theorem cub_gr {w w' : World} {b : Nat} {x : Cur} (h : CuB w b x) (g : Gr w w') : CuB w' b x := gr_blk g h (by simp)
theorem rowstR {w : World} {P : Nat} {s : Dy.StM} {v : Value} (h : StB w P s v) : w.there P 0 5 := rs_there h
abbrev DPS (wo : World) (Q P : Nat) (s : Dy.StM) (A3 : Option Addr) (n c3 : Nat) (A2 : Option Addr) (c2 : Nat) (w' : World) : Prop := Gr wo w' ∧ w'.cell? ⟨Q, 0, none⟩ = some (.int .i64 s.next) ∧ w'.cell? ⟨Q, 1, none⟩ = some (.int .i64 s.now) ∧ w'.cell? ⟨Q, 2, none⟩ = some (.slice A3 n c3) ∧ w'.cell? ⟨Q, 3, none⟩ = some (.string (txt s.seg)) ∧ w'.cell? ⟨Q, 4, none⟩ = some (.int .i64 s.pts) ∧ w'.cell? ⟨P, 0, none⟩ = some (.int .i64 s.next) ∧ w'.cell? ⟨P, 1, none⟩ = some (.int .i64 s.now) ∧ w'.cell? ⟨P, 2, none⟩ = some (.slice A2 n c2) ∧ w'.cell? ⟨P, 3, none⟩ = some (.string (txt s.seg)) ∧ w'.cell? ⟨P, 4, none⟩ = some (.int .i64 s.pts)
theorem dps_gr {wo w1 w' : World} {Q P : Nat} {s : Dy.StM} {A3 : Option Addr} {n c3 : Nat} {A2 : Option Addr} {c2 : Nat} (h : DPS wo Q P s A3 n c3 A2 c2 w1) (g : Gr w1 w') : DPS wo Q P s A3 n c3 A2 c2 w' := by
  obtain ⟨h0, h1, h2, h3, h4, h5, h6, h7, h8, h9, h10⟩ := h
  exact ⟨gr_trans h0 g, gr_cell g h1, gr_cell g h2, gr_cell g h3, gr_cell g h4, gr_cell g h5, gr_cell g h6, gr_cell g h7, gr_cell g h8, gr_cell g h9, gr_cell g h10⟩
theorem own_ds1 (w : World) (a b c d e : Value) : (w.alloc (.cells #[a, b, c, d, e] 30)).ownsRow w.heap.size 30 5 (.slice (some ⟨w.heap.size, 0, none⟩) 1 1) 1 [a, b, c, d, e] :=
  World.ownsRow_lit (e := 30) (size := 5) w #[a, b, c, d, e] 1 (Nat.le_refl _) (by unfold maxLen; omega) rfl
theorem own_ds1_cells {w : World} {base b : Nat} {x y z u v : Value} (h : w.ownsRow base 30 5 (.slice (some ⟨b, 0, none⟩) 1 1) 1 [x, y, z, u, v]) : w.cell? ⟨b, 0, none⟩ = some x ∧ w.cell? ⟨b, 1, none⟩ = some y ∧ w.cell? ⟨b, 2, none⟩ = some z ∧ w.cell? ⟨b, 3, none⟩ = some u ∧ w.cell? ⟨b, 4, none⟩ = some v :=
  ⟨h.cellAt 0 (by decide), h.cellAt 1 (by decide), h.cellAt 2 (by decide), h.cellAt 3 (by decide), h.cellAt 4 (by decide)⟩
/-- A block of a function's code. -/
def firstBlk (k : Nat) : Code → Option Code
  | .block j c => if j = k then some (.block j c) else firstBlk k c
  | .seq a b => match firstBlk k a with
    | some c => some c
    | none => firstBlk k b
  | .cond _ a b => match firstBlk k a with
    | some c => some c
    | none => firstBlk k b
  | .loop c => firstBlk k c
  | .scope c => firstBlk k c
  | _ => none
noncomputable def sw : Code := (Tryz.f3.body.bind (firstBlk 2)).getD .skip
end Go.Proofs.YtmldoeeangekoaaGreatDoor
