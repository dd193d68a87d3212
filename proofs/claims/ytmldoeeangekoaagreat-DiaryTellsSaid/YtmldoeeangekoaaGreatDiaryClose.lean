/-
  A diary's state: its model, and close of any state. No condition but the machine's numbers.
-/
import Derived.Test.YtmldoeeangekoaaGreatDiaryIns
namespace Go.Proofs.YtmldoeeangekoaaGreat
open Go.RowKit

structure StM where
  next : Int
  now : Int
  op : List Cur
  seg : List UInt8
  pts : Int
/-- The model of what a note does. -/
def closeM (s : StM) (id : Int) : StM := { s with next := max s.next (id + 1), op := s.op.filter (fun y => !(y.id == id)) }
def insM (x : Cur) (zs : List Cur) : List Cur := zs.filter (fun y => decide (y.id < x.id)) ++ x :: zs.filter (fun y => !decide (y.id < x.id))
def foldM (s : StM) (x : Nte) : StM :=
  if okOpen x then { closeM s x.c.id with op := insM x.c (closeM s x.c.id).op }
  else if okClose x then closeM s x.c.id
  else if okClock x then { s with now := max s.now x.c.tl, op := s.op.filter (fun y => !decide (y.tl < max s.now x.c.tl)) }
  else if okSeg x then { s with seg := x.c.file, pts := x.c.rows }
  else s
theorem place_split {zs : List Cur} {t : Int} {k : Nat} (h : Place zs t k) : zs.take k = zs.filter (fun y => decide (y.id < t)) ∧ zs.drop k = zs.filter (fun y => !decide (y.id < t)) := by
  obtain ⟨_, h1, h2⟩ := h
  have e := List.take_append_drop k zs
  constructor
  · conv => rhs; rw [← e, List.filter_append]
    rw [List.filter_eq_self.2 (fun y hy => by simpa using h1 y hy), List.filter_eq_nil_iff.2 (fun y hy => by have := h2 y hy; simp; omega), List.append_nil]
  · conv => rhs; rw [← e, List.filter_append]
    rw [List.filter_eq_nil_iff.2 (fun y hy => by have := h1 y hy; simp; omega), List.filter_eq_self.2 (fun y hy => by have := h2 y hy; simp; omega), List.nil_append]
/-- What may turn: the state's block and the list's own. -/
def Tn (St : Nat) (ob : Option Nat) (k : Nat) : Prop := k = St ∨ ob = some k
theorem tn_gr {St : Nat} {ob : Option Nat} {w w' : World} (h : Gr w w') : GrS (Tn St ob) w w' := grs_gr _ h
theorem tn_st {St : Nat} {ob : Option Nat} {w w' : World} (h : w.grownBy w' (some St)) : GrS (Tn St ob) w w' := grs_of h fun k hk _ => .inl (Option.some.inj hk).symm
theorem tn_ob {St : Nat} {ob : Option Nat} {w w' : World} (h : w.grownBy w' ob) : GrS (Tn St ob) w w' := grs_of h fun k hk _ => .inr hk
def StIs (w : World) (St base : Nat) (s : StM) (A : Option Addr) (n c : Nat) : Prop := StAt w St s.next s.now (.slice A n c) s.seg s.pts ∧ w.ownsRow base 28 5 (.slice A n c) n (sR curC s.op)
theorem stIs_gr {w w' : World} {St base : Nat} {s : StM} {A : Option Addr} {n c : Nat} (h : StIs w St base s A n c) (g : Gr w w') : StIs w' St base s A n c := ⟨stAt_gr h.1 g, h.2.kept g (Classical.em _)⟩
/-- The state's block is not the list's own. -/
theorem st_apart {w : World} {St base n c : Nat} {A : Option Addr} {nx now pts : Int} {op : Value} {seg : List UInt8} {xs : List Value} (h : StAt w St nx now op seg pts) (ho : w.ownsRow base 28 5 (.slice A n c) n xs) : (Value.slice A n c).ownBlock ≠ some St := by
  intro e
  rcases ho.2 with ⟨hv, _⟩ | ⟨g, cap, cur, hv, _, hg, _⟩
  · rw [hv] at e; cases e
  · rw [hv] at e
    have : g = St := by simpa [Value.ownBlock] using e
    subst this
    unfold StAt at h
    rw [hg] at h
    injection h with h1
    injection h1 with _ h2
    exact absurd h2 (by decide)
theorem st_after {w w' : World} {St : Nat} {nx now pts : Int} {op : Value} {seg : List UInt8} {r : Option Nat} (h : StAt w St nx now op seg pts) (g : w.grownBy w' r) (hr : r ≠ some St) : StAt w' St nx now op seg pts := gr_blk g h (fun e => hr e.symm)
theorem own_after {w w' : World} {St base n c : Nat} {A : Option Addr} {xs : List Value} (h : w.ownsRow base 28 5 (.slice A n c) n xs) (g : w.grownBy w' (some St)) (hr : (Value.slice A n c).ownBlock ≠ some St) : w'.ownsRow base 28 5 (.slice A n c) n xs := h.kept g (.inr hr)
set_option maxHeartbeats 8000000 in
set_option maxRecDepth 100000 in
theorem dclose (St base : Nat) (s : StM) (A : Option Addr) (n c : Nat) (id : Int) (w : World) (h : StIs w St base s A n c) (hid : 1 ≤ id ∧ id ≤ 1000000) (hn : n ≤ 9223372036854775807) :
    Calls Tryz.prog 128 #[.pointer (some ⟨St, 0, none⟩), .int .i64 id] w fun e w' => e = .returned (.tuple #[]) ∧ (∃ k, StIs w' St base (closeM s id) A k c) ∧ GrS (Tn St (Value.slice A n c).ownBlock) w w' := by
  obtain ⟨nx, now, op, seg, pts⟩ := s
  obtain ⟨h, ho⟩ := h
  simp only at h ho
  have hlt := lt_of_blk h
  have hap := st_apart h ho
  have hobl : ∀ k, (Value.slice A n c).ownBlock = some k → k < w.heap.size := fun k hk => (ho.lt k hk).2
  obtain ⟨W0, hW0⟩ : ∃ W0, W0 = w.alloc (.cells #[.int .i64 id] 3) := ⟨_, rfl⟩
  have g0 : Gr w W0 := by rw [hW0]; exact gr_alloc _ _ _
  have hb0 : W0.cell? ⟨w.heap.size, 0, none⟩ = some (.int .i64 id) := by rw [hW0]; exact cell0_new _ _ _
  have h0 := stAt_gr h g0
  have ho0 := ho.kept g0 (Classical.em _)
  have c0 : W0.cell? ⟨St, 2, none⟩ = some (.slice A n c) := fcell h0 rfl
  have cD := ddel_close (fun W => W.cell? ⟨w.heap.size, 0, none⟩ = some (.int .i64 id)) (fun y => y.id == id) (.pointer (some ⟨w.heap.size, 0, none⟩)) (fun x W hW => pclose_any x w.heap.size id W hW) A n c base (fun W W' hW g => g.cell hW (by simp; intro e; have := hobl _ e.symm; omega)) op W0 ho0 hn hb0
  replace h := Lib.hid h
  replace h0 := Lib.hid h0
  replace g0 := Lib.hid g0
  replace hW0 := Lib.hid hW0
  replace hobl := Lib.hid hobl
  replace hap := Lib.hid hap
  clear ho
  go_enter Tryz.func128, Tryz.ntmps128
  go_wp2_with (rw [← hW0.out])
  refine cD.mono ?_
  rintro e W1 ⟨k, rfl, ho1, g1⟩
  have h1 := st_after h0.out g1 hap.out
  have hb1 : W1.cell? ⟨w.heap.size, 0, none⟩ = some (.int .i64 id) := g1.cell hb0 (by simp; intro e; have := hobl.out _ e.symm; omega)
  have ob1 : (Value.slice A k c).ownBlock = (Value.slice A n c).ownBlock := by cases A <;> rfl
  have c1 : W1.cell? ⟨St, 2, none⟩ = some (.slice A n c) := fcell h1 rfl
  have z1 := fzero h1 2
  obtain ⟨W2, hW2⟩ : ∃ W2, W2 = W1.setCell ⟨St, 2, none⟩ (.slice A k c) := ⟨_, rfl⟩
  have g2 : W1.grownBy W2 (some St) := by rw [hW2]; exact gr_set W1 ⟨St, 2, none⟩ _
  have h2 : StAt W2 St nx now (.slice A k c) seg pts := by rw [hW2]; exact blk_set h1 2 (.slice A k c)
  have ho2 := own_after ho1 g2 (by rw [ob1]; exact hap.out)
  have hb2 : W2.cell? ⟨w.heap.size, 0, none⟩ = some (.int .i64 id) := g2.cell hb1 (by simp; omega)
  have d0 : W2.cell? ⟨St, 0, none⟩ = some (.int .i64 nx) := fcell h2 rfl
  have y0 := fzero h2 0
  have gall : GrS (Tn St (Value.slice A n c).ownBlock) w W2 := grs_trans (grs_trans (tn_gr g0.out) (tn_ob g1)) (tn_st g2)
  have hw : IntKind.i64.wrap (id + 1) = id + 1 := IntWalk.i64_in _ (by omega)
  replace h1 := Lib.hid h1
  replace h2 := Lib.hid h2
  replace ho2 := Lib.hid ho2
  replace gall := Lib.hid gall
  replace hW2 := Lib.hid hW2
  clear ho1 ho0 g1 g2 c0 hb0 cD
  go_upto_region 2 with fail
  rw [← hW2.out]
  clear c1 z1 hb1
  have hap2 : (Value.slice A k c).ownBlock ≠ some St := by rw [ob1]; exact hap.out
  replace hap2 := Lib.hid hap2
  by_cases hm : nx < id + 1
  · go_region
    all_goals
      go_wp2
      all_goals first | (exfalso; omega) | skip
      go_end0
      have hs3 := gr_set W2 ⟨St, 0, none⟩ (.int .i64 (id + 1))
      refine ⟨rfl, ⟨k, ?_, ?_⟩, grs_trans (grs_trans gall.out (tn_st hs3)) (tn_gr (gr_drew _ _))⟩
      · have h9 := blk_set h2.out 0 (.int .i64 (id + 1))
        show StAt _ St (max nx (id + 1)) now _ seg pts
        rw [Int.max_eq_right (by omega)]
        exact stAt_gr h9 (gr_drew _ _)
      · exact (own_after ho2.out hs3 hap2.out).kept (gr_drew _ none) (Classical.em _)
  · go_region
    all_goals
      go_wp2
      all_goals first | (exfalso; omega) | skip
      go_end0
      have hs3 := gr_set W2 ⟨St, 0, none⟩ (.int .i64 nx)
      refine ⟨rfl, ⟨k, ?_, ?_⟩, grs_trans (grs_trans gall.out (tn_st hs3)) (tn_gr (gr_drew _ _))⟩
      · have h9 := blk_set h2.out 0 (.int .i64 nx)
        show StAt _ St (max nx (id + 1)) now _ seg pts
        rw [Int.max_eq_left (by omega)]
        exact stAt_gr h9 (gr_drew _ _)
      · exact (own_after ho2.out hs3 hap2.out).kept (gr_drew _ none) (Classical.em _)
end Go.Proofs.YtmldoeeangekoaaGreat
