/-
  The reader of a pattern: what its next, take, any, member and times do. No condition but that the reader reads these runes.
-/
import Derived.Test.YtccmekdmnkmhlaaGreatAEX
import Derived.Test.YtccmekdmnkmhlaaGreatGlyphSpell
import Derived.Test.YtccmekdmnkmhlaaGreatBookMath
import Derived.Test.YtccmekdmnkmhlaaGreatProg
import Derived.Deep.CutBlock
import Derived.Deep.RegionLaw
namespace Go.Proofs.YtccmekdmnkmhlaaGreat
open Go.RowKit

theorem blk_cell {w : World} {K : Nat} {cs : Array Value} {t : TypeId} {fr : Nat × Nat} (h : w.heap[K]? = some (.cells cs t fr)) {j : Nat} {v : Value} (hj : cs[j]? = some v) : w.cell? ⟨K, j, none⟩ = some v := by
  unfold World.cell?
  rw [h]
  exact hj
theorem blk_free {w : World} {K : Nat} {cs : Array Value} {t : TypeId} (h : w.heap[K]? = some (.cells cs t (0, 0))) (j : Nat) : w.frozen? ⟨K, j, none⟩ = false := by
  unfold World.frozen?
  rw [h]
  simp
/-- The reader in block R: these runes are left; was anything bad? -/
structure RdAt (H : Nat) (w : World) (R : Nat) (l : Rs) (bad : Bool) : Prop where
  lt : R < H
  ok : ∀ r ∈ l, RuneOk r
  ex : ∃ (A : Option Addr) (c : Nat), w.heap[R]? = some (.cells #[.slice A l.length c, .bool bad] 182 (0, 0)) ∧ Row w A l.length 1 (l.map (.int .i32)) ∧ l.length ≤ c ∧ (l ≠ [] → ∀ B o, A = some ⟨B, o, none⟩ → B ≠ R ∧ B < H)
/-- Only the reader has turned. -/
abbrev GrR (R : Nat) (w w' : World) : Prop := w.grownBy w' (some R)
theorem rd_keep {H R : Nat} {w w' : World} {l : Rs} {bad : Bool} {r : Option Nat} (h : RdAt H w R l bad) (g : w.grownBy w' r) (hr : ∀ k, r = some k → H ≤ k) : RdAt H w' R l bad := by
  obtain ⟨hlt, hok, A, c, h1, h2, h3, h4⟩ := h
  refine ⟨hlt, hok, A, c, gr_blk g h1 (fun e => by have := hr R e.symm; omega), ⟨h2.1, fun j u hj => ?_⟩, h3, h4⟩
  obtain ⟨B, o, e, hb, hc⟩ := h2.2 j u hj
  have hne : l ≠ [] := fun e => by subst e; simp at hj
  have hBH := (h4 hne B o e).2
  exact ⟨B, o, e, Nat.lt_of_lt_of_le hb g.size, g.cell hc (fun e2 => by have := hr B e2.symm; omega)⟩
theorem rd_gr {H R : Nat} {w w' : World} {l : Rs} {bad : Bool} (h : RdAt H w R l bad) (g : Gr w w') : RdAt H w' R l bad := rd_keep h g (by simp)
theorem rd_size {H R : Nat} {w : World} {l : Rs} {bad : Bool} (h : RdAt H w R l bad) : R < w.heap.size := by
  obtain ⟨_, _, A, c, h1, _⟩ := h
  exact lt_of_blk h1
/-- The reader's block is written: the runes stay. -/
theorem rd_row {R : Nat} {w w' : World} {l : Rs} {A : Option Addr} {n : Nat} (h : Row w A n 1 (l.map (.int .i32))) (g : GrR R w w') (h4 : l ≠ [] → ∀ B o, A = some ⟨B, o, none⟩ → B ≠ R) : Row w' A n 1 (l.map (.int .i32)) := by
  refine ⟨h.1, fun j u hj => ?_⟩
  obtain ⟨B, o, e, hb, hc⟩ := h.2 j u hj
  have hne : l ≠ [] := fun e => by subst e; simp at hj
  exact ⟨B, o, e, Nat.lt_of_lt_of_le hb g.size, g.cell hc (fun e2 => h4 hne B o e (Option.some.inj e2))⟩
theorem row_tail {w : World} {A A' : Option Addr} {c : Int} {t : Rs} (h : Row w A (t.length + 1) 1 ((c :: t).map (.int .i32))) (hA : ∀ B o, A = some ⟨B, o, none⟩ → t ≠ [] → A' = some ⟨B, o + 1, none⟩) : Row w A' t.length 1 (t.map (.int .i32)) := by
  refine ⟨by simp, fun j u hj => ?_⟩
  obtain ⟨B, o, e, hb, hc⟩ := h.2 (j + 1) u (by simpa using hj)
  have hne : t ≠ [] := fun e => by subst e; simp at hj
  refine ⟨B, o + 1, hA B o e hne, hb, ?_⟩
  rw [show o + 1 + j = o + (j + 1) by omega]
  exact hc
def nextV (l : Rs) : Value := match l with | [] => .tuple #[.int .i32 0, .bool false] | c :: _ => .tuple #[.int .i32 c, .bool true]
set_option maxHeartbeats 1000000 in
theorem next_any (H R : Nat) (l : Rs) (bad : Bool) (w : World) (h : RdAt H w R l bad) :
    Calls Tryz.prog 161 #[.pointer (some ⟨R, 0, none⟩)] w fun e w' => e = .returned (nextV l) ∧ w = w' := by
  obtain ⟨hlt, hok, A, c, h1, h2, h3, h4⟩ := h
  cases l with
  | nil =>
    have k0 : w.cell? ⟨R, 0, none⟩ = some (.slice A 0 c) := blk_cell h1 (j := 0) rfl
    replace h1 := Lib.hid h1
    go_enter Tryz.func161, Tryz.ntmps161
    go_wp2
    go_ret2
    exact ⟨rfl, rfl⟩
  | cons x t =>
    obtain ⟨B, o, rfl, hb, hc⟩ := h2.2 0 (.int .i32 x) rfl
    rw [Nat.add_zero] at hc
    have k0 : w.cell? ⟨R, 0, none⟩ = some (.slice (some ⟨B, o, none⟩) (t.length + 1) c) := blk_cell h1 (j := 0) rfl
    clear h1 h2 h3 h4
    generalize t.length = n at *
    have hl : (0 : Int) < (n : Int) + 1 := by omega
    have hl2 : ((n : Int) + 1 == 0) = false := eqF (by omega)
    go_enter Tryz.func161, Tryz.ntmps161
    go_wp2
    go_ret2
    exact ⟨rfl, rfl⟩
set_option maxHeartbeats 1000000 in
theorem take_no (H R : Nat) (l : Rs) (bad : Bool) (x : Int) (w : World) (h : RdAt H w R l bad) (hx : ∀ t, l ≠ x :: t) :
    Calls Tryz.prog 147 #[.pointer (some ⟨R, 0, none⟩), .int .i32 x] w fun e w' => e = .returned (.bool false) ∧ w = w' := by
  cases l with
  | nil =>
    go_enter Tryz.func147, Tryz.ntmps147
    go_wp2_with fail
    refine (next_any H R _ bad _ h).mono ?_
    rintro e w1 ⟨rfl, rfl⟩
    simp only [nextV]
    go_wp2
    go_ret
    exact ⟨rfl, rfl⟩
  | cons y t =>
    have hne : y ≠ x := fun e => hx t (by rw [e])
    have hF : (y == x) = false := eqF hne
    have hT : (y != x) = true := by simp [bne, hF]
    clear hx
    go_enter Tryz.func147, Tryz.ntmps147
    go_wp2_with fail
    refine (next_any H R _ bad _ h).mono ?_
    rintro e w1 ⟨rfl, rfl⟩
    simp only [nextV]
    go_wp2
    go_ret
    exact ⟨rfl, rfl⟩
/-- The reader behind a rune that was taken. -/
theorem rd_took {H R : Nat} {w : World} {x : Int} {t : Rs} {bad : Bool} {A A' : Option Addr} {c c' : Nat} (hlt : R < H) (hok : ∀ r ∈ x :: t, RuneOk r) (h1 : w.heap[R]? = some (.cells #[.slice A (t.length + 1) c, .bool bad] 182 (0, 0))) (h2 : Row w A (t.length + 1) 1 ((x :: t).map (.int .i32)))
    (h4 : ∀ B o, A = some ⟨B, o, none⟩ → B ≠ R ∧ B < H) (hA : ∀ B o, A = some ⟨B, o, none⟩ → t ≠ [] → A' = some ⟨B, o + 1, none⟩) (hc : t.length ≤ c') :
    RdAt H (w.setCell ⟨R, 0, none⟩ (.slice A' t.length c')) R t bad := by
  have hb := blk_set h1 0 (.slice A' t.length c')
  have g : GrR R w (w.setCell ⟨R, 0, none⟩ (.slice A' t.length c')) := gr_set w ⟨R, 0, none⟩ _
  have hA2 : t ≠ [] → ∀ B o, A' = some ⟨B, o, none⟩ → B ≠ R ∧ B < H := fun ht B o e => by
    obtain ⟨B0, o0, e0, _, _⟩ := h2.2 0 (.int .i32 x) rfl
    have e1 := hA B0 o0 e0 ht
    rw [e] at e1
    have e2 := Option.some.inj e1
    injection e2 with e3 _
    subst e3
    exact h4 _ _ e0
  exact ⟨hlt, fun r hr => hok r (by simp [hr]), A', c', hb, rd_row (row_tail h2 hA) g (fun ht B o e => (hA2 ht B o e).1), hc, hA2⟩
theorem i32_1 : IntKind.i64.wrap (1 : Int) = 1 := rfl
set_option maxHeartbeats 1000000 in
theorem take_yes (H R : Nat) (t : Rs) (bad : Bool) (x : Int) (w : World) (h : RdAt H w R (x :: t) bad) :
    Calls Tryz.prog 147 #[.pointer (some ⟨R, 0, none⟩), .int .i32 x] w fun e w' => e = .returned (.bool true) ∧ RdAt H w' R t bad ∧ GrR R w w' := by
  have hnx := next_any H R _ bad w h
  obtain ⟨hlt, hok, A, c, h1, h2, h3, h4⟩ := h
  have h4' := h4 (by simp)
  clear h4
  replace h1 : w.heap[R]? = some (.cells #[.slice A (t.length + 1) c, .bool bad] 182 (0, 0)) := h1
  replace h2 : Row w A (t.length + 1) 1 ((x :: t).map (.int .i32)) := h2
  replace h3 : t.length + 1 ≤ c := h3
  obtain ⟨B, o, rfl, hb, hc⟩ := h2.2 0 (.int .i32 x) rfl
  have k0 : w.cell? ⟨R, 0, none⟩ = some (.slice (some ⟨B, o, none⟩) (t.length + 1) c) := blk_cell h1 (j := 0) rfl
  have f0 := blk_free h1 0
  have hxx : (x == x) = true := by simp
  have hfin := fun (A' : Option Addr) c' hA hc => rd_took (A' := A') (c' := c') hlt hok h1 h2 h4' hA hc
  have hn0 : t.length = 0 → t = [] := List.eq_nil_of_length_eq_zero
  have hg : ∀ v, GrR R w (w.setCell ⟨R, 0, none⟩ v) := fun v => gr_set w ⟨R, 0, none⟩ v
  generalize t.length = n at *
  have hn1 : (n : Int) + 1 - 1 = (n : Int) := by omega
  have hc1 : (1 : Int) ≤ (c : Int) := by omega
  have hn2 : (1 : Int) ≤ (n : Int) + 1 := by omega
  replace h1 := Lib.hid h1
  replace h2 := Lib.hid h2
  replace hfin := Lib.hid hfin
  replace hn0 := Lib.hid hn0
  replace hnx := Lib.hid hnx
  replace hg := Lib.hid hg
  clear h4' hc
  go_enter Tryz.func147, Tryz.ntmps147
  go_wp2_with fail
  refine hnx.out.mono ?_
  rintro e w1 ⟨rfl, rfl⟩
  simp only [nextV]
  go_wp2
  all_goals
    go_ret
    refine ⟨rfl, ?_, hg.out _⟩
    first
      | exact hfin.out _ _ (fun B o e ht => absurd (hn0.out (by omega)) ht) (by omega)
      | exact hfin.out _ _ (fun B o e _ => by cases e; rfl) (by omega)
set_option maxHeartbeats 1000000 in
theorem any_yes (H R : Nat) (t : Rs) (bad : Bool) (x : Int) (w : World) (h : RdAt H w R (x :: t) bad) :
    Calls Tryz.prog 170 #[.pointer (some ⟨R, 0, none⟩)] w fun e w' => e = .returned (.int .i32 x) ∧ RdAt H w' R t bad ∧ GrR R w w' := by
  have hnx := next_any H R _ bad w h
  obtain ⟨hlt, hok, A, c, h1, h2, h3, h4⟩ := h
  have h4' := h4 (by simp)
  clear h4
  replace h1 : w.heap[R]? = some (.cells #[.slice A (t.length + 1) c, .bool bad] 182 (0, 0)) := h1
  replace h2 : Row w A (t.length + 1) 1 ((x :: t).map (.int .i32)) := h2
  replace h3 : t.length + 1 ≤ c := h3
  obtain ⟨B, o, rfl, hb, hc⟩ := h2.2 0 (.int .i32 x) rfl
  have k0 : w.cell? ⟨R, 0, none⟩ = some (.slice (some ⟨B, o, none⟩) (t.length + 1) c) := blk_cell h1 (j := 0) rfl
  have f0 := blk_free h1 0
  have hxx : (x == x) = true := by simp
  have hfin := fun (A' : Option Addr) c' hA hc => rd_took (A' := A') (c' := c') hlt hok h1 h2 h4' hA hc
  have hn0 : t.length = 0 → t = [] := List.eq_nil_of_length_eq_zero
  have hg : ∀ v, GrR R w (w.setCell ⟨R, 0, none⟩ v) := fun v => gr_set w ⟨R, 0, none⟩ v
  generalize t.length = n at *
  have hn1 : (n : Int) + 1 - 1 = (n : Int) := by omega
  have hc1 : (1 : Int) ≤ (c : Int) := by omega
  have hn2 : (1 : Int) ≤ (n : Int) + 1 := by omega
  replace h1 := Lib.hid h1
  replace h2 := Lib.hid h2
  replace hfin := Lib.hid hfin
  replace hn0 := Lib.hid hn0
  replace hnx := Lib.hid hnx
  replace hg := Lib.hid hg
  clear h4' hc
  go_enter Tryz.func170, Tryz.ntmps170
  go_wp2_with fail
  refine hnx.out.mono ?_
  rintro e w1 ⟨rfl, rfl⟩
  simp only [nextV]
  go_wp2
  all_goals
    go_ret
    refine ⟨rfl, ?_, hg.out _⟩
    first
      | exact hfin.out _ _ (fun B o e ht => absurd (hn0.out (by omega)) ht) (by omega)
      | exact hfin.out _ _ (fun B o e _ => by cases e; rfl) (by omega)
/-- The reader that was bad stays bad. -/
theorem rd_bad {H R : Nat} {w : World} {l : Rs} {bad : Bool} (h : RdAt H w R l bad) (b : Bool) : RdAt H (w.setCell ⟨R, 1, none⟩ (.bool b)) R l b ∧ GrR R w (w.setCell ⟨R, 1, none⟩ (.bool b)) := by
  obtain ⟨hlt, hok, A, c, h1, h2, h3, h4⟩ := h
  have g : GrR R w (w.setCell ⟨R, 1, none⟩ (.bool b)) := gr_set w ⟨R, 1, none⟩ _
  exact ⟨⟨hlt, hok, A, c, blk_set h1 1 (.bool b), rd_row h2 g (fun ht B o e => (h4 ht B o e).1), h3, h4⟩, g⟩
theorem rd_c1 {H R : Nat} {w : World} {l : Rs} {bad : Bool} (h : RdAt H w R l bad) : w.cell? ⟨R, 1, none⟩ = some (.bool bad) ∧ w.frozen? ⟨R, 1, none⟩ = false := by
  obtain ⟨hlt, _, A, c, h1, _⟩ := h
  exact ⟨blk_cell h1 rfl, blk_free h1 1⟩
set_option maxHeartbeats 1000000 in
theorem any_no (H R : Nat) (bad : Bool) (w : World) (h : RdAt H w R [] bad) :
    Calls Tryz.prog 170 #[.pointer (some ⟨R, 0, none⟩)] w fun e w' => e = .returned (.int .i32 0) ∧ RdAt H w' R [] true ∧ GrR R w w' := by
  have hb := rd_bad h true
  have hc := rd_c1 h
  obtain ⟨k1, f1⟩ := hc
  replace hb := Lib.hid hb
  have hnx := next_any H R _ bad w h
  replace hnx := Lib.hid hnx
  clear h
  go_enter Tryz.func170, Tryz.ntmps170
  go_wp2_with fail
  refine hnx.out.mono ?_
  rintro e w1 ⟨rfl, rfl⟩
  simp only [nextV]
  go_wp2
  go_ret
  exact ⟨rfl, hb.out.1, hb.out.2⟩
/-- What 'any' takes. -/
def AnyPost (H R : Nat) (l : Rs) (bad : Bool) (w : World) (e : Ending) (w' : World) : Prop :=
  (∃ c t, l = c :: t ∧ e = .returned (.int .i32 c) ∧ RdAt H w' R t bad ∧ GrR R w w') ∨ (l = [] ∧ e = .returned (.int .i32 0) ∧ RdAt H w' R [] true ∧ GrR R w w')
theorem any_any (H R : Nat) (l : Rs) (bad : Bool) (w : World) (h : RdAt H w R l bad) : Calls Tryz.prog 170 #[.pointer (some ⟨R, 0, none⟩)] w (AnyPost H R l bad w) := by
  cases l with
  | nil => exact (any_no H R bad w h).mono fun e w' hh => .inr ⟨rfl, hh⟩
  | cons c t => exact (any_yes H R t bad c w h).mono fun e w' hh => .inl ⟨c, t, rfl, hh⟩
/-- What 'member' takes: a rune, and what is left; or it was bad. -/
def MemPost (H R : Nat) (l : Rs) (bad : Bool) (w : World) (e : Ending) (w' : World) : Prop :=
  ∃ c l' bad', e = .returned (.int .i32 c) ∧ RdAt H w' R l' bad' ∧ l'.length ≤ l.length ∧ GrR R w w' ∧ ((bad' = bad ∧ pMember l = some (c, l') ∧ l'.length < l.length) ∨ (bad' = true ∧ pMember l = none ∧ l' = []))
theorem grr_trans {R : Nat} {w w1 w2 : World} (h : GrR R w w1) (k : GrR R w1 w2) : GrR R w w2 := gr_trans h k
set_option maxHeartbeats 1000000 in
theorem member_any (H R : Nat) (l : Rs) (bad : Bool) (w : World) (h : RdAt H w R l bad) : Calls Tryz.prog 175 #[.pointer (some ⟨R, 0, none⟩)] w (MemPost H R l bad w) := by
  have ha := any_any H R l bad w h
  replace ha := Lib.hid ha
  go_enter Tryz.func175, Tryz.ntmps175
  go_wp2_with fail
  refine ha.out.mono ?_
  rintro e w1 (⟨c, t, rfl, rfl, hr, g1⟩ | ⟨rfl, rfl, hr, g1⟩)
  · by_cases hc : c = 92
    · subst hc
      have ha2 := any_any H R t bad w1 hr
      replace ha2 := Lib.hid ha2
      go_wp2_with fail
      refine ha2.out.mono ?_
      rintro e w2 (⟨c2, t2, rfl, rfl, hr2, g2⟩ | ⟨rfl, rfl, hr2, g2⟩)
      · go_wp2
        go_ret
        exact ⟨c2, t2, bad, rfl, hr2, by simp; omega, grr_trans g1 g2, .inl ⟨rfl, rfl, by simp; omega⟩⟩
      · go_wp2
        go_ret
        exact ⟨0, [], true, rfl, hr2, by simp, grr_trans g1 g2, .inr ⟨rfl, rfl, rfl⟩⟩
    · have hcF : (c == 92) = false := eqF hc
      go_wp2
      go_ret
      exact ⟨c, t, bad, rfl, hr, by simp, g1, .inl ⟨rfl, by simp [pMember, hc], by simp⟩⟩
  · go_wp2
    go_ret
    exact ⟨0, [], true, rfl, hr, by simp, g1, .inr ⟨rfl, rfl, rfl⟩⟩
/-- take, whether or not. -/
def TakePost (H R : Nat) (l : Rs) (bad : Bool) (x : Int) (w : World) (e : Ending) (w' : World) : Prop :=
  (∃ t, l = x :: t ∧ e = .returned (.bool true) ∧ RdAt H w' R t bad ∧ GrR R w w') ∨ ((∀ t, l ≠ x :: t) ∧ e = .returned (.bool false) ∧ w = w')
theorem take_any (H R : Nat) (l : Rs) (bad : Bool) (x : Int) (w : World) (h : RdAt H w R l bad) : Calls Tryz.prog 147 #[.pointer (some ⟨R, 0, none⟩), .int .i32 x] w (TakePost H R l bad x w) := by
  by_cases hx : ∃ t, l = x :: t
  · obtain ⟨t, rfl⟩ := hx
    exact (take_yes H R t bad x w h).mono fun e w' hh => .inl ⟨t, rfl, hh⟩
  · have hx2 : ∀ t, l ≠ x :: t := fun t e => hx ⟨t, e⟩
    exact (take_no H R l bad x w h hx2).mono fun e w' hh => .inr ⟨hx2, hh⟩
end Go.Proofs.YtccmekdmnkmhlaaGreat
