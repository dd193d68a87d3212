/-
  What the reader's atom reads, where its alternatives read what they should. No condition but that the reader reads these runes, and that they are few.
-/
import Derived.Test.YtccmekdmnkmhlaaGreatSqPatClass
import Derived.Test.YtccmekdmnkmhlaaGreatSqPatBar
namespace Go.Proofs.YtccmekdmnkmhlaaGreat
open Go.RowKit

/-- What a function of the reader hands back: a tree, and what is left; or it was bad. -/
def TreePost (H R b : Nat) (bad : Bool) (o : Option (T × Rs)) (w : World) (e : Ending) (w' : World) : Prop :=
  ∃ v l' bad', e = .returned v ∧ IsIf v ∧ RdAt H w' R l' bad' ∧ l'.length ≤ b ∧ GrR R w w' ∧
    ((bad' = false ∧ bad = false ∧ ∃ x, o = some (x, l') ∧ Tv (fun k => w.heap.size ≤ k ∧ k < w'.heap.size) w' v x) ∨ (bad' = true ∧ (bad = true ∨ o = none)))
/-- One rune, newly laid. -/
theorem one_tv (W : World) (lo : Nat) (c : Int) (h : lo ≤ W.heap.size) : Tv (fun k => lo ≤ k ∧ k < (W.alloc (.cells #[.int .i32 c, .int .i32 c] 212)).heap.size) (W.alloc (.cells #[.int .i32 c, .int .i32 c] 212)) (.iface 204 (.agg #[.bool false, .bool false, .slice (some ⟨W.heap.size, 0, none⟩) 1 1])) (oneOf c) := by
  have hb := blk_new W (.cells #[.int .i32 c, .int .i32 c] 212)
  refine Tv.one (s := ⟨false, false, [(c, c)]⟩) (c := 1) ⟨rfl, fun j u hj => ?_⟩ (fun B o e _ => ?_) ?_
  · refine ⟨W.heap.size, 0, rfl, by simp, ?_⟩
    match j, hj with
    | 0, hj =>
      obtain rfl : Value.int .i32 c = u := by simpa [ics, ic] using hj
      exact blk_cell hb rfl
    | 1, hj =>
      obtain rfl : Value.int .i32 c = u := by simpa [ics, ic] using hj
      exact blk_cell hb rfl
    | j + 2, hj => simp [ics, ic] at hj
  · cases e
    exact ⟨h, by simp⟩
  · simp
theorem dot_tv (P : Nat → Prop) (W : World) : Tv P W (.iface 204 (.agg #[.bool true, .bool false, .slice none 0 0])) (.one dotS) :=
  Tv.one (s := dotS) (A := none) (c := 0) (row_zero _ _ _) (fun B o e => by cases e) (by simp [dotS])
theorem tv_grr {R lo : Nat} {w w' : World} {v : Value} {x : T} (h : Tv (fun k => lo ≤ k ∧ k < w.heap.size) w v x) (g : GrR R w w') (hR : R < lo) : Tv (fun k => lo ≤ k ∧ k < w'.heap.size) w' v x :=
  tv_sub (fun k hk => ⟨hk.1, Nat.lt_of_lt_of_le hk.2 g.size⟩) (tv_keep g (fun k hk e => by have := Option.some.inj e; omega) h)
set_option maxHeartbeats 4000000 in
set_option maxRecDepth 100000 in
theorem atom_any (n : Nat) (ih : ∀ (H R : Nat) (l : Rs) (w : World), 3 * l.length + 3 ≤ n → l.length ≤ 1000 → H ≤ w.heap.size → RdAt H w R l false → Calls Tryz.prog 134 #[.pointer (some ⟨R, 0, none⟩)] w (TreePost H R l.length false (pAlt n l) w))
    (H R : Nat) (c : Int) (t : Rs) (w : World) (hn : 3 * (t.length + 1) + 1 ≤ n + 1) (hl : t.length ≤ 999) (hH : H ≤ w.heap.size) (h : RdAt H w R (c :: t) false) :
    Calls Tryz.prog 163 #[.pointer (some ⟨R, 0, none⟩)] w (TreePost H R t.length false (pAtom (n + 1) (c :: t)) w) := by
  have hok := h.ok c (by simp)
  have hR := h.lt
  have ha := any_yes H R t false c w h
  have hbar := fun w => bar_any c w hok
  have hdef : txt barL = ⟨#[42, 43, 63, 124, 41, 93]⟩ := rfl
  rw [hdef] at hbar
  have hp := pAtom_eq n (c :: t)
  simp only at hp
  obtain ⟨o, ho⟩ : ∃ o, o = pAtom (n + 1) (c :: t) := ⟨_, rfl⟩
  rw [← ho] at hp ⊢
  replace ho := Lib.hid ho
  replace ha := Lib.hid ha
  replace h := Lib.hid h
  by_cases c1 : c = 40
  · subst c1
    simp only [if_true] at hp
    replace hp := Lib.hid hp
    clear hbar hdef
    go_enter Tryz.func163, Tryz.ntmps163
    go_wp2_with fail
    refine ha.out.mono ?_
    rintro e w1 ⟨rfl, hr1, g1⟩
    have hA := ih H R t w1 (by omega) (by omega) (Nat.le_trans hH g1.size) hr1
    replace hA := Lib.hid hA
    go_wp2_with fail
    refine hA.out.mono ?_
    rintro e w2 ⟨v, l1, bad1, rfl, ⟨vt, vu, rfl⟩, hr2, hl2, g2, hor⟩
    obtain ⟨k2, f2⟩ := rd_c1 hr2
    have g12 := gr_trans g1 g2
    have hws : w.heap.size ≤ w1.heap.size := g1.size
    cases bad1 with
    | true =>
      have hbd := rd_bad hr2 true
      have hnone : o = none := by
        rcases hor with ⟨e, _⟩ | ⟨_, h | h⟩
        · cases e
        · cases h
        · rw [hp.out, h]
      replace hor := Lib.hid hor
      replace hbd := Lib.hid hbd
      replace hnone := Lib.hid hnone
      replace hr2 := Lib.hid hr2
      go_wp2
      go_ret
      exact ⟨_, l1, true, rfl, ⟨vt, vu, rfl⟩, hbd.out.1, by omega, gr_trans g12 hbd.out.2, .inr ⟨rfl, .inr hnone.out⟩⟩
    | false =>
      obtain ⟨x, hx, htv⟩ : ∃ x, pAlt n t = some (x, l1) ∧ Tv (fun k => w1.heap.size ≤ k ∧ k < w2.heap.size) w2 (.iface vt vu) x := by
        rcases hor with ⟨_, _, x, h1, h2⟩ | ⟨e, _⟩
        · exact ⟨x, h1, h2⟩
        · cases e
      have htk := take_any H R l1 false 41 w2 hr2
      have hp2 := hp.out
      rw [hx] at hp2
      simp only at hp2
      replace hp2 := Lib.hid hp2
      replace hx := Lib.hid hx
      replace htv := Lib.hid htv
      replace htk := Lib.hid htk
      replace hr2 := Lib.hid hr2
      clear hor
      go_wp2_with fail
      refine htk.out.mono ?_
      rintro e w3 (⟨l2, rfl, rfl, hr3, g3⟩ | ⟨hno, rfl, rfl⟩)
      · obtain ⟨k3, f3⟩ := rd_c1 hr3
        have hbd := rd_bad hr3 false
        have htv3 := tv_grr (tv_grr (lo := w1.heap.size) htv.out g3 (by have := rd_size h.out; omega)) hbd.2 (by have := rd_size h.out; omega)
        have hp3 := hp2.out
        simp only [if_true] at hp3
        replace hp3 := Lib.hid hp3
        replace htv3 := Lib.hid htv3
        replace hbd := Lib.hid hbd
        replace hr3 := Lib.hid hr3
        go_wp2
        go_ret
        refine ⟨_, l2, false, rfl, ⟨vt, vu, rfl⟩, hbd.out.1, ?_, gr_trans (gr_trans g12 g3) hbd.out.2, .inl ⟨rfl, rfl, x, hp3.out, tv_sub (fun k hk => ⟨by omega, hk.2⟩) htv3.out⟩⟩
        simp only [List.length_cons] at hl2 ⊢
        omega
      · have hbd := rd_bad hr2.out true
        have hnone : o = none := by
          have hp3 := hp2.out
          cases l1 with
          | nil => exact hp3
          | cons d l2 =>
            simp only at hp3
            rw [if_neg (fun e => hno l2 (by rw [e]))] at hp3
            exact hp3
        replace hbd := Lib.hid hbd
        replace hnone := Lib.hid hnone
        clear hno
        go_wp2
        go_ret
        exact ⟨_, l1, true, rfl, ⟨vt, vu, rfl⟩, hbd.out.1, by omega, gr_trans g12 hbd.out.2, .inr ⟨rfl, .inr hnone.out⟩⟩
  rw [if_neg c1] at hp
  have c1F : (c == 40) = false := eqF c1
  by_cases c2 : c = 91
  · subst c2
    simp only [if_true] at hp
    replace hp := Lib.hid hp
    clear hbar hdef
    go_enter Tryz.func163, Tryz.ntmps163
    go_wp2_with fail
    refine ha.out.mono ?_
    rintro e w1 ⟨rfl, hr1, g1⟩
    have hC := class_any H R t w1 n (by omega) (by omega) (Nat.le_trans hH g1.size) hr1
    replace hC := Lib.hid hC
    have hws : w.heap.size ≤ w1.heap.size := g1.size
    go_wp2_with fail
    refine hC.out.mono ?_
    rintro e w2 ⟨s, A, cc, l1, bad1, rfl, hr2, hl2, g2, hset, hor⟩
    simp only [setV]
    have hval : Tv (fun k => w.heap.size ≤ k ∧ k < w2.heap.size) w2 (.iface 204 (setV s A s.items.length cc)) (.one s) := Tv.one hset.1 (fun B o e ne => by have := hset.2.1 B o e ne; omega) hset.2.2
    replace hval := Lib.hid hval
    replace hor := Lib.hid hor
    replace hset := Lib.hid hset
    go_wp2
    go_ret
    refine ⟨_, l1, bad1, rfl, ⟨_, _, rfl⟩, hr2, by omega, gr_trans g1 g2, ?_⟩
    have hp2 := hp.out
    rcases hor.out with ⟨rfl, hq⟩ | ⟨rfl, hq⟩
    · rw [hq] at hp2
      exact .inl ⟨rfl, rfl, _, hp2, hval.out⟩
    · rw [hq] at hp2
      exact .inr ⟨rfl, .inr hp2⟩
  rw [if_neg c2] at hp
  have c2F : (c == 91) = false := eqF c2
  by_cases c3 : c = 46
  · subst c3
    simp only [if_true] at hp
    replace hp := Lib.hid hp
    clear hbar hdef
    go_enter Tryz.func163, Tryz.ntmps163
    go_wp2_with fail
    refine ha.out.mono ?_
    rintro e w1 ⟨rfl, hr1, g1⟩
    go_wp2
    go_ret
    exact ⟨_, t, false, rfl, ⟨_, _, rfl⟩, hr1, Nat.le_refl _, g1, .inl ⟨rfl, rfl, _, hp.out, dot_tv _ _⟩⟩
  rw [if_neg c3] at hp
  have c3F : (c == 46) = false := eqF c3
  by_cases c4 : c = 92
  · subst c4
    simp only [if_true] at hp
    replace hp := Lib.hid hp
    clear hbar hdef
    go_enter Tryz.func163, Tryz.ntmps163
    go_wp2_with fail
    refine ha.out.mono ?_
    rintro e w1 ⟨rfl, hr1, g1⟩
    have hA2 := any_any H R t false w1 hr1
    replace hA2 := Lib.hid hA2
    have hws : w.heap.size ≤ w1.heap.size := g1.size
    go_wp2_with fail
    refine hA2.out.mono ?_
    rintro e w2 (⟨d, t2, rfl, rfl, hr2, g2⟩ | ⟨rfl, rfl, hr2, g2⟩)
    · have hws2 : w.heap.size ≤ w2.heap.size := Nat.le_trans hws g2.size
      have hone := one_tv w2 w.heap.size d hws2
      replace hone := Lib.hid hone
      go_wp2
      go_ret
      exact ⟨_, t2, false, rfl, ⟨_, _, rfl⟩, rd_gr hr2 (gr_alloc _ _ _), by simp, gr_trans (gr_trans g1 g2) (gr_alloc _ _ _), .inl ⟨rfl, rfl, _, hp.out, hone.out⟩⟩
    · go_wp2
      go_ret
      exact ⟨_, [], true, rfl, ⟨_, _, rfl⟩, rd_gr hr2 (gr_alloc _ _ _), by simp, gr_trans (gr_trans g1 g2) (gr_alloc _ _ _), .inr ⟨rfl, .inr hp.out⟩⟩
  rw [if_neg c4] at hp
  have c4F : (c == 92) = false := eqF c4
  have hws0 : R < w.heap.size := by omega
  by_cases c5 : barred c = true
  · rw [if_pos c5] at hp
    rw [c5] at hbar
    replace hp := Lib.hid hp
    replace c5 := Lib.hid c5
    go_enter Tryz.func163, Tryz.ntmps163
    go_wp2_with fail
    refine ha.out.mono ?_
    rintro e w1 ⟨rfl, hr1, g1⟩
    go_wp2_with fail
    refine (hbar _).mono ?_
    rintro e w2 ⟨rfl, g2⟩
    have hr2 := rd_gr hr1 g2
    obtain ⟨k2, f2⟩ := rd_c1 hr2
    have hbd := rd_bad hr2 true
    replace hbd := Lib.hid hbd
    replace hr1 := Lib.hid hr1
    replace hr2 := Lib.hid hr2
    go_wp2
    go_ret
    exact ⟨_, t, true, rfl, ⟨_, _, rfl⟩, rd_gr hbd.out.1 (gr_alloc _ _ _), Nat.le_refl _, gr_trans (gr_trans (gr_trans g1 (gr_more _ g2)) hbd.out.2) (gr_alloc _ _ _), .inr ⟨rfl, .inr hp.out⟩⟩
  · rw [if_neg c5] at hp
    have c5F : barred c = false := by simpa using c5
    rw [c5F] at hbar
    replace hp := Lib.hid hp
    replace c5F := Lib.hid c5F
    clear c5
    go_enter Tryz.func163, Tryz.ntmps163
    go_wp2_with fail
    refine ha.out.mono ?_
    rintro e w1 ⟨rfl, hr1, g1⟩
    go_wp2_with fail
    refine (hbar _).mono ?_
    rintro e w2 ⟨rfl, g2⟩
    have hr2 := rd_gr hr1 g2
    have hws2 : w.heap.size ≤ w2.heap.size := Nat.le_trans g1.size g2.size
    have hone := one_tv w2 w.heap.size c hws2
    replace hone := Lib.hid hone
    replace hr1 := Lib.hid hr1
    replace hr2 := Lib.hid hr2
    go_wp2
    go_ret
    exact ⟨_, t, false, rfl, ⟨_, _, rfl⟩, rd_gr hr2.out (gr_alloc _ _ _), Nat.le_refl _, gr_trans (gr_trans g1 (gr_more _ g2)) (gr_alloc _ _ _), .inl ⟨rfl, rfl, _, hp.out, hone.out⟩⟩
end Go.Proofs.YtccmekdmnkmhlaaGreat
