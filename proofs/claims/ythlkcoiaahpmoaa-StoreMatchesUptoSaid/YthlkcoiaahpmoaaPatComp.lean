/-
  What pattern.Compile answers: a machine that takes just what the pattern means, or an error. No condition but a bound on the length.
-/
import Derived.Test.YthlkcoiaahpmoaaPatBuild4
namespace Go.Proofs.Ythlkcoiaahpmoaa
open Go.RowKit

/-- A pattern in memory, behind lo. -/
def PatIn (lo : Nat) (w : World) (p : Nat) (l : List UInt8) (x : T) : Prop := ∃ (zs : List (Stp × Lst)) (A : Option Addr) (c first : Nat), BldAt lo w p (txt l) zs A c (first : Int) ∧ Mach (zs.map (·.1)) first x ∧ zs.length ≤ 1000 ∧ first < 1000
theorem it_lo {lo lo' : Nat} {w : World} {p : Nat} {z : Stp × Lst} (h : ItOk lo w p z) (hl : lo' ≤ lo) : ItOk lo' w p z := ⟨h.1, h.2.1, fun B o e ne => by have := h.2.2.1 B o e ne; omega, h.2.2.2⟩
theorem pat_lo {lo lo' : Nat} {w : World} {p : Nat} {l : List UInt8} {x : T} (h : PatIn lo w p l x) (hl : lo' ≤ lo) : PatIn lo' w p l x := by
  obtain ⟨zs, A, c, first, h1, h2⟩ := h
  exact ⟨zs, A, c, first, ⟨h1.pb, h1.own, fun z hz => it_lo (h1.it z hz) hl⟩, h2⟩
theorem patIn_gr {lo : Nat} {w w' : World} {p : Nat} {l : List UInt8} {x : T} (h : PatIn lo w p l x) (g : Gr w w') : PatIn lo w' p l x := by
  obtain ⟨zs, A, c, first, h1, h2, h3⟩ := h
  exact ⟨zs, A, c, first, bld_gr h1 g, h2, h3⟩
/-- A pattern is kept where only an elder block turns, or one that is no pattern's. -/
theorem patIn_keep {lo k : Nat} {w w' : World} {p : Nat} {l : List UInt8} {x : T} {cs : Array Value} {t : TypeId} {fr : Nat × Nat} (h : PatIn lo w p l x) (g : w.grownBy w' (some k)) (hk : w.heap[k]? = some (.cells cs t fr)) (ht : t ≠ 111) (ht2 : t ≠ 127) (hlt : k < lo ∨ p < k) : PatIn lo w' p l x := by
  obtain ⟨zs, A, c, first, h1, h2, h3⟩ := h
  refine ⟨zs, A, c, first, ⟨gr_blk g h1.pb (fun e => ?_), h1.own.kept g ?_, fun z hz => ?_⟩, h2, h3⟩
  · have e2 := Option.some.inj e
    subst e2
    have e3 := hk.symm.trans h1.pb
    injection e3 with e4
    injection e4 with _ e5
    exact ht e5
  · rcases h1.own.2 with ⟨hv, _⟩ | ⟨g0, cap, cur, hv, _, hg, _⟩
    · rw [hv]; exact .inl rfl
    · rw [hv]
      refine .inr fun e => ?_
      have e2 : g0 = k := by simpa [Value.ownBlock] using e
      subst e2
      have e3 := hk.symm.trans hg
      injection e3 with e4
      injection e4 with _ e5
      exact ht2 e5
  · obtain ⟨q1, q2, q3, q4⟩ := h1.it z hz
    exact ⟨q1, row_kept (P := fun b => lo ≤ b ∧ b < p) q2 g (fun B o e ne => q3 B o e (ics_ne ne)) (fun b hb e => by have := Option.some.inj e; omega), q3, q4⟩
/-- A pattern in memory. -/
abbrev PatAt (w : World) (p : Nat) (l : List UInt8) (x : T) : Prop := PatIn 0 w p l x
theorem pat_gr {w w' : World} {p : Nat} {l : List UInt8} {x : T} (h : PatAt w p l x) (g : Gr w w') : PatAt w' p l x := patIn_gr h g
def CmpPost (n : Nat) (l : List UInt8) (w : World) (e : Ending) (w' : World) : Prop :=
  Gr w w' ∧ ((40 < (runesOf l).length ∧ e = .returned (.tuple #[.pointer none, .int .i64 1])) ∨ ((runesOf l).length ≤ 40 ∧ (∀ x, pAlt n (runesOf l) ≠ some (x, [])) ∧ e = .returned (.tuple #[.pointer none, .int .i64 2])) ∨
    ((runesOf l).length ≤ 40 ∧ ∃ p x, pAlt n (runesOf l) = some (x, []) ∧ w.heap.size ≤ p ∧ e = .returned (.tuple #[.pointer (some ⟨p, 0, none⟩), .int .i64 0]) ∧ PatAt w' p l x))
def CmpIn (n : Nat) (l : List UInt8) (w : World) (e : Ending) (w' : World) : Prop :=
  Gr w w' ∧ ((40 < (runesOf l).length ∧ e = .returned (.tuple #[.pointer none, .int .i64 1])) ∨ ((runesOf l).length ≤ 40 ∧ (∀ x, pAlt n (runesOf l) ≠ some (x, [])) ∧ e = .returned (.tuple #[.pointer none, .int .i64 2])) ∨
    ((runesOf l).length ≤ 40 ∧ ∃ p x, pAlt n (runesOf l) = some (x, []) ∧ w.heap.size ≤ p ∧ e = .returned (.tuple #[.pointer (some ⟨p, 0, none⟩), .int .i64 0]) ∧ PatIn w.heap.size w' p l x))
theorem gr_out {w w1 w2 : World} {R : Nat} (h : Gr w w1) (g : w1.grownBy w2 (some R)) (hR : w.heap.size ≤ R) : Gr w w2 :=
  ⟨g.os.trans h.os, g.tape.trans h.tape, g.output.trans h.output, Nat.le_trans h.size g.size, fun k hk hr => (g.block k (Nat.lt_of_lt_of_le hk h.size) (fun e => by have := Option.some.inj e; omega)).trans (h.block k hk hr)⟩
set_option maxHeartbeats 4000000 in
set_option maxRecDepth 100000 in
theorem compile_in (n : Nat) (hn : 123 ≤ n) (l : List UInt8) (w : World) (hl : l.length ≤ 1000000) : Calls Try.prog 63 #[.string (txt l)] w (CmpIn n l w) := by
  have hrm : (chunks l).map runeV = (runesOf l).map (.int .i32) := by unfold runesOf; rw [List.map_map]; rfl
  have hrl := runes_len l
  have hok : ∀ r ∈ runesOf l, RuneOk r := fun r hr => runes_ok hr
  have hle := runes_le l
  go_enter Try.func63, Try.ntmps63
  go_wp2_with fail
  refine (spell_any l _ (by omega)).mono ?_
  rintro e W1 ⟨v, rfl, hown, g1⟩
  rw [hrm, ← hrl] at hown
  obtain ⟨A, c, rfl, _, _⟩ := own_open hown
  have hrow := row_own hown
  have hcap : (runesOf l).length ≤ c := by
    rcases hown.2 with ⟨hv, hz⟩ | ⟨g, cap, cur, hv, _, _, hz, _⟩
    · injection hv with _ h2 h3; omega
    · injection hv with _ h2 h3; omega
  have hBlt : ∀ B o, A = some ⟨B, o, none⟩ → B < W1.heap.size := fun B o e => (hown.lt B (by rw [e]; rfl)).2
  obtain ⟨rs, hrs⟩ : ∃ rs, rs = runesOf l := ⟨_, rfl⟩
  rw [← hrs] at hrow hcap hok hle hrl ⊢
  obtain ⟨N, hN⟩ : ∃ N, N = rs.length := ⟨_, rfl⟩
  rw [← hN] at hrow hcap hle ⊢
  clear hrm hrl hown
  replace hrs := Lib.hid hrs
  replace hN := Lib.hid hN
  by_cases hbig : 40 < N
  · have hbi : (40 : Int) < (N : Int) := by omega
    replace hrow := Lib.hid hrow
    go_wp2
    go_ret2
    unfold CmpIn
    rw [← hrs.out]
    exact ⟨g1, .inl ⟨by have := hN.out; omega, rfl⟩⟩
  have hbi : ((40 : Int) < (N : Int)) = False := by simp; omega
  obtain ⟨W2, hW2⟩ : ∃ W2, W2 = W1.alloc (.cells #[.slice A N c, .bool false] 120) := ⟨_, rfl⟩
  have g2 : Gr W1 W2 := by rw [hW2]; exact gr_alloc _ _ _
  have hb2 : W2.heap[W1.heap.size]? = some (.cells #[.slice A N c, .bool false] 120 (0, 0)) := by rw [hW2]; exact blk_new _ _
  have hs2 : W1.heap.size + 1 ≤ W2.heap.size := lt_of_blk hb2
  have hrd : RdAt (W1.heap.size + 1) W2 W1.heap.size rs false := ⟨by omega, hok, A, c, by rw [← hN.out]; exact hb2, by rw [← hN.out]; exact row_gr hrow g2, by rw [← hN.out]; exact hcap, fun _ B o e => by have := hBlt B o e; omega⟩
  have hA := (all_C n).1 (W1.heap.size + 1) W1.heap.size rs W2 (by have := hN.out; omega) (by have := hN.out; omega) hs2 hrd
  replace hrow := Lib.hid hrow
  replace hA := Lib.hid hA
  replace hb2 := Lib.hid hb2
  replace hrd := Lib.hid hrd
  replace hok := Lib.hid hok
  clear hBlt
  go_wp2_with fail
  have hchg : ∀ (Q : Ending → World → Prop), Calls Try.prog 73 #[.pointer (some ⟨W1.heap.size, 0, none⟩)] W2 Q → Calls Try.prog 73 #[.pointer (some ⟨W1.heap.size, 0, none⟩)] (W1.alloc (.cells #[.slice A N c, .bool false] 120)) Q := fun Q h => by rw [← hW2]; exact h
  refine hchg _ ?_
  clear hchg
  refine hA.out.mono ?_
  rintro e W3 ⟨tv, l3, bad3, rfl, hif, hr3, hl3, g3, hor⟩
  have G3 : Gr w W3 := gr_out (gr_trans g1 g2) g3 g1.size
  obtain ⟨k31, _⟩ := rd_c1 hr3
  have k30 : ∃ A3 c3, W3.cell? ⟨W1.heap.size, 0, none⟩ = some (.slice A3 l3.length c3) := by
    obtain ⟨_, _, A3, c3, q1, _⟩ := hr3
    exact ⟨A3, c3, blk_cell q1 rfl⟩
  obtain ⟨A3, c3, k30⟩ := k30
  replace hW2 := Lib.hid hW2
  replace hr3 := Lib.hid hr3
  replace g3 := Lib.hid g3
  replace g1 := Lib.hid g1
  replace g2 := Lib.hid g2
  cases bad3 with
  | true =>
    have hno : ∀ x, pAlt n rs ≠ some (x, []) := fun x hx => by
      rcases hor with ⟨e, _⟩ | ⟨_, h | h⟩
      · cases e
      · cases h
      · rw [h] at hx; cases hx
    replace hno := Lib.hid hno
    clear hor
    go_wp2
    go_ret2
    unfold CmpIn
    rw [← hrs.out]
    exact ⟨G3, .inr (.inl ⟨by have := hN.out; omega, hno.out, rfl⟩)⟩
  | false =>
    obtain ⟨x, hx, htv⟩ : ∃ x, pAlt n rs = some (x, l3) ∧ Tv (fun k => W2.heap.size ≤ k ∧ k < W3.heap.size) W3 tv x := by
      rcases hor with ⟨_, _, x, h1, h2⟩ | ⟨e, _⟩
      · exact ⟨x, h1, h2⟩
      · cases e
    clear hor
    cases l3 with
    | cons d t3 =>
      have hno : ∀ x, pAlt n rs ≠ some (x, []) := fun y hy => by rw [hx] at hy; cases hy
      have hd0 : (0 : Int) < ((d :: t3).length : Int) := by have : (d :: t3).length = t3.length + 1 := rfl
                                                            omega
      generalize (d :: t3).length = q at *
      replace hno := Lib.hid hno
      replace hx := Lib.hid hx
      replace htv := Lib.hid htv
      go_wp2
      go_ret2
      unfold CmpIn
      rw [← hrs.out]
      exact ⟨G3, .inr (.inl ⟨by have := hN.out; omega, hno.out, rfl⟩)⟩
    | nil =>
      obtain ⟨W4, hW4⟩ : ∃ W4, W4 = W3.alloc (.cells #[.string (txt l), .slice none 0 0, .int .i64 0] 111) := ⟨_, rfl⟩
      have g4 : Gr W3 W4 := by rw [hW4]; exact gr_alloc _ _ _
      have hb4 : W4.heap[W3.heap.size]? = some (.cells #[.string (txt l), .slice none 0 0, .int .i64 0] 111 (0, 0)) := by rw [hW4]; exact blk_new _ _
      have h4 : BldAt w.heap.size W4 W3.heap.size (txt l) [] none 0 0 := ⟨hb4, World.ownsRow_nil _ _ _ _, by simp⟩
      have hadd := add_any W3.heap.size (txt l) [] none 0 0 (⟨⟨false, false, []⟩, false, (-1 : Int), (-1 : Int)⟩, ⟨none, 0, 0⟩) W4 (by simp) h4 (none_it _ _ _ _ _)
      unfold aggV at hadd
      simp only at hadd
      have htv4 := tv_keep g4 (fun k _ e => by cases e) htv
      have hsz := pAlt_size hx
      rw [← hN.out] at hsz
      replace hadd := Lib.hid hadd
      replace h4 := Lib.hid h4
      replace hb4 := Lib.hid hb4
      replace hx := Lib.hid hx
      replace htv := Lib.hid htv
      replace htv4 := Lib.hid htv4
      replace g4 := Lib.hid g4
      obtain ⟨vt, vu, rfl⟩ := hif
      go_wp2_with fail
      have hchg : ∀ (Q : Ending → World → Prop) args, Calls Try.prog 74 args W4 Q → Calls Try.prog 74 args (W3.alloc (.cells #[.string (txt l), .slice none 0 0, .int .i64 0] 111)) Q := fun Q args h => by rw [← hW4]; exact h
      refine hchg _ _ ?_
      clear hchg
      replace hW4 := Lib.hid hW4
      refine hadd.out.mono ?_
      rintro e W5 ⟨rfl, A5, c5, h5, f5⟩
      have htv5 := tv_same (P := fun k => w.heap.size ≤ k ∧ k < W3.heap.size) f5.size (fun k hk => f5.low k hk.2) (tv_sub (fun k hk => ⟨Nat.le_trans (Nat.le_trans g1.out.size g2.out.size) hk.1, hk.2⟩) htv4.out)
      have hB := build_any W3.heap.size (txt l) 0 (tsize x) x _ (Nat.le_refl _) _ A5 c5 0 W5 h5 htv5 (by simp; omega)
      replace hB := Lib.hid hB
      replace h5 := Lib.hid h5
      replace f5 := Lib.hid f5
      replace htv5 := Lib.hid htv5
      go_wp2_with fail
      refine hB.out.mono ?_
      rintro e W6 ⟨at', zs, A6, c6, rfl, h6, f6, hl6, hs6, hpre6, hfr6⟩
      have k6 : W6.cell? ⟨W3.heap.size, 2, none⟩ = some (.int .i64 0) := blk_cell h6.pb rfl
      have q6 : W6.frozen? ⟨W3.heap.size, 2, none⟩ = false := blk_free h6.pb 2
      have hp6 : W3.heap.size < W6.heap.size := lt_of_blk h6.pb
      have gset : W6.grownBy (W6.setCell ⟨W3.heap.size, 2, none⟩ (.int .i64 at')) (some W3.heap.size) := gr_set W6 ⟨W3.heap.size, 2, none⟩ _
      have f7 : BFr W3.heap.size W6 (W6.setCell ⟨W3.heap.size, 2, none⟩ (.int .i64 at')) := bfr_p (Nat.le_of_lt hp6) gset
      have h7 : BldAt w.heap.size (W6.setCell ⟨W3.heap.size, 2, none⟩ (.int .i64 at')) W3.heap.size (txt l) zs A6 c6 (at' : Int) := ⟨blk_set h6.pb 2 (.int .i64 at'), h6.own.kept gset (by
        cases hb : (Value.slice A6 zs.length c6).ownBlock with
        | none => exact .inl rfl
        | some k => exact .inr fun e => by have := (h6.own.lt k hb).1; have := Option.some.inj e; omega), fun z hz => it_same (h6.it z hz) f7.size f7.low⟩
      simp only [List.nil_append, List.length_cons, List.length_nil, Nat.zero_add] at hl6 hs6 hpre6 hfr6
      have hmach : Mach (zs.map (·.1)) at' x := by
        refine ⟨⟨⟨false, false, []⟩, ?_⟩, ?_⟩
        · have := hpre6 0 (by omega)
          rw [List.getElem?_map, this]
          rfl
        · rw [List.length_map]; exact hfr6
      have hfin : Gr w (W6.setCell ⟨W3.heap.size, 2, none⟩ (.int .i64 at')) := by
        have hf : BFr W3.heap.size W4 (W6.setCell ⟨W3.heap.size, 2, none⟩ (.int .i64 at')) := bfr_trans f5.out (bfr_trans f6 f7)
        have hg : Gr W3 (W6.setCell ⟨W3.heap.size, 2, none⟩ (.int .i64 at')) := ⟨hf.os.trans g4.out.os, hf.tape.trans g4.out.tape, hf.output.trans g4.out.output, Nat.le_trans g4.out.size hf.size, fun k hk hr => (hf.low k hk).trans (g4.out.block k hk hr)⟩
        exact gr_trans G3 hg
      have hfirst : at' < 1000 ∨ 1000 ≤ at' := by omega
      have hpat : PatIn w.heap.size (W6.setCell ⟨W3.heap.size, 2, none⟩ (.int .i64 at')) W3.heap.size l x := ⟨zs, A6, c6, at', h7, hmach, by omega, frag_at hmach (by rw [List.length_map]; omega)⟩
      have hw3 : w.heap.size ≤ W3.heap.size := G3.size
      replace hfin := Lib.hid hfin
      replace hpat := Lib.hid hpat
      replace h6 := Lib.hid h6
      replace h7 := Lib.hid h7
      replace f6 := Lib.hid f6
      replace f7 := Lib.hid f7
      replace gset := Lib.hid gset
      replace hmach := Lib.hid hmach
      replace hpre6 := Lib.hid hpre6
      replace hfr6 := Lib.hid hfr6
      clear hfirst
      go_wp2
      go_ret2
      unfold CmpIn
      rw [← hrs.out]
      exact ⟨hfin.out, .inr (.inr ⟨by have := hN.out; omega, _, x, hx.out, hw3, rfl, hpat.out⟩)⟩
theorem compile_any (n : Nat) (hn : 123 ≤ n) (l : List UInt8) (w : World) (hl : l.length ≤ 1000000) : Calls Try.prog 63 #[.string (txt l)] w (CmpPost n l w) :=
  (compile_in n hn l w hl).mono fun e w' h => by
    obtain ⟨g, h⟩ := h
    refine ⟨g, ?_⟩
    rcases h with h | h | ⟨h1, p, x, h2, h3, h4, h5⟩
    · exact .inl h
    · exact .inr (.inl h)
    · exact .inr (.inr ⟨h1, p, x, h2, h3, h4, pat_lo h5 (Nat.zero_le _)⟩)
end Go.Proofs.Ythlkcoiaahpmoaa
