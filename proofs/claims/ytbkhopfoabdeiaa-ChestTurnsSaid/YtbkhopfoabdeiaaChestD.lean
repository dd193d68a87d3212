/-
  The deeds of a chest with power: why a deed to a file can't be done; bytes are added, fixed, looked at. No condition but bounds.
-/
import Derived.Test.YtbkhopfoabdeiaaChestC
namespace Go.Proofs.Ytbkhopfoabdeiaa
open Go.RowKit Go.Maps

theorem strs_ones (ss : List (List UInt8)) : ∀ u ∈ ss.map strV, u.oneCell' = true := by
  intro u hu
  obtain ⟨s, _, rfl⟩ := List.mem_map.1 hu
  rfl
theorem own_one1 (w : World) (l : List UInt8) : (w.alloc (.cells #[.string (txt l)] 9)).ownsRow w.heap.size 9 1 (.slice (some ⟨w.heap.size, 0, none⟩) 1 1) 1 ([l].map strV) :=
  ⟨rfl, .inr ⟨w.heap.size, 1, #[.string (txt l)], rfl, Nat.le_refl _, blk_new w _, Nat.le_refl _, by unfold maxLen; omega, rfl, rfl⟩⟩
theorem own_else {w w' : World} {base n b : Nat} {e t : TypeId} {v : Value} {xs : List Value} {cs : Array Value} (h : w.ownsRow base e 1 v n xs) (g : w.grownBy w' v.ownBlock) (hb : w.heap[b]? = some (.cells cs t (0, 0))) (ht : e ≠ t) : w'.heap[b]? = some (.cells cs t (0, 0)) := by
  refine gr_blk g hb ?_
  intro eq
  rcases h.2 with ⟨hv, _⟩ | ⟨g', cap, cur, hv, _, hg, _⟩
  · rw [hv] at eq; cases eq
  · rw [hv] at eq
    have : g' = b := by simpa [Value.ownBlock] using eq.symm
    subst this
    rw [hb] at hg
    injection hg with h1
    injection h1 with _ h2
    exact ht h2.symm
theorem own_elseM {w w' : World} {base n M : Nat} {e : TypeId} {v : Value} {xs : List Value} {fs : Fs} (h : w.ownsRow base e 1 v n xs) (g : w.grownBy w' v.ownBlock) (hm : MapF w M fs) : MapF w' M fs := by
  refine hm.kept g ?_
  intro eq
  rcases h.2 with ⟨hv, _⟩ | ⟨g', cap, cur, hv, _, hg, _⟩
  · rw [hv] at eq; cases eq
  · rw [hv] at eq
    have : g' = M := by simpa [Value.ownBlock] using eq.symm
    subst this
    obtain ⟨es, clock, hb, _⟩ := hm
    rw [hb] at hg
    cases hg
/-- A row of the call's own has been added to. -/
theorem ch_own {w wi w' : World} {C M n : Nat} {q dd : Int} {fs : Fs} {off : Bool} {v : Value} {xs : List Value} (h : ChIs w wi C M q fs off dd) (ho : wi.ownsRow w.heap.size 9 1 v n xs) (g : wi.grownBy w' v.ownBlock) : ChIs w w' C M q fs off dd := by
  refine ⟨?_, own_else ho g h.blk (by decide), own_elseM ho g h.map, h.le⟩
  cases hb : v.ownBlock with
  | none => rw [hb] at g; exact gr_trans h.gr g
  | some b => rw [hb] at g; exact gr_overC h.gr g (ho.lt b hb).1
/-- Why a deed to a file can't be done. -/
def whyC (fs : Fs) (ss : List (List UInt8)) (l : List UInt8) : Int := if (ss ++ [l]).all okNm then (if (getF fs l).isSome then 0 else 7) else 1
set_option maxHeartbeats 8000000 in
set_option maxRecDepth 100000 in
theorem there_any {w wi : World} {C M : Nat} {q dd : Int} {fs : Fs} (h : ChIs w wi C M q fs false dd) (l : List UInt8) (hl : l.length ≤ 1000000) (A : Option Addr) (n c : Nat) (ss : List (List UInt8)) (hn : n ≤ 1000) (hss : ∀ s ∈ ss, s.length ≤ 1000000) (ho : wi.ownsRow w.heap.size 9 1 (.slice A n c) n (ss.map strV)) :
    Calls Try.prog 26 #[.pointer (some ⟨C, 0, none⟩), .string (txt l), .slice A n c] wi fun e w' => e = .returned (.int .i64 (whyC fs ss l)) ∧ ChIs w w' C M q fs false dd ∧ wi.grownBy w' (Value.slice A n c).ownBlock := by
  obtain ⟨ii, hi, hz0, hz1, hz2⟩ := info_parts infoStr
  obtain ⟨res, hres⟩ : ∃ res, res = whyC fs ss l := ⟨_, rfl⟩
  rw [← hres]
  unfold whyC at hres
  obtain ⟨W1, hW1⟩ : ∃ W1, W1 = wi.alloc (.cells #[.string (txt l)] 9) := ⟨_, rfl⟩
  have g1 : Gr wi W1 := by rw [hW1]; exact gr_alloc _ _ _
  have hr1 : Row W1 (some ⟨wi.heap.size, 0, none⟩) 1 1 ([l].map strV) := by rw [hW1]; exact row1 wi l
  have h1 := ch_gr h g1
  have ho1 := ho.kept g1 (Classical.em _)
  have hbase : w.heap.size ≤ W1.heap.size := Nat.le_trans h.gr.size g1.size
  have hones := strs_ones [l]
  replace ho1 := Lib.hid ho1
  replace hr1 := Lib.hid hr1
  replace h1 := Lib.hid h1
  replace g1 := Lib.hid g1
  replace hss := Lib.hid hss
  replace hres := Lib.hid hres
  replace hbase := Lib.hid hbase
  replace hones := Lib.hid hones
  clear h ho
  go_enter Try.func26, Try.ntmps26
  go_wp2_with (at_builtin; rw [← hW1]; clear hW1; refine wpList_append_row rfl _ _ 22 rfl w.heap.size 9 ii (.string ⟨#[]⟩) 1 16 Try.underlying22 hi hz0 hz1 hz2 rfl (by decide) (.slice A n c) n (ss.map strV) rfl ho1.out (some ⟨wi.heap.size, 0, none⟩) 1 1 ([l].map strV) rfl (fun e => by cases e) hr1.out hones.out (n + 1) ((ss ++ [l]).map strV) rfl (by simp) (by unfold maxLen; omega) (by omega) hbase.out ?_; intro v2 W2 hown2 g2)
  have h2 := ch_own h1.out ho1.out g2
  obtain ⟨A2, c2, rfl, _⟩ : ∃ A2 c2, v2 = .slice A2 (n + 1) c2 ∧ True := by
    rcases hown2.2 with ⟨rfl, h0⟩ | ⟨g, cap, cur, rfl, _⟩
    · exact ⟨none, 0, by rw [h0], trivial⟩
    · exact ⟨_, _, rfl, trivial⟩
  have cM := may_any C M q dd A2 (n + 1) c2 (ss ++ [l]) W2 h2.blk (row_own hown2) (by omega) (by intro s hs; rcases List.mem_append.1 hs with hs | hs; exact hss.out s hs; rw [List.mem_singleton.1 hs]; exact hl)
  have hlk := look2 h2.map l hl
  have c1 := (chb_cells h2.blk).2.1
  have hG2 := gr_trans (gr_more _ g1.out) g2
  replace hG2 := Lib.hid hG2
  replace h2 := Lib.hid h2
  clear hown2 g2 ho1 hr1 h1 hss hones hbase
  generalize hall : (ss ++ [l]).all okNm = al at cM hres
  cases al with
  | false =>
    simp only [Bool.false_eq_true, if_false] at cM hres
    replace cM := Lib.hid cM
    clear hlk c1
    go_wp2_with fail
    refine cM.out.mono ?_
    rintro e w' ⟨rfl, rfl⟩
    go_wp2
    go_ret
    exact ⟨by rw [hres.out]; rfl, h2.out, hG2.out⟩
  | true =>
    simp only [if_true] at cM hres
    replace cM := Lib.hid cM
    generalize (getF fs l).getD ⟨[], 0⟩ = f0 at hlk
    generalize (getF fs l).isSome = bo at hlk hres
    obtain ⟨fb, fx⟩ := f0
    unfold flV at hlk
    simp only at hlk
    go_wp2_with fail
    refine cM.out.mono ?_
    rintro e w' ⟨rfl, rfl⟩
    have h3 := ch_gr h2.out (gr_alloc W2 (.cells #[.string (txt fb), .int .i64 fx] 47) none)
    have hG3 := gr_trans hG2.out (gr_alloc W2 (.cells #[.string (txt fb), .int .i64 fx] 47) _)
    replace h3 := Lib.hid h3
    replace hG3 := Lib.hid hG3
    cases bo with
    | true =>
      simp only [if_true] at hres
      go_wp2
      go_ret
      exact ⟨by rw [hres.out]; rfl, h3.out, hG3.out⟩
    | false =>
      simp only [Bool.false_eq_true, if_false] at hres
      go_wp2
      go_ret
      exact ⟨by rw [hres.out]; rfl, h3.out, hG3.out⟩
end Go.Proofs.Ytbkhopfoabdeiaa
