/-
  What window.Last answers; the first call of the laws of chapter 5. No condition but a bound on the length.
-/
import Derived.Test.YtkpmonefhpnljaaGreatWinInc
namespace Go.Proofs.YtkpmonefhpnljaaGreat
open Go.RowKit

/-- A row of the call's own as a slice, whatever its elements' size. -/
theorem own_slice2 {w : World} {base : Nat} {e : TypeId} {v : Value} {n size : Nat} {xs : List Value} (h : w.ownsRow base e size v n xs) :
    ∃ A c, v = .slice A n c ∧ n ≤ c ∧ c ≤ 9223372036854775807 ∧ Row w A n size xs := by
  rcases h.2 with ⟨rfl, rfl⟩ | ⟨g, cap, cur, rfl, hg, hh, hn, hc, hs, hx⟩
  · exact ⟨none, 0, rfl, Nat.le_refl _, by omega, row_own h⟩
  · exact ⟨_, cap, rfl, hn, by unfold maxLen at hc; omega, row_own h⟩
theorem row_new2 (w : World) (cs : Array Value) (e : TypeId) (n size : Nat) (hn : cs.size = n * size) : Row (w.alloc (.cells cs e)) (some ⟨w.heap.size, 0, none⟩) n size cs.toList := by
  refine ⟨by simp [hn], fun j u hj => ⟨w.heap.size, 0, rfl, by simp, ?_⟩⟩
  rw [Nat.zero_add, World.cell?_alloc_new]
  simpa using hj
def lastV (P : List (Int × Int)) : Int × Bool := if P.length = 0 then (0, false) else (pV P (P.length - 1), true)
def LastPost (zs : List (Int × Int)) (t d : Int) (w : World) (e : Ending) (w' : World) : Prop := e = .returned (.tuple #[.int .i64 (lastV (ofP zs t d)).1, .bool (lastV (ofP zs t d)).2]) ∧ Gr w w'
theorem ofP_len (zs : List (Int × Int)) (t d : Int) : (ofP zs t d).length ≤ zs.length := by
  unfold ofP
  split
  · exact List.length_filter_le _ _
  · simp
theorem ofP_25 (zs : List (Int × Int)) (t d : Int) : (ofP zs t d).length ≤ 25 := by
  unfold ofP
  split
  · rename_i h
    unfold mayWin at h
    simp only [Bool.and_eq_true] at h
    have := (right_iff.1 h.1).1
    have h2 := List.length_filter_le (inWin t d) zs
    omega
  · simp
set_option maxHeartbeats 1000000 in
theorem last_any (A : Option Addr) (n c : Nat) (zs : List (Int × Int)) (t d : Int) (w : World) (hn : n ≤ 9223372036854775807) (hr : PtRow w A n zs) (ht : -9223372036854775808 ≤ t ∧ t ≤ 9223372036854775807) (hd : -9223372036854775808 ≤ d ∧ d ≤ 9223372036854775807) :
    Calls Tryz.prog 9 #[.slice A n c, .int .i64 t, .int .i64 d] w (LastPost zs t d w) := by
  have cO := winOf_any A n c zs t d w hn hr ht hd
  have h25 := ofP_25 zs t d
  have hl0 : lastV (ofP zs t d) = if (ofP zs t d).length = 0 then (0, false) else (pV (ofP zs t d) ((ofP zs t d).length - 1), true) := rfl
  unfold OfPost at cO
  have hpost : ∀ e w', LastPost zs t d w e w' ↔ (e = .returned (.tuple #[.int .i64 (lastV (ofP zs t d)).1, .bool (lastV (ofP zs t d)).2]) ∧ Gr w w') := fun _ _ => Iff.rfl
  generalize ofP zs t d = P at *
  replace cO := Lib.hid cO
  replace hl0 := Lib.hid hl0
  replace hpost := Lib.hid hpost
  clear hr
  go_enter Tryz.func9, Tryz.ntmps9
  go_wp2_with fail
  refine cO.out.mono ?_
  rintro e W1 ⟨v, rfl, hown, g1⟩
  obtain ⟨A1, c1, rfl, _, _, hr1⟩ := own_slice2 hown
  clear hown
  by_cases h0 : P.length = 0
  · have hv : lastV P = (0, false) := by rw [hl0.out, if_pos h0]
    have h0' : ((P.length : Int) == 0) = true := eqT (by omega)
    replace hv := Lib.hid hv
    replace h0 := Lib.hid h0
    go_wp2
    go_ret2
    rw [hpost.out, hv.out]
    exact ⟨rfl, g1⟩
  · have hv : lastV P = (pV P (P.length - 1), true) := by rw [hl0.out, if_neg h0]
    have h0' : ((P.length : Int) == 0) = false := eqF (by omega)
    obtain ⟨B, o, rfl, _, _, hc2⟩ := pt_cell (show PtRow W1 A1 P.length P from hr1) (k := P.length - 1) (by omega)
    obtain ⟨m, hm⟩ : ∃ m, P.length = m + 1 := ⟨P.length - 1, by omega⟩
    rw [hm] at hc2 hv h25 h0' ⊢
    rw [Nat.add_sub_cancel] at hc2 hv
    generalize pV P m = V at *
    replace hv := Lib.hid hv
    replace hm := Lib.hid hm
    clear h0 hr1
    go_wp2
    go_ret2
    rw [hpost.out, hv.out]
    exact ⟨rfl, g1⟩

def alL : List (Int × Int) := [(1, 5), (2, 9), (3, 2)]
theorem al1 : doInc alL = (6, true, 0) := by decide +kernel
theorem al2 : lastV (ofP alL 9 7) = (2, true) := by decide +kernel
theorem al3 : (ofP alL 3 2).length = 2 := by decide +kernel
theorem al4 : rightB alL = true := by decide +kernel
set_option maxHeartbeats 2000000 in
set_option maxRecDepth 100000 in
theorem alive_any (w : World) : Calls Tryz.prog 4 #[] w fun e w' => e = .returned (.bool true) ∧ Gr w w' := by
  have hp : PtRow (w.alloc (.cells #[.int .i64 1, .int .i64 5, .int .i64 2, .int .i64 9, .int .i64 3, .int .i64 2] 43)) (some ⟨w.heap.size, 0, none⟩) 3 alL := row_new2 w _ _ 3 2 rfl
  obtain ⟨W0, hW0⟩ : ∃ W0, W0 = w.alloc (.cells #[.int .i64 1, .int .i64 5, .int .i64 2, .int .i64 9, .int .i64 3, .int .i64 2] 43) := ⟨_, rfl⟩
  have g0 : Gr w W0 := by rw [hW0]; exact gr_alloc w _ none
  rw [← hW0] at hp
  have cD := fun W (g : Gr W0 W) => do_inc (some ⟨w.heap.size, 0, none⟩) 3 3 alL W (by omega) (pt_gr hp g)
  have cL := fun W (g : Gr W0 W) => last_any (some ⟨w.heap.size, 0, none⟩) 3 3 alL 9 7 W (by omega) (pt_gr hp g) (by omega) (by omega)
  have cO := fun W (g : Gr W0 W) => winOf_any (some ⟨w.heap.size, 0, none⟩) 3 3 alL 3 2 W (by omega) (pt_gr hp g) (by omega) (by omega)
  have cR := fun W (g : Gr W0 W) => winRight_any (some ⟨w.heap.size, 0, none⟩) 3 3 alL W (by omega) (pt_gr hp g)
  unfold DoIncPost ret3 at cD
  unfold LastPost at cL
  unfold OfPost at cO
  rw [al1] at cD
  rw [al2] at cL
  rw [al3] at cO
  rw [al4] at cR
  obtain ⟨S, hS⟩ : ∃ S, S = txt incL := ⟨_, rfl⟩
  replace cD := Lib.hid cD
  replace cL := Lib.hid cL
  replace cO := Lib.hid cO
  replace cR := Lib.hid cR
  replace hp := Lib.hid hp
  replace g0 := Lib.hid g0
  replace hW0 := Lib.hid hW0
  go_enter Tryz.func4, Tryz.ntmps4
  go_wp2_with fail
  rw [← hW0.out]
  refine (cD.out _ (gr_refl _ _)).mono ?_
  rintro e W1 ⟨rfl, g1⟩
  go_wp2_with fail
  refine (cL.out _ g1).mono ?_
  rintro e W2 ⟨rfl, g2⟩
  go_wp2_with fail
  refine (cO.out _ (gr_trans g1 g2)).mono ?_
  rintro e W3 ⟨v, rfl, ho, g3⟩
  obtain ⟨A1, c1, rfl, _, _, hr1⟩ := own_slice2 ho
  clear ho hr1
  go_wp2_with fail
  refine (cR.out _ (gr_trans (gr_trans g1 g2) g3)).mono ?_
  rintro e W4 ⟨rfl, g4⟩
  go_wp2
  go_ret
  exact ⟨rfl, gr_trans (gr_trans (gr_trans (gr_trans g0.out g1) g2) g3) g4⟩
end Go.Proofs.YtkpmonefhpnljaaGreat
