/-
  What slip.Pages answers. No condition.
-/
import Derived.Test.YtmldoeeangekoaaGreatDoorAid
import Derived.Test.YtmldoeeangekoaaGreatDoorProg
namespace Go.Proofs.YtmldoeeangekoaaGreatDoor
open Go.RowKit

/-- The number of pages. -/
def pagesN (rows size : Nat) : Nat := max ((rows + size - 1) / size) 1
def pagesL (size k : Nat) : List Int := (List.range k).map fun j => ((j * size : Nat) : Int)
theorem pagesL_succ (size k : Nat) : pagesL size (k + 1) = pagesL size k ++ [((k * size : Nat) : Int)] := by unfold pagesL; rw [List.range_succ, List.map_append]; rfl
theorem pagesL_len (size k : Nat) : (pagesL size k).length = k := by simp [pagesL]
/-- There is one more page just if its first row is one. -/
theorem pages_more {rows size k : Nat} (hs : 0 < size) (hk : 0 < k) : k < pagesN rows size ↔ k * size < rows := by
  unfold pagesN
  constructor
  · intro h
    have h1 : k < (rows + size - 1) / size := by omega
    have h2 := (Nat.le_div_iff_mul_le hs).1 (Nat.succ_le_of_lt h1)
    rw [Nat.succ_mul] at h2
    omega
  · intro h
    have h2 : (k + 1) ≤ (rows + size - 1) / size := (Nat.le_div_iff_mul_le hs).2 (by rw [Nat.succ_mul]; omega)
    omega
theorem pages_small {rows size k : Nat} (hr : rows ≤ 2000) (hs : 0 < size) (hs2 : size ≤ 100) (hk : 0 < k) (hkn : k ≤ pagesN rows size) : k * size < 2200 ∧ k ≤ 2001 := by
  have hm : k * size < 2200 := by
    rcases Nat.lt_or_ge 1 k with h | h
    · obtain ⟨j, rfl⟩ : ∃ j, k = j + 1 := ⟨k - 1, by omega⟩
      have h1 := (pages_more (rows := rows) (k := j) hs (by omega)).1 (by omega)
      rw [Nat.succ_mul]
      omega
    · obtain rfl : k = 1 := by omega
      omega
  refine ⟨hm, ?_⟩
  have h2 : (rows + size - 1) / size ≤ 2001 := Nat.div_le_of_le_mul (by
    have : 2001 * 1 ≤ size * 2001 := by rw [Nat.mul_comm size]; exact Nat.mul_le_mul_left _ hs
    have h3 : rows + size - 1 ≤ 2000 + (size - 1) := by omega
    have h4 : 2000 + (size - 1) ≤ size * 2001 := by
      obtain ⟨j, rfl⟩ : ∃ j, size = j + 1 := ⟨size - 1, by omega⟩
      rw [Nat.succ_mul]; omega
    omega)
  unfold pagesN at hkn
  omega
theorem infoInt : (Tryz.prog.info? 3).map (fun i => (i.zero, i.size, i.bytes)) = some (some (.int .i64 0), 1, 8) := by kernel_rfl
def PagesPost (k size : Nat) (w : World) (e : Ending) (w' : World) : Prop :=
  ∃ v, e = .returned v ∧ w'.ownsRow w.heap.size 3 1 v k ((pagesL size k).map (.int .i64)) ∧ Gr w w'
set_option maxHeartbeats 2000000 in
set_option maxRecDepth 100000 in
theorem pages_any (rows size : Nat) (w : World) (hr : rows ≤ 2000) (hs : 0 < size) (hs2 : size ≤ 100) :
    Calls Tryz.prog 44 #[.int .i64 rows, .int .i64 size] w (PagesPost (pagesN rows size) size w) := by
  obtain ⟨ii, hi, hz0, hz1, hz2⟩ := info_parts infoInt
  have c1 : ((rows : Int) < 0) = False := by simp
  have c2 : (2000 < (rows : Int)) = False := by simp; omega
  have c3 : ((size : Int) < 1) = False := by simp; omega
  have c4 : (100 < (size : Int)) = False := by simp; omega
  go_enter Tryz.func44, Tryz.ntmps44
  go_wp2
  go_loopw [5, 6] (fun ov i wr => ∃ k : Nat, 0 < k ∧ k ≤ pagesN rows size ∧ i = .int .i64 (k * size : Nat) ∧ Hid (wr.ownsRow w.heap.size 3 1 ov k ((pagesL size k).map (.int .i64))) ∧ Hid (Below w.heap.size w wr)) (fun _ i _ => 3000 - (intOf i).toNat)
  case atStart =>
    refine ⟨1, by omega, by unfold pagesN; omega, by simp, ?_, gr_below (gr_alloc w _ none)⟩
    have h1 := World.ownsRow_lit (e := 3) (size := 1) w #[.int .i64 0] 1 (Nat.le_refl _) (by unfold maxLen; omega) rfl
    exact Lib.hid (by simpa [pagesL] using h1)
  case round =>
    obtain ⟨k, hk0, hk, rfl, hown, hbel⟩ := hrel
    have hbs := hbel.out.size
    obtain ⟨hm, hk2⟩ := pages_small hr hs hs2 hk0 hk
    by_cases hlt : k * size < rows
    · have hki : ((k * size : Nat) : Int) < (rows : Int) := by omega
      have hnx := pagesL_succ size k
      have hmore := (pages_more (rows := rows) hs hk0).2 hlt
      replace hnx := Lib.hid hnx
      replace hmore := Lib.hid hmore
      generalize hat : k * size = at' at hm hki hlt hnx ⊢
      replace hat := Lib.hid hat
      go_wp2_with (at_builtin; refine wpList_append_own _ rfl _ _ 94 rfl w.heap.size 3 ii (.int .i64 0) 1 8 Tryz.underlying94 hi hz0 hz1 hz2 rfl (by decide) u5 _ _ rfl (hown.out.alloc _) ⟨wr.heap.size, 0, none⟩ 1 1 [.int .i64 (at' : Nat)] rfl rfl ?c1 ?c2 ?c3 ?c4 ?c5 ?_; rotate_right; intro v' W4 hown4 hgrow _nl; clear _nl; have hb4 := hbel.out.trans (below_append hown.out hgrow (by omega)); clear hgrow; replace hown4 := Lib.hid hown4; replace hb4 := Lib.hid hb4)
      case c1 => exact cell_one_new _ _ _
      case c2 => simp [Value.oneCell']
      case c3 => unfold maxLen; omega
      case c4 => omega
      case c5 => simp; omega
      go_roundw
      case rel =>
        refine ⟨k + 1, by omega, hmore.out, ?_, ?_, hb4.out⟩
        · have := hat.out
          rw [Nat.succ_mul]
          go_num
        · rw [hnx.out, List.map_append]; exact hown4.out
      case measure => simp [intOf]; go_num
    · obtain rfl : k = pagesN rows size := by
        rcases Nat.lt_or_ge k (pagesN rows size) with h | h
        · exact absurd ((pages_more (rows := rows) hs hk0).1 h) hlt
        · omega
      have ho := hown.out
      generalize hat : pagesN rows size * size = at' at hm hlt ⊢
      have hki : ((at' : Nat) : Int) < (rows : Int) ↔ False := by simp; omega
      replace ho := Lib.hid ho
      go_wp2
      go_ret
      exact ⟨_, rfl, ho.out, gr_of_below hbel.out (Nat.le_refl _)⟩
theorem pages_bad (rows size : Int) (w : World) (w0 : (Lit.int .i64 rows).wf = true) (w1 : (Lit.int .i64 size).wf = true) (h : rows < 0 ∨ 2000 < rows ∨ size < 1 ∨ 100 < size) :
    Calls Tryz.prog 44 #[.int .i64 rows, .int .i64 size] w fun e w' => e = .returned (.slice none 0 0) ∧ w = w' := by
  clear w0 w1
  by_cases c1 : rows < 0
  · go_enter Tryz.func44, Tryz.ntmps44
    go_wp2
    go_ret
    exact ⟨rfl, rfl⟩
  by_cases c2 : 2000 < rows
  · go_enter Tryz.func44, Tryz.ntmps44
    go_wp2
    go_ret
    exact ⟨rfl, rfl⟩
  by_cases c3 : size < 1
  · go_enter Tryz.func44, Tryz.ntmps44
    go_wp2
    go_ret
    exact ⟨rfl, rfl⟩
  by_cases c4 : 100 < size
  · go_enter Tryz.func44, Tryz.ntmps44
    go_wp2
    go_ret
    exact ⟨rfl, rfl⟩
  · omega
/-- What Next answers: the page behind one of the others. -/
def NextIs (rows size : Nat) (fr v : Int) (b : Bool) : Prop :=
  (∃ k : Nat, fr = (k * size : Nat) ∧ k + 1 < pagesN rows size ∧ v = ((k + 1) * size : Nat) ∧ b = true) ∨ ((∀ k : Nat, k + 1 < pagesN rows size → fr ≠ (k * size : Nat)) ∧ v = 0 ∧ b = false)
def NextPost (rows size : Nat) (fr : Int) (w : World) (e : Ending) (w' : World) : Prop := ∃ v b, e = .returned (.tuple #[.int .i64 v, .bool b]) ∧ NextIs rows size fr v b ∧ Gr w w'
theorem pagesL_at {size n k : Nat} (h : k < n) : (pagesL size n)[k]? = some ((k * size : Nat) : Int) := by
  unfold pagesL
  rw [List.getElem?_map, List.getElem?_range h]
  rfl
set_option maxHeartbeats 2000000 in
set_option maxRecDepth 100000 in
theorem next_any (rows size : Nat) (fr : Int) (w : World) (hr : rows ≤ 2000) (hs : 0 < size) (hs2 : size ≤ 100) :
    Calls Tryz.prog 47 #[.int .i64 rows, .int .i64 size, .int .i64 fr] w (NextPost rows size fr w) := by
  go_enter Tryz.func47, Tryz.ntmps47
  go_wp2_with fail
  refine (pages_any rows size _ hr hs hs2).mono ?_
  rintro e W1 ⟨v, rfl, hown, g1⟩
  obtain ⟨A, c, rfl, hlen, _⟩ := own_open hown
  have hrow := row_own hown
  have hn0 : 0 < pagesN rows size := by unfold pagesN; omega
  have hn1 := (pages_small hr hs hs2 hn0 (Nat.le_refl _)).2
  clear hown hlen
  replace g1 := Lib.hid g1
  replace hrow := Lib.hid hrow
  generalize hN : pagesN rows size = N at hrow hn0 hn1 ⊢
  replace hN := Lib.hid hN
  go_wp2
  go_loopw [16] (fun i wr => ∃ k : Nat, k ≤ N ∧ i = .int .i64 k ∧ Hid (∀ j : Nat, j < k → j + 1 < N → fr ≠ (j * size : Nat)) ∧ wr = W1) (fun i _ => N - (intOf i).toNat)
  case atStart => exact ⟨0, Nat.zero_le _, rfl, fun j hj => by omega, rfl⟩
  case round =>
    obtain ⟨k, hk, rfl, hno, rfl⟩ := hrel
    by_cases hlt : k < N
    · obtain ⟨x, B, o, hx, rfl, hc⟩ := row_elem hrow.out hlt
      have hx2 := pagesL_at (size := size) hlt
      have hx3 : x = ((k * size : Nat) : Int) := by rw [hx2] at hx; exact (Option.some.inj hx).symm
      subst hx3
      have hki : (k : Int) < (N : Int) := by omega
      clear hx hx2
      by_cases heq : ((k * size : Nat) : Int) = fr
      · by_cases hmore : k + 1 < N
        · obtain ⟨x2, B', o', hx', e', hc'⟩ := row_elem hrow.out hmore
          have e2 := Option.some.inj e'
          injection e2 with e3 e4
          subst e3 e4
          have hx2 := pagesL_at (size := size) hmore
          have hx3 : x2 = (((k + 1) * size : Nat) : Int) := by rw [hx2] at hx'; exact (Option.some.inj hx').symm
          subst hx3
          have hmi : (k : Int) + 1 < (N : Int) := by omega
          clear hx' hx2 e'
          generalize hat : ((k * size : Nat) : Int) = at1 at *
          generalize hat2 : (((k + 1) * size : Nat) : Int) = at2 at *
          subst heq
          replace hat := Lib.hid hat
          replace hat2 := Lib.hid hat2
          go_wp2
          go_ret2
          exact ⟨_, _, rfl, .inl ⟨k, hat.out.symm, by rw [hN.out]; exact hmore, hat2.out.symm, rfl⟩, g1.out⟩
        · have hmi : ((k : Int) + 1 < (N : Int)) = False := by simp; omega
          generalize hat : ((k * size : Nat) : Int) = at1 at *
          subst heq
          replace hat := Lib.hid hat
          go_wp2
          go_roundw
          case rel =>
            refine ⟨k + 1, by omega, by go_num, fun j hj hj2 => ?_, trivial⟩
            rcases Nat.lt_or_ge j k with h | h
            · exact hno.out j h hj2
            · omega
          case measure => simp [intOf]; omega
      · have heqF : (((k * size : Nat) : Int) == fr) = false := eqF heq
        generalize hat : ((k * size : Nat) : Int) = at1 at *
        replace hat := Lib.hid hat
        go_wp2
        go_roundw
        case rel =>
          refine ⟨k + 1, by omega, by go_num, fun j hj hj2 => ?_, trivial⟩
          rcases Nat.lt_or_ge j k with h | h
          · exact hno.out j h hj2
          · obtain rfl : j = k := by omega
            rw [hat.out]
            exact fun e => heq e.symm
        case measure => simp [intOf]; omega
    · obtain rfl : k = N := by omega
      go_wp2
      go_ret2
      exact ⟨_, _, rfl, .inr ⟨fun j hj => hno.out j (by rw [hN.out] at hj; omega) (by rw [hN.out] at hj; exact hj), rfl, rfl⟩, g1.out⟩
end Go.Proofs.YtmldoeeangekoaaGreatDoor
