/-
  slices.Insert of one cursor, in all its ways. No condition but the row's own.
-/
import Derived.Test.YtmldoeeangekoaaGreatDiarySearch
import Derived.Deep.RegionLaw
namespace Go.Proofs.YtmldoeeangekoaaGreat
open Go.RowKit

theorem sizeCur (w : World) : (Go.sizeOf 28).run Tryz.prog w = .ok 5 w := by
  obtain ⟨ii, hi, hz0, hz1, hz2⟩ := info_parts infoCur
  simp [Go.sizeOf, typeInfo, hi, hz1]
theorem curC_one (x : Cur) : ∀ v ∈ curC x, v.oneCell' = true := by
  intro u hu
  simp only [curC, List.mem_cons, List.not_mem_nil, or_false] at hu
  rcases hu with rfl | rfl | rfl | rfl | rfl <;> rfl
theorem sRc_one (zs : List Cur) : ∀ v ∈ sR curC zs, v.oneCell' = true := by
  intro u hu
  obtain ⟨x, _, hx⟩ := List.mem_flatMap.1 hu
  exact curC_one x u hx
/-- The rest first, then the one. -/
theorem ins_late (X a x b : List Value) (hX : X.take a.length = a) (hl : X.length = a.length + x.length + b.length) : setAll (setAll X (a.length + x.length) b) a.length x = a ++ (x ++ b) := by
  have h1 := setAll_mid (X.take (a.length + x.length)) (X.drop (a.length + x.length)) b (by rw [List.length_drop]; omega)
  rw [List.take_append_drop, List.length_take, Nat.min_eq_left (by omega), List.drop_drop, List.drop_eq_nil_of_le (show X.length ≤ a.length + x.length + b.length by omega), List.append_nil] at h1
  rw [h1, List.take_add, hX, List.append_assoc]
  have h2 := setAll_mid a ((X.drop a.length).take x.length ++ b) x (by rw [List.length_append, List.length_take, List.length_drop]; omega)
  rw [h2, List.drop_left' (by rw [List.length_take, List.length_drop]; omega)]
/-- The one first, then the rest. -/
theorem ins_soon (X a x b : List Value) (hX : X.take a.length = a) (hl : X.length = a.length + x.length + b.length) : setAll (setAll X a.length x) (a.length + x.length) b = a ++ (x ++ b) := by
  have h1 := setAll_mid a (X.drop a.length) x (by rw [List.length_drop]; omega)
  have h0 : a ++ X.drop a.length = X := by conv => rhs; rw [← List.take_append_drop a.length X, hX]
  rw [h0, List.drop_drop, ← List.append_assoc] at h1
  have h2 := setAll_mid (a ++ x) (X.drop (a.length + x.length)) b (by rw [List.length_drop]; omega)
  rw [List.length_append, List.drop_drop, List.drop_eq_nil_of_le (show X.length ≤ a.length + x.length + b.length by omega), List.append_nil] at h2
  rw [h1, h2, List.append_assoc]
theorem gr_then_new {w w1 w2 : World} {r : Option Nat} {k : Nat} (h : w.grownBy w1 r) (g : w1.grownBy w2 (some k)) (hk : w.heap.size ≤ k) : w.grownBy w2 r :=
  ⟨g.os.trans h.os, g.tape.trans h.tape, g.output.trans h.output, Nat.le_trans h.size g.size, fun i hi hr => (g.block i (Nat.lt_of_lt_of_le hi h.size) (fun e => by have := Option.some.inj e; omega)).trans (h.block i hi hr)⟩
/-- What is inserted, and where it lies. -/
def InsAt (w w' : World) (base n : Nat) (ob : Option Nat) (out : List Cur) (e : Ending) : Prop :=
  ∃ A' c', e = .returned (.slice A' (n + 1) c') ∧ w'.ownsRow base 28 5 (.slice A' (n + 1) c') (n + 1) (sR curC out) ∧ w.grownBy w' ob
set_option maxHeartbeats 8000000 in
set_option maxRecDepth 100000 in
theorem dins_end (A : Option Addr) (n c base B : Nat) (zs : List Cur) (x : Cur) (w : World) (hbase : base ≤ w.heap.size) (h : w.ownsRow base 28 5 (.slice A n c) n (sR curC zs)) (hn : n ≤ 100000) (hc : n ≤ c ∧ c ≤ 9223372036854775807)
    (hx : ∀ j, j < 5 → w.cell? ⟨B, j, none⟩ = (curC x)[j]?) :
    Calls Tryz.prog 131 #[.slice A n c, .int .i64 n, .slice (some ⟨B, 0, none⟩) 1 1] w fun e w' => InsAt w w' base n (Value.slice A n c).ownBlock (zs ++ [x]) e := by
  obtain ⟨ii, hi, hz0, hz1, hz2⟩ := info_parts infoCur
  have hnn : (n : Int) ≤ (n : Int) := Int.le_refl _
  have hn0 : (0 : Int) ≤ (n : Int) := by omega
  replace hx := Lib.hid hx
  replace h := Lib.hid h
  go_enter Tryz.func131, Tryz.ntmps131
  cases A with
  | none =>
    have hz : n = 0 ∧ c = 0 := by
      rcases h.out.2 with ⟨hv, h0⟩ | ⟨g, cap, cur, hv, _⟩
      · injection hv with _ _ h3; exact ⟨h0, h3⟩
      · injection hv with h1; cases h1
    obtain ⟨rfl, rfl⟩ := hz
    go_wp2_with (at_builtin; refine wpList_append_own _ rfl _ _ 52 rfl base 28 ii (.agg #[.int .i64 0, .int .i64 0, .int .i64 0, .int .i64 0, .string ⟨#[]⟩]) 5 48 Tryz.underlying52 hi hz0 hz1 hz2 rfl (by decide) (.slice none 0 0) 0 (sR curC zs) rfl h.out ⟨B, 0, none⟩ 1 1 (curC x) rfl rfl ?c1 ?c2 ?c3 ?c4 ?c5 ?_; rotate_right; intro v' W5 hown5 hgrow _nl; clear _nl; replace hown5 := Lib.hid hown5; replace hgrow := Lib.hid hgrow)
    case c1 => exact fun j u hj => by rw [add_plain, Nat.zero_add, hx.out j (List.getElem?_eq_some_iff.1 hj).1]; exact hj
    case c2 => exact curC_one x
    case c3 => unfold maxLen; omega
    case c4 => omega
    case c5 => exact hbase
    obtain ⟨A', cap, rfl, _, _⟩ := own_openS hown5.out
    go_ret
    exact ⟨A', cap, rfl, by rw [sR_append, sR_one]; exact hown5.out, hgrow.out⟩
  | some a =>
    obtain ⟨g, rfl⟩ : ∃ g, a = ⟨g, 0, none⟩ := by
      rcases h.out.2 with ⟨hv, _⟩ | ⟨g, cap, cur, hv, _⟩
      · injection hv with h1; cases h1
      · injection hv with h1; exact ⟨g, Option.some.inj h1⟩
    have hnc := hc.1
    by_cases hnc2 : c = n
    · subst hnc2
      go_wp2_with (at_builtin; refine wpList_append_own _ rfl _ _ 52 rfl base 28 ii (.agg #[.int .i64 0, .int .i64 0, .int .i64 0, .int .i64 0, .string ⟨#[]⟩]) 5 48 Tryz.underlying52 hi hz0 hz1 hz2 rfl (by decide) (.slice (some ⟨g, 0, none⟩) c c) c (sR curC zs) rfl h.out ⟨B, 0, none⟩ 1 1 (curC x) rfl rfl ?d1 ?d2 ?d3 ?d4 ?d5 ?_; rotate_right; intro v' W5 hown5 hgrow _nl; clear _nl; replace hown5 := Lib.hid hown5; replace hgrow := Lib.hid hgrow)
      case d1 => exact fun j u hj => by rw [add_plain, Nat.zero_add, hx.out j (List.getElem?_eq_some_iff.1 hj).1]; exact hj
      case d2 => exact curC_one x
      case d3 => unfold maxLen; omega
      case d4 => omega
      case d5 => exact hbase
      obtain ⟨A', cap, rfl, _, _⟩ := own_openS hown5.out
      go_ret
      exact ⟨A', cap, rfl, by rw [sR_append, sR_one]; exact hown5.out, hgrow.out⟩
    · have hcf : (c = n) = False := eq_false hnc2
      replace hnc2 := Lib.hid hnc2
      go_wp2_with (at_builtin; refine wpList_append_own _ rfl _ _ 52 rfl base 28 ii (.agg #[.int .i64 0, .int .i64 0, .int .i64 0, .int .i64 0, .string ⟨#[]⟩]) 5 48 Tryz.underlying52 hi hz0 hz1 hz2 rfl (by decide) (.slice (some ⟨g, 0, none⟩) n c) n (sR curC zs) rfl h.out ⟨B, 0, none⟩ 1 1 (curC x) rfl rfl ?e1 ?e2 ?e3 ?e4 ?e5 ?_; rotate_right; intro v' W5 hown5 hgrow _nl; clear _nl; replace hown5 := Lib.hid hown5; replace hgrow := Lib.hid hgrow)
      case e1 => exact fun j u hj => by rw [add_plain, Nat.zero_add, hx.out j (List.getElem?_eq_some_iff.1 hj).1]; exact hj
      case e2 => exact curC_one x
      case e3 => unfold maxLen; omega
      case e4 => omega
      case e5 => exact hbase
      obtain ⟨A', cap, rfl, _, _⟩ := own_openS hown5.out
      go_ret
      exact ⟨A', cap, rfl, by rw [sR_append, sR_one]; exact hown5.out, hgrow.out⟩
set_option maxHeartbeats 8000000 in
set_option maxRecDepth 100000 in
theorem dins_shift (g n c base B k : Nat) (zs : List Cur) (x : Cur) (w : World) (h : w.ownsRow base 28 5 (.slice (some ⟨g, 0, none⟩) n c) n (sR curC zs)) (hn : n ≤ 100000) (hk : k < n) (hroom : n + 1 ≤ c) (hcm : c ≤ 9223372036854775807)
    (hx : w.heap[B]? = some (.cells (curC x).toArray 28 (0, 0))) (hBg : B ≠ g) :
    Calls Tryz.prog 131 #[.slice (some ⟨g, 0, none⟩) n c, .int .i64 k, .slice (some ⟨B, 0, none⟩) 1 1] w fun e w' => InsAt w w' base n (some g) (zs.take k ++ x :: zs.drop k) e := by
  have hl : zs.length = n := by have := h.1; rw [sR_len curC 5 curC_len] at this; omega
  obtain ⟨ys, hys, hwide⟩ := own_wide h hroom
  have hsh1 : w.shape? B = some (28, 5) := by simp [World.shape?, hx, curC]
  obtain ⟨kg, hsh2, hkg⟩ : ∃ kg, w.shape? g = some (28, kg) ∧ kg ≠ 0 := by
    rcases h.2 with ⟨hv, _⟩ | ⟨g', cap, cur, hv, _, hg, _, _, hcs, _⟩
    · injection hv with h1; cases h1
    · injection hv with h1 h2 h3
      injection Option.some.inj h1 with h4
      subst h4 h3
      exact ⟨cur.size, by simp [World.shape?, hg], by omega⟩
  have hfB : ∀ j, w.frozen? ⟨B, j, none⟩ = false := fun j => frozen_of_row w B j _ _ hx
  have hov : ∀ lb cb, (callFunc 168 #[.slice (some ⟨B, 0, none⟩) 1 1, .slice (some ⟨g, (k + 1) * 5, none⟩) lb cb]).run Tryz.prog w = .ok (.value (.bool false)) w := fun lb cb => by
    rw [run_callFunc_extern Tryz.func168 (by kernel_rfl) (by kernel_rfl) (by kernel_rfl) (e := Extern.SlicesOverlaps.overlaps #[52, 52] #[4]) (by kernel_rfl),
      Lib.run_overlaps_apart w 52 4 28 Tryz.underlying52 5 sizeCur ⟨B, 0, none⟩ ⟨g, (k + 1) * 5, none⟩ 1 1 lb cb hBg _ _ 5 kg hsh1 hsh2 hkg (hfB 0) (hfB 5)]
    rfl
  have hdl : (sR curC (zs.drop k)).length = (n - k) * 5 := by rw [sR_len curC 5 curC_len, List.length_drop, hl]
  have hsrc1 : ∀ j v, (sR curC (zs.drop k))[j]? = some v → w.cell? ((⟨g, k * 5, none⟩ : Addr).add j) = some v := fun j v hj => by
    rw [sR_drop curC 5 curC_len, List.getElem?_drop] at hj
    have hlt := (List.getElem?_eq_some_iff.1 hj).1
    rw [h.1] at hlt
    rw [add_plain, h.cellAt _ (by omega)]
    exact hj
  have hsome : ∀ (W : World), W.ownsRow base 28 5 (.slice (some ⟨g, 0, none⟩) (n + 1) c) (n + 1) (sR curC zs ++ ys) → True := fun _ _ => trivial
  have hcp1 : ∀ ty dc sc, (Builtin.copy_ #[52, 52] ty #[.slice (some ⟨g, (k + 1) * 5, none⟩) (n - k) dc, .slice (some ⟨g, k * 5, none⟩) (n + 1 - k) sc]).run Tryz.prog w.drew = .ok (goInt (Nat.min (n + 1 - k) (n - k))) (w.drew.setCells g ((k + 1) * 5) (sR curC (zs.drop k))) := fun ty dc sc =>
    run_copyK w.drew _ _ ty 28 5 g ((k + 1) * 5) (n - k) dc ⟨g, k * 5, none⟩ (n + 1 - k) sc (sR curC (zs.drop k)) Tryz.underlying52 infoCurS (by rw [hdl]; show _ = min (n + 1 - k) (n - k) * 5; omega)
      hsrc1 (fun j hj => own_some hwide (by rw [hdl] at hj; omega)) (fun j _ => hwide.frozenAt _) (sRc_one _)
  have hown0 : w.drew.ownsRow base 28 5 (.slice (some ⟨g, 0, none⟩) (n + 1) c) (n + 1) (sR curC zs ++ ys) := hwide
  obtain ⟨hown1, hg1⟩ := stored_all hown0 ((k + 1) * 5) (sR curC (zs.drop k))
  obtain ⟨W1, hW1⟩ : ∃ W1, W1 = w.drew.setCells g ((k + 1) * 5) (sR curC (zs.drop k)) := ⟨_, rfl⟩
  rw [← hW1] at hown1 hg1 hcp1
  have hxc : ∀ j v, (curC x)[j]? = some v → W1.cell? ((⟨B, 0, none⟩ : Addr).add j) = some v := fun j v hj => by
    rw [add_plain, Nat.zero_add]
    refine hg1.cell (show w.drew.cell? _ = _ from ?_) (by simp; exact hBg)
    show w.cell? _ = _
    rw [cell_of_row w B j _ _ _ hx, List.getElem?_toArray]
    exact hj
  have hcp2 : ∀ ty dc, (Builtin.copy_ #[52, 52] ty #[.slice (some ⟨g, k * 5, none⟩) (n + 1 - k) dc, .slice (some ⟨B, 0, none⟩) 1 1]).run Tryz.prog W1 = .ok (goInt (Nat.min 1 (n + 1 - k))) (W1.setCells g (k * 5) (curC x)) := fun ty dc =>
    run_copyK W1 _ _ ty 28 5 g (k * 5) (n + 1 - k) dc ⟨B, 0, none⟩ 1 1 (curC x) Tryz.underlying52 infoCurS (by rw [curC_len]; show _ = min 1 (n + 1 - k) * 5; omega)
      hxc (fun j hj => own_some hown1 (by rw [curC_len] at hj; omega)) (fun j _ => hown1.frozenAt _) (curC_one x)
  obtain ⟨hown2, hg2⟩ := stored_all hown1 (k * 5) (curC x)
  have hta : (sR curC (zs.take k)).length = k * 5 := by rw [sR_len curC 5 curC_len, List.length_take, hl, Nat.min_eq_left (by omega)]
  have hfin : setAll (setAll (sR curC zs ++ ys) ((k + 1) * 5) (sR curC (zs.drop k))) (k * 5) (curC x) = sR curC (zs.take k ++ x :: zs.drop k) := by
    have h9 := ins_late (sR curC zs ++ ys) (sR curC (zs.take k)) (curC x) (sR curC (zs.drop k)) (by rw [hta, List.take_append_of_le_length (by rw [sR_len curC 5 curC_len]; omega), ← sR_take curC 5 curC_len]) (by rw [List.length_append, sR_len curC 5 curC_len, hta, hdl, hys, curC_len]; omega)
    rw [hta, curC_len, show k * 5 + 5 = (k + 1) * 5 by omega] at h9
    rw [h9, sR_append, sR_cons]
  rw [hfin] at hown2
  have hgf : w.grownBy (W1.setCells g (k * 5) (curC x)) (some g) := ((gr_drew w (some g)).trans hg1).trans hg2
  have hw1 : IntKind.i64.wrap ((n : Int) + 1) = (n : Int) + 1 := IntWalk.i64_in _ (by omega)
  have hw2 : IntKind.i64.wrap ((k : Int) + 1) = (k : Int) + 1 := IntWalk.i64_in _ (by omega)
  have hkn : ((k : Int) == (n : Int)) = false := eqF (by omega)
  have hgt : ((c : Int) < (n : Int) + 1) = False := eq_false (by omega)
  have hk0 : (0 : Int) ≤ (k : Int) := by omega
  have hk1 : (0 : Int) ≤ (k : Int) + 1 := by omega
  have hk2 : (k : Int) ≤ (n : Int) := by omega
  have hk3 : (k : Int) ≤ (n : Int) + 1 := by omega
  have hk4 : (k : Int) + 1 ≤ (n : Int) + 1 := by omega
  have hk5 : (c = k) = False := eq_false (by omega)
  have hk6 : (c = k + 1) = False := eq_false (by omega)
  have hk7 : ((k : Int) + 1).toNat = k + 1 := by omega
  have hk8 : ((n : Int) + 1).toNat = n + 1 := by omega
  have hk9 : (n : Int) + 1 ≤ (c : Int) := by omega
  have hk10 : (0 : Int) ≤ (n : Int) + 1 := by omega
  replace hown2 := Lib.hid hown2
  replace hgf := Lib.hid hgf
  replace hW1 := Lib.hid hW1
  clear hfin hg2 hg1 hown1 hown0 hsome hsrc1 hxc hta hdl hwide h hys hl hsh1 hsh2 hfB hx
  go_enter Tryz.func131, Tryz.ntmps131
  go_wp2_with (simp only [hov])
  go_region_law (refine step_copy_runK rfl _ _ 52 52 rfl _ _ (by simp [Act.eval, Act.put]) (by simp [Act.eval, Act.put]) (hcp1 _ _ _) ?_)
  go_wp2_with (at_builtin; refine wpList_copy_runK _ rfl _ _ 52 52 rfl _ _ rfl rfl (hcp2 _ _) ?_)
  go_ret
  exact ⟨_, _, rfl, hown2.out, hgf.out⟩
set_option maxHeartbeats 8000000 in
set_option maxRecDepth 100000 in
theorem dins_grow (g n base B k : Nat) (zs : List Cur) (x : Cur) (w : World) (hbase : base ≤ w.heap.size) (h : w.ownsRow base 28 5 (.slice (some ⟨g, 0, none⟩) n n) n (sR curC zs)) (hn : n ≤ 100000) (hk : k < n)
    (hx : w.heap[B]? = some (.cells (curC x).toArray 28 (0, 0))) :
    Calls Tryz.prog 131 #[.slice (some ⟨g, 0, none⟩) n n, .int .i64 k, .slice (some ⟨B, 0, none⟩) 1 1] w fun e w' => InsAt w w' base n (some g) (zs.take k ++ x :: zs.drop k) e := by
  obtain ⟨ii, hi, hz0, hz1, hz2⟩ := info_parts infoCur
  have hl : zs.length = n := by have := h.1; rw [sR_len curC 5 curC_len] at this; omega
  have hgw : g < w.heap.size := (h.lt g rfl).2
  have hBw : B < w.heap.size := lt_of_blk hx
  have hta : (sR curC (zs.take k)).length = k * 5 := by rw [sR_len curC 5 curC_len, List.length_take, hl, Nat.min_eq_left (by omega)]
  have hdl : (sR curC (zs.drop k)).length = (n - k) * 5 := by rw [sR_len curC 5 curC_len, List.length_drop, hl]
  have hold : (Builtin.firstCells ii.size k (.slice (some ⟨g, 0, none⟩) k n)).run Tryz.prog w.drew = .ok (sR curC (zs.take k)).toArray w.drew := by
    rw [hz1]
    refine run_firstCells_some w.drew 5 k ⟨g, 0, none⟩ k n (sR curC (zs.take k)) hta (fun j v hj => ?_)
    rw [add_plain, Nat.zero_add]
    rw [sR_take curC 5 curC_len, List.getElem?_take] at hj
    split at hj
    · show w.cell? _ = _
      rw [h.cellAt _ (by omega)]
      exact hj
    · cases hj
  have hrz : ∀ ty, (Builtin.append_ #[52, 3] ty #[.slice (some ⟨g, 0, none⟩) k n, .int .i64 (((n + 1 - k : Nat)) : Int)]).run Tryz.prog w = _ := fun ty =>
    Lib.run_append_grow_zeros w 52 3 ty 28 ii _ .i64 .i64 Tryz.underlying52 Tryz.underlying3 hi hz0 (some ⟨g, 0, none⟩) k n (sR curC (zs.take k)) hold (n + 1 - k) (by omega) (by omega) (by omega) (by omega) (by rw [hz2]; omega) (by rw [hz2]; exact growslice_fits (by omega) (by omega))
  rw [show k + (n + 1 - k) = n + 1 by omega] at hrz
  have hGn : n + 1 ≤ grownCap w (n + 1) n 28 := grownCap_ge w _ _ _
  have hGm : grownCap w (n + 1) n 28 ≤ maxLen := grownCap_le_maxLen w (n + 1) n 28 (by unfold maxLen; omega)
  have hzc : ∀ m, (Builtin.zeroCells (Value.agg #[.int .i64 0, .int .i64 0, .int .i64 0, .int .i64 0, .string ⟨#[]⟩]).cells m).size = m * 5 := fun m => by simp [Builtin.zeroCells, Value.cells]
  generalize grownCap w (n + 1) n 28 = G at *
  obtain ⟨ROW, hROW⟩ : ∃ ROW : Array Value, ROW = (sR curC (zs.take k)).toArray ++ Builtin.zeroCells (Value.agg #[.int .i64 0, .int .i64 0, .int .i64 0, .int .i64 0, .string ⟨#[]⟩]).cells (n + 1 - k) ++ Builtin.zeroCells (Value.agg #[.int .i64 0, .int .i64 0, .int .i64 0, .int .i64 0, .string ⟨#[]⟩]).cells (G - (n + 1)) := ⟨_, rfl⟩
  rw [← hROW] at hrz
  have hRs : ROW.size = G * 5 := by rw [hROW]; simp [hzc, hta]; omega
  have hRt : ROW.toList.take (k * 5) = sR curC (zs.take k) := by
    rw [hROW, Array.toList_append, Array.toList_append, List.append_assoc, List.take_left' (by rw [List.toList_toArray]; exact hta), List.toList_toArray]
  have hle : (n + 1) * 5 ≤ G * 5 := by omega
  obtain ⟨W0, hW0⟩ : ∃ W0, W0 = w.drew.alloc (.cells ROW 28) := ⟨_, rfl⟩
  have hown0 : W0.ownsRow base 28 5 (.slice (some ⟨w.heap.size, 0, none⟩) (n + 1) G) (n + 1) (ROW.toList.take ((n + 1) * 5)) := by
    rw [hW0]
    refine ⟨by rw [List.length_take, Array.length_toList, hRs]; omega, .inr ⟨w.heap.size, G, ROW, rfl, hbase, ?_, hGn, hGm, hRs, rfl⟩⟩
    exact heap_alloc_new w.drew _
  have hg0 : w.grownBy W0 (some g) := by rw [hW0]; exact (gr_drew w _).trans (gr_alloc _ _ _)
  rw [← hW0] at hrz
  have hxc : ∀ (W : World), Gr w W → ∀ j v, (curC x)[j]? = some v → W.cell? ((⟨B, 0, none⟩ : Addr).add j) = some v := fun W gW j v hj => by
    rw [add_plain, Nat.zero_add]
    refine gr_cell gW ?_
    rw [cell_of_row w B j _ _ _ hx, List.getElem?_toArray]
    exact hj
  have hGr0 : Gr w W0 := by rw [hW0]; exact gr_trans (gr_drew w _) (gr_alloc _ _ _)
  have hcp1 : ∀ ty dc, (Builtin.copy_ #[52, 52] ty #[.slice (some ⟨w.heap.size, k * 5, none⟩) (n + 1 - k) dc, .slice (some ⟨B, 0, none⟩) 1 1]).run Tryz.prog W0 = .ok (goInt (Nat.min 1 (n + 1 - k))) (W0.setCells w.heap.size (k * 5) (curC x)) := fun ty dc =>
    run_copyK W0 _ _ ty 28 5 w.heap.size (k * 5) (n + 1 - k) dc ⟨B, 0, none⟩ 1 1 (curC x) Tryz.underlying52 infoCurS (by rw [curC_len]; show _ = min 1 (n + 1 - k) * 5; omega)
      (hxc W0 hGr0) (fun j hj => own_some hown0 (by rw [curC_len] at hj; omega)) (fun j _ => hown0.frozenAt _) (curC_one x)
  obtain ⟨hown1, hg1⟩ := stored_all hown0 (k * 5) (curC x)
  obtain ⟨W1, hW1⟩ : ∃ W1, W1 = W0.setCells w.heap.size (k * 5) (curC x) := ⟨_, rfl⟩
  rw [← hW1] at hown1 hg1 hcp1
  have hGrow1 : w.grownBy W1 (some g) := gr_then_new hg0 hg1 (Nat.le_refl _)
  have hgne : g ≠ w.heap.size := by omega
  have hcells : ∀ j v, (sR curC zs)[j]? = some v → W1.drew.cell? ⟨g, j, none⟩ = some v := fun j v hj => by
    have hlt := (List.getElem?_eq_some_iff.1 hj).1
    rw [h.1] at hlt
    have h0 : w.cell? ⟨g, j, none⟩ = some v := by rw [h.cellAt _ hlt]; exact hj
    exact hg1.cell (gr_cell hGr0 h0) (by simp; exact hgne)
  have hsrc2 : ∀ j v, (sR curC (zs.drop k))[j]? = some v → W1.drew.cell? ((⟨g, k * 5, none⟩ : Addr).add j) = some v := fun j v hj => by
    rw [sR_drop curC 5 curC_len, List.getElem?_drop] at hj
    rw [add_plain]
    exact hcells _ _ hj
  have hown1d : W1.drew.ownsRow base 28 5 (.slice (some ⟨w.heap.size, 0, none⟩) (n + 1) G) (n + 1) (setAll (ROW.toList.take ((n + 1) * 5)) (k * 5) (curC x)) := hown1
  have hcp2 : ∀ ty dc sc, (Builtin.copy_ #[52, 52] ty #[.slice (some ⟨w.heap.size, (k + 1) * 5, none⟩) (n - k) dc, .slice (some ⟨g, k * 5, none⟩) (n - k) sc]).run Tryz.prog W1.drew = .ok (goInt (Nat.min (n - k) (n - k))) (W1.drew.setCells w.heap.size ((k + 1) * 5) (sR curC (zs.drop k))) := fun ty dc sc =>
    run_copyK W1.drew _ _ ty 28 5 w.heap.size ((k + 1) * 5) (n - k) dc ⟨g, k * 5, none⟩ (n - k) sc (sR curC (zs.drop k)) Tryz.underlying52 infoCurS (by rw [hdl]; show _ = min (n - k) (n - k) * 5; omega)
      hsrc2 (fun j hj => own_some hown1d (by rw [hdl] at hj; omega)) (fun j _ => hown1d.frozenAt _) (sRc_one _)
  obtain ⟨hown2, hg2⟩ := stored_all hown1d ((k + 1) * 5) (sR curC (zs.drop k))
  have hfin : setAll (setAll (ROW.toList.take ((n + 1) * 5)) (k * 5) (curC x)) ((k + 1) * 5) (sR curC (zs.drop k)) = sR curC (zs.take k ++ x :: zs.drop k) := by
    have h9 := ins_soon (ROW.toList.take ((n + 1) * 5)) (sR curC (zs.take k)) (curC x) (sR curC (zs.drop k)) (by rw [hta, List.take_take, Nat.min_eq_left (by omega), hRt]) (by rw [List.length_take, Array.length_toList, hRs, hta, hdl, curC_len]; omega)
    rw [hta, curC_len, show k * 5 + 5 = (k + 1) * 5 by omega] at h9
    rw [h9, sR_append, sR_cons]
  rw [hfin] at hown2
  have hgf : w.grownBy (W1.drew.setCells w.heap.size ((k + 1) * 5) (sR curC (zs.drop k))) (some g) := gr_then_new (hGrow1.trans (gr_drew W1 (some g))) hg2 (Nat.le_refl _)
  have hw1 : IntKind.i64.wrap ((n : Int) + 1) = (n : Int) + 1 := IntWalk.i64_in _ (by omega)
  have hw2 : IntKind.i64.wrap ((k : Int) + 1) = (k : Int) + 1 := IntWalk.i64_in _ (by omega)
  have hw3 : IntKind.i64.wrap ((n : Int) + 1 - (k : Int)) = ((n + 1 - k : Nat) : Int) := by rw [IntWalk.i64_in _ (by omega)]; omega
  have hkn : ((k : Int) == (n : Int)) = false := eqF (by omega)
  have hgt : (n : Int) < (n : Int) + 1 := by omega
  have hk0 : (0 : Int) ≤ (k : Int) := by omega
  have hk1 : (0 : Int) ≤ (k : Int) + 1 := by omega
  have hk2 : (k : Int) ≤ (n : Int) := by omega
  have hk3 : (k : Int) ≤ (n : Int) + 1 := by omega
  have hk4 : (k : Int) + 1 ≤ (n : Int) + 1 := by omega
  have hk5 : (n = k) = False := eq_false (by omega)
  have hk6 : (G = k + 1) = False := eq_false (by omega)
  have hk6' : (G = k) = False := eq_false (by omega)
  have hk7 : ((k : Int) + 1).toNat = k + 1 := by omega
  have hE0 : w.drew.alloc (.cells ROW 28) = W0 := hW0.symm
  have hE1 : W0.setCells w.heap.size (k * 5) (curC x) = W1 := hW1.symm
  replace hown2 := Lib.hid hown2
  replace hgf := Lib.hid hgf
  replace hW0 := Lib.hid hW0
  replace hW1 := Lib.hid hW1
  clear hfin hg2 hg1 hg0 hown1 hown1d hown0 hsrc2 hxc hta hdl h hl hx hcells hRs hRt hROW hzc hold hGr0 hGrow1 hE0 hE1 hle hi hz0 hz1 hz2
  go_enter Tryz.func131, Tryz.ntmps131
  go_wp2_with (first
    | (at_builtin; refine wpList_append_runK _ rfl _ _ 52 3 rfl _ _ rfl rfl (hrz _) ?_)
    | (at_builtin; refine wpList_copy_runK _ rfl _ _ 52 52 rfl _ _ rfl rfl (hcp1 _ _) ?_))
  go_region_law (refine step_copy_runK rfl _ _ 52 52 rfl _ _ (by simp [Act.eval, Act.put]) (by simp [Act.eval, Act.put]) (hcp2 _ _ _) ?_)
  go_wp2
  go_ret
  exact ⟨_, _, rfl, hown2.out, hgf.out⟩
theorem dinsert (A : Option Addr) (n c base B k : Nat) (zs : List Cur) (x : Cur) (w : World) (hbase : base ≤ w.heap.size) (h : w.ownsRow base 28 5 (.slice A n c) n (sR curC zs)) (hn : n ≤ 100000) (hk : k ≤ n)
    (hx : w.heap[B]? = some (.cells (curC x).toArray 28 (0, 0))) (hB : ∀ a, A = some a → a.block ≠ B) :
    Calls Tryz.prog 131 #[.slice A n c, .int .i64 k, .slice (some ⟨B, 0, none⟩) 1 1] w fun e w' => InsAt w w' base n (Value.slice A n c).ownBlock (zs.take k ++ x :: zs.drop k) e := by
  have hl : zs.length = n := by have := h.1; rw [sR_len curC 5 curC_len] at this; omega
  have hc : n ≤ c ∧ c ≤ 9223372036854775807 := by obtain ⟨A', c', hv', h4, h5⟩ := own_openS h; injection hv' with _ _ h6; subst h6; unfold maxLen at h5; exact ⟨h4, by omega⟩
  by_cases hkn : k = n
  · subst hkn
    rw [List.take_of_length_le (by omega), List.drop_eq_nil_of_le (by omega)]
    exact dins_end A k c base B zs x w hbase h hn hc (fun j hj => by rw [cell_of_row w B j _ _ _ hx, List.getElem?_toArray])
  · obtain ⟨g, cap, hv, _, _⟩ := h.form (by omega)
    injection hv with h1 h2 h3
    subst h1 h3
    by_cases hroom : n + 1 ≤ c
    · exact dins_shift g n c base B k zs x w h hn (by omega) hroom hc.2 hx (fun e => hB _ rfl e.symm)
    · have : c = n := by omega
      subst this
      exact dins_grow g c base B k zs x w hbase h hn (by omega) hx
end Go.Proofs.YtmldoeeangekoaaGreat
