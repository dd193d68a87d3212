/-
  slices.BinarySearchFunc of cursors that stand by their ids. No condition but that ids are small enough for the machine's difference.
-/
import Derived.Test.YtmldoeeangekoaaGreatDiaryIdx
namespace Go.Proofs.YtmldoeeangekoaaGreat
open Go.RowKit

def Sorted (zs : List Cur) : Prop := zs.Pairwise (fun a b => a.id < b.id)
def Ids (zs : List Cur) : Prop := ∀ y ∈ zs, 1 ≤ y.id ∧ y.id ≤ 1000000
/-- So many are below. -/
def Place (zs : List Cur) (t : Int) (k : Nat) : Prop := k ≤ zs.length ∧ (∀ y ∈ zs.take k, y.id < t) ∧ ∀ y ∈ zs.drop k, t ≤ y.id
theorem sorted_at {zs : List Cur} (h : Sorted zs) {i j : Nat} {x y : Cur} (hx : zs[i]? = some x) (hy : zs[j]? = some y) (hij : i < j) : x.id < y.id := by
  obtain ⟨h1, rfl⟩ := List.getElem?_eq_some_iff.1 hx
  obtain ⟨h2, rfl⟩ := List.getElem?_eq_some_iff.1 hy
  exact List.pairwise_iff_getElem.1 h i j h1 h2 hij
theorem below_up {zs : List Cur} (h : Sorted zs) {k : Nat} {x : Cur} (hx : zs[k]? = some x) {t : Int} (ht : x.id < t) : ∀ y ∈ zs.take (k + 1), y.id < t := by
  intro y hy
  obtain ⟨i, hi⟩ := List.getElem?_of_mem hy
  rw [List.getElem?_take] at hi
  split at hi
  · rcases Nat.lt_or_ge i k with hik | hik
    · have := sorted_at h hi hx hik
      omega
    · have : i = k := by omega
      subst this
      rw [hx] at hi
      rw [← Option.some.inj hi]
      exact ht
  · cases hi
theorem above_down {zs : List Cur} (h : Sorted zs) {k : Nat} {x : Cur} (hx : zs[k]? = some x) {t : Int} (ht : t ≤ x.id) : ∀ y ∈ zs.drop k, t ≤ y.id := by
  intro y hy
  obtain ⟨i, hi⟩ := List.getElem?_of_mem hy
  rw [List.getElem?_drop] at hi
  rcases Nat.eq_zero_or_pos i with rfl | hik
  · rw [Nat.add_zero, hx] at hi
    rw [← Option.some.inj hi]
    exact ht
  · have := sorted_at h hx hi (by omega)
    omega
set_option maxRecDepth 100000 in
theorem order_any (x : Cur) (t : Int) (W : World) (hx : 1 ≤ x.id ∧ x.id ≤ 1000000) (ht : 1 ≤ t ∧ t ≤ 1000000) : Calls Tryz.prog 130 #[curV x, .int .i64 t] W fun e W' => e = .returned (.int .i64 (x.id - t)) ∧ Gr W W' := by
  unfold curV
  have hw : IntKind.i64.wrap (x.id - t) = x.id - t := IntWalk.i64_in _ (by omega)
  go_enter Tryz.func130, Tryz.ntmps130
  go_wp2
  go_ret
  exact ⟨rfl, gr_alloc _ _ _⟩
set_option maxHeartbeats 8000000 in
set_option maxRecDepth 100000 in
theorem dsearch (A : Option Addr) (n c : Nat) (zs : List Cur) (t : Int) (w : World) (hr : Row w A n 5 (sR curC zs)) (hn : n ≤ 100000) (hs : Sorted zs) (hi : Ids zs) (ht : 1 ≤ t ∧ t ≤ 1000000) :
    Calls Tryz.prog 129 #[.slice A n c, .int .i64 t, .func (.func 130) #[] #[]] w fun e w' => (∃ (k : Nat) (b : Bool), e = .returned (.tuple #[.int .i64 k, .bool b]) ∧ Place zs t k) ∧ Gr w w' := by
  have hl : zs.length = n := by have := hr.1; rw [sR_len curC 5 curC_len] at this; omega
  have cO := fun (x : Cur) W hx => order_any x t W hx ht
  unfold curV at cO
  replace hr := Lib.hid hr
  replace hl := Lib.hid hl
  replace hs := Lib.hid hs
  replace hi := Lib.hid hi
  replace cO := Lib.hid cO
  replace ht := Lib.hid ht
  go_enter Tryz.func129, Tryz.ntmps129
  go_wp2
  go_loopw [9, 10] (fun iv jv wr => ∃ i j : Nat, i ≤ j ∧ j ≤ n ∧ iv = .int .i64 i ∧ jv = .int .i64 j ∧ Hid (∀ y ∈ zs.take i, y.id < t) ∧ Hid (∀ y ∈ zs.drop j, t ≤ y.id) ∧ Hid (Gr w wr)) (fun iv jv _ => (intOf jv).toNat - (intOf iv).toNat)
  case atStart => exact ⟨0, n, Nat.zero_le _, Nat.le_refl _, rfl, rfl, by show Hid (∀ y ∈ zs.take 0, _); exact Lib.hid (by simp), by rw [← hl.out, List.drop_length]; exact Lib.hid (by simp), gr_refl _ _⟩
  case round =>
    obtain ⟨i, j, hij, hjn, rfl, rfl, hlo, hhi, hg⟩ := hrel
    by_cases hlt : i < j
    · obtain ⟨h, hh⟩ : ∃ h, h = (i + j) / 2 := ⟨_, rfl⟩
      have hhj : h < n := by omega
      obtain ⟨x, B, o, hx, rfl, _, hc⟩ := rowS_elem curC_len (row_gr hr.out hg.out) (by decide) hhj
      have hxi := hi.out x (List.mem_of_getElem? hx)
      have hiji : (i : Int) < (j : Int) := by omega
      have hw1 : IntKind.i64.wrap ((i : Int) + (j : Int)) = (i : Int) + (j : Int) := IntWalk.i64_in _ (by omega)
      have hw2 : IntKind.u64.wrap ((i : Int) + (j : Int)) = (i : Int) + (j : Int) := by rw [IntKind.wrap_u64]; omega
      have hhI : (h : Int) < (n : Int) := by omega
      have hh0 : (0 : Int) ≤ (h : Int) := by omega
      have d0 : wr.cell? ⟨B, o + h * 5, none⟩ = some (.int .i64 x.id) := hc 0 (by decide)
      have d1 : wr.cell? ⟨B, o + h * 5 + 1, none⟩ = some (.int .i64 x.rows) := hc 1 (by decide)
      have d2 : wr.cell? ⟨B, o + h * 5 + 2, none⟩ = some (.int .i64 x.size) := hc 2 (by decide)
      have d3 : wr.cell? ⟨B, o + h * 5 + 3, none⟩ = some (.int .i64 x.tl) := hc 3 (by decide)
      have d4 : wr.cell? ⟨B, o + h * 5 + 4, none⟩ = some (.string (txt x.file)) := hc 4 (by decide)
      clear hc
      go_upto_region 5 with fail
      have hhe : ((i : Int) + (j : Int)) / 2 = (h : Int) := by omega
      simp only [hhe]
      have hxb : x.id < t ∨ t ≤ x.id := by omega
      replace hxi := Lib.hid hxi
      replace hx := Lib.hid hx
      replace hh := Lib.hid hh
      clear hhe hw1 hw2
      go_wp2_with fail
      refine (cO.out x _ hxi.out).mono ?_
      rintro e W2 ⟨rfl, g2⟩
      replace g2 := Lib.hid g2
      rcases hxb with hxb | hxb
      · have hneg : x.id - t < 0 := by omega
        have hw3 : IntKind.i64.wrap ((h : Int) + 1) = (h : Int) + 1 := IntWalk.i64_in _ (by omega)
        go_wp2
        go_roundw
        case rel => exact ⟨h + 1, j, by have := hh.out; omega, hjn, by go_num, rfl, below_up hs.out hx.out hxb, hhi.out, gr_trans hg.out g2.out⟩
        case measure => simp [intOf]; have := hh.out; omega
      · have hneg : (x.id - t < 0) = False := eq_false (by omega)
        go_wp2
        go_roundw
        case rel => exact ⟨i, h, by have := hh.out; omega, by omega, rfl, rfl, hlo.out, above_down hs.out hx.out hxb, gr_trans hg.out g2.out⟩
        case measure => simp [intOf]; have := hh.out; omega
    · obtain rfl : i = j := by omega
      have hpl : Place zs t i := ⟨by rw [hl.out]; exact hjn, hlo.out, hhi.out⟩
      replace hpl := Lib.hid hpl
      by_cases hin : i < n
      · obtain ⟨x, B, o, hx, rfl, _, hc⟩ := rowS_elem curC_len (row_gr hr.out hg.out) (by decide) hin
        have hxi := hi.out x (List.mem_of_getElem? hx)
        have hhI : (i : Int) < (n : Int) := by omega
        have hh0 : (0 : Int) ≤ (i : Int) := by omega
        have d0 : wr.cell? ⟨B, o + i * 5, none⟩ = some (.int .i64 x.id) := hc 0 (by decide)
        have d1 : wr.cell? ⟨B, o + i * 5 + 1, none⟩ = some (.int .i64 x.rows) := hc 1 (by decide)
        have d2 : wr.cell? ⟨B, o + i * 5 + 2, none⟩ = some (.int .i64 x.size) := hc 2 (by decide)
        have d3 : wr.cell? ⟨B, o + i * 5 + 3, none⟩ = some (.int .i64 x.tl) := hc 3 (by decide)
        have d4 : wr.cell? ⟨B, o + i * 5 + 4, none⟩ = some (.string (txt x.file)) := hc 4 (by decide)
        replace hxi := Lib.hid hxi
        clear hc hx
        go_wp2_with fail
        refine (cO.out x _ hxi.out).mono ?_
        rintro e W2 ⟨rfl, g2⟩
        go_wp2
        go_ret2
        exact ⟨⟨i, _, rfl, hpl.out⟩, gr_trans hg.out g2⟩
      · have hhI : ((i : Int) < (n : Int)) = False := eq_false (by omega)
        go_wp2
        go_ret2
        exact ⟨⟨i, _, rfl, hpl.out⟩, hg.out⟩
end Go.Proofs.YtmldoeeangekoaaGreat
