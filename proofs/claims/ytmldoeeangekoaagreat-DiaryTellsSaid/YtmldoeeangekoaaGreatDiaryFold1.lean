/-
  slices.IndexFunc, DeleteFunc, BinarySearchFunc, Insert of no cursors; diary's close of a state in which none is open. No condition.
-/
import Derived.Test.YtmldoeeangekoaaGreatDiaryMath
import Derived.Deep.RegionLaw
import Derived.Test.YtmldoeeangekoaaGreatAppendRow
namespace Go.Proofs.YtmldoeeangekoaaGreat
open Go.RowKit

theorem infoCur : (Tryz.prog.info? 28).map (fun i => (i.zero, i.size, i.bytes)) = some (some (.agg #[.int .i64 0, .int .i64 0, .int .i64 0, .int .i64 0, .string ⟨#[]⟩]), 5, 48) := by kernel_rfl
theorem dindex0 (fv : Value) (w : World) : Calls Tryz.prog 134 #[.slice none 0 0, fv] w fun e w' => e = .returned (.int .i64 (-1)) ∧ w = w' := by
  go_enter Tryz.func134, Tryz.ntmps134
  go_wp2
  go_loopw [8] (fun i wr => i = .int .i64 0 ∧ w = wr) (fun _ _ => 0)
  case atStart => exact ⟨rfl, rfl⟩
  case round =>
    obtain ⟨rfl, rfl⟩ := hrel
    go_wp2
    go_ret
    exact ⟨rfl, rfl⟩
theorem ddelete0 (fv : Value) (w : World) : Calls Tryz.prog 132 #[.slice none 0 0, fv] w fun e w' => e = .returned (.slice none 0 0) ∧ w = w' := by
  go_enter Tryz.func132, Tryz.ntmps132
  go_wp2_with fail
  refine (dindex0 _ _).mono ?_
  rintro e w2 ⟨rfl, rfl⟩
  go_wp2
  go_ret
  exact ⟨rfl, rfl⟩
theorem dsearch0 (n : Int) (fv : Value) (w : World) : Calls Tryz.prog 129 #[.slice none 0 0, .int .i64 n, fv] w fun e w' => e = .returned (.tuple #[.int .i64 0, .bool false]) ∧ w = w' := by
  go_enter Tryz.func129, Tryz.ntmps129
  go_wp2
  go_loopw [9, 10] (fun i j wr => i = .int .i64 0 ∧ j = .int .i64 0 ∧ w = wr) (fun _ _ _ => 0)
  case atStart => exact ⟨rfl, rfl, rfl⟩
  case round =>
    obtain ⟨rfl, rfl, rfl⟩ := hrel
    go_wp2
    go_ret2
    exact ⟨rfl, rfl⟩
set_option maxRecDepth 100000 in
theorem dinsert0 (B : Nat) (x : Cur) (w : World) (hx : ∀ j, j < 5 → w.cell? ⟨B, j, none⟩ = (curC x)[j]?) : Calls Tryz.prog 131 #[.slice none 0 0, .int .i64 0, .slice (some ⟨B, 0, none⟩) 1 1] w fun e w' => ∃ A cap, e = .returned (.slice A 1 cap) ∧ w'.ownsRow w.heap.size 28 5 (.slice A 1 cap) 1 (curC x) ∧ Gr w w' := by
  obtain ⟨ii, hi, hz0, hz1, hz2⟩ := info_parts infoCur
  have hnil : w.ownsRow w.heap.size 28 5 (.slice none 0 0) 0 [] := World.ownsRow_nil _ _ _ _
  replace hx := Lib.hid hx
  replace hnil := Lib.hid hnil
  go_enter Tryz.func131, Tryz.ntmps131
  go_wp2_with (at_builtin; refine wpList_append_own _ rfl _ _ 52 rfl w.heap.size 28 ii (.agg #[.int .i64 0, .int .i64 0, .int .i64 0, .int .i64 0, .string ⟨#[]⟩]) 5 48 Tryz.underlying52 hi hz0 hz1 hz2 rfl (by decide) (.slice none 0 0) 0 [] rfl hnil.out ⟨B, 0, none⟩ 1 1 (curC x) rfl rfl ?c1 ?c2 ?c3 ?c4 ?c5 ?_; rotate_right; intro v' W5 hown5 hgrow _nl; clear _nl; replace hown5 := Lib.hid hown5; replace hgrow := Lib.hid hgrow)
  case c1 =>
    intro j u hj
    have hjl := (List.getElem?_eq_some_iff.1 hj).1
    rw [add_plain, Nat.zero_add, hx.out j hjl]
    exact hj
  case c2 =>
    intro u hu
    simp only [curC, List.mem_cons, List.not_mem_nil, or_false] at hu
    rcases hu with rfl | rfl | rfl | rfl | rfl <;> rfl
  case c3 => unfold maxLen; omega
  case c4 => omega
  case c5 => exact Nat.le_refl _
  obtain ⟨A, cap, rfl, _, _⟩ := own_openS hown5.out
  go_ret
  exact ⟨A, cap, rfl, hown5.out, hgrow.out⟩
end Go.Proofs.YtmldoeeangekoaaGreat
