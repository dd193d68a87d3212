/-
  What the document's Right answers of labels, and its Value of a number. No condition but bounds on the lengths.
-/
import Derived.Test.YtbnacoakjhhndaaGreatRefTidy
import Derived.Test.YtbnacoakjhhndaaGreatRowPut
namespace Go.Proofs.YtbnacoakjhhndaaGreat
open Go.RowKit

set_option maxHeartbeats 4000000 in
set_option maxRecDepth 100000 in
theorem refRight_any (A : Option Addr) (n c : Nat) (zs : List Lb) (w : World) (hn : n ≤ 1000000000) (hz : Row w A n 2 (sR lblC zs)) (hsh : ∀ x ∈ zs, x.n.length ≤ 1000000 ∧ x.v.length ≤ 1000000) :
    Calls Tryz.prog 80 #[.slice A n c] w fun e w' => e = .returned (.bool (decide (okLbs zs))) ∧ Gr w w' := by
  have htd := refTidy_any A n c zs w hn hz hsh
  replace htd := Lib.hid htd
  replace hz := Lib.hid hz
  clear hsh
  obtain ⟨R, hR⟩ : ∃ R, R = decide (okLbs zs) := ⟨_, rfl⟩
  rw [← hR]
  replace hR := Lib.hid hR
  go_enter Tryz.func80, Tryz.ntmps80
  go_wp2_with fail
  refine htd.out.mono ?_
  rintro e w1 ⟨⟨v, z1, rfl, hp, hr, hok, ho⟩ | ⟨rfl, hno⟩, g1⟩
  · obtain ⟨A1, c1, rfl, hc1, hc2⟩ := own_openS ho
    have hsm := refCompare_any A1 A n n c1 c z1 zs w1 hn hn (row_own ho) (row_gr hz.out g1)
    have hb : (cmpLs z1 zs == 0) = R := by
      rw [hR.out]
      by_cases h : z1 = zs
      · rw [decide_eq_true ((okLbs_iff hp hr hok).2 h), h, cmpLs_refl]; rfl
      · rw [decide_eq_false (fun k => h ((okLbs_iff hp hr hok).1 k))]
        exact eqF (fun k => h (cmpLs_eq k))
    generalize cmpLs z1 zs = r at hsm hb
    replace hsm := Lib.hid hsm
    replace g1 := Lib.hid g1
    clear hp hr hok ho
    go_wp2_with fail
    refine hsm.out.mono ?_
    rintro e w3 ⟨rfl, g3⟩
    go_wp2
    go_ret
    exact ⟨rfl, gr_trans g1.out g3⟩
  · have hb : R = false := by rw [hR.out]; exact decide_eq_false (fun k => hno (okLbs_tidy k))
    replace hb := Lib.hid hb
    clear hno
    go_wp2
    go_ret
    exact ⟨by rw [hb.out]; rfl, g1⟩
theorem refValue_two (a : Int) (w : World) : Calls Tryz.prog 81 #[.int .i64 a] w fun e w' => e = .returned (.bool (decide (-1000000000000 ≤ a) && decide (a ≤ 1000000000000))) ∧ w = w' := by
  go_enter Tryz.func81, Tryz.ntmps81
  go_wp2
  all_goals
    go_ret
    refine ⟨?_, rfl⟩
    apply congrArg (fun b => Ending.returned (Value.bool b))
    rw [Bool.eq_iff_iff]
    simp
    omega
theorem refValue_any (a : Int) (w : World) : Calls Tryz.prog 81 #[.int .i64 a] w fun e w' => e = .returned (.bool (decide (okV a))) ∧ w = w' := by
  have h := refValue_two a w
  rw [← Bool.decide_and] at h
  exact h
end Go.Proofs.YtbnacoakjhhndaaGreat
