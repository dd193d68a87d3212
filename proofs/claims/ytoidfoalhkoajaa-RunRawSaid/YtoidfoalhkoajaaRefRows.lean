/-
  The document's Tidy of rows each of which may be, and the laws' Light of rows. No condition but bounds on the lengths.
-/
import Derived.Test.YtoidfoalhkoajaaRefOrder
import Derived.Test.YtoidfoalhkoajaaLabelShort
import Derived.Test.YtoidfoalhkoajaaRowsLight
namespace Go.Proofs.Ytoidfoalhkoajaa
open Go.RowKit

/-- A row that may be. -/
def GoodH (w : World) (h : Hd) : Prop := ∃ r, HdOk w h r ∧ okR r
theorem goodH_gr {w w' : World} {h : Hd} (k : GoodH w h) (g : Gr w w') : GoodH w' h := by
  obtain ⟨r, k1, k2⟩ := k
  exact ⟨r, hdOk_gr k1 g, k2⟩
set_option maxHeartbeats 8000000 in
set_option maxRecDepth 100000 in
theorem refRows_any (A : Option Addr) (n c : Nat) (hs : List Hd) (w : World) (hn : n ≤ 2000) (hz : Row w A n 2 (sR hdC hs)) (hP : ∀ h ∈ hs, GoodH w h) :
    Calls Try.prog 34 #[.slice A n c] w (OrderPost n hs w) := by
  have hord : ∀ W, Gr w W → Calls Try.prog 48 #[.slice A n c] W (OrderPost n hs W) := fun W g => order7_any A n c hs W (by omega) (row_gr hz g) (fun h hh => by
    obtain ⟨r, k1, k2⟩ := goodH_gr (hP h hh) g
    exact ⟨r, k1, by have := k2.1.1; omega⟩)
  replace hz := Lib.hid hz
  replace hP := Lib.hid hP
  replace hord := Lib.hid hord
  go_enter Try.func34, Try.ntmps34
  have hn2 : ((2000 : Int) < (n : Int)) = False := eq_false (by omega)
  go_wp2
  clear hn2
  go_loopw [4] (fun iv wr => ∃ k : Nat, k ≤ n ∧ iv = .int .i64 k ∧ Hid (Gr w wr)) (fun iv _ => n - (intOf iv).toNat)
  case atStart => exact ⟨0, Nat.zero_le _, rfl, gr_refl _ _⟩
  case round =>
    obtain ⟨k, hk, rfl, hg⟩ := hrel
    by_cases hlt : k < n
    · obtain ⟨x, gA, oA, hx, rfl, _, ha⟩ := rowS_elem hdC_len (row_gr hz.out hg.out) (by decide) hlt
      have a0 : wr.cell? ⟨gA, oA + k * 2, none⟩ = some (.slice x.A x.n x.c) := ha 0 (by decide)
      have a1 : wr.cell? ⟨gA, oA + k * 2 + 1, none⟩ = some (.int .i64 x.v) := ha 1 (by decide)
      obtain ⟨r, k1, k2⟩ := goodH_gr (hP.out x (List.mem_of_getElem? hx)) hg.out
      have hki : (k : Int) < (n : Int) := by omega
      have hk0 : (0 : Int) ≤ (k : Int) := by omega
      have hR := refRight_any x.A x.n x.c r.l wr (by rw [k1.n]; have := k2.1.1; omega) k1.row (okLbs_short k2.1)
      rw [decide_eq_true k2.1] at hR
      have hV := fun W => refValue_any x.v W
      rw [k1.v, decide_eq_true k2.2] at hV
      have hxv := k1.v
      rw [hxv] at a1
      clear ha hx k1 k2
      replace hR := Lib.hid hR
      replace hV := Lib.hid hV
      go_wp2_with fail
      refine hR.out.mono ?_
      rintro e w2 ⟨rfl, g2⟩
      have b1 := gr_cell g2 a1
      clear a0 a1
      go_wp2_with fail
      refine (hV.out _).mono ?_
      rintro e w3 ⟨rfl, rfl⟩
      go_wp2
      go_roundw
      case rel => exact ⟨k + 1, by omega, by go_num, gr_trans hg.out g2⟩
      case measure => simp [intOf]; omega
    · obtain rfl : k = n := by omega
      go_wp2_with fail
      refine (hord.out _ hg.out).mono ?_
      rintro e w2 ⟨⟨v, z1, rfl, hm, hzl, ho⟩ | rfl, g2⟩
      · replace hm := Lib.hid hm
        replace hzl := Lib.hid hzl
        replace ho := Lib.hid ho
        go_wp2
        go_ret2
        exact ⟨.inl ⟨_, z1, rfl, hm.out, hzl.out, own_mono ho.out hg.out.size⟩, gr_trans hg.out g2⟩
      · go_wp2
        go_ret2
        exact ⟨.inr rfl, gr_trans hg.out g2⟩
end Go.Proofs.Ytoidfoalhkoajaa
