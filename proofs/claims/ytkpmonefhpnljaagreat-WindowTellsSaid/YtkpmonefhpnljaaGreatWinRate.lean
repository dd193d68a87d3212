/-
  What window.Do answers of 'rate', of two points at the least that rose without fault. No condition but these.
-/
import Derived.Test.YtkpmonefhpnljaaGreatWinDo
import Derived.Test.YtkpmonefhpnljaaGreatWinOpen
namespace Go.Proofs.YtkpmonefhpnljaaGreat
open Go.RowKit

theorem right_times {zs : List (Int × Int)} (h : rightB zs = true) : ∀ k, 0 < k → k < zs.length → pT zs 0 < pT zs k
  | 0, h0, _ => by omega
  | k + 1, _, hk => by
    have h1 := okP_iff.1 ((right_iff.1 h).2 (k + 1) hk)
    have h2 : pT zs k < pT zs (k + 1) := by
      rcases h1.2.2.2 with h3 | h3
      · omega
      · rwa [Nat.add_sub_cancel] at h3
    rcases Nat.eq_zero_or_pos k with rfl | hp
    · exact h2
    · have := right_times h k hp (by omega); omega
theorem doV_in (op : List UInt8) (a b : Int) : In (doV op a b).1 := by
  have hz : In 0 := by unfold In; omega
  by_cases h : In a ∧ In b
  · unfold doV
    rw [if_neg (by simpa using h)]
    split
    · unfold b2i; split <;> (unfold In; omega)
    · split
      · split <;> assumption
      · split
        · split <;> assumption
        · split
          · split
            · exact hz
            · exact small_mul h.1 h.2 (by cases hh : tooBig a b <;> simp_all)
          · split
            · split
              · exact hz
              · exact in_tdiv h.1
            · split
              · split
                · exact hz
                · exact in_tmod h.1
              · exact hz
  · unfold doV
    rw [if_pos h]
    exact hz
theorem riseV_in (zs : List (Int × Int)) : In (riseV zs).1 := by
  unfold riseV
  split
  · next h => exact h.2
  · unfold In; omega
def rateP (zs : List (Int × Int)) : Int × Int := doV [42] (riseV zs).1 1000
def RatePost (zs : List (Int × Int)) (m : Nat) (w : World) (e : Ending) (w' : World) : Prop := e = ret3 ((rateP zs).1.tdiv (pT zs m - pT zs 0)) ((rateP zs).2 == 0) (rateP zs).2 ∧ Gr w w'
set_option maxHeartbeats 4000000 in
set_option maxRecDepth 100000 in
theorem change_rate (A : Option Addr) (m c : Nat) (zs : List (Int × Int)) (w : World) (h1 : 1 ≤ m) (hn : m + 1 ≤ 25) (hr : PtRow w A (m + 1) zs) (hrb : rightB zs = true) (h0 : (riseV zs).2 = 0) :
    Calls Tryz.prog 22 #[.agg #[.bool true], .slice A (m + 1) c] w (RatePost zs m w) := by
  have hl := pt_len hr
  have hV : ∀ k, k < m + 1 → In (pV zs k) := fun k hk => (okP_iff.1 ((right_iff.1 hrb).2 k (by rw [hl]; exact hk))).2.2.1
  have hrs := fun W (g : Gr w W) => rise_any A (m + 1) c zs W (by omega) hn (pt_gr hr g) hV
  unfold RisePost at hrs
  rw [h0] at hrs
  have hri := riseV_in zs
  have hD : ∀ W, Calls Tryz.prog 75 #[.string ⟨#[42]⟩, .int .i64 (riseV zs).1, .int .i64 1000] W fun e w' => e = .returned (.tuple #[.int .i64 (rateP zs).1, .int .i64 (rateP zs).2]) ∧ Gr W w' := fun W => do_any [42] (riseV zs).1 1000 W (by unfold In at hri; omega) (by omega)
  have hp : In (rateP zs).1 := doV_in _ _ _
  have hlt := right_times hrb m (by omega) (by rw [hl]; omega)
  have ht0 := okP_iff.1 ((right_iff.1 hrb).2 0 (by rw [hl]; omega))
  have htm := okP_iff.1 ((right_iff.1 hrb).2 m (by rw [hl]; omega))
  obtain ⟨B, o, rfl, hB, hm1, _⟩ := pt_cell hr (k := m) (by omega)
  have h01 := (pt_cells hr (k := 0) (by omega)).1
  simp only [Nat.zero_mul, Nat.add_zero] at h01
  unfold RatePost
  generalize rateP zs = p at *
  obtain ⟨p1, p2⟩ := p
  generalize (riseV zs).1 = v at *
  obtain ⟨t00, t01, _⟩ := ht0
  obtain ⟨tm0, tm1, _⟩ := htm
  generalize pT zs 0 = T0 at *
  generalize pT zs m = T1 at *
  obtain ⟨D, hDD⟩ : ∃ D, D = T1 - T0 := ⟨_, rfl⟩
  have sm : IntKind.i64.wrap (T1 - T0) = D := by rw [hDD]; exact IntWalk.i64_in _ (by omega)
  have sm2 : wrap64 (T1 - T0) = D := by rw [hDD]; unfold wrap64; omega
  have nz : (D == 0) = false := eqF (by omega)
  have nz2 : ¬ D = 0 := by omega
  have hw : wrap64 (p1.tdiv D) = p1.tdiv D := wrap_in (in_tdiv hp)
  rw [← hDD]
  clear hDD
  replace hw := Lib.hid hw
  have mm : IntKind.i64.wrap (m : Int) = (m : Int) := IntWalk.i64_in _ (by omega)
  have m0 : (0 : Int) ≤ (m : Int) := by omega
  have m1 : (m : Int) < (m : Int) + 1 := by omega
  have hnl : ((m : Int) + 1 < 2) = False := by simp; omega
  clear h0 hri hV hrb hlt
  replace hrs := Lib.hid hrs
  replace hD := Lib.hid hD
  replace hp := Lib.hid hp
  replace hr := Lib.hid hr
  replace hm1 := Lib.hid hm1
  replace h01 := Lib.hid h01
  replace hl := Lib.hid hl
  go_enter Tryz.func22, Tryz.ntmps22
  go_wp2_with fail
  refine (hrs.out _ (gr_alloc w _ none)).mono ?_
  rintro e W2 ⟨rfl, g2⟩
  have hx : W2.cell? ⟨w.heap.size, 0, none⟩ = some (.bool true) := gr_cell g2 (by rw [World.cell?_alloc_new]; rfl)
  have g3 := Lib.hid (gr_trans (gr_alloc w _ none) g2)
  clear g2
  go_wp2_with fail
  refine (hD.out _).mono ?_
  rintro e W3 ⟨rfl, g4⟩
  have g5 := Lib.hid (gr_trans g3.out g4)
  have hm3 := gr_cell g5.out hm1.out
  have h03 := gr_cell g5.out h01.out
  clear g4
  go_wp2_with fail
  go_quiet (fail)
  go_wp2
  go_ret3
  refine ⟨?_, gr_trans g5.out (gr_drewN _ _ _)⟩
  rw [show ret3 (p1.tdiv D) (p2 == 0) p2 = ret3 (wrap64 (p1.tdiv D)) (p2 == 0) p2 by rw [hw.out]]
  rfl

/-- window.Do of the functions that fold or pick, or of 'rate'. -/
theorem pts_facts {w : World} {A : Option Addr} {n : Nat} {zs : List (Int × Int)} (hr : PtRow w A n zs) (hrb : rightB zs = true) : n ≤ 25 ∧ (∀ x ∈ nums zs, In x) ∧ (nums zs).length = n := by
  have hl := pt_len hr
  refine ⟨by rw [← hl]; exact (right_iff.1 hrb).1, fun x hx => ?_, by simp [nums, hl]⟩
  unfold nums at hx
  rw [List.mem_map] at hx
  obtain ⟨p, hp, rfl⟩ := hx
  obtain ⟨k, hk, he⟩ := List.mem_iff_getElem.1 hp
  have h := (okP_iff.1 ((right_iff.1 hrb).2 k hk)).2.2.1
  unfold pV at h
  rw [List.getD_eq_getElem?_getD, List.getElem?_eq_getElem hk, he] at h
  exact h
def sumL : List UInt8 := [115, 117, 109, 95, 111, 118, 101, 114]
def avgL : List UInt8 := [97, 118, 103, 95, 111, 118, 101, 114]
def minL : List UInt8 := [109, 105, 110, 95, 111, 118, 101, 114]
def maxL : List UInt8 := [109, 97, 120, 95, 111, 118, 101, 114]
def countL : List UInt8 := [99, 111, 117, 110, 116, 95, 111, 118, 101, 114]
def lastL : List UInt8 := [108, 97, 115, 116, 95, 111, 118, 101, 114]
def rateL : List UInt8 := [114, 97, 116, 101]
def Do3 (s : List UInt8) (A : Option Addr) (n c : Nat) (w : World) (v : Int) (b : Bool) (e : Int) : Prop :=
  Calls Tryz.prog 10 #[.string (txt s), .slice A n c] w fun x w' => x = ret3 v b e ∧ Gr w w'
theorem do_sum (A : Option Addr) (n c : Nat) (zs : List (Int × Int)) (w : World) (h0 : 0 < n) (hr : PtRow w A n zs) (hrb : rightB zs = true) (hs : In (nums zs).sum) : Do3 sumL A n c w (nums zs).sum true 0 := by
  obtain ⟨hn, hV, _⟩ := pts_facts hr hrb
  exact do_f_sum sumL ((nums zs).sum, 0) A n c zs w h0 (by omega) hrb hr fn_sum (fun A' c' W h => sum_ok A' n c' (nums zs) W (by omega) h hV hs)
theorem do_avg (A : Option Addr) (n c : Nat) (zs : List (Int × Int)) (w : World) (h0 : 0 < n) (hr : PtRow w A n zs) (hrb : rightB zs = true) : Do3 avgL A n c w ((nums zs).sum.tdiv n) true 0 := by
  obtain ⟨hn, hV, _⟩ := pts_facts hr hrb
  exact do_f_avg avgL ((nums zs).sum.tdiv n, 0) A n c zs w h0 (by omega) hrb hr fn_avg (fun A' c' W h => mean_ok A' n c' (nums zs) W h0 (by omega) h hV)
theorem do_min (A : Option Addr) (n c : Nat) (zs : List (Int × Int)) (w : World) (h0 : 0 < n) (hr : PtRow w A n zs) (hrb : rightB zs = true) : Do3 minL A n c w (Lib.minOf (nums zs)) true 0 := by
  obtain ⟨hn, _, _⟩ := pts_facts hr hrb
  exact do_f_min minL _ A n c zs w h0 (by omega) hrb hr fn_min (fun A' c' W h => least_any A' n c' (nums zs) W (by omega) h0 h)
theorem do_max (A : Option Addr) (n c : Nat) (zs : List (Int × Int)) (w : World) (h0 : 0 < n) (hr : PtRow w A n zs) (hrb : rightB zs = true) : Do3 maxL A n c w (Lib.maxOf (nums zs)) true 0 := by
  obtain ⟨hn, _, _⟩ := pts_facts hr hrb
  exact do_f_max maxL _ A n c zs w h0 (by omega) hrb hr fn_max (fun A' c' W h => most_any A' n c' (nums zs) W (by omega) h0 h)
theorem do_count (A : Option Addr) (n c : Nat) (zs : List (Int × Int)) (w : World) (h0 : 0 < n) (hr : PtRow w A n zs) (hrb : rightB zs = true) : Do3 countL A n c w n true 0 := by
  obtain ⟨hn, _, _⟩ := pts_facts hr hrb
  exact do_f_count countL _ A n c zs w h0 (by omega) hrb hr fn_count (fun A' c' W _ => many_any A' n c' W)
theorem do_last (A : Option Addr) (n c : Nat) (zs : List (Int × Int)) (w : World) (h0 : 0 < n) (hr : PtRow w A n zs) (hrb : rightB zs = true) : Do3 lastL A n c w ((nums zs).getD (n - 1) 0) true 0 := by
  obtain ⟨hn, _, _⟩ := pts_facts hr hrb
  exact do_f_last lastL _ A n c zs w h0 (by omega) hrb hr fn_last (fun A' c' W h => lastI_any A' n c' (nums zs) W (by omega) h0 h)
end Go.Proofs.YtkpmonefhpnljaaGreat
