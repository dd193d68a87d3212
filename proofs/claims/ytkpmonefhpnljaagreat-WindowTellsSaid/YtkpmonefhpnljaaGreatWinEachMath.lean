/-
  window.Do of 'rate'; plain facts on sums, means, the least and the greatest of points' numbers. No condition but that the points may be.
-/
import Derived.Test.YtkpmonefhpnljaaGreatWinRate
namespace Go.Proofs.YtkpmonefhpnljaaGreat
open Go.RowKit

theorem ta_rate1 (v : Value) (W : World) : (Instr.typeAssert (.iface 64 v) 20 54 true).run Tryz.prog W = .ok (.tuple #[.agg #[.nilFunc], .bool false]) W := ta_inc1 v W
set_option maxHeartbeats 4000000 in
set_option maxRecDepth 100000 in
theorem do_change (A : Option Addr) (n c : Nat) (zs : List (Int × Int)) (v : Int) (b : Bool) (x : Int) (w : World) (h0 : 0 < n) (hn : n ≤ 25) (hr : PtRow w A n zs) (hrb : rightB zs = true)
    (cC : ∀ W, Gr w W → Calls Tryz.prog 22 #[.agg #[.bool true], .slice A n c] W fun e w' => e = .returned (.tuple #[.int .i64 v, .bool b, .int .i64 x]) ∧ Gr W w') : Do3 rateL A n c w v b x := by
  have hl := pt_len hr
  have cR := fun W (g : Gr w W) => winRight_any A n c zs W (by omega) (pt_gr hr g)
  rw [hrb] at cR
  have hz' : ((n : Int) == 0) = false := eqF (by omega)
  obtain ⟨S, hS⟩ : ∃ S, S = txt rateL := ⟨_, rfl⟩
  have cF : ∀ W, Calls Tryz.prog 20 #[.string S] W fun e w' => e = .returned (.iface 64 (.agg #[.bool true])) ∧ Gr W w' := fun W => by rw [hS]; exact fn_rate W
  unfold Do3
  rw [← hS]
  replace cF := Lib.hid cF
  replace cC := Lib.hid cC
  replace cR := Lib.hid cR
  replace hl := Lib.hid hl
  clear hr hS hrb
  go_enter Tryz.func10, Tryz.ntmps10
  go_wp2_with fail
  refine (cF.out _).mono ?_
  rintro e W1 ⟨rfl, g1⟩
  go_wp2_with fail
  refine (cR.out _ g1).mono ?_
  rintro e W2 ⟨rfl, g2⟩
  have g12 := Lib.hid (gr_trans g1 g2)
  clear g1 g2
  have ta1 := fun W => ta_inc1 (.agg #[.bool true]) W
  have ta2 := fun W => ta_inc2 (.agg #[.bool true]) W
  have ta3 := fun W => ta_inc3 (.agg #[.bool true]) W
  go_wp2_with fail
  refine (cC.out _ (gr_trans g12.out (gr_trans (gr_alloc _ _ _) (gr_alloc _ _ _)))).mono ?_
  rintro e W3 ⟨rfl, g3⟩
  have g4 := Lib.hid (gr_trans (gr_trans g12.out (gr_trans (gr_alloc _ _ none) (gr_alloc _ _ _))) g3)
  clear g3
  go_wp2
  go_ret3
  exact ⟨rfl, g4.out⟩
theorem do_rate (A : Option Addr) (m c : Nat) (zs : List (Int × Int)) (w : World) (h1 : 1 ≤ m) (hr : PtRow w A (m + 1) zs) (hrb : rightB zs = true) (h0 : (riseV zs).2 = 0) :
    Do3 rateL A (m + 1) c w ((rateP zs).1.tdiv (pT zs m - pT zs 0)) ((rateP zs).2 == 0) (rateP zs).2 := by
  obtain ⟨hn, _, _⟩ := pts_facts hr hrb
  exact do_change A (m + 1) c zs _ _ _ w (by omega) hn hr hrb (fun W g => change_rate A m c zs W h1 hn (pt_gr hr g) hrb h0)

theorem sum_between (zs : List Int) (lo hi : Int) (h : ∀ x ∈ zs, lo ≤ x ∧ x ≤ hi) : lo * zs.length ≤ zs.sum ∧ zs.sum ≤ hi * zs.length := by
  induction zs with
  | nil => simp
  | cons a zs ih =>
    have h1 := ih (fun x hx => h x (by simp [hx]))
    have h2 := h a (by simp)
    simp only [List.sum_cons, List.length_cons]
    have e : ∀ b : Int, b * ((zs.length + 1 : Nat) : Int) = b * zs.length + b := by
      intro b; rw [Int.natCast_add, Int.mul_add]; simp
    rw [e, e]
    generalize lo * (zs.length : Int) = m at *
    generalize hi * (zs.length : Int) = m' at *
    omega
theorem mean_between (s lo hi : Int) (n : Nat) (h0 : 0 < n) (h1 : lo * n ≤ s) (h2 : s ≤ hi * n) : lo - 1 ≤ s.tdiv n ∧ s.tdiv n ≤ hi + 1 := by
  have hn : (0 : Int) < n := by omega
  have e := Int.tdiv_mul_add_tmod s n
  have r1 := Int.tmod_lt_of_pos s hn
  have r2 : -(n : Int) < s.tmod n := by
    rcases Int.le_total 0 s with hs | hs
    · have := Int.tmod_nonneg (n : Int) hs; omega
    · have h3 := Int.tmod_lt_of_pos (-s) hn
      rw [Int.neg_tmod] at h3
      omega
  generalize s.tmod n = r at *
  generalize s.tdiv n = q at *
  constructor
  · rcases Int.lt_or_le q (lo - 1) with hq | hq
    · exfalso
      have h3 : q * n ≤ (lo - 2) * n := Int.mul_le_mul_of_nonneg_right (by omega) (by omega)
      rw [Int.sub_mul] at h3
      generalize lo * (n : Int) = a at *
      generalize q * (n : Int) = b at *
      omega
    · exact hq
  · rcases Int.lt_or_le (hi + 1) q with hq | hq
    · exfalso
      have h3 : (hi + 2) * n ≤ q * n := Int.mul_le_mul_of_nonneg_right (by omega) (by omega)
      rw [Int.add_mul] at h3
      generalize hi * (n : Int) = a at *
      generalize q * (n : Int) = b at *
      omega
    · exact hq
theorem min_fold (zs : List Int) : ∀ a, zs.foldl min a ≤ a ∧ ∀ x ∈ zs, zs.foldl min a ≤ x := by
  induction zs with
  | nil => intro a; simp
  | cons z zs ih =>
    intro a
    obtain ⟨h1, h2⟩ := ih (min a z)
    rw [List.foldl_cons]
    refine ⟨by omega, fun x hx => ?_⟩
    rcases List.mem_cons.1 hx with rfl | hx
    · omega
    · exact h2 x hx
theorem max_fold (zs : List Int) : ∀ a, a ≤ zs.foldl max a ∧ ∀ x ∈ zs, x ≤ zs.foldl max a := by
  induction zs with
  | nil => intro a; simp
  | cons z zs ih =>
    intro a
    obtain ⟨h1, h2⟩ := ih (max a z)
    rw [List.foldl_cons]
    refine ⟨by omega, fun x hx => ?_⟩
    rcases List.mem_cons.1 hx with rfl | hx
    · omega
    · exact h2 x hx
theorem min_le (zs : List Int) : ∀ x ∈ zs, Lib.minOf zs ≤ x := (min_fold zs _).2
theorem le_max (zs : List Int) : ∀ x ∈ zs, x ≤ Lib.maxOf zs := (max_fold zs _).2
/-- What the law asks of the eight. -/
structure EachFacts (zs : List (Int × Int)) (m : Nat) : Prop where
  sum_in : In (nums zs).sum
  rise0 : (riseV zs).2 = 0
  mean : Lib.minOf (nums zs) - 1 ≤ (nums zs).sum.tdiv ((m : Int) + 1) ∧ (nums zs).sum.tdiv ((m : Int) + 1) ≤ Lib.maxOf (nums zs) + 1
  last : Lib.minOf (nums zs) ≤ (nums zs).getD m 0 ∧ (nums zs).getD m 0 ≤ Lib.maxOf (nums zs)
  rate : (rateP zs).2 = 0 ∧ (rateP zs).1 = (riseV zs).1 * 1000 ∨ (rateP zs).2 = 4 ∧ (1000000000 < (riseV zs).1 ∨ (riseV zs).1 < -1000000000)
theorem each_facts {w : World} {A : Option Addr} {m : Nat} {zs : List (Int × Int)} (hr : PtRow w A (m + 1) zs) (hrb : rightB zs = true) (h1 : 1 ≤ m) (hV : ∀ k, k < m + 1 → -1000000000 ≤ pV zs k ∧ pV zs k ≤ 1000000000) : EachFacts zs m := by
  obtain ⟨hn, hIn, hlen⟩ := pts_facts hr hrb
  have hl := pt_len hr
  have hB : ∀ x ∈ nums zs, -1000000000 ≤ x ∧ x ≤ 1000000000 := fun x hx => by
    unfold nums at hx
    rw [List.mem_map] at hx
    obtain ⟨p, hp, rfl⟩ := hx
    obtain ⟨k, hk, he⟩ := List.mem_iff_getElem.1 hp
    have h := hV k (by omega)
    unfold pV at h
    rw [List.getD_eq_getElem?_getD, List.getElem?_eq_getElem hk, he] at h
    exact h
  have hs := sum_between _ _ _ hB
  rw [hlen] at hs
  have hrd : ∀ x ∈ rds zs m, -2000000000 ≤ x ∧ x ≤ 2000000000 := fun x hx => by
    unfold rds at hx
    rw [List.mem_map] at hx
    obtain ⟨j, hj, rfl⟩ := hx
    have hj' := List.mem_range.1 hj
    have a1 := hV j (by omega)
    have a2 := hV (j + 1) (by omega)
    unfold rd
    rw [Nat.add_sub_cancel]
    split <;> omega
  have hrs := sum_between _ _ _ hrd
  rw [rds_len] at hrs
  have hm : (nums zs).getD m 0 ∈ nums zs := by
    rw [List.getD_eq_getElem?_getD, List.getElem?_eq_getElem (by omega)]
    exact List.getElem_mem _
  have hrise : riseV zs = ((rds zs m).sum, 0) := by
    unfold riseV
    rw [hl, Nat.add_sub_cancel, if_pos]
    exact ⟨fun x hx => by have := hrd x hx; unfold In; omega, by unfold In; omega⟩
  refine ⟨by unfold In; omega, by rw [hrise], ?_, ⟨min_le _ _ hm, le_max _ _ hm⟩, ?_⟩
  · have hmm := sum_between (nums zs) (Lib.minOf (nums zs)) (Lib.maxOf (nums zs)) (fun x hx => ⟨min_le _ x hx, le_max _ x hx⟩)
    rw [hlen] at hmm
    exact mean_between _ _ _ (m + 1) (by omega) hmm.1 hmm.2
  · have hri := riseV_in zs
    unfold rateP
    generalize (riseV zs).1 = r at *
    have hd : doV [42] r 1000 = if tooBig r 1000 = true then (0, 4) else (r * 1000, 0) := by
      unfold doV
      rw [if_neg (fun h => h ⟨hri, by unfold In; omega⟩), if_neg (by decide), if_neg (by decide), if_neg (by decide), if_pos rfl]
    rw [hd]
    by_cases ht : tooBig r 1000 = true
    · rw [if_pos ht]
      right
      refine ⟨rfl, ?_⟩
      unfold tooBig at ht
      simp only [Bool.and_eq_true, decide_eq_true_eq] at ht
      have h3 := ht.2
      rw [show max (1000 : Int) (-1000) = 1000 by decide] at h3
      omega
    · rw [if_neg ht]
      exact Or.inl ⟨rfl, rfl⟩
end Go.Proofs.YtkpmonefhpnljaaGreat
