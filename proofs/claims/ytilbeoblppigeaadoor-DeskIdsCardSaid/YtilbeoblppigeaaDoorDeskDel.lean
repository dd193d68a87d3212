/-
  slices.Delete of one cursor of an own list. No condition but the row's own.
-/
import Derived.Test.YtilbeoblppigeaaDoorDeskIdx
import Derived.Test.YtilbeoblppigeaaDoorDeskOpen
import Derived.Deep.RegionLaw
import Derived.Deep.RegionHeld3
namespace Go.Proofs.YtilbeoblppigeaaDoor
open Go.RowKit

theorem del_row {zs : List Cur} {k n : Nat} (hl : zs.length = n) (hk : k < n) (vs : List Value) :
    (setAll (setAll (sR curC zs) (k * 5) ((sR curC zs).drop ((k + 1) * 5))) ((n - 1) * 5) vs).take ((n - 1) * 5) = sR curC (zs.eraseIdx k) := by
  have hL : (sR curC zs).length = n * 5 := by rw [sR_len curC 5 curC_len, hl]
  have hnl : ((sR curC zs).drop ((k + 1) * 5)).length = (n - (k + 1)) * 5 := by rw [List.length_drop, hL]; omega
  have ha : ((sR curC zs).take (k * 5)).length = k * 5 := by rw [List.length_take, hL]; omega
  rw [setAll_take]
  have h1 := setAll_mid ((sR curC zs).take (k * 5)) ((sR curC zs).drop (k * 5)) ((sR curC zs).drop ((k + 1) * 5)) (by rw [hnl, List.length_drop, hL]; omega)
  rw [List.take_append_drop, ha] at h1
  rw [h1, ← List.append_assoc, List.take_left' (by rw [List.length_append, ha, hnl]; omega), ← sR_take curC 5 curC_len, ← sR_drop curC 5 curC_len, ← sR_append, List.eraseIdx_eq_take_drop_succ]
set_option maxHeartbeats 8000000 in
set_option maxRecDepth 100000 in
theorem sdel_any (base g n c k : Nat) (zs : List Cur) (w : World) (hr : w.ownsRow base 30 5 (.slice (some ⟨g, 0, none⟩) n c) n (sR curC zs)) (hk : k < n) :
    Calls Tryd.prog 30 #[.slice (some ⟨g, 0, none⟩) n c, .int .i64 k, .int .i64 ((k : Int) + 1)] w fun e w' => e = .returned (.slice (some ⟨g, 0, none⟩) (n - 1) c) ∧ w'.ownsRow base 30 5 (.slice (some ⟨g, 0, none⟩) (n - 1) c) (n - 1) (sR curC (zs.eraseIdx k)) ∧ GrB g w w' := by
  obtain ⟨q, rfl⟩ : ∃ q, n = q + 1 := ⟨n - 1, by omega⟩
  rw [Nat.add_sub_cancel]
  obtain ⟨ii, hi, hz0, hz1, hz2⟩ := info_parts infoCuE
  have hl : zs.length = q + 1 := by have := hr.1; rw [sR_len curC 5 curC_len] at this; omega
  have hcn : q + 1 ≤ c ∧ c ≤ 9223372036854775807 := by obtain ⟨A', c', hv', h4, h5⟩ := own_openS hr; injection hv' with _ _ h6; subst h6; unfold maxLen at h5; exact ⟨h4, by omega⟩
  have hL : (sR curC zs).length = (q + 1) * 5 := hr.1
  obtain ⟨news, hnw⟩ : ∃ news, news = (sR curC zs).drop ((k + 1) * 5) := ⟨_, rfl⟩
  have hnl : news.length = (q - k) * 5 := by rw [hnw, List.length_drop, hL]; omega
  have hone : ∀ u ∈ news, u.oneCell' = true := fun u hu => by
    rw [hnw] at hu
    have hu2 := List.mem_of_mem_drop hu
    unfold sR at hu2
    obtain ⟨x, hx, hu3⟩ := List.mem_flatMap.1 hu2
    simp only [curC, List.mem_cons, List.not_mem_nil, or_false] at hu3
    rcases hu3 with rfl | rfl | rfl | rfl | rfl <;> rfl
  have hca : ∀ W, w.grownBy W none → ∀ j u, news[j]? = some u → W.cell? ((⟨g, (k + 1) * 5, none⟩ : Addr).add j) = some u := fun W gW j u hj => by
    have hj2 : j < (q - k) * 5 := by rw [← hnl]; exact (List.getElem?_eq_some_iff.1 hj).1
    rw [add_plain, (hr.kept gW (Classical.em _)).cellAt _ (by omega), ← List.getElem?_drop, ← hnw]
    exact hj
  have hsp : ∀ W, w.grownBy W none → ∀ j, j < news.length → (W.cell? ⟨g, 0 + k * 5 + j, none⟩).isSome = true ∧ W.frozen? ⟨g, 0 + k * 5 + j, none⟩ = false := fun W gW j hj => by
    have h9 := hr.kept gW (Classical.em _)
    exact ⟨own_some h9 (by rw [hnl] at hj; omega), h9.frozenAt _⟩
  have k1 : (k : Int) < ((q + 1 : Nat) : Int) := by omega
  have k2 : (k : Int) + 1 ≤ ((q + 1 : Nat) : Int) := by omega
  have k3 : ((k : Int) + 1).toNat = k + 1 := by omega
  have k4 : (0 : Int) ≤ (k : Int) + 1 := by omega
  have k5 : ((k : Int) == (k : Int) + 1) = false := eqF (by omega)
  have k6 : (k : Int) ≤ (c : Int) := by omega
  have k8 : (q : Int) ≤ (q : Int) + 1 := by omega
  have k9 : (k : Int) ≤ (k : Int) + 1 := by omega
  have k10 : (q : Int) + 1 ≤ (c : Int) := by omega
  have k11 : (q : Int) ≤ (c : Int) := by omega
  have k12 : (k : Int) ≤ (q : Int) := by omega
  have k13 : ((q : Int) + 1).toNat = q + 1 := by omega
  have k14 : (0 : Int) ≤ (q : Int) + 1 := by omega
  have k7 : ((q + 1 : Nat) : Int) ≤ (c : Int) := by omega
  replace hr := Lib.hid hr
  replace hca := Lib.hid hca
  replace hsp := Lib.hid hsp
  replace hone := Lib.hid hone
  replace hnl := Lib.hid hnl
  replace hL := Lib.hid hL
  replace hl := Lib.hid hl
  go_enter Tryd.func30, Tryd.ntmps30
  go_upto_region 5 with fail
  by_cases hcc : c = k + 1
  · obtain rfl : q = k := by omega
    subst hcc
    have hroom : q + 0 ≤ q + 1 := by omega
    clear hca hsp hone hnl hnw
    refine wp_region_held_drew (S := fun _ => True) (by kernel_rfl) trivial (fun hHeld => ?_)
    have gd := gr_drew w none
    generalize w.drew = wd at *
    replace gd := Lib.hid gd
    refine wpAnyH_take (i := 0) (oi := ⟨some 20, _, _, _, _, _⟩) (v := ?_) rfl (by kernel_rfl) (by kernel_rfl) (by kernel_rfl) (fun _ _ _ h => h) (Or.inl ⟨by rfl, ?_⟩) hHeld ?_
    rotate_left
    · intro w hSw
      go_simp
      first | done | with_reducible rfl
    try simp only [Act.put, List.setIfInBounds_toArray, List.set_cons_zero, List.set_cons_succ]
    refine wpAnyH_take (i := 1) (oi := ⟨some 21, _, _, _, _, _⟩) (v := ?_) rfl (by kernel_rfl) (by kernel_rfl) (by kernel_rfl) (fun _ _ _ h => h) (Or.inl ⟨by rfl, ?_⟩) hHeld ?_
    rotate_left
    · intro w hSw
      go_simp
      first | done | with_reducible rfl
    try simp only [Act.put, List.setIfInBounds_toArray, List.set_cons_zero, List.set_cons_succ]
    refine wpAnyH_take (i := 3) (oi := ⟨some 23, _, _, _, _, _⟩) (v := ?_) rfl (by kernel_rfl) (by kernel_rfl) (by kernel_rfl) (fun _ _ _ h => h) (Or.inl ⟨by rfl, ?_⟩) hHeld ?_
    rotate_left
    · intro w hSw
      go_simp
      first | done | with_reducible rfl
    try simp only [Act.put, List.setIfInBounds_toArray, List.set_cons_zero, List.set_cons_succ]
    refine wpAnyH_take (i := 4) (oi := ⟨some 24, _, _, _, _, _⟩) (v := ?_) rfl (by kernel_rfl) (by kernel_rfl) (by kernel_rfl) (fun _ _ _ h => h) (Or.inl ⟨by rfl, ?_⟩) hHeld ?_
    rotate_left
    · intro w hSw
      go_simp
      first | done | with_reducible rfl
    try simp only [Act.put, List.setIfInBounds_toArray, List.set_cons_zero, List.set_cons_succ]
    refine wpAnyH_ready (rs := [2, 5]) (by kernel_rfl) (by simp) (AllReadyH.cons (o := _) rfl (fun K hK => ?_) (AllReadyH.cons (o := _) rfl (fun K hK => ?_) AllReadyH.nil))
    · go_simp
      refine hK.out _ _ trivial (fun hHeld => ?_)
      clear hK K
      try simp only [Act.put, List.setIfInBounds_toArray, List.set_cons_zero, List.set_cons_succ]
      refine wpAnyH_ready (rs := [5]) (by kernel_rfl) (by simp) (AllReadyH.cons (o := _) rfl (fun K hK => ?_) AllReadyH.nil)
      go_simp
      refine hK.out _ _ trivial (fun hHeld => ?_)
      clear hK K
      try simp only [Act.put, List.setIfInBounds_toArray, List.set_cons_zero, List.set_cons_succ]
      refine wpAnyH_ready (rs := [6]) (by kernel_rfl) (by simp) (AllReadyH.cons (o := _) rfl (fun K hK => ?_) AllReadyH.nil)
      refine step_append_room rfl _ _ 25 rfl 30 ii 5 Tryd.underlying25 hi hz1 g 0 q (q + 1) rfl ⟨g, 0, none⟩ 0 0 [] rfl rfl (fun j u h => by simp at h) (by simp) hroom (fun j h => by simp at h) ?_
      refine hK.out _ _ trivial (fun hHeld => ?_)
      clear hK K
      try simp only [Act.put, List.setIfInBounds_toArray, List.set_cons_zero, List.set_cons_succ]
      refine wpAnyH_take (i := 7) (oi := ⟨some 0, _, _, _, _, _⟩) (v := ?_) rfl (by kernel_rfl) (by kernel_rfl) (by kernel_rfl) (fun _ _ _ h => h) (Or.inl ⟨by rfl, ?_⟩) hHeld ?_
      rotate_left
      · intro w hSw
        go_simp
        first | done | with_reducible rfl
      try simp only [Act.put, List.setIfInBounds_toArray, List.set_cons_zero, List.set_cons_succ]
      refine wpAnyH_done (by kernel_rfl) ?_ _
      obtain ⟨hro, hg1⟩ := stored_all (hr.out.kept gd.out (Classical.em _)) (q * 5) []
      rw [Nat.zero_add]
      generalize wd.setCells g (q * 5) [] = W2 at hro hg1 ⊢
      replace hg1 := Lib.hid hg1
      have hsome : ∀ j, j < 1 * 5 → (W2.cell? ⟨g, q * 5 + j, none⟩).isSome = true := fun j hj => own_some hro (by omega)
      obtain ⟨vs, hvl, hcl⟩ := run_clearK (P := Tryd.prog) W2 25 30 0 (.agg #[.int .i64 0, .int .i64 0, .int .i64 0, .int .i64 0, .string ⟨#[]⟩]) 5 Tryd.underlying25 (fun w => Tryd.zeroValue30 w) rfl (by simp [Value.cells, Value.oneCell']) (by decide) g (q * 5) 1 1 (by omega) hsome (fun j hj => hro.frozenAt _)
      have hst := stored_all hro (q * 5) vs
      replace hst := Lib.hid hst
      replace hro := Lib.hid hro
      clear hsome
      go_wp2_with (at_builtin; refine wpList_clear_run _ rfl _ _ rfl _ rfl hcl ?_)
      go_ret
      have h9 := own_short hst.out.1 (Nat.le_succ q)
      refine ⟨rfl, ?_, gr_trans (gr_trans (gr_more _ gd.out) hg1.out) hst.out.2⟩
      have h8 : (setAll (setAll (sR curC zs) (q * 5) ((sR curC zs).drop ((q + 1) * 5))) (q * 5) vs).take (q * 5) = sR curC (zs.eraseIdx q) := del_row (n := q + 1) hl.out hk vs
      rw [List.drop_eq_nil_of_le (by rw [hL.out]; exact Nat.le_refl _)] at h8
      rwa [h8] at h9
    · go_simp
      refine hK.out _ _ trivial (fun hHeld => ?_)
      clear hK K
      try simp only [Act.put, List.setIfInBounds_toArray, List.set_cons_zero, List.set_cons_succ]
      refine wpAnyH_ready (rs := [2]) (by kernel_rfl) (by simp) (AllReadyH.cons (o := _) rfl (fun K hK => ?_) AllReadyH.nil)
      go_simp
      refine hK.out _ _ trivial (fun hHeld => ?_)
      clear hK K
      try simp only [Act.put, List.setIfInBounds_toArray, List.set_cons_zero, List.set_cons_succ]
      refine wpAnyH_ready (rs := [6]) (by kernel_rfl) (by simp) (AllReadyH.cons (o := _) rfl (fun K hK => ?_) AllReadyH.nil)
      refine step_append_room rfl _ _ 25 rfl 30 ii 5 Tryd.underlying25 hi hz1 g 0 q (q + 1) rfl ⟨g, 0, none⟩ 0 0 [] rfl rfl (fun j u h => by simp at h) (by simp) hroom (fun j h => by simp at h) ?_
      refine hK.out _ _ trivial (fun hHeld => ?_)
      clear hK K
      try simp only [Act.put, List.setIfInBounds_toArray, List.set_cons_zero, List.set_cons_succ]
      refine wpAnyH_take (i := 7) (oi := ⟨some 0, _, _, _, _, _⟩) (v := ?_) rfl (by kernel_rfl) (by kernel_rfl) (by kernel_rfl) (fun _ _ _ h => h) (Or.inl ⟨by rfl, ?_⟩) hHeld ?_
      rotate_left
      · intro w hSw
        go_simp
        first | done | with_reducible rfl
      try simp only [Act.put, List.setIfInBounds_toArray, List.set_cons_zero, List.set_cons_succ]
      refine wpAnyH_done (by kernel_rfl) ?_ _
      obtain ⟨hro, hg1⟩ := stored_all (hr.out.kept gd.out (Classical.em _)) (q * 5) []
      rw [Nat.zero_add]
      generalize wd.setCells g (q * 5) [] = W2 at hro hg1 ⊢
      replace hg1 := Lib.hid hg1
      have hsome : ∀ j, j < 1 * 5 → (W2.cell? ⟨g, q * 5 + j, none⟩).isSome = true := fun j hj => own_some hro (by omega)
      obtain ⟨vs, hvl, hcl⟩ := run_clearK (P := Tryd.prog) W2 25 30 0 (.agg #[.int .i64 0, .int .i64 0, .int .i64 0, .int .i64 0, .string ⟨#[]⟩]) 5 Tryd.underlying25 (fun w => Tryd.zeroValue30 w) rfl (by simp [Value.cells, Value.oneCell']) (by decide) g (q * 5) 1 1 (by omega) hsome (fun j hj => hro.frozenAt _)
      have hst := stored_all hro (q * 5) vs
      replace hst := Lib.hid hst
      replace hro := Lib.hid hro
      clear hsome
      go_wp2_with (at_builtin; refine wpList_clear_run _ rfl _ _ rfl _ rfl hcl ?_)
      go_ret
      have h9 := own_short hst.out.1 (Nat.le_succ q)
      refine ⟨rfl, ?_, gr_trans (gr_trans (gr_more _ gd.out) hg1.out) hst.out.2⟩
      have h8 : (setAll (setAll (sR curC zs) (q * 5) ((sR curC zs).drop ((q + 1) * 5))) (q * 5) vs).take (q * 5) = sR curC (zs.eraseIdx q) := del_row (n := q + 1) hl.out hk vs
      rw [List.drop_eq_nil_of_le (by rw [hL.out]; exact Nat.le_refl _)] at h8
      rwa [h8] at h9
  · have hcF : (c = k + 1) = False := eq_false hcc
    have hcF2 : (c - (k + 1) = 0) = False := eq_false (by omega)
    have hqk : k + (q - k) = q := by omega
    have hroom : k + (q - k) ≤ c := by omega
    refine wp_region_held_drew (S := fun _ => True) (by kernel_rfl) trivial (fun hHeld => ?_)
    have gd := gr_drew w none
    generalize w.drew = wd at *
    replace gd := Lib.hid gd
    refine wpAnyH_take (i := 0) (oi := ⟨some 20, _, _, _, _, _⟩) (v := ?_) rfl (by kernel_rfl) (by kernel_rfl) (by kernel_rfl) (fun _ _ _ h => h) (Or.inl ⟨by rfl, ?_⟩) hHeld ?_
    rotate_left
    · intro w hSw
      go_simp
      first | done | with_reducible rfl
    try simp only [Act.put, List.setIfInBounds_toArray, List.set_cons_zero, List.set_cons_succ]
    refine wpAnyH_take (i := 1) (oi := ⟨some 21, _, _, _, _, _⟩) (v := ?_) rfl (by kernel_rfl) (by kernel_rfl) (by kernel_rfl) (fun _ _ _ h => h) (Or.inl ⟨by rfl, ?_⟩) hHeld ?_
    rotate_left
    · intro w hSw
      go_simp
      first | done | with_reducible rfl
    try simp only [Act.put, List.setIfInBounds_toArray, List.set_cons_zero, List.set_cons_succ]
    refine wpAnyH_take (i := 3) (oi := ⟨some 23, _, _, _, _, _⟩) (v := ?_) rfl (by kernel_rfl) (by kernel_rfl) (by kernel_rfl) (fun _ _ _ h => h) (Or.inl ⟨by rfl, ?_⟩) hHeld ?_
    rotate_left
    · intro w hSw
      go_simp
      first | done | with_reducible rfl
    try simp only [Act.put, List.setIfInBounds_toArray, List.set_cons_zero, List.set_cons_succ]
    refine wpAnyH_take (i := 4) (oi := ⟨some 24, _, _, _, _, _⟩) (v := ?_) rfl (by kernel_rfl) (by kernel_rfl) (by kernel_rfl) (fun _ _ _ h => h) (Or.inl ⟨by rfl, ?_⟩) hHeld ?_
    rotate_left
    · intro w hSw
      go_simp
      first | done | with_reducible rfl
    try simp only [Act.put, List.setIfInBounds_toArray, List.set_cons_zero, List.set_cons_succ]
    refine wpAnyH_ready (rs := [2, 5]) (by kernel_rfl) (by simp) (AllReadyH.cons (o := _) rfl (fun K hK => ?_) (AllReadyH.cons (o := _) rfl (fun K hK => ?_) AllReadyH.nil))
    · go_simp
      refine hK.out _ _ trivial (fun hHeld => ?_)
      clear hK K
      try simp only [Act.put, List.setIfInBounds_toArray, List.set_cons_zero, List.set_cons_succ]
      refine wpAnyH_ready (rs := [5]) (by kernel_rfl) (by simp) (AllReadyH.cons (o := _) rfl (fun K hK => ?_) AllReadyH.nil)
      go_simp
      refine hK.out _ _ trivial (fun hHeld => ?_)
      clear hK K
      try simp only [Act.put, List.setIfInBounds_toArray, List.set_cons_zero, List.set_cons_succ]
      refine wpAnyH_ready (rs := [6]) (by kernel_rfl) (by simp) (AllReadyH.cons (o := _) rfl (fun K hK => ?_) AllReadyH.nil)
      refine step_append_room rfl _ _ 25 rfl 30 ii 5 Tryd.underlying25 hi hz1 g 0 k c rfl ⟨g, (k + 1) * 5, none⟩ (q - k) _ news rfl hnl.out (hca.out _ gd.out) hone.out hroom (hsp.out _ gd.out) ?_
      refine hK.out _ _ trivial (fun hHeld => ?_)
      clear hK K
      try simp only [Act.put, List.setIfInBounds_toArray, List.set_cons_zero, List.set_cons_succ]
      refine wpAnyH_take (i := 7) (oi := ⟨some 0, _, _, _, _, _⟩) (v := ?_) rfl (by kernel_rfl) (by kernel_rfl) (by kernel_rfl) (fun _ _ _ h => h) (Or.inl ⟨by rfl, ?_⟩) hHeld ?_
      rotate_left
      · intro w hSw
        go_simp
        first | done | with_reducible rfl
      try simp only [Act.put, List.setIfInBounds_toArray, List.set_cons_zero, List.set_cons_succ]
      try rw [hqk]
      refine wpAnyH_done (by kernel_rfl) ?_ _
      obtain ⟨hro, hg1⟩ := stored_all (hr.out.kept gd.out (Classical.em _)) (k * 5) news
      rw [Nat.zero_add]
      generalize wd.setCells g (k * 5) news = W2 at hro hg1 ⊢
      replace hg1 := Lib.hid hg1
      have hsome : ∀ j, j < 1 * 5 → (W2.cell? ⟨g, q * 5 + j, none⟩).isSome = true := fun j hj => own_some hro (by omega)
      obtain ⟨vs, hvl, hcl⟩ := run_clearK (P := Tryd.prog) W2 25 30 0 (.agg #[.int .i64 0, .int .i64 0, .int .i64 0, .int .i64 0, .string ⟨#[]⟩]) 5 Tryd.underlying25 (fun w => Tryd.zeroValue30 w) rfl (by simp [Value.cells, Value.oneCell']) (by decide) g (q * 5) 1 (c - q) (by omega) hsome (fun j hj => hro.frozenAt _)
      have hst := stored_all hro (q * 5) vs
      replace hst := Lib.hid hst
      replace hro := Lib.hid hro
      clear hsome
      go_wp2_with (at_builtin; refine wpList_clear_run _ rfl _ _ rfl _ rfl hcl ?_)
      go_ret
      have h9 := own_short hst.out.1 (Nat.le_succ q)
      refine ⟨rfl, ?_, gr_trans (gr_trans (gr_more _ gd.out) hg1.out) hst.out.2⟩
      have h8 : (setAll (setAll (sR curC zs) (k * 5) ((sR curC zs).drop ((k + 1) * 5))) (q * 5) vs).take (q * 5) = sR curC (zs.eraseIdx k) := del_row (n := q + 1) hl.out hk vs
      rw [← hnw] at h8
      rwa [h8] at h9
    · go_simp
      refine hK.out _ _ trivial (fun hHeld => ?_)
      clear hK K
      try simp only [Act.put, List.setIfInBounds_toArray, List.set_cons_zero, List.set_cons_succ]
      refine wpAnyH_ready (rs := [2]) (by kernel_rfl) (by simp) (AllReadyH.cons (o := _) rfl (fun K hK => ?_) AllReadyH.nil)
      go_simp
      refine hK.out _ _ trivial (fun hHeld => ?_)
      clear hK K
      try simp only [Act.put, List.setIfInBounds_toArray, List.set_cons_zero, List.set_cons_succ]
      refine wpAnyH_ready (rs := [6]) (by kernel_rfl) (by simp) (AllReadyH.cons (o := _) rfl (fun K hK => ?_) AllReadyH.nil)
      refine step_append_room rfl _ _ 25 rfl 30 ii 5 Tryd.underlying25 hi hz1 g 0 k c rfl ⟨g, (k + 1) * 5, none⟩ (q - k) _ news rfl hnl.out (hca.out _ gd.out) hone.out hroom (hsp.out _ gd.out) ?_
      refine hK.out _ _ trivial (fun hHeld => ?_)
      clear hK K
      try simp only [Act.put, List.setIfInBounds_toArray, List.set_cons_zero, List.set_cons_succ]
      refine wpAnyH_take (i := 7) (oi := ⟨some 0, _, _, _, _, _⟩) (v := ?_) rfl (by kernel_rfl) (by kernel_rfl) (by kernel_rfl) (fun _ _ _ h => h) (Or.inl ⟨by rfl, ?_⟩) hHeld ?_
      rotate_left
      · intro w hSw
        go_simp
        first | done | with_reducible rfl
      try simp only [Act.put, List.setIfInBounds_toArray, List.set_cons_zero, List.set_cons_succ]
      try rw [hqk]
      refine wpAnyH_done (by kernel_rfl) ?_ _
      obtain ⟨hro, hg1⟩ := stored_all (hr.out.kept gd.out (Classical.em _)) (k * 5) news
      rw [Nat.zero_add]
      generalize wd.setCells g (k * 5) news = W2 at hro hg1 ⊢
      replace hg1 := Lib.hid hg1
      have hsome : ∀ j, j < 1 * 5 → (W2.cell? ⟨g, q * 5 + j, none⟩).isSome = true := fun j hj => own_some hro (by omega)
      obtain ⟨vs, hvl, hcl⟩ := run_clearK (P := Tryd.prog) W2 25 30 0 (.agg #[.int .i64 0, .int .i64 0, .int .i64 0, .int .i64 0, .string ⟨#[]⟩]) 5 Tryd.underlying25 (fun w => Tryd.zeroValue30 w) rfl (by simp [Value.cells, Value.oneCell']) (by decide) g (q * 5) 1 (c - q) (by omega) hsome (fun j hj => hro.frozenAt _)
      have hst := stored_all hro (q * 5) vs
      replace hst := Lib.hid hst
      replace hro := Lib.hid hro
      clear hsome
      go_wp2_with (at_builtin; refine wpList_clear_run _ rfl _ _ rfl _ rfl hcl ?_)
      go_ret
      have h9 := own_short hst.out.1 (Nat.le_succ q)
      refine ⟨rfl, ?_, gr_trans (gr_trans (gr_more _ gd.out) hg1.out) hst.out.2⟩
      have h8 : (setAll (setAll (sR curC zs) (k * 5) ((sR curC zs).drop ((k + 1) * 5))) (q * 5) vs).take (q * 5) = sR curC (zs.eraseIdx k) := del_row (n := q + 1) hl.out hk vs
      rw [← hnw] at h8
      rwa [h8] at h9
end Go.Proofs.YtilbeoblppigeaaDoor
