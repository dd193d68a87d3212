/-
  Several facts, one behind the other; no condition but bounds: slices.Delete of one cursor of an own list. No condition but the row's own. (*Desk).Close of a desk that came behind world w. No condition but bounds. (*Desk).Tick of a desk that came behind world w. No condition but bounds. slices.Clone of cursors; desk.own, New and State of any list. No condition but bounds on the lengths. Tick, May, Open of a desk, where they fail too. No condition but bounds. (*Desk).Close, with what it may turn. No condition but a bound.
-/
import Derived.Test.YtmldoeeangekoaaGreatDoorDkA
import Derived.Deep.RegionLaw
import Derived.Deep.RegionHeld3
import Derived.Test.YtmldoeeangekoaaGreatDoorAppendRow
namespace Go.Proofs.YtmldoeeangekoaaGreatDoor
open Go.RowKit

theorem del_row {zs : List Cur} {k n : Nat} (hl : zs.length = n) (hk : k < n) (vs : List Value) :
    (setAll (setAll (sR curC zs) (k * 5) ((sR curC zs).drop ((k + 1) * 5))) ((n - 1) * 5) vs).take ((n - 1) * 5) = sR curC (zs.eraseIdx k) := by
  have hL : (sR curC zs).length = n * 5 := by rw [sR_len curC 5 curC_len, hl]
  have hnl : ((sR curC zs).drop ((k + 1) * 5)).length = (n - (k + 1)) * 5 := by rw [List.length_drop, hL]; omega
  have ha : ((sR curC zs).take (k * 5)).length = k * 5 := by rw [List.length_take, hL]; omega
  rw [setAll_take]
  have h1 := setAll_mid ((sR curC zs).take (k * 5)) ((sR curC zs).drop (k * 5)) ((sR curC zs).drop ((k + 1) * 5)) (by rw [hnl, List.length_drop, hL]; omega)
  rw [List.take_append_drop, ha] at h1
  rw [h1, ← List.append_assoc, List.take_left' (by rw [List.length_append, ha, hnl]; omega), ← sR_take curC 5 curC_len, ← sR_drop curC 5 curC_len, ← sR_append, List.eraseIdx_eq_take_drop_succ]
set_option maxHeartbeats 8000000 in
set_option maxRecDepth 100000 in
theorem sdel_any (base g n c k : Nat) (zs : List Cur) (w : World) (hr : w.ownsRow base 52 5 (.slice (some ⟨g, 0, none⟩) n c) n (sR curC zs)) (hk : k < n) :
    Calls Tryz.prog 37 #[.slice (some ⟨g, 0, none⟩) n c, .int .i64 k, .int .i64 ((k : Int) + 1)] w fun e w' => e = .returned (.slice (some ⟨g, 0, none⟩) (n - 1) c) ∧ w'.ownsRow base 52 5 (.slice (some ⟨g, 0, none⟩) (n - 1) c) (n - 1) (sR curC (zs.eraseIdx k)) ∧ GrB g w w' := by
  obtain ⟨q, rfl⟩ : ∃ q, n = q + 1 := ⟨n - 1, by omega⟩
  rw [Nat.add_sub_cancel]
  obtain ⟨ii, hi, hz0, hz1, hz2⟩ := info_parts infoCuE
  have hl : zs.length = q + 1 := by have := hr.1; rw [sR_len curC 5 curC_len] at this; omega
  have hcn : q + 1 ≤ c ∧ c ≤ 9223372036854775807 := by obtain ⟨A', c', hv', h4, h5⟩ := own_openS hr; injection hv' with _ _ h6; subst h6; unfold maxLen at h5; exact ⟨h4, by omega⟩
  have hL : (sR curC zs).length = (q + 1) * 5 := hr.1
  obtain ⟨news, hnw⟩ : ∃ news, news = (sR curC zs).drop ((k + 1) * 5) := ⟨_, rfl⟩
  have hnl : news.length = (q - k) * 5 := by rw [hnw, List.length_drop, hL]; omega
  have hone : ∀ u ∈ news, u.oneCell' = true := fun u hu => by
    rw [hnw] at hu
    have hu2 := List.mem_of_mem_drop hu
    unfold sR at hu2
    obtain ⟨x, hx, hu3⟩ := List.mem_flatMap.1 hu2
    simp only [curC, List.mem_cons, List.not_mem_nil, or_false] at hu3
    rcases hu3 with rfl | rfl | rfl | rfl | rfl <;> rfl
  have hca : ∀ W, w.grownBy W none → ∀ j u, news[j]? = some u → W.cell? ((⟨g, (k + 1) * 5, none⟩ : Addr).add j) = some u := fun W gW j u hj => by
    have hj2 : j < (q - k) * 5 := by rw [← hnl]; exact (List.getElem?_eq_some_iff.1 hj).1
    rw [add_plain, (hr.kept gW (Classical.em _)).cellAt _ (by omega), ← List.getElem?_drop, ← hnw]
    exact hj
  have hsp : ∀ W, w.grownBy W none → ∀ j, j < news.length → (W.cell? ⟨g, 0 + k * 5 + j, none⟩).isSome = true ∧ W.frozen? ⟨g, 0 + k * 5 + j, none⟩ = false := fun W gW j hj => by
    have h9 := hr.kept gW (Classical.em _)
    exact ⟨own_some h9 (by rw [hnl] at hj; omega), h9.frozenAt _⟩
  have k1 : (k : Int) < ((q + 1 : Nat) : Int) := by omega
  have k2 : (k : Int) + 1 ≤ ((q + 1 : Nat) : Int) := by omega
  have k3 : ((k : Int) + 1).toNat = k + 1 := by omega
  have k4 : (0 : Int) ≤ (k : Int) + 1 := by omega
  have k5 : ((k : Int) == (k : Int) + 1) = false := eqF (by omega)
  have k6 : (k : Int) ≤ (c : Int) := by omega
  have k8 : (q : Int) ≤ (q : Int) + 1 := by omega
  have k9 : (k : Int) ≤ (k : Int) + 1 := by omega
  have k10 : (q : Int) + 1 ≤ (c : Int) := by omega
  have k11 : (q : Int) ≤ (c : Int) := by omega
  have k12 : (k : Int) ≤ (q : Int) := by omega
  have k13 : ((q : Int) + 1).toNat = q + 1 := by omega
  have k14 : (0 : Int) ≤ (q : Int) + 1 := by omega
  have k7 : ((q + 1 : Nat) : Int) ≤ (c : Int) := by omega
  replace hr := Lib.hid hr
  replace hca := Lib.hid hca
  replace hsp := Lib.hid hsp
  replace hone := Lib.hid hone
  replace hnl := Lib.hid hnl
  replace hL := Lib.hid hL
  replace hl := Lib.hid hl
  go_enter Tryz.func37, Tryz.ntmps37
  go_upto_region 5 with fail
  by_cases hcc : c = k + 1
  · obtain rfl : q = k := by omega
    subst hcc
    have hroom : q + 0 ≤ q + 1 := by omega
    clear hca hsp hone hnl hnw
    refine wp_region_held_drew (S := fun _ => True) (by kernel_rfl) trivial (fun hHeld => ?_)
    have gd := gr_drew w none
    generalize w.drew = wd at *
    replace gd := Lib.hid gd
    refine wpAnyH_take (i := 0) (oi := ⟨some 20, _, _, _, _, _⟩) (v := ?_) rfl (by kernel_rfl) (by kernel_rfl) (by kernel_rfl) (fun _ _ _ h => h) (Or.inl ⟨by rfl, ?_⟩) hHeld ?_
    rotate_left
    · intro w hSw
      go_simp
      first | done | with_reducible rfl
    try simp only [Act.put, List.setIfInBounds_toArray, List.set_cons_zero, List.set_cons_succ]
    refine wpAnyH_take (i := 1) (oi := ⟨some 21, _, _, _, _, _⟩) (v := ?_) rfl (by kernel_rfl) (by kernel_rfl) (by kernel_rfl) (fun _ _ _ h => h) (Or.inl ⟨by rfl, ?_⟩) hHeld ?_
    rotate_left
    · intro w hSw
      go_simp
      first | done | with_reducible rfl
    try simp only [Act.put, List.setIfInBounds_toArray, List.set_cons_zero, List.set_cons_succ]
    refine wpAnyH_take (i := 3) (oi := ⟨some 23, _, _, _, _, _⟩) (v := ?_) rfl (by kernel_rfl) (by kernel_rfl) (by kernel_rfl) (fun _ _ _ h => h) (Or.inl ⟨by rfl, ?_⟩) hHeld ?_
    rotate_left
    · intro w hSw
      go_simp
      first | done | with_reducible rfl
    try simp only [Act.put, List.setIfInBounds_toArray, List.set_cons_zero, List.set_cons_succ]
    refine wpAnyH_take (i := 4) (oi := ⟨some 24, _, _, _, _, _⟩) (v := ?_) rfl (by kernel_rfl) (by kernel_rfl) (by kernel_rfl) (fun _ _ _ h => h) (Or.inl ⟨by rfl, ?_⟩) hHeld ?_
    rotate_left
    · intro w hSw
      go_simp
      first | done | with_reducible rfl
    try simp only [Act.put, List.setIfInBounds_toArray, List.set_cons_zero, List.set_cons_succ]
    refine wpAnyH_ready (rs := [2, 5]) (by kernel_rfl) (by simp) (AllReadyH.cons (o := _) rfl (fun K hK => ?_) (AllReadyH.cons (o := _) rfl (fun K hK => ?_) AllReadyH.nil))
    · go_simp
      refine hK.out _ _ trivial (fun hHeld => ?_)
      clear hK K
      try simp only [Act.put, List.setIfInBounds_toArray, List.set_cons_zero, List.set_cons_succ]
      refine wpAnyH_ready (rs := [5]) (by kernel_rfl) (by simp) (AllReadyH.cons (o := _) rfl (fun K hK => ?_) AllReadyH.nil)
      go_simp
      refine hK.out _ _ trivial (fun hHeld => ?_)
      clear hK K
      try simp only [Act.put, List.setIfInBounds_toArray, List.set_cons_zero, List.set_cons_succ]
      refine wpAnyH_ready (rs := [6]) (by kernel_rfl) (by simp) (AllReadyH.cons (o := _) rfl (fun K hK => ?_) AllReadyH.nil)
      refine step_append_room rfl _ _ 28 rfl 52 ii 5 Tryz.underlying28 hi hz1 g 0 q (q + 1) rfl ⟨g, 0, none⟩ 0 0 [] rfl rfl (fun j u h => by simp at h) (by simp) hroom (fun j h => by simp at h) ?_
      refine hK.out _ _ trivial (fun hHeld => ?_)
      clear hK K
      try simp only [Act.put, List.setIfInBounds_toArray, List.set_cons_zero, List.set_cons_succ]
      refine wpAnyH_take (i := 7) (oi := ⟨some 0, _, _, _, _, _⟩) (v := ?_) rfl (by kernel_rfl) (by kernel_rfl) (by kernel_rfl) (fun _ _ _ h => h) (Or.inl ⟨by rfl, ?_⟩) hHeld ?_
      rotate_left
      · intro w hSw
        go_simp
        first | done | with_reducible rfl
      try simp only [Act.put, List.setIfInBounds_toArray, List.set_cons_zero, List.set_cons_succ]
      refine wpAnyH_done (by kernel_rfl) ?_ _
      obtain ⟨hro, hg1⟩ := stored_all (hr.out.kept gd.out (Classical.em _)) (q * 5) []
      rw [Nat.zero_add]
      generalize wd.setCells g (q * 5) [] = W2 at hro hg1 ⊢
      replace hg1 := Lib.hid hg1
      have hsome : ∀ j, j < 1 * 5 → (W2.cell? ⟨g, q * 5 + j, none⟩).isSome = true := fun j hj => own_some hro (by omega)
      obtain ⟨vs, hvl, hcl⟩ := run_clearK (P := Tryz.prog) W2 28 52 0 (.agg #[.int .i64 0, .int .i64 0, .int .i64 0, .int .i64 0, .string ⟨#[]⟩]) 5 Tryz.underlying28 (fun w => Tryz.zeroValue52 w) rfl (by simp [Value.cells, Value.oneCell']) (by decide) g (q * 5) 1 1 (by omega) hsome (fun j hj => hro.frozenAt _)
      have hst := stored_all hro (q * 5) vs
      replace hst := Lib.hid hst
      replace hro := Lib.hid hro
      clear hsome
      go_wp2_with (at_builtin; refine wpList_clear_run _ rfl _ _ rfl _ rfl hcl ?_)
      go_ret
      have h9 := own_short hst.out.1 (Nat.le_succ q)
      refine ⟨rfl, ?_, gr_trans (gr_trans (gr_more _ gd.out) hg1.out) hst.out.2⟩
      have h8 : (setAll (setAll (sR curC zs) (q * 5) ((sR curC zs).drop ((q + 1) * 5))) (q * 5) vs).take (q * 5) = sR curC (zs.eraseIdx q) := del_row (n := q + 1) hl.out hk vs
      rw [List.drop_eq_nil_of_le (by rw [hL.out]; exact Nat.le_refl _)] at h8
      rwa [h8] at h9
    · go_simp
      refine hK.out _ _ trivial (fun hHeld => ?_)
      clear hK K
      try simp only [Act.put, List.setIfInBounds_toArray, List.set_cons_zero, List.set_cons_succ]
      refine wpAnyH_ready (rs := [2]) (by kernel_rfl) (by simp) (AllReadyH.cons (o := _) rfl (fun K hK => ?_) AllReadyH.nil)
      go_simp
      refine hK.out _ _ trivial (fun hHeld => ?_)
      clear hK K
      try simp only [Act.put, List.setIfInBounds_toArray, List.set_cons_zero, List.set_cons_succ]
      refine wpAnyH_ready (rs := [6]) (by kernel_rfl) (by simp) (AllReadyH.cons (o := _) rfl (fun K hK => ?_) AllReadyH.nil)
      refine step_append_room rfl _ _ 28 rfl 52 ii 5 Tryz.underlying28 hi hz1 g 0 q (q + 1) rfl ⟨g, 0, none⟩ 0 0 [] rfl rfl (fun j u h => by simp at h) (by simp) hroom (fun j h => by simp at h) ?_
      refine hK.out _ _ trivial (fun hHeld => ?_)
      clear hK K
      try simp only [Act.put, List.setIfInBounds_toArray, List.set_cons_zero, List.set_cons_succ]
      refine wpAnyH_take (i := 7) (oi := ⟨some 0, _, _, _, _, _⟩) (v := ?_) rfl (by kernel_rfl) (by kernel_rfl) (by kernel_rfl) (fun _ _ _ h => h) (Or.inl ⟨by rfl, ?_⟩) hHeld ?_
      rotate_left
      · intro w hSw
        go_simp
        first | done | with_reducible rfl
      try simp only [Act.put, List.setIfInBounds_toArray, List.set_cons_zero, List.set_cons_succ]
      refine wpAnyH_done (by kernel_rfl) ?_ _
      obtain ⟨hro, hg1⟩ := stored_all (hr.out.kept gd.out (Classical.em _)) (q * 5) []
      rw [Nat.zero_add]
      generalize wd.setCells g (q * 5) [] = W2 at hro hg1 ⊢
      replace hg1 := Lib.hid hg1
      have hsome : ∀ j, j < 1 * 5 → (W2.cell? ⟨g, q * 5 + j, none⟩).isSome = true := fun j hj => own_some hro (by omega)
      obtain ⟨vs, hvl, hcl⟩ := run_clearK (P := Tryz.prog) W2 28 52 0 (.agg #[.int .i64 0, .int .i64 0, .int .i64 0, .int .i64 0, .string ⟨#[]⟩]) 5 Tryz.underlying28 (fun w => Tryz.zeroValue52 w) rfl (by simp [Value.cells, Value.oneCell']) (by decide) g (q * 5) 1 1 (by omega) hsome (fun j hj => hro.frozenAt _)
      have hst := stored_all hro (q * 5) vs
      replace hst := Lib.hid hst
      replace hro := Lib.hid hro
      clear hsome
      go_wp2_with (at_builtin; refine wpList_clear_run _ rfl _ _ rfl _ rfl hcl ?_)
      go_ret
      have h9 := own_short hst.out.1 (Nat.le_succ q)
      refine ⟨rfl, ?_, gr_trans (gr_trans (gr_more _ gd.out) hg1.out) hst.out.2⟩
      have h8 : (setAll (setAll (sR curC zs) (q * 5) ((sR curC zs).drop ((q + 1) * 5))) (q * 5) vs).take (q * 5) = sR curC (zs.eraseIdx q) := del_row (n := q + 1) hl.out hk vs
      rw [List.drop_eq_nil_of_le (by rw [hL.out]; exact Nat.le_refl _)] at h8
      rwa [h8] at h9
  · have hcF : (c = k + 1) = False := eq_false hcc
    have hcF2 : (c - (k + 1) = 0) = False := eq_false (by omega)
    have hqk : k + (q - k) = q := by omega
    have hroom : k + (q - k) ≤ c := by omega
    refine wp_region_held_drew (S := fun _ => True) (by kernel_rfl) trivial (fun hHeld => ?_)
    have gd := gr_drew w none
    generalize w.drew = wd at *
    replace gd := Lib.hid gd
    refine wpAnyH_take (i := 0) (oi := ⟨some 20, _, _, _, _, _⟩) (v := ?_) rfl (by kernel_rfl) (by kernel_rfl) (by kernel_rfl) (fun _ _ _ h => h) (Or.inl ⟨by rfl, ?_⟩) hHeld ?_
    rotate_left
    · intro w hSw
      go_simp
      first | done | with_reducible rfl
    try simp only [Act.put, List.setIfInBounds_toArray, List.set_cons_zero, List.set_cons_succ]
    refine wpAnyH_take (i := 1) (oi := ⟨some 21, _, _, _, _, _⟩) (v := ?_) rfl (by kernel_rfl) (by kernel_rfl) (by kernel_rfl) (fun _ _ _ h => h) (Or.inl ⟨by rfl, ?_⟩) hHeld ?_
    rotate_left
    · intro w hSw
      go_simp
      first | done | with_reducible rfl
    try simp only [Act.put, List.setIfInBounds_toArray, List.set_cons_zero, List.set_cons_succ]
    refine wpAnyH_take (i := 3) (oi := ⟨some 23, _, _, _, _, _⟩) (v := ?_) rfl (by kernel_rfl) (by kernel_rfl) (by kernel_rfl) (fun _ _ _ h => h) (Or.inl ⟨by rfl, ?_⟩) hHeld ?_
    rotate_left
    · intro w hSw
      go_simp
      first | done | with_reducible rfl
    try simp only [Act.put, List.setIfInBounds_toArray, List.set_cons_zero, List.set_cons_succ]
    refine wpAnyH_take (i := 4) (oi := ⟨some 24, _, _, _, _, _⟩) (v := ?_) rfl (by kernel_rfl) (by kernel_rfl) (by kernel_rfl) (fun _ _ _ h => h) (Or.inl ⟨by rfl, ?_⟩) hHeld ?_
    rotate_left
    · intro w hSw
      go_simp
      first | done | with_reducible rfl
    try simp only [Act.put, List.setIfInBounds_toArray, List.set_cons_zero, List.set_cons_succ]
    refine wpAnyH_ready (rs := [2, 5]) (by kernel_rfl) (by simp) (AllReadyH.cons (o := _) rfl (fun K hK => ?_) (AllReadyH.cons (o := _) rfl (fun K hK => ?_) AllReadyH.nil))
    · go_simp
      refine hK.out _ _ trivial (fun hHeld => ?_)
      clear hK K
      try simp only [Act.put, List.setIfInBounds_toArray, List.set_cons_zero, List.set_cons_succ]
      refine wpAnyH_ready (rs := [5]) (by kernel_rfl) (by simp) (AllReadyH.cons (o := _) rfl (fun K hK => ?_) AllReadyH.nil)
      go_simp
      refine hK.out _ _ trivial (fun hHeld => ?_)
      clear hK K
      try simp only [Act.put, List.setIfInBounds_toArray, List.set_cons_zero, List.set_cons_succ]
      refine wpAnyH_ready (rs := [6]) (by kernel_rfl) (by simp) (AllReadyH.cons (o := _) rfl (fun K hK => ?_) AllReadyH.nil)
      refine step_append_room rfl _ _ 28 rfl 52 ii 5 Tryz.underlying28 hi hz1 g 0 k c rfl ⟨g, (k + 1) * 5, none⟩ (q - k) _ news rfl hnl.out (hca.out _ gd.out) hone.out hroom (hsp.out _ gd.out) ?_
      refine hK.out _ _ trivial (fun hHeld => ?_)
      clear hK K
      try simp only [Act.put, List.setIfInBounds_toArray, List.set_cons_zero, List.set_cons_succ]
      refine wpAnyH_take (i := 7) (oi := ⟨some 0, _, _, _, _, _⟩) (v := ?_) rfl (by kernel_rfl) (by kernel_rfl) (by kernel_rfl) (fun _ _ _ h => h) (Or.inl ⟨by rfl, ?_⟩) hHeld ?_
      rotate_left
      · intro w hSw
        go_simp
        first | done | with_reducible rfl
      try simp only [Act.put, List.setIfInBounds_toArray, List.set_cons_zero, List.set_cons_succ]
      try rw [hqk]
      refine wpAnyH_done (by kernel_rfl) ?_ _
      obtain ⟨hro, hg1⟩ := stored_all (hr.out.kept gd.out (Classical.em _)) (k * 5) news
      rw [Nat.zero_add]
      generalize wd.setCells g (k * 5) news = W2 at hro hg1 ⊢
      replace hg1 := Lib.hid hg1
      have hsome : ∀ j, j < 1 * 5 → (W2.cell? ⟨g, q * 5 + j, none⟩).isSome = true := fun j hj => own_some hro (by omega)
      obtain ⟨vs, hvl, hcl⟩ := run_clearK (P := Tryz.prog) W2 28 52 0 (.agg #[.int .i64 0, .int .i64 0, .int .i64 0, .int .i64 0, .string ⟨#[]⟩]) 5 Tryz.underlying28 (fun w => Tryz.zeroValue52 w) rfl (by simp [Value.cells, Value.oneCell']) (by decide) g (q * 5) 1 (c - q) (by omega) hsome (fun j hj => hro.frozenAt _)
      have hst := stored_all hro (q * 5) vs
      replace hst := Lib.hid hst
      replace hro := Lib.hid hro
      clear hsome
      go_wp2_with (at_builtin; refine wpList_clear_run _ rfl _ _ rfl _ rfl hcl ?_)
      go_ret
      have h9 := own_short hst.out.1 (Nat.le_succ q)
      refine ⟨rfl, ?_, gr_trans (gr_trans (gr_more _ gd.out) hg1.out) hst.out.2⟩
      have h8 : (setAll (setAll (sR curC zs) (k * 5) ((sR curC zs).drop ((k + 1) * 5))) (q * 5) vs).take (q * 5) = sR curC (zs.eraseIdx k) := del_row (n := q + 1) hl.out hk vs
      rw [← hnw] at h8
      rwa [h8] at h9
    · go_simp
      refine hK.out _ _ trivial (fun hHeld => ?_)
      clear hK K
      try simp only [Act.put, List.setIfInBounds_toArray, List.set_cons_zero, List.set_cons_succ]
      refine wpAnyH_ready (rs := [2]) (by kernel_rfl) (by simp) (AllReadyH.cons (o := _) rfl (fun K hK => ?_) AllReadyH.nil)
      go_simp
      refine hK.out _ _ trivial (fun hHeld => ?_)
      clear hK K
      try simp only [Act.put, List.setIfInBounds_toArray, List.set_cons_zero, List.set_cons_succ]
      refine wpAnyH_ready (rs := [6]) (by kernel_rfl) (by simp) (AllReadyH.cons (o := _) rfl (fun K hK => ?_) AllReadyH.nil)
      refine step_append_room rfl _ _ 28 rfl 52 ii 5 Tryz.underlying28 hi hz1 g 0 k c rfl ⟨g, (k + 1) * 5, none⟩ (q - k) _ news rfl hnl.out (hca.out _ gd.out) hone.out hroom (hsp.out _ gd.out) ?_
      refine hK.out _ _ trivial (fun hHeld => ?_)
      clear hK K
      try simp only [Act.put, List.setIfInBounds_toArray, List.set_cons_zero, List.set_cons_succ]
      refine wpAnyH_take (i := 7) (oi := ⟨some 0, _, _, _, _, _⟩) (v := ?_) rfl (by kernel_rfl) (by kernel_rfl) (by kernel_rfl) (fun _ _ _ h => h) (Or.inl ⟨by rfl, ?_⟩) hHeld ?_
      rotate_left
      · intro w hSw
        go_simp
        first | done | with_reducible rfl
      try simp only [Act.put, List.setIfInBounds_toArray, List.set_cons_zero, List.set_cons_succ]
      try rw [hqk]
      refine wpAnyH_done (by kernel_rfl) ?_ _
      obtain ⟨hro, hg1⟩ := stored_all (hr.out.kept gd.out (Classical.em _)) (k * 5) news
      rw [Nat.zero_add]
      generalize wd.setCells g (k * 5) news = W2 at hro hg1 ⊢
      replace hg1 := Lib.hid hg1
      have hsome : ∀ j, j < 1 * 5 → (W2.cell? ⟨g, q * 5 + j, none⟩).isSome = true := fun j hj => own_some hro (by omega)
      obtain ⟨vs, hvl, hcl⟩ := run_clearK (P := Tryz.prog) W2 28 52 0 (.agg #[.int .i64 0, .int .i64 0, .int .i64 0, .int .i64 0, .string ⟨#[]⟩]) 5 Tryz.underlying28 (fun w => Tryz.zeroValue52 w) rfl (by simp [Value.cells, Value.oneCell']) (by decide) g (q * 5) 1 (c - q) (by omega) hsome (fun j hj => hro.frozenAt _)
      have hst := stored_all hro (q * 5) vs
      replace hst := Lib.hid hst
      replace hro := Lib.hid hro
      clear hsome
      go_wp2_with (at_builtin; refine wpList_clear_run _ rfl _ _ rfl _ rfl hcl ?_)
      go_ret
      have h9 := own_short hst.out.1 (Nat.le_succ q)
      refine ⟨rfl, ?_, gr_trans (gr_trans (gr_more _ gd.out) hg1.out) hst.out.2⟩
      have h8 : (setAll (setAll (sR curC zs) (k * 5) ((sR curC zs).drop ((k + 1) * 5))) (q * 5) vs).take (q * 5) = sR curC (zs.eraseIdx k) := del_row (n := q + 1) hl.out hk vs
      rw [← hnw] at h8
      rwa [h8] at h9
end Go.Proofs.YtmldoeeangekoaaGreatDoor
namespace Go.Proofs.YtmldoeeangekoaaGreatDoor
open Go.RowKit

def ClosePost (w : World) (D : Nat) (s : DkS) (A : Option Addr) (n c : Nat) (id : Int) (e : Ending) (w' : World) : Prop :=
  ∃ x ee, e = .returned (.tuple #[curV x, .int .i64 ee]) ∧ ((ee ≠ 0 ∧ x = cu0 ∧ (∃ v, DkAt s.nx s.op id v ee) ∧ DkIn w w' D s A n c) ∨ (ee = 0 ∧ ∃ k : Nat, s.op[k]? = some x ∧ x.id = id ∧ 1 ≤ id ∧ id < s.nx ∧ DkIn w w' D ⟨s.nx, s.now, s.op.eraseIdx k, s.seg, s.pts⟩ A (n - 1) c))
theorem dkin_grB {w wi w' : World} {D b : Nat} {s : DkS} {A : Option Addr} {n c : Nat} (h : DkIn w wi D s A n c) (k : GrB b wi w') (hb : w.heap.size ≤ b) (hD : b ≠ D) (ho : (Value.slice A n c).ownBlock ≠ some b) : DkIn w w' D s A n c :=
  ⟨gr_over h.gr k hb, ⟨gr_blk k h.dk.blk (by simp; omega), h.dk.own.kept k (.inr ho)⟩, h.le⟩
set_option maxHeartbeats 8000000 in
set_option maxRecDepth 100000 in
theorem dkin_close {w wi : World} {D : Nat} {s : DkS} {A : Option Addr} {n c : Nat} (h : DkIn w wi D s A n c) (hn : n ≤ 9223372036854775807) (id : Int) :
    Calls Tryz.prog 13 #[.pointer (some ⟨D, 0, none⟩), .int .i64 id] wi (ClosePost w D s A n c id) := by
  obtain ⟨W1, hW1⟩ : ∃ W1, W1 = wi.alloc (.cells #[.int .i64 0, .int .i64 0, .int .i64 0, .int .i64 0, .string ⟨#[]⟩] 52) := ⟨_, rfl⟩
  have g0 : Gr wi W1 := by rw [hW1]; exact gr_alloc _ _ _
  have hres : CuB W1 wi.heap.size cu0 := by rw [hW1]; exact blk_new wi _
  have h1 := dkIn_gr h g0
  have cO := dplace_any D s A n c id W1 h1.dk.blk (row_own h1.dk.own) hn
  have hDlt := lt_of_blk h.dk.blk
  have hwi := h.gr.size
  have hob : ∀ b, (Value.slice A n c).ownBlock = some b → b < wi.heap.size := fun b hb => (h.dk.own.lt b hb).2
  obtain ⟨nx, now, op, seg, pts⟩ := s
  simp only at cO
  replace hres := Lib.hid hres
  replace h1 := Lib.hid h1
  replace hob := Lib.hid hob
  replace hDlt := Lib.hid hDlt
  replace hwi := Lib.hid hwi
  clear h g0
  go_enter Tryz.func13, Tryz.ntmps13
  go_upto_region 1 with fail
  rw [← hW1]
  clear hW1
  go_wp2_with fail
  refine cO.mono ?_
  rintro e w2 ⟨⟨v, cd, rfl, hat⟩, g2⟩
  clear cO
  have h2 := dkIn_gr h1.out g2
  have hR2 : CuB w2 wi.heap.size cu0 := gr_blk g2 hres.out (by simp)
  clear hres h1
  by_cases hcd : cd = 0
  · subst hcd
    obtain ⟨j, y, rfl, hj, hid, hm1, hm⟩ : ∃ (j : Nat) (y : Cur), v = j ∧ op[j]? = some y ∧ y.id = id ∧ 1 ≤ id ∧ id < nx := by
      rcases hat with ⟨_, _, h⟩ | ⟨_, _, _, _, h⟩ | ⟨h', h, _, k, x, h1, h2, h3⟩
      · cases h
      · cases h
      · exact ⟨k, x, h1, h2, h3, h', h⟩
    have hlen : op.length = n := dkIs_len h2.dk
    have hjn : j < n := by have := (List.getElem?_eq_some_iff.1 hj).1; omega
    obtain ⟨g, cap, hv, hbg, hgl⟩ := h2.dk.own.form (by omega)
    injection hv with hA _ hc
    subst hA hc
    have hgw : w.heap.size ≤ g := (h2.dk.own.lt g rfl).1
    have hgi : g < wi.heap.size := hob.out g rfl
    have hap : g ≠ D := fun e => dk_apart h2.dk.blk h2.dk.own (by rw [e]; rfl)
    obtain ⟨x, B, o, hx, hAo, _, hcl⟩ := rowS_elem curC_len (row_own h2.dk.own) (by decide) hjn
    injection hAo with hAo
    injection hAo with hB ho
    subst hB ho
    obtain rfl : x = y := by
      have hx' : op[j]? = some x := hx
      rw [hx'] at hj; exact Option.some.inj hj
    have hji : (j : Int) < (n : Int) := by omega
    have hj0 : (0 : Int) ≤ (j : Int) := by omega
    have hjw : IntKind.i64.wrap ((j : Int) + 1) = (j : Int) + 1 := IntWalk.i64_in _ (by omega)
    have hcl2 := fun (q : Nat) (hq : q < 5) => hcl q hq
    have d0 : w2.cell? ⟨g, j * 5, none⟩ = some (.int .i64 x.id) := by have := hcl 0 (by decide); rw [Nat.zero_add] at this; exact this
    have d1 : w2.cell? ⟨g, j * 5 + 1, none⟩ = some (.int .i64 x.rows) := by have := hcl 1 (by decide); rw [Nat.zero_add] at this; exact this
    have d2 : w2.cell? ⟨g, j * 5 + 2, none⟩ = some (.int .i64 x.size) := by have := hcl 2 (by decide); rw [Nat.zero_add] at this; exact this
    have d3 : w2.cell? ⟨g, j * 5 + 3, none⟩ = some (.int .i64 x.tl) := by have := hcl 3 (by decide); rw [Nat.zero_add] at this; exact this
    have d4 : w2.cell? ⟨g, j * 5 + 4, none⟩ = some (.string (txt x.file)) := by have := hcl 4 (by decide); rw [Nat.zero_add] at this; exact this
    have c2 := (dkb_cells h2.dk.blk).2.2.1
    (try simp only at c2)
    clear hcl hcl2 hj hat
    obtain ⟨xi, xr, xs, xt, xf⟩ := x
    simp only at d0 d1 d2 d3 d4 hid
    subst hid
    obtain ⟨W3, hW3⟩ : ∃ W3, W3 = w2.alloc (.cells #[.int .i64 xi, .int .i64 xr, .int .i64 xs, .int .i64 xt, .string (txt xf)] 52) := ⟨_, rfl⟩
    have g3 : Gr w2 W3 := by rw [hW3]; exact gr_alloc _ _ _
    have hX3 : CuB W3 w2.heap.size ⟨xi, xr, xs, xt, xf⟩ := by rw [hW3]; exact blk_new w2 _
    have h3 := dkIn_gr h2 g3
    have hR3 : CuB W3 wi.heap.size cu0 := gr_blk g3 hR2 (by simp)
    have e2 := (dkb_cells h3.dk.blk).2.2.1
    (try simp only at e2)
    have cD := sdel_any w.heap.size g n c j op W3 h3.dk.own hjn
    have hs2 : wi.heap.size < w2.heap.size := lt_of_blk hR2
    replace h2 := Lib.hid h2
    replace h3 := Lib.hid h3
    replace hR3 := Lib.hid hR3
    replace hX3 := Lib.hid hX3
    replace hx := Lib.hid hx
    replace hs2 := Lib.hid hs2
    clear hR2 hbg hgl
    go_upto_region 5 with fail
    rw [← hW3]
    clear hW3 d0 d1 d2 d3 d4 c2
    go_wp2_with fail
    refine cD.mono ?_
    rintro e w4 ⟨rfl, hown4, g4⟩
    clear cD e2
    have hb4 : DkB w4 D nx now (.slice (some ⟨g, 0, none⟩) n c) seg pts := gr_blk g4 h3.out.dk.blk (by simp; omega)
    have hR4 : CuB w4 wi.heap.size cu0 := gr_blk g4 hR3.out (by simp; omega)
    have hX4 : CuB w4 w2.heap.size ⟨xi, xr, xs, xt, xf⟩ := gr_blk g4 hX3.out (by simp; have := hs2.out; omega)
    have f2 : w4.frozen? ⟨D, 2, none⟩ = false := fzeroD hb4 2
    have e2 := (dkb_cells hb4).2.2.1
    obtain ⟨W5, hW5⟩ : ∃ W5, W5 = w4.setCell ⟨D, 2, none⟩ (.slice (some ⟨g, 0, none⟩) (n - 1) c) := ⟨_, rfl⟩
    have g5 : GrB D w4 W5 := by rw [hW5]; exact gr_set w4 ⟨D, 2, none⟩ _
    have hb5 : DkB W5 D nx now (.slice (some ⟨g, 0, none⟩) (n - 1) c) seg pts := by rw [hW5]; exact blk_set hb4 2 _
    have hown5 := hown4.kept g5 (.inr (by simp [Value.ownBlock]; omega))
    have hR5 : CuB W5 wi.heap.size cu0 := gr_blk g5 hR4 (by simp; have := hDlt.out; omega)
    have hX5 : CuB W5 w2.heap.size ⟨xi, xr, xs, xt, xf⟩ := gr_blk g5 hX4 (by simp; have := hDlt.out; have := hs2.out; omega)
    have gw5 : Gr w W5 := gr_over (gr_over h3.out.gr g4 hgw) g5 h3.out.le
    have h5 : DkIn w W5 D ⟨nx, now, op.eraseIdx j, seg, pts⟩ (some ⟨g, 0, none⟩) (n - 1) c := ⟨gw5, ⟨hb5, hown5⟩, h3.out.le⟩
    obtain ⟨x0, x1, x2, x3, x4⟩ := cub_cells hX5
    simp only at x0 x1 x2 x3 x4
    replace h5 := Lib.hid h5
    replace hR5 := Lib.hid hR5
    clear hb4 hR4 hX4 g4 g5 hb5 hown4 hown5 hX5 gw5 h2 h3 hX3 hR3
    go_upto_region 6 with fail
    rw [← hW5]
    clear hW5 e2 f2
    have hRf := hR5.out
    have hth := cub_there (show CuB W5 wi.heap.size cu0 from hRf)
    have hsame := World.rangeAt_setCells_same W5 wi.heap.size 0 [.int .i64 xi, .int .i64 xr, .int .i64 xs, .int .i64 xt, .string (txt xf)] hth
    have r0 := hsame 0 _ rfl
    have r1 := hsame 1 _ rfl
    have r2 := hsame 2 _ rfl
    have r3 := hsame 3 _ rfl
    have r4 := hsame 4 _ rfl
    simp only [Nat.zero_add] at r0 r1 r2 r3 r4
    have hgs := gr_setCells W5 wi.heap.size 0 [.int .i64 xi, .int .i64 xr, .int .i64 xs, .int .i64 xt, .string (txt xf)]
    replace hgs := Lib.hid hgs
    clear hsame hRf
    go_wp2_with (refine wpList_store_mid (op := ⟨none, _, _, _, _, _⟩) rfl 52 _ _ rfl wi.heap.size 0 #[.int .i64 xi, .int .i64 xr, .int .i64 xs, .int .i64 xt, .string (txt xf)] rfl rfl hth infoCu (by simp [Value.oneCell']) ?_)
    (try simp only [Exit.inBlock, Exit.then])
    refine bodyPost_ret (by simp [results, Tryz.results13, go_sem, r0, r1, r2, r3, r4]; try rfl) rfl ?_
    exact ⟨⟨xi, xr, xs, xt, xf⟩, 0, rfl, .inr ⟨rfl, j, hx.out, rfl, hm1, hm, dkin_grB h5.out hgs.out hwi.out (by have := hDlt.out; omega) (by simp [Value.ownBlock]; omega)⟩⟩
  · have hcN : (cd != 0) = true := by simp [hcd]
    replace hcd := Lib.hid hcd
    replace hat := Lib.hid hat
    replace h2 := Lib.hid h2
    replace hR2 := Lib.hid hR2
    have hRf := hR2.out
    have hth := cub_there (show CuB w2 wi.heap.size cu0 from hRf)
    have hsame := World.rangeAt_setCells_same w2 wi.heap.size 0 [.int .i64 0, .int .i64 0, .int .i64 0, .int .i64 0, .string ⟨#[]⟩] hth
    have r0 := hsame 0 _ rfl
    have r1 := hsame 1 _ rfl
    have r2 := hsame 2 _ rfl
    have r3 := hsame 3 _ rfl
    have r4 := hsame 4 _ rfl
    simp only [Nat.zero_add] at r0 r1 r2 r3 r4
    have hgs := gr_setCells w2 wi.heap.size 0 [.int .i64 0, .int .i64 0, .int .i64 0, .int .i64 0, .string ⟨#[]⟩]
    replace hgs := Lib.hid hgs
    clear hsame hRf
    go_wp2_with (refine wpList_store_mid (op := ⟨none, _, _, _, _, _⟩) rfl 52 _ _ rfl wi.heap.size 0 #[.int .i64 0, .int .i64 0, .int .i64 0, .int .i64 0, .string ⟨#[]⟩] rfl rfl hth infoCu (by simp [Value.oneCell']) ?_)
    (try simp only [Exit.inBlock, Exit.then])
    refine bodyPost_ret (by simp [results, Tryz.results13, go_sem, r0, r1, r2, r3, r4]; try rfl) rfl ?_
    exact ⟨cu0, cd, rfl, .inl ⟨hcd.out, rfl, ⟨v, hat.out⟩, dkin_grB h2.out hgs.out hwi.out (by have := hDlt.out; omega) (fun e => by have := hob.out _ e; omega)⟩⟩
end Go.Proofs.YtmldoeeangekoaaGreatDoor
namespace Go.Proofs.YtmldoeeangekoaaGreatDoor
open Go.RowKit

def TickPostS (w wi : World) (D : Nat) (s : DkS) (t : Nat) (e : Ending) (w' : World) : Prop :=
  ∃ (v : Value) (A : Option Addr) (m c : Nat), e = .returned (.tuple #[v, .int .i64 0]) ∧
    w'.ownsRow wi.heap.size 52 5 v (s.op.filter (fun y => decide (y.tl < s.now + t))).length (sR curC (s.op.filter (fun y => decide (y.tl < s.now + t)))) ∧
    DkIn w w' D ⟨s.nx, s.now + t, s.op.filter (fun y => !decide (y.tl < s.now + t)), s.seg, s.pts⟩ A m c ∧ GrB D wi w' ∧ (∀ b, (Value.slice A m c).ownBlock = some b → wi.heap.size ≤ b ∧ v.ownBlock ≠ some b)
def TickPost (w wi : World) (D : Nat) (s : DkS) (t : Nat) (e : Ending) (w' : World) : Prop :=
  ∃ (v : Value) (A : Option Addr) (m c : Nat), e = .returned (.tuple #[v, .int .i64 0]) ∧
    w'.ownsRow w.heap.size 52 5 v (s.op.filter (fun y => decide (y.tl < s.now + t))).length (sR curC (s.op.filter (fun y => decide (y.tl < s.now + t)))) ∧
    DkIn w w' D ⟨s.nx, s.now + t, s.op.filter (fun y => !decide (y.tl < s.now + t)), s.seg, s.pts⟩ A m c ∧ GrB D wi w'
set_option maxHeartbeats 8000000 in
set_option maxRecDepth 100000 in
theorem dkin_tickS {w wi : World} {D : Nat} {s : DkS} {A : Option Addr} {n c : Nat} (h : DkIn w wi D s A n c) (t : Nat) (ht : 1 ≤ t ∧ t ≤ 100000) (hnow : 0 ≤ s.now ∧ s.now + t ≤ 1000000000) (hn : n ≤ 100000) :
    Calls Tryz.prog 15 #[.pointer (some ⟨D, 0, none⟩), .int .i64 t] wi (TickPostS w wi D s t) := by
  obtain ⟨ii, hi, hz0, hz1, hz2⟩ := info_parts infoCuE
  obtain ⟨nx, now, op, seg, pts⟩ := s
  have hlen : op.length = n := dkIs_len h.dk
  obtain ⟨T, hT⟩ : ∃ T, T = now + (t : Int) := ⟨_, rfl⟩
  simp only at hnow
  have hw0 : IntKind.i64.wrap (now + (t : Int)) = T := by rw [hT]; exact IntWalk.i64_in _ (by omega)
  have hw1 : IntKind.i64.wrap ((1000000000 : Int) - (t : Int)) = (1000000000 : Int) - (t : Int) := IntWalk.i64_in _ (by omega)
  have e1 : ((1000000000 : Int) - (t : Int) < now) = False := eq_false (by omega)
  have e3 : ((t : Int) < 1) = False := eq_false (by omega)
  have e4 : ((100000 : Int) < (t : Int)) = False := eq_false (by omega)
  obtain ⟨c0, c1, c2, c3, c4⟩ := dkb_cells h.dk.blk
  simp only at c1 c2
  have f1 : wi.frozen? ⟨D, 1, none⟩ = false := fzeroD h.dk.blk 1
  obtain ⟨W1, hW1⟩ : ∃ W1, W1 = wi.setCell ⟨D, 1, none⟩ (.int .i64 T) := ⟨_, rfl⟩
  have g1 : GrB D wi W1 := by rw [hW1]; exact gr_set wi ⟨D, 1, none⟩ _
  have hb1 : DkB W1 D nx T (.slice A n c) seg pts := by rw [hW1]; exact blk_set h.dk.blk 1 _
  have hown1 := own_farD h.dk.own h.dk.blk (by decide) g1
  have h1 : DkIn w W1 D ⟨nx, T, op, seg, pts⟩ A n c := ⟨gr_over h.gr g1 h.le, ⟨hb1, hown1⟩, h.le⟩
  have z2 := (dkb_cells hb1).2.2.1
  have hT64 : -9223372036854775808 ≤ T ∧ T ≤ 9223372036854775807 := by omega
  clear c0 c3 c4 h hb1 hown1
  replace g1 := Lib.hid g1
  unfold TickPostS
  simp only
  rw [← hT]
  replace h1 := Lib.hid h1
  replace hT := Lib.hid hT
  replace hlen := Lib.hid hlen
  go_enter Tryz.func15, Tryz.ntmps15
  go_upto_region 4 with fail
  rw [← hW1]
  clear hW1 c1 c2 f1
  go_wp2_with fail
  clear z2
  go_loopw [6, 7, 46] (fun ov lv iv wr => ∃ k : Nat, k ≤ n ∧ iv = .int .i64 k ∧ Hid (wr.ownsRow W1.heap.size 52 5 ov ((op.take k).filter (fun y => decide (y.tl < T))).length (sR curC ((op.take k).filter (fun y => decide (y.tl < T))))) ∧ Hid (wr.ownsRow W1.heap.size 52 5 lv ((op.take k).filter (fun y => !decide (y.tl < T))).length (sR curC ((op.take k).filter (fun y => !decide (y.tl < T))))) ∧ Hid (∀ b, ov.ownBlock = some b → lv.ownBlock ≠ some b) ∧ Hid (Gr W1 wr)) (fun _ _ i _ => n - (intOf i).toNat)
  case atStart => exact ⟨0, Nat.zero_le _, rfl, World.ownsRow_nil _ _ _ _, World.ownsRow_nil _ _ _ _, (fun b hb => by cases hb), gr_refl _ _⟩
  case round =>
    obtain ⟨k, hk, rfl, hO, hL, hdis, hg⟩ := hrel
    by_cases hlt : k < n
    · obtain ⟨x, B, o, hx, rfl, _, hc⟩ := rowS_elem curC_len (row_gr (row_own h1.out.dk.own) hg.out) (by decide) hlt
      have hx' : op[k]? = some x := hx
      have htk := take_step hx'
      have hl1 : ((op.take k).filter (fun y => decide (y.tl < T))).length ≤ 100000 := Nat.le_trans (List.length_filter_le _ _) (Nat.le_trans (List.length_take_le _ _) (by omega))
      have hl2 : ((op.take k).filter (fun y => !decide (y.tl < T))).length ≤ 100000 := Nat.le_trans (List.length_filter_le _ _) (Nat.le_trans (List.length_take_le _ _) (by omega))
      obtain ⟨lo, hlo⟩ : ∃ lo, lo = (op.take k).filter (fun y => decide (y.tl < T)) := ⟨_, rfl⟩
      obtain ⟨lf, hlf⟩ : ∃ lf, lf = (op.take k).filter (fun y => !decide (y.tl < T)) := ⟨_, rfl⟩
      rw [← hlo] at hO hl1
      rw [← hlf] at hL hl2
      have hki : (k : Int) < (n : Int) := by omega
      have hk0 : (0 : Int) ≤ (k : Int) := by omega
      have d0 : wr.cell? ⟨B, o + k * 5, none⟩ = some (.int .i64 x.id) := hc 0 (by decide)
      have d1 : wr.cell? ⟨B, o + k * 5 + 1, none⟩ = some (.int .i64 x.rows) := hc 1 (by decide)
      have d2 : wr.cell? ⟨B, o + k * 5 + 2, none⟩ = some (.int .i64 x.size) := hc 2 (by decide)
      have d3 : wr.cell? ⟨B, o + k * 5 + 3, none⟩ = some (.int .i64 x.tl) := hc 3 (by decide)
      have d4 : wr.cell? ⟨B, o + k * 5 + 4, none⟩ = some (.string (txt x.file)) := hc 4 (by decide)
      have z1 : wr.cell? ⟨D, 1, none⟩ = some (.int .i64 T) := gr_cell hg.out (dkb_cells h1.out.dk.blk).2.1
      obtain ⟨xi, xr, xs, xt, xf⟩ := x
      simp only at d0 d1 d2 d3 d4
      obtain ⟨W2, hW2⟩ : ∃ W2, W2 = wr.alloc (.cells #[.int .i64 xi, .int .i64 xr, .int .i64 xs, .int .i64 xt, .string (txt xf)] 52) := ⟨_, rfl⟩
      have g2 : Gr wr W2 := by rw [hW2]; exact gr_alloc _ _ _
      have hX2 : CuB W2 wr.heap.size ⟨xi, xr, xs, xt, xf⟩ := by rw [hW2]; exact blk_new wr _
      obtain ⟨x0, x1, x2, x3, x4⟩ := cub_cells hX2
      simp only at x0 x1 x2 x3 x4
      have z1' := gr_cell g2 z1
      replace hx := Lib.hid hx
      replace hx' := Lib.hid hx'
      replace htk := Lib.hid htk
      replace hlo := Lib.hid hlo
      replace hlf := Lib.hid hlf
      clear hc
      go_upto_region 8 with fail
      rw [← hW2]
      clear hW2 d0 d1 d2 d3 d4 z1
      go_quiet (fail)
      rename_i nq
      have g3 := gr_trans g2 (gr_drewN W2 nq none)
      have y0 := gr_cell (gr_drewN W2 nq none) x0
      have y1 := gr_cell (gr_drewN W2 nq none) x1
      have y2 := gr_cell (gr_drewN W2 nq none) x2
      have y3 := gr_cell (gr_drewN W2 nq none) x3
      have y4 := gr_cell (gr_drewN W2 nq none) x4
      clear x0 x1 x2 x3 x4 z1' g2 hX2
      generalize W2.drewN nq = W3 at *
      by_cases htl : xt < T
      · have htT : decide (xt < T) = true := decide_eq_true htl
        have g4 : Gr W3 (W3.alloc (.cells #[.int .i64 xi, .int .i64 xr, .int .i64 xs, .int .i64 xt, .string (txt xf)] 52)) := gr_alloc _ _ _
        have hcn : ∀ j u, ([.int .i64 xi, .int .i64 xr, .int .i64 xs, .int .i64 xt, .string (txt xf)] : List Value)[j]? = some u → (W3.alloc (.cells #[.int .i64 xi, .int .i64 xr, .int .i64 xs, .int .i64 xt, .string (txt xf)] 52)).cell? ((⟨W3.heap.size, 0, none⟩ : Addr).add j) = some u := fun j u hj => by
          rw [add_plain, Nat.zero_add, World.cell?_alloc_new]
          exact (show (#[.int .i64 xi, .int .i64 xr, .int .i64 xs, .int .i64 xt, .string (txt xf)] : Array Value)[j]? = some u by rw [← List.getElem?_toArray] at hj; exact hj)
        have g34 := gr_trans g3 g4
        have hO4 := hO.out.kept g34 (Classical.em _)
        have hL4 := hL.out.kept g34 (Classical.em _)
        have hsz : W1.heap.size ≤ (W3.alloc (.cells #[.int .i64 xi, .int .i64 xr, .int .i64 xs, .int .i64 xt, .string (txt xf)] 52)).heap.size := Nat.le_trans hg.out.size g34.size
        have hones : ∀ u ∈ ([.int .i64 xi, .int .i64 xr, .int .i64 xs, .int .i64 xt, .string (txt xf)] : List Value), u.oneCell' = true := by
          intro u hu
          simp only [List.mem_cons, List.not_mem_nil, or_false] at hu
          rcases hu with rfl | rfl | rfl | rfl | rfl <;> rfl
        replace hO4 := Lib.hid hO4
        replace hL4 := Lib.hid hL4
        replace g34 := Lib.hid g34
        replace hsz := Lib.hid hsz
        replace hcn := Lib.hid hcn
        replace hones := Lib.hid hones
        clear hO hL g3 g4
        go_wp2_with (at_builtin; refine wpList_append_strong _ rfl _ _ 28 rfl W1.heap.size 52 ii (.agg #[.int .i64 0, .int .i64 0, .int .i64 0, .int .i64 0, .string ⟨#[]⟩]) 5 48 Tryz.underlying28 hi hz0 hz1 hz2 rfl (by decide) u6 _ _ rfl hO4.out ⟨W3.heap.size, 0, none⟩ 1 1 [.int .i64 xi, .int .i64 xr, .int .i64 xs, .int .i64 xt, .string (txt xf)] rfl rfl hcn.out hones.out (by decide) (lo.length + 1) rfl (by unfold maxLen; omega) (by omega) hsz.out ?_; intro g cap W5 hown5 hat5)
        have e5 : GrB g (W3.alloc (.cells #[.int .i64 xi, .int .i64 xr, .int .i64 xs, .int .i64 xt, .string (txt xf)] 52)) W5 := by
          rcases hat5 with ⟨_, h9⟩ | ⟨_, h9⟩
          · exact h9
          · exact gr_more _ h9
        have hgb : W1.heap.size ≤ g := (hown5.lt g rfl).1
        have hdis5 : ∀ b, (Value.slice (some ⟨g, 0, none⟩) (lo.length + 1) cap).ownBlock = some b → u7.ownBlock ≠ some b := fun b hb e => by
          obtain rfl : g = b := by simpa [Value.ownBlock] using hb
          rcases hat5 with ⟨h9, _⟩ | ⟨h9, _⟩
          · exact hdis.out g h9 e
          · have := (hL4.out.lt g e).2; omega
        have hK5 := hL4.out.kept e5 (.inr (fun e => hdis5 g rfl e))
        have hg5 : Gr W1 W5 := gr_over (gr_trans hg.out g34.out) e5 hgb
        replace hown5 := Lib.hid hown5
        replace hdis5 := Lib.hid hdis5
        replace hK5 := Lib.hid hK5
        replace hg5 := Lib.hid hg5
        clear hat5 e5 hL4 hgb
        go_roundw
        case rel => exact ⟨k + 1, by omega, by go_num, (by rw [htk.out, List.filter_append, ← hlo.out]; simp only [List.filter_cons, htT, if_true, List.filter_nil, List.length_append, List.length_cons, List.length_nil, sR_append, sR_one]; exact hown5.out), (by rw [htk.out, List.filter_append, ← hlf.out]; simp only [List.filter_cons, htT, Bool.not_true, Bool.false_eq_true, if_false, List.filter_nil, List.append_nil]; exact hK5.out), hdis5.out, hg5.out⟩
        case measure => simp [intOf]; omega
      · have htF : decide (xt < T) = false := decide_eq_false htl
        have g4 : Gr W3 (W3.alloc (.cells #[.int .i64 xi, .int .i64 xr, .int .i64 xs, .int .i64 xt, .string (txt xf)] 52)) := gr_alloc _ _ _
        have hcn : ∀ j u, ([.int .i64 xi, .int .i64 xr, .int .i64 xs, .int .i64 xt, .string (txt xf)] : List Value)[j]? = some u → (W3.alloc (.cells #[.int .i64 xi, .int .i64 xr, .int .i64 xs, .int .i64 xt, .string (txt xf)] 52)).cell? ((⟨W3.heap.size, 0, none⟩ : Addr).add j) = some u := fun j u hj => by
          rw [add_plain, Nat.zero_add, World.cell?_alloc_new]
          exact (show (#[.int .i64 xi, .int .i64 xr, .int .i64 xs, .int .i64 xt, .string (txt xf)] : Array Value)[j]? = some u by rw [← List.getElem?_toArray] at hj; exact hj)
        have g34 := gr_trans g3 g4
        have hO4 := hO.out.kept g34 (Classical.em _)
        have hL4 := hL.out.kept g34 (Classical.em _)
        have hsz : W1.heap.size ≤ (W3.alloc (.cells #[.int .i64 xi, .int .i64 xr, .int .i64 xs, .int .i64 xt, .string (txt xf)] 52)).heap.size := Nat.le_trans hg.out.size g34.size
        have hones : ∀ u ∈ ([.int .i64 xi, .int .i64 xr, .int .i64 xs, .int .i64 xt, .string (txt xf)] : List Value), u.oneCell' = true := by
          intro u hu
          simp only [List.mem_cons, List.not_mem_nil, or_false] at hu
          rcases hu with rfl | rfl | rfl | rfl | rfl <;> rfl
        replace hO4 := Lib.hid hO4
        replace hL4 := Lib.hid hL4
        replace g34 := Lib.hid g34
        replace hsz := Lib.hid hsz
        replace hcn := Lib.hid hcn
        replace hones := Lib.hid hones
        clear hO hL g3 g4
        go_wp2_with (at_builtin; refine wpList_append_strong _ rfl _ _ 28 rfl W1.heap.size 52 ii (.agg #[.int .i64 0, .int .i64 0, .int .i64 0, .int .i64 0, .string ⟨#[]⟩]) 5 48 Tryz.underlying28 hi hz0 hz1 hz2 rfl (by decide) u7 _ _ rfl hL4.out ⟨W3.heap.size, 0, none⟩ 1 1 [.int .i64 xi, .int .i64 xr, .int .i64 xs, .int .i64 xt, .string (txt xf)] rfl rfl hcn.out hones.out (by decide) (lf.length + 1) rfl (by unfold maxLen; omega) (by omega) hsz.out ?_; intro g cap W5 hown5 hat5)
        have e5 : GrB g (W3.alloc (.cells #[.int .i64 xi, .int .i64 xr, .int .i64 xs, .int .i64 xt, .string (txt xf)] 52)) W5 := by
          rcases hat5 with ⟨_, h9⟩ | ⟨_, h9⟩
          · exact h9
          · exact gr_more _ h9
        have hgb : W1.heap.size ≤ g := (hown5.lt g rfl).1
        have hdis5 : ∀ b, (Value.slice (some ⟨g, 0, none⟩) (lf.length + 1) cap).ownBlock = some b → u6.ownBlock ≠ some b := fun b hb e => by
          obtain rfl : g = b := by simpa [Value.ownBlock] using hb
          rcases hat5 with ⟨h9, _⟩ | ⟨h9, _⟩
          · exact hdis.out g e h9
          · have := (hO4.out.lt g e).2; omega
        have hK5 := hO4.out.kept e5 (.inr (fun e => hdis5 g rfl e))
        have hg5 : Gr W1 W5 := gr_over (gr_trans hg.out g34.out) e5 hgb
        replace hown5 := Lib.hid hown5
        replace hdis5 := Lib.hid hdis5
        replace hK5 := Lib.hid hK5
        replace hg5 := Lib.hid hg5
        clear hat5 e5 hO4 hgb
        go_roundw
        case rel => exact ⟨k + 1, by omega, by go_num, (by rw [htk.out, List.filter_append, ← hlo.out]; simp only [List.filter_cons, htF, Bool.false_eq_true, if_false, List.filter_nil, List.append_nil]; exact hK5.out), (by rw [htk.out, List.filter_append, ← hlf.out]; simp only [List.filter_cons, htF, Bool.not_false, if_true, List.filter_nil, List.length_append, List.length_cons, List.length_nil, sR_append, sR_one]; exact hown5.out), (fun b hb e => hdis5.out b e hb), hg5.out⟩
        case measure => simp [intOf]; omega
    · obtain rfl : k = n := by omega
      have htn : op.take k = op := by rw [← hlen.out, List.take_length]
      rw [htn] at hO hL
      obtain ⟨A2, c2, rfl, _, _⟩ := own_openS hL.out
      have hbD : DkB wr D nx T (.slice A k c) seg pts := gr_blk hg.out h1.out.dk.blk (by simp)
      have hDl : D < W1.heap.size := lt_of_blk h1.out.dk.blk
      have e2 := (dkb_cells hbD).2.2.1
      have f2 : wr.frozen? ⟨D, 2, none⟩ = false := fzeroD hbD 2
      obtain ⟨W6, hW6⟩ : ∃ W6, W6 = wr.setCell ⟨D, 2, none⟩ (.slice A2 ((op.filter (fun y => !decide (y.tl < T))).length) c2) := ⟨_, rfl⟩
      have g6 : GrB D wr W6 := by rw [hW6]; exact gr_set wr ⟨D, 2, none⟩ _
      have hb6 : DkB W6 D nx T (.slice A2 ((op.filter (fun y => !decide (y.tl < T))).length) c2) seg pts := by rw [hW6]; exact blk_set hbD 2 _
      have hO6 := hO.out.kept g6 (.inr (fun e => by have := (hO.out.lt D e).1; omega))
      have hL6 := hL.out.kept g6 (.inr (fun e => by have := (hL.out.lt D e).1; omega))
      have h6 : DkIn w W6 D ⟨nx, T, op.filter (fun y => !decide (y.tl < T)), seg, pts⟩ A2 ((op.filter (fun y => !decide (y.tl < T))).length) c2 := ⟨gr_over (gr_trans h1.out.gr hg.out) g6 h1.out.le, ⟨hb6, own_mono hL6 h1.out.gr.size⟩, h1.out.le⟩
      have gF := gr_trans (gr_trans g1.out (gr_more _ hg.out)) g6
      replace gF := Lib.hid gF
      have hO7 := own_mono hO6 g1.out.size
      have hN7 : ∀ b, (Value.slice A2 ((op.filter (fun y => !decide (y.tl < T))).length) c2).ownBlock = some b → wi.heap.size ≤ b ∧ u6.ownBlock ≠ some b := fun b hb => ⟨Nat.le_trans g1.out.size (hL.out.lt b hb).1, fun e => hdis.out b e hb⟩
      replace hN7 := Lib.hid hN7
      replace hO7 := Lib.hid hO7
      replace h6 := Lib.hid h6
      clear hO6 hL6 hb6 g6 hO hL hbD
      go_upto_region 13 with fail
      rw [← hW6]
      clear hW6 e2 f2
      go_wp2
      go_ret2
      exact ⟨_, A2, _, c2, rfl, hO7.out, h6.out, gF.out, hN7.out⟩
theorem dkin_tick {w wi : World} {D : Nat} {s : DkS} {A : Option Addr} {n c : Nat} (h : DkIn w wi D s A n c) (t : Nat) (ht : 1 ≤ t ∧ t ≤ 100000) (hnow : 0 ≤ s.now ∧ s.now + t ≤ 1000000000) (hn : n ≤ 100000) :
    Calls Tryz.prog 15 #[.pointer (some ⟨D, 0, none⟩), .int .i64 t] wi (TickPost w wi D s t) := by
  refine (dkin_tickS h t ht hnow hn).mono ?_
  rintro e w' ⟨v, A', m, c', h1, h2, h3, h4, _⟩
  exact ⟨v, A', m, c', h1, own_mono h2 h.gr.size, h3, h4⟩
end Go.Proofs.YtmldoeeangekoaaGreatDoor
namespace Go.Proofs.YtmldoeeangekoaaGreatDoor
open Go.RowKit

theorem curs_ones (zs : List Cur) : ∀ u ∈ sR curC zs, u.oneCell' = true := fun u hu => by
  unfold sR at hu
  rw [List.mem_flatMap] at hu
  obtain ⟨x, _, hx⟩ := hu
  simp only [curC, List.mem_cons, List.not_mem_nil, or_false] at hx
  rcases hx with rfl | rfl | rfl | rfl | rfl <;> rfl
theorem own_empty (w : World) (e : TypeId) (size : Nat) : (w.alloc (.cells #[] e)).ownsRow w.heap.size e size (.slice (some ⟨w.heap.size, 0, none⟩) 0 0) 0 [] :=
  ⟨by simp, .inr ⟨w.heap.size, 0, #[], rfl, Nat.le_refl _, blk_new w _, Nat.le_refl _, Nat.zero_le _, by simp, by simp⟩⟩
set_option maxHeartbeats 4000000 in
set_option maxRecDepth 100000 in
theorem dclone_any (A : Option Addr) (n c : Nat) (zs : List Cur) (w : World) (hn : n ≤ 1000000000) (hA : A = none → n = 0 ∧ c = 0) (hz : Row w A n 5 (sR curC zs)) :
    Calls Tryz.prog 90 #[.slice A n c] w fun e w' => ∃ v, e = .returned v ∧ w'.ownsRow w.heap.size 52 5 v n (sR curC zs) ∧ Gr w w' := by
  obtain ⟨ii, hi, hz0, hz1, hz2⟩ := info_parts infoCuE
  cases A with
  | none =>
    obtain ⟨rfl, rfl⟩ := hA rfl
    have hzs : sR curC zs = [] := by
      have := hz.1
      simpa using this
    rw [hzs]
    have he : ∀ w : World, (binOp .eql 28 (.slice none 0 0) (.slice none 0 0)).run Tryz.prog w = .ok (.bool true) w := fun _ => rfl
    go_enter Tryz.func90, Tryz.ntmps90
    go_wp2
    go_ret
    exact ⟨_, rfl, World.ownsRow_nil _ _ _ _, gr_refl _ _⟩
  | some a =>
    have hoe := own_empty w 52 5
    have ge : Gr w (w.alloc (.cells #[] 52)) := gr_alloc _ _ _
    have hz2' := row_gr hz ge
    have hsz : w.heap.size ≤ (w.alloc (.cells #[] 52)).heap.size := ge.size
    replace hz2' := Lib.hid hz2'
    replace hoe := Lib.hid hoe
    replace ge := Lib.hid ge
    clear hz
    have he : ∀ w : World, (binOp .eql 28 (.slice (some a) n c) (.slice none 0 0)).run Tryz.prog w = .ok (.bool false) w := fun _ => rfl
    go_enter Tryz.func90, Tryz.ntmps90
    go_wp2_with (at_builtin; refine wpList_append_row rfl _ _ 28 rfl w.heap.size 52 ii (.agg #[.int .i64 0, .int .i64 0, .int .i64 0, .int .i64 0, .string ⟨#[]⟩]) 5 48 Tryz.underlying28 hi hz0 hz1 hz2 rfl (by decide) (.slice (some ⟨w.heap.size, 0, none⟩) 0 0) 0 [] rfl hoe.out (some a) n c (sR curC zs) rfl (fun e => by cases e) hz2'.out (curs_ones zs) n (sR curC zs) (Nat.zero_add n) rfl ?c1 ?c2 hsz ?_; rotate_right; intro v' W5 hown5 hgrow; replace hown5 := Lib.hid hown5; replace hgrow := Lib.hid hgrow)
    case c1 => unfold maxLen; omega
    case c2 => omega
    go_ret
    exact ⟨_, rfl, hown5.out, gr_of_below (below_gr (gr_below ge.out) hgrow.out ge.out.size (by intro q hq; cases hq; exact Nat.le_refl _)) (Nat.le_refl _)⟩
theorem infoStD : (Tryz.prog.info? 30).map (·.size) = some 5 := by kernel_rfl
theorem there5 {W : World} {b : Nat} {cs : Array Value} {t : TypeId} (h : W.heap[b]? = some (.cells cs t (0, 0))) (h5 : cs.size = 5) : W.there b 0 5 := fun j hj => ⟨by
  have : cs[j]? = some cs[j] := Array.getElem?_eq_getElem (by omega)
  rw [Nat.zero_add, fcellD h this]
  rfl, fzeroD h _⟩
theorem out5 {W : World} {b : Nat} {v0 v1 v2 v3 v4 : Value} (h : W.there b 0 5) :
    (W.setCells b 0 [v0, v1, v2, v3, v4]).cell? ⟨b, 0, none⟩ = some v0 ∧ (W.setCells b 0 [v0, v1, v2, v3, v4]).cell? ⟨b, 1, none⟩ = some v1 ∧ (W.setCells b 0 [v0, v1, v2, v3, v4]).cell? ⟨b, 2, none⟩ = some v2 ∧ (W.setCells b 0 [v0, v1, v2, v3, v4]).cell? ⟨b, 3, none⟩ = some v3 ∧ (W.setCells b 0 [v0, v1, v2, v3, v4]).cell? ⟨b, 4, none⟩ = some v4 := by
  have hs := World.rangeAt_setCells_same W b 0 [v0, v1, v2, v3, v4] h
  exact ⟨hs 0 _ rfl, hs 1 _ rfl, hs 2 _ rfl, hs 3 _ rfl, hs 4 _ rfl⟩
/-- A block that is new since w may turn. -/
theorem gr_new {w V V' : World} {b : Nat} (h : Gr w V) (k : GrB b V V') (hb : w.heap.size ≤ b) : Gr w V' := gr_over h k hb
set_option maxHeartbeats 4000000 in
set_option maxRecDepth 100000 in
theorem down_any (nx now pts : Int) (seg : List UInt8) (A : Option Addr) (n c : Nat) (zs : List Cur) (w : World) (hn : n ≤ 1000000) (hA : A = none → n = 0 ∧ c = 0) (hz : Row w A n 5 (sR curC zs)) :
    Calls Tryz.prog 30 #[.agg #[.int .i64 nx, .int .i64 now, .slice A n c, .string (txt seg), .int .i64 pts]] w fun e w' => ∃ v, e = .returned (.agg #[.int .i64 nx, .int .i64 now, v, .string (txt seg), .int .i64 pts]) ∧ w'.ownsRow w.heap.size 52 5 v n (sR curC zs) ∧ Gr w w' := by
  have cC := fun W (g : Gr w W) => dclone_any A n c zs W (by omega) hA (row_gr hz g)
  replace cC := Lib.hid cC
  clear hz hA
  obtain ⟨W0, hW0⟩ : ∃ W0, W0 = (w.alloc (.cells #[.int .i64 nx, .int .i64 now, .slice A n c, .string (txt seg), .int .i64 pts] 30)).alloc (.cells #[.int .i64 0, .int .i64 0, .slice none 0 0, .string ⟨#[]⟩, .int .i64 0] 30) := ⟨_, rfl⟩
  have hz1 : (w.alloc (.cells #[.int .i64 nx, .int .i64 now, .slice A n c, .string (txt seg), .int .i64 pts] 30)).heap.size = w.heap.size + 1 := by simp
  have hS : W0.heap[w.heap.size]? = some (.cells #[.int .i64 nx, .int .i64 now, .slice A n c, .string (txt seg), .int .i64 pts] 30 (0, 0)) := by rw [hW0]; exact gr_blk (gr_alloc _ _ none) (blk_new w _) (by simp)
  have hR : W0.heap[w.heap.size + 1]? = some (.cells #[.int .i64 0, .int .i64 0, .slice none 0 0, .string ⟨#[]⟩, .int .i64 0] 30 (0, 0)) := by rw [hW0, ← hz1]; exact blk_new _ _
  have g0 : Gr w W0 := by rw [hW0]; exact gr_trans (gr_alloc _ _ _) (gr_alloc _ _ _)
  have s2 : W0.cell? ⟨w.heap.size, 2, none⟩ = some (.slice A n c) := fcellD hS rfl
  replace hS := Lib.hid hS
  replace hR := Lib.hid hR
  replace g0 := Lib.hid g0
  clear hz1
  go_enter Tryz.func30, Tryz.ntmps30
  go_upto_region 1 with fail
  rw [show (w.alloc (.cells #[.int .i64 nx, .int .i64 now, .slice A n c, .string (txt seg), .int .i64 pts] 30)).alloc (.cells #[.int .i64 0, .int .i64 0, .slice none 0 0, .string ⟨#[]⟩, .int .i64 0] 30) = W0 from hW0.symm]
  clear hW0
  go_wp2_with fail
  refine (cC.out W0 g0.out).mono ?_
  rintro e W2 ⟨v', rfl, hv, g2⟩
  obtain ⟨A', c', rfl, _⟩ := own_openS hv
  have hS2 := gr_blk g2 hS.out (by simp)
  have hR2 := gr_blk g2 hR.out (by simp)
  have hv0 := own_mono hv g0.out.size
  have f2 : W2.frozen? ⟨w.heap.size, 2, none⟩ = false := fzeroD hS2 2
  have t2 : W2.cell? ⟨w.heap.size, 2, none⟩ = some (.slice A n c) := fcellD hS2 rfl
  obtain ⟨W3, hW3⟩ : ∃ W3, W3 = W2.setCell ⟨w.heap.size, 2, none⟩ (.slice A' n c') := ⟨_, rfl⟩
  have g3 : GrB w.heap.size W2 W3 := by rw [hW3]; exact gr_set W2 ⟨w.heap.size, 2, none⟩ _
  have hS3 : W3.heap[w.heap.size]? = some (.cells #[.int .i64 nx, .int .i64 now, .slice A' n c', .string (txt seg), .int .i64 pts] 30 (0, 0)) := by rw [hW3]; exact blk_set hS2 2 _
  have hR3 := gr_blk g3 hR2 (by simp)
  have hv3 := own_farD hv0 hS2 (by decide) g3
  have hG3 := gr_over (gr_trans g0.out g2) g3 (Nat.le_refl _)
  have s0 : W3.cell? ⟨w.heap.size, 0, none⟩ = some (.int .i64 nx) := fcellD hS3 rfl
  have s1 : W3.cell? ⟨w.heap.size, 1, none⟩ = some (.int .i64 now) := fcellD hS3 rfl
  have s2 : W3.cell? ⟨w.heap.size, 2, none⟩ = some (.slice A' n c') := fcellD hS3 rfl
  have s3 : W3.cell? ⟨w.heap.size, 3, none⟩ = some (.string (txt seg)) := fcellD hS3 rfl
  have s4 : W3.cell? ⟨w.heap.size, 4, none⟩ = some (.int .i64 pts) := fcellD hS3 rfl
  have hth := there5 hR3 rfl
  obtain ⟨r0, r1, r2, r3, r4⟩ := out5 (v0 := .int .i64 nx) (v1 := .int .i64 now) (v2 := .slice A' n c') (v3 := .string (txt seg)) (v4 := .int .i64 pts) hth
  have g4 := gr_setCells W3 (w.heap.size + 1) 0 [.int .i64 nx, .int .i64 now, .slice A' n c', .string (txt seg), .int .i64 pts]
  have hv4 := own_farD hv3 hR3 (by decide) g4
  have hG4 := gr_over hG3 g4 (by omega)
  replace hv4 := Lib.hid hv4
  replace hG4 := Lib.hid hG4
  clear hv hv0 hv3 hG3 g3 g4 hS2 hR2 hS3 hR3 hS hR g0 g2 cC
  go_upto_region 2 with fail
  rw [← hW3]
  clear hW3 f2 t2
  go_wp2_with (refine wpList_store_mid (op := ⟨none, _, _, _, _, _⟩) rfl 30 _ _ rfl (w.heap.size + 1) 0 #[.int .i64 nx, .int .i64 now, .slice A' n c', .string (txt seg), .int .i64 pts] rfl rfl hth infoStD (by simp [Value.oneCell']) ?_)
  (try simp only [Exit.inBlock, Exit.then])
  refine bodyPost_ret (by simp [results, Tryz.results30, go_sem, r0, r1, r2, r3, r4]; try rfl) rfl ?_
  exact ⟨_, rfl, hv4.out, hG4.out⟩
theorem own_nilD {w : World} {base : Nat} {e : TypeId} {size n c : Nat} {A : Option Addr} {xs : List Value} (h : w.ownsRow base e size (.slice A n c) n xs) : A = none → n = 0 ∧ c = 0 := by
  rintro rfl
  rcases h.2 with ⟨hv, h0⟩ | ⟨g, cap, cur, hv, _⟩
  · injection hv with _ h2 h3
    exact ⟨h2, h3⟩
  · injection hv with h1
    cases h1
set_option maxHeartbeats 4000000 in
set_option maxRecDepth 100000 in
theorem dkin_newS {w wi : World} (hg : Gr w wi) (s : DkS) (A : Option Addr) (n c : Nat) (hn : n ≤ 1000000) (hA : A = none → n = 0 ∧ c = 0) (hz : Row wi A n 5 (sR curC s.op)) :
    Calls Tryz.prog 6 #[.agg #[.int .i64 s.nx, .int .i64 s.now, .slice A n c, .string (txt s.seg), .int .i64 s.pts]] wi fun e w' => ∃ D A' c', e = .returned (.pointer (some ⟨D, 0, none⟩)) ∧ DkIn w w' D s A' n c' ∧ wi.heap.size ≤ D ∧ Gr wi w' := by
  obtain ⟨nx, now, op, seg, pts⟩ := s
  simp only at hz ⊢
  have cO := fun W (g : Gr wi W) => down_any nx now pts seg A n c op W hn hA (row_gr hz g)
  replace cO := Lib.hid cO
  replace hg := Lib.hid hg
  clear hz hA
  go_enter Tryz.func6, Tryz.ntmps6
  go_wp2_with fail
  refine (cO.out _ (gr_alloc _ _ _)).mono ?_
  rintro e W2 ⟨v, rfl, hv, g2⟩
  obtain ⟨A', c', rfl, _⟩ := own_openS hv
  have G2 := gr_trans (gr_alloc wi (.cells #[.int .i64 nx, .int .i64 now, .slice A n c, .string (txt seg), .int .i64 pts] 30) none) g2
  have hv2 := own_mono hv (show w.heap.size ≤ _ from Nat.le_trans hg.out.size (gr_alloc wi (.cells #[.int .i64 nx, .int .i64 now, .slice A n c, .string (txt seg), .int .i64 pts] 30) none).size)
  have hv3 := hv2.kept (gr_alloc W2 (.cells #[.int .i64 nx, .int .i64 now, .slice A' n c', .string (txt seg), .int .i64 pts] 80) none) (Classical.em _)
  replace G2 := Lib.hid G2
  replace hv3 := Lib.hid hv3
  clear hv hv2 g2 cO
  go_wp2
  go_ret
  exact ⟨_, A', c', rfl, ⟨gr_trans (gr_trans hg.out G2.out) (gr_alloc _ _ _), ⟨blk_new W2 _, hv3.out⟩, Nat.le_trans hg.out.size G2.out.size⟩, G2.out.size, gr_trans G2.out (gr_alloc _ _ _)⟩
set_option maxHeartbeats 4000000 in
set_option maxRecDepth 100000 in
theorem dkin_state {w wi : World} {D : Nat} {s : DkS} {A : Option Addr} {n c : Nat} (h : DkIn w wi D s A n c) (hn : n ≤ 1000000) :
    Calls Tryz.prog 26 #[.pointer (some ⟨D, 0, none⟩)] wi fun e w' => ∃ A' c', e = .returned (.agg #[.int .i64 s.nx, .int .i64 s.now, .slice A' n c', .string (txt s.seg), .int .i64 s.pts]) ∧ w'.ownsRow wi.heap.size 52 5 (.slice A' n c') n (sR curC s.op) ∧ Gr wi w' := by
  obtain ⟨W0, hW0⟩ : ∃ W0, W0 = wi.alloc (.cells #[.int .i64 0, .int .i64 0, .slice none 0 0, .string ⟨#[]⟩, .int .i64 0] 30) := ⟨_, rfl⟩
  have g0 : Gr wi W0 := by rw [hW0]; exact gr_alloc _ _ _
  have hR : W0.heap[wi.heap.size]? = some (.cells #[.int .i64 0, .int .i64 0, .slice none 0 0, .string ⟨#[]⟩, .int .i64 0] 30 (0, 0)) := by rw [hW0]; exact blk_new wi _
  obtain ⟨c0, c1, c2, c3, c4⟩ := dkb_cells (dkIn_gr h g0).dk.blk
  have cO := fun W (g : Gr W0 W) => down_any s.nx s.now s.pts s.seg A n c s.op W hn (own_nilD h.dk.own) (row_gr (row_own h.dk.own) (gr_trans g0 g))
  obtain ⟨nx, now, op, seg, pts⟩ := s
  simp only at cO c0 c1 c2 c3 c4 ⊢
  replace cO := Lib.hid cO
  replace hR := Lib.hid hR
  replace g0 := Lib.hid g0
  clear h
  go_enter Tryz.func26, Tryz.ntmps26
  go_upto_region 1 with fail
  rw [← hW0]
  clear hW0
  go_wp2_with fail
  refine (cO.out _ (gr_refl _ _)).mono ?_
  rintro e W3 ⟨v, rfl, hv, g2⟩
  obtain ⟨A', c', rfl, _⟩ := own_openS hv
  have hR3 := gr_blk g2 hR.out (by simp)
  have hth := there5 hR3 rfl
  have hG3 := gr_trans g0.out g2
  obtain ⟨r0, r1, r2, r3, r4⟩ := out5 (v0 := .int .i64 nx) (v1 := .int .i64 now) (v2 := .slice A' n c') (v3 := .string (txt seg)) (v4 := .int .i64 pts) hth
  have g4 := gr_setCells W3 wi.heap.size 0 [.int .i64 nx, .int .i64 now, .slice A' n c', .string (txt seg), .int .i64 pts]
  have hv3 := own_mono hv g0.out.size
  have hv4 := own_farD hv3 hR3 (by decide) g4
  have hG4 := gr_over hG3 g4 (Nat.le_refl _)
  replace hv4 := Lib.hid hv4
  replace hG4 := Lib.hid hG4
  clear hv hv3 hG3 g4 hR3 hR g0 g2 cO c0 c1 c2 c3 c4
  go_wp2_with (refine wpList_store_mid (op := ⟨none, _, _, _, _, _⟩) rfl 30 _ _ rfl wi.heap.size 0 #[.int .i64 nx, .int .i64 now, .slice A' n c', .string (txt seg), .int .i64 pts] rfl rfl hth infoStD (by simp [Value.oneCell']) ?_)
  (try simp only [Exit.inBlock, Exit.then])
  refine bodyPost_ret (by simp [results, Tryz.results26, go_sem, r0, r1, r2, r3, r4]; try rfl) rfl ?_
  exact ⟨A', c', rfl, hv4.out, hG4.out⟩
end Go.Proofs.YtmldoeeangekoaaGreatDoor
namespace Go.Proofs.YtmldoeeangekoaaGreatDoor
open Go.RowKit

def tickS (s : DkS) (t : Nat) : DkS := ⟨s.nx, s.now + t, s.op.filter (fun y => !decide (y.tl < s.now + t)), s.seg, s.pts⟩
def TickG (w wi : World) (D : Nat) (s : DkS) (t : Nat) (e : Ending) (w' : World) : Prop :=
  ∃ (V : Option Addr) (k vc : Nat) (ee : Int) (A : Option Addr) (m c : Nat) (s' : DkS), e = .returned (.tuple #[.slice V k vc, .int .i64 ee]) ∧ DkIn w w' D s' A m c ∧ GrB D wi w' ∧
    ((s.now + t ≤ 1000000000 ∧ ee = 0 ∧ s' = tickS s t ∧ k = (s.op.filter (fun y => decide (y.tl < s.now + t))).length) ∨ (1000000000 < s.now + t ∧ ee = 1 ∧ s' = s))
set_option maxRecDepth 100000 in
theorem dkin_tickG {w wi : World} {D : Nat} {s : DkS} {A : Option Addr} {n c : Nat} (h : DkIn w wi D s A n c) (t : Nat) (ht : 1 ≤ t ∧ t ≤ 100000) (hnow : 0 ≤ s.now ∧ s.now ≤ 1000000000) (hn : n ≤ 100000) :
    Calls Tryz.prog 15 #[.pointer (some ⟨D, 0, none⟩), .int .i64 t] wi (TickG w wi D s t) := by
  by_cases hov : s.now + t ≤ 1000000000
  · refine (dkin_tick h t ht ⟨hnow.1, hov⟩ hn).mono ?_
    rintro e w' ⟨v, A', m, c', rfl, hown, hd, g⟩
    obtain ⟨V, vc, rfl, _⟩ := own_openS hown
    exact ⟨V, _, vc, 0, A', m, c', tickS s t, rfl, hd, g, .inl ⟨hov, rfl, rfl, rfl⟩⟩
  · obtain ⟨c0, c1, c2, c3, c4⟩ := dkb_cells h.dk.blk
    have e1 : ((1000000000 : Int) - (t : Int) < s.now) = True := eq_true (by omega)
    have e1' : IntKind.i64.wrap ((1000000000 : Int) - (t : Int)) = (1000000000 : Int) - (t : Int) := IntWalk.i64_in _ (by omega)
    have e3 : ((t : Int) < 1) = False := eq_false (by omega)
    have e4 : ((100000 : Int) < (t : Int)) = False := eq_false (by omega)
    have hfin := h
    replace hfin := Lib.hid hfin
    have hov' : 1000000000 < s.now + (t : Int) := by omega
    replace hov' := Lib.hid hov'
    clear h hov c0 c2 c3 c4
    go_enter Tryz.func15, Tryz.ntmps15
    go_wp2
    go_ret2
    exact ⟨none, 0, 0, 1, A, n, c, s, rfl, hfin.out, gr_refl _ _, .inr ⟨hov'.out, rfl, rfl⟩⟩
set_option maxHeartbeats 4000000 in
set_option maxRecDepth 100000 in
theorem may_full (D : Nat) (nx now pts : Int) (A : Option Addr) (n c : Nat) (seg : List UInt8) (rows size ticks : Nat) (w : World) (h : DkB w D nx now (.slice A n c) seg pts) (hr : rows ≤ 2000) (hs : 1 ≤ size) (hs2 : size ≤ 100) (ht : ticks ≤ 100000) (hnow : 0 ≤ now ∧ now + ticks ≤ 1000000000) (hf : 20 ≤ n ∨ 1000000 < nx) :
    Calls Tryz.prog 10 #[.pointer (some ⟨D, 0, none⟩), .int .i64 rows, .int .i64 size, .int .i64 ticks] w fun e w' => e = .returned (.int .i64 8) ∧ w = w' := by
  obtain ⟨c0, c1, c2, c3, c4⟩ := dkb_cells h
  have e1 : ((2000 : Int) < (rows : Int)) = False := eq_false (by omega)
  have e2 : ((size : Int) < 1) = False := eq_false (by omega)
  have e3 : ((100 : Int) < (size : Int)) = False := eq_false (by omega)
  have e4 : ((100000 : Int) < (ticks : Int)) = False := eq_false (by omega)
  have e5 : ((1000000000 : Int) - (ticks : Int) < now) = False := eq_false (by omega)
  have e5' : IntKind.i64.wrap ((1000000000 : Int) - (ticks : Int)) = (1000000000 : Int) - (ticks : Int) := IntWalk.i64_in _ (by omega)
  have e8 : ((rows : Int) < 0) = False := eq_false (by omega)
  have e9 : ((ticks : Int) < 0) = False := eq_false (by omega)
  clear h
  by_cases h20 : 20 ≤ n
  · have e6 : ((20 : Int) ≤ (n : Int)) = True := eq_true (by omega)
    have e6' : (20 ≤ n) = True := eq_true h20
    clear h20 hf
    go_enter Tryz.func10, Tryz.ntmps10
    go_wp2
    go_ret
    exact ⟨rfl, rfl⟩
  · have e6 : ((20 : Int) ≤ (n : Int)) = False := eq_false (by omega)
    have e6' : (20 ≤ n) = False := eq_false h20
    have e7 : ((1000000 : Int) < nx) = True := eq_true (by omega)
    clear h20 hf
    go_enter Tryz.func10, Tryz.ntmps10
    go_wp2
    go_ret
    exact ⟨rfl, rfl⟩
set_option maxHeartbeats 4000000 in
set_option maxRecDepth 100000 in
theorem dopen_full {w wi : World} {D : Nat} {s : DkS} {A : Option Addr} {n c : Nat} (h : DkIn w wi D s A n c) (rows size ticks : Nat) (hr : rows ≤ 2000) (hs : 1 ≤ size) (hs2 : size ≤ 100) (ht : ticks ≤ 100000) (hnow : 0 ≤ s.now ∧ s.now + ticks ≤ 1000000000) (hf : 20 ≤ n ∨ 1000000 < s.nx) :
    Calls Tryz.prog 11 #[.pointer (some ⟨D, 0, none⟩), .int .i64 rows, .int .i64 size, .int .i64 ticks] wi fun e w' => e = .returned (.tuple #[curV cu0, .int .i64 8]) ∧ Gr wi w' := by
  obtain ⟨W0, hW0⟩ : ∃ W0, W0 = wi.alloc (.cells #[.int .i64 0, .int .i64 0, .int .i64 0, .int .i64 0, .string ⟨#[]⟩] 52) := ⟨_, rfl⟩
  have g0 : Gr wi W0 := by rw [hW0]; exact gr_alloc _ _ _
  have hR : CuB W0 wi.heap.size cu0 := by rw [hW0]; exact blk_new wi _
  have cM := may_full D s.nx s.now s.pts A n c s.seg rows size ticks W0 (dkIn_gr h g0).dk.blk hr hs hs2 ht hnow hf
  have hth := cub_there hR
  have hsame := World.rangeAt_setCells_same W0 wi.heap.size 0 [.int .i64 0, .int .i64 0, .int .i64 0, .int .i64 0, .string ⟨#[]⟩] hth
  have r0 := hsame 0 _ rfl
  have r1 := hsame 1 _ rfl
  have r2 := hsame 2 _ rfl
  have r3 := hsame 3 _ rfl
  have r4 := hsame 4 _ rfl
  simp only [Nat.zero_add] at r0 r1 r2 r3 r4
  have hG := gr_over g0 (gr_setCells W0 wi.heap.size 0 [.int .i64 0, .int .i64 0, .int .i64 0, .int .i64 0, .string ⟨#[]⟩]) (Nat.le_refl _)
  replace hG := Lib.hid hG
  replace cM := Lib.hid cM
  clear h hR hsame g0
  go_enter Tryz.func11, Tryz.ntmps11
  go_upto_region 1 with fail
  rw [← hW0]
  clear hW0
  go_wp2_with fail
  refine cM.out.mono ?_
  rintro e w' ⟨rfl, rfl⟩
  go_wp2_with (refine wpList_store_mid (op := ⟨none, _, _, _, _, _⟩) rfl 52 _ _ rfl wi.heap.size 0 #[.int .i64 0, .int .i64 0, .int .i64 0, .int .i64 0, .string ⟨#[]⟩] rfl rfl hth infoCu (by simp [Value.oneCell']) ?_)
  (try simp only [Exit.inBlock, Exit.then])
  refine bodyPost_ret (by simp [results, Tryz.results11, go_sem, r0, r1, r2, r3, r4]; try rfl) rfl ?_
  exact ⟨rfl, hG.out⟩
end Go.Proofs.YtmldoeeangekoaaGreatDoor
namespace Go.Proofs.YtmldoeeangekoaaGreatDoor
open Go.RowKit

theorem tnd_gr {S : Nat → Prop} {w w' : World} (h : Gr w w') : GrS S w w' := ⟨h.os, h.tape, h.output, h.size, fun i hi _ => h.block i hi (by simp)⟩
theorem tnd_step {S : Nat → Prop} {w V V' : World} (h : GrS S w V) (k : GrS S V V') : GrS S w V' :=
  ⟨by rw [k.os, h.os], by rw [k.tape, h.tape], by rw [k.output, h.output], Nat.le_trans h.size k.size, fun i hi hn => by rw [k.block i (Nat.lt_of_lt_of_le hi h.size) hn, h.block i hi hn]⟩
theorem tnd_B {S : Nat → Prop} {b : Nat} {w w' : World} (h : GrB b w w') (hb : S b) : GrS S w w' := ⟨h.os, h.tape, h.output, h.size, fun i hi hn => h.block i hi (by simp; exact fun e => hn (e ▸ hb))⟩
theorem tnd_new {S : Nat → Prop} {b : Nat} {w V V' : World} (h : GrS S w V) (k : GrB b V V') (hb : w.heap.size ≤ b) : GrS S w V' :=
  ⟨by rw [k.os, h.os], by rw [k.tape, h.tape], by rw [k.output, h.output], Nat.le_trans h.size k.size, fun i hi hn => by rw [k.block i (Nat.lt_of_lt_of_le hi h.size) (by simp; omega), h.block i hi hn]⟩
set_option maxHeartbeats 8000000 in
set_option maxRecDepth 100000 in
theorem dkin_close2 {w wi : World} {D : Nat} {s : DkS} {A : Option Addr} {n c : Nat} (h : DkIn w wi D s A n c) (hn : n ≤ 9223372036854775807) (id : Int) :
    Calls Tryz.prog 13 #[.pointer (some ⟨D, 0, none⟩), .int .i64 id] wi (fun e w' => ClosePost w D s A n c id e w' ∧ GrS (TnD D (Value.slice A n c).ownBlock) wi w') := by
  obtain ⟨W1, hW1⟩ : ∃ W1, W1 = wi.alloc (.cells #[.int .i64 0, .int .i64 0, .int .i64 0, .int .i64 0, .string ⟨#[]⟩] 52) := ⟨_, rfl⟩
  have g0 : Gr wi W1 := by rw [hW1]; exact gr_alloc _ _ _
  have hres : CuB W1 wi.heap.size cu0 := by rw [hW1]; exact blk_new wi _
  have h1 := dkIn_gr h g0
  have cO := dplace_any D s A n c id W1 h1.dk.blk (row_own h1.dk.own) hn
  have hDlt := lt_of_blk h.dk.blk
  have hwi := h.gr.size
  have hob : ∀ b, (Value.slice A n c).ownBlock = some b → b < wi.heap.size := fun b hb => (h.dk.own.lt b hb).2
  obtain ⟨nx, now, op, seg, pts⟩ := s
  simp only at cO
  replace hres := Lib.hid hres
  replace h1 := Lib.hid h1
  replace hob := Lib.hid hob
  replace hDlt := Lib.hid hDlt
  replace hwi := Lib.hid hwi
  replace g0 := Lib.hid g0
  clear h
  go_enter Tryz.func13, Tryz.ntmps13
  go_upto_region 1 with fail
  rw [← hW1]
  clear hW1
  go_wp2_with fail
  refine cO.mono ?_
  rintro e w2 ⟨⟨v, cd, rfl, hat⟩, g2⟩
  clear cO
  have gW2 := gr_trans g0.out g2
  replace gW2 := Lib.hid gW2
  clear g0
  have h2 := dkIn_gr h1.out g2
  have hR2 : CuB w2 wi.heap.size cu0 := gr_blk g2 hres.out (by simp)
  clear hres h1
  by_cases hcd : cd = 0
  · subst hcd
    obtain ⟨j, y, rfl, hj, hid, hm1, hm⟩ : ∃ (j : Nat) (y : Cur), v = j ∧ op[j]? = some y ∧ y.id = id ∧ 1 ≤ id ∧ id < nx := by
      rcases hat with ⟨_, _, h⟩ | ⟨_, _, _, _, h⟩ | ⟨h', h, _, k, x, h1, h2, h3⟩
      · cases h
      · cases h
      · exact ⟨k, x, h1, h2, h3, h', h⟩
    have hlen : op.length = n := dkIs_len h2.dk
    have hjn : j < n := by have := (List.getElem?_eq_some_iff.1 hj).1; omega
    obtain ⟨g, cap, hv, hbg, hgl⟩ := h2.dk.own.form (by omega)
    injection hv with hA _ hc
    subst hA hc
    have hgw : w.heap.size ≤ g := (h2.dk.own.lt g rfl).1
    have hgi : g < wi.heap.size := hob.out g rfl
    have hap : g ≠ D := fun e => dk_apart h2.dk.blk h2.dk.own (by rw [e]; rfl)
    obtain ⟨x, B, o, hx, hAo, _, hcl⟩ := rowS_elem curC_len (row_own h2.dk.own) (by decide) hjn
    injection hAo with hAo
    injection hAo with hB ho
    subst hB ho
    obtain rfl : x = y := by
      have hx' : op[j]? = some x := hx
      rw [hx'] at hj; exact Option.some.inj hj
    have hji : (j : Int) < (n : Int) := by omega
    have hj0 : (0 : Int) ≤ (j : Int) := by omega
    have hjw : IntKind.i64.wrap ((j : Int) + 1) = (j : Int) + 1 := IntWalk.i64_in _ (by omega)
    have hcl2 := fun (q : Nat) (hq : q < 5) => hcl q hq
    have d0 : w2.cell? ⟨g, j * 5, none⟩ = some (.int .i64 x.id) := by have := hcl 0 (by decide); rw [Nat.zero_add] at this; exact this
    have d1 : w2.cell? ⟨g, j * 5 + 1, none⟩ = some (.int .i64 x.rows) := by have := hcl 1 (by decide); rw [Nat.zero_add] at this; exact this
    have d2 : w2.cell? ⟨g, j * 5 + 2, none⟩ = some (.int .i64 x.size) := by have := hcl 2 (by decide); rw [Nat.zero_add] at this; exact this
    have d3 : w2.cell? ⟨g, j * 5 + 3, none⟩ = some (.int .i64 x.tl) := by have := hcl 3 (by decide); rw [Nat.zero_add] at this; exact this
    have d4 : w2.cell? ⟨g, j * 5 + 4, none⟩ = some (.string (txt x.file)) := by have := hcl 4 (by decide); rw [Nat.zero_add] at this; exact this
    have c2 := (dkb_cells h2.dk.blk).2.2.1
    (try simp only at c2)
    clear hcl hcl2 hj hat
    obtain ⟨xi, xr, xs, xt, xf⟩ := x
    simp only at d0 d1 d2 d3 d4 hid
    subst hid
    obtain ⟨W3, hW3⟩ : ∃ W3, W3 = w2.alloc (.cells #[.int .i64 xi, .int .i64 xr, .int .i64 xs, .int .i64 xt, .string (txt xf)] 52) := ⟨_, rfl⟩
    have g3 : Gr w2 W3 := by rw [hW3]; exact gr_alloc _ _ _
    have hX3 : CuB W3 w2.heap.size ⟨xi, xr, xs, xt, xf⟩ := by rw [hW3]; exact blk_new w2 _
    have h3 := dkIn_gr h2 g3
    have hR3 : CuB W3 wi.heap.size cu0 := gr_blk g3 hR2 (by simp)
    have e2 := (dkb_cells h3.dk.blk).2.2.1
    (try simp only at e2)
    have cD := sdel_any w.heap.size g n c j op W3 h3.dk.own hjn
    have hs2 : wi.heap.size < w2.heap.size := lt_of_blk hR2
    replace h2 := Lib.hid h2
    replace h3 := Lib.hid h3
    replace hR3 := Lib.hid hR3
    replace hX3 := Lib.hid hX3
    replace hx := Lib.hid hx
    replace hs2 := Lib.hid hs2
    clear hR2 hbg hgl
    go_upto_region 5 with fail
    rw [← hW3]
    clear hW3 d0 d1 d2 d3 d4 c2
    go_wp2_with fail
    refine cD.mono ?_
    rintro e w4 ⟨rfl, hown4, g4⟩
    clear cD e2
    have hb4 : DkB w4 D nx now (.slice (some ⟨g, 0, none⟩) n c) seg pts := gr_blk g4 h3.out.dk.blk (by simp; omega)
    have hR4 : CuB w4 wi.heap.size cu0 := gr_blk g4 hR3.out (by simp; omega)
    have hX4 : CuB w4 w2.heap.size ⟨xi, xr, xs, xt, xf⟩ := gr_blk g4 hX3.out (by simp; have := hs2.out; omega)
    have f2 : w4.frozen? ⟨D, 2, none⟩ = false := fzeroD hb4 2
    have e2 := (dkb_cells hb4).2.2.1
    obtain ⟨W5, hW5⟩ : ∃ W5, W5 = w4.setCell ⟨D, 2, none⟩ (.slice (some ⟨g, 0, none⟩) (n - 1) c) := ⟨_, rfl⟩
    have g5 : GrB D w4 W5 := by rw [hW5]; exact gr_set w4 ⟨D, 2, none⟩ _
    have gS5 : GrS (TnD D (some g)) wi W5 := tnd_step (tnd_step (tnd_gr (gr_trans gW2.out g3)) (tnd_B g4 (.inr rfl))) (tnd_B g5 (.inl rfl))
    replace gS5 := Lib.hid gS5
    have hb5 : DkB W5 D nx now (.slice (some ⟨g, 0, none⟩) (n - 1) c) seg pts := by rw [hW5]; exact blk_set hb4 2 _
    have hown5 := hown4.kept g5 (.inr (by simp [Value.ownBlock]; omega))
    have hR5 : CuB W5 wi.heap.size cu0 := gr_blk g5 hR4 (by simp; have := hDlt.out; omega)
    have hX5 : CuB W5 w2.heap.size ⟨xi, xr, xs, xt, xf⟩ := gr_blk g5 hX4 (by simp; have := hDlt.out; have := hs2.out; omega)
    have gw5 : Gr w W5 := gr_over (gr_over h3.out.gr g4 hgw) g5 h3.out.le
    have h5 : DkIn w W5 D ⟨nx, now, op.eraseIdx j, seg, pts⟩ (some ⟨g, 0, none⟩) (n - 1) c := ⟨gw5, ⟨hb5, hown5⟩, h3.out.le⟩
    obtain ⟨x0, x1, x2, x3, x4⟩ := cub_cells hX5
    simp only at x0 x1 x2 x3 x4
    replace h5 := Lib.hid h5
    replace hR5 := Lib.hid hR5
    clear hb4 hR4 hX4 g4 g5 hb5 hown4 hown5 hX5 gw5 h2 h3 hX3 hR3
    go_upto_region 6 with fail
    rw [← hW5]
    clear hW5 e2 f2
    have hRf := hR5.out
    have hth := cub_there (show CuB W5 wi.heap.size cu0 from hRf)
    have hsame := World.rangeAt_setCells_same W5 wi.heap.size 0 [.int .i64 xi, .int .i64 xr, .int .i64 xs, .int .i64 xt, .string (txt xf)] hth
    have r0 := hsame 0 _ rfl
    have r1 := hsame 1 _ rfl
    have r2 := hsame 2 _ rfl
    have r3 := hsame 3 _ rfl
    have r4 := hsame 4 _ rfl
    simp only [Nat.zero_add] at r0 r1 r2 r3 r4
    have hgs := gr_setCells W5 wi.heap.size 0 [.int .i64 xi, .int .i64 xr, .int .i64 xs, .int .i64 xt, .string (txt xf)]
    replace hgs := Lib.hid hgs
    clear hsame hRf
    go_wp2_with (refine wpList_store_mid (op := ⟨none, _, _, _, _, _⟩) rfl 52 _ _ rfl wi.heap.size 0 #[.int .i64 xi, .int .i64 xr, .int .i64 xs, .int .i64 xt, .string (txt xf)] rfl rfl hth infoCu (by simp [Value.oneCell']) ?_)
    (try simp only [Exit.inBlock, Exit.then])
    refine bodyPost_ret (by simp [results, Tryz.results13, go_sem, r0, r1, r2, r3, r4]; try rfl) rfl ?_
    exact ⟨⟨⟨xi, xr, xs, xt, xf⟩, 0, rfl, .inr ⟨rfl, j, hx.out, rfl, hm1, hm, dkin_grB h5.out hgs.out hwi.out (by have := hDlt.out; omega) (by simp [Value.ownBlock]; omega)⟩⟩, tnd_new gS5.out hgs.out (Nat.le_refl _)⟩
  · have hcN : (cd != 0) = true := by simp [hcd]
    replace hcd := Lib.hid hcd
    replace hat := Lib.hid hat
    replace h2 := Lib.hid h2
    replace hR2 := Lib.hid hR2
    have hRf := hR2.out
    have hth := cub_there (show CuB w2 wi.heap.size cu0 from hRf)
    have hsame := World.rangeAt_setCells_same w2 wi.heap.size 0 [.int .i64 0, .int .i64 0, .int .i64 0, .int .i64 0, .string ⟨#[]⟩] hth
    have r0 := hsame 0 _ rfl
    have r1 := hsame 1 _ rfl
    have r2 := hsame 2 _ rfl
    have r3 := hsame 3 _ rfl
    have r4 := hsame 4 _ rfl
    simp only [Nat.zero_add] at r0 r1 r2 r3 r4
    have hgs := gr_setCells w2 wi.heap.size 0 [.int .i64 0, .int .i64 0, .int .i64 0, .int .i64 0, .string ⟨#[]⟩]
    replace hgs := Lib.hid hgs
    clear hsame hRf
    go_wp2_with (refine wpList_store_mid (op := ⟨none, _, _, _, _, _⟩) rfl 52 _ _ rfl wi.heap.size 0 #[.int .i64 0, .int .i64 0, .int .i64 0, .int .i64 0, .string ⟨#[]⟩] rfl rfl hth infoCu (by simp [Value.oneCell']) ?_)
    (try simp only [Exit.inBlock, Exit.then])
    refine bodyPost_ret (by simp [results, Tryz.results13, go_sem, r0, r1, r2, r3, r4]; try rfl) rfl ?_
    exact ⟨⟨cu0, cd, rfl, .inl ⟨hcd.out, rfl, ⟨v, hat.out⟩, dkin_grB h2.out hgs.out hwi.out (by have := hDlt.out; omega) (fun e => by have := hob.out _ e; omega)⟩⟩, tnd_new (tnd_gr gW2.out) hgs.out (Nat.le_refl _)⟩
end Go.Proofs.YtmldoeeangekoaaGreatDoor
