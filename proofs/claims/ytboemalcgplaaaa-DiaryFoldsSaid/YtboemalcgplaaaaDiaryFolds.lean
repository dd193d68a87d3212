/-
  DiaryFolds holds of the program: for every input the call returns true and leaves what came in as it was. No condition.
-/
import Derived.Test.YtboemalcgplaaaaRows
import Derived.Test.YtboemalcgplaaaaDiaryAlive
import Derived.Test.YtboemalcgplaaaaDiaryLight
import Derived.Test.YtboemalcgplaaaaDiaryOpen
import Derived.Test.YtboemalcgplaaaaDiaryFoldN
import Derived.Test.YtboemalcgplaaaaDiaryNotes
import Derived.Test.YtboemalcgplaaaaDiarySame
import Derived.Test.YtboemalcgplaaaaStepRow
import Derived.WalkKit
import Derived.ProofKit
import Derived.OpenShut
import Derived.ShutString
import Derived.ChangeOld
import Derived.Below
namespace Go.Proofs.Ytboemalcgplaaaa.diaryFolds
open Go.ChangeShapes Go.WideShapes Go.ChangeAt Go.RowKit
open Go.ChangeMaps (open_string shut_string)
set_option linter.unusedVariables false

theorem own : ownKnob Try.prog.godebug = none := by kernel_rfl
theorem laidOut : laidOutB Try.prog = true := by kernel_rfl
/-- A block of another kind is not the row's own. -/
theorem own_apart {w : World} {base size n b : Nat} {e t : TypeId} {v : Value} {xs : List Value} {cs : Array Value} (ho : w.ownsRow base e size v n xs) (hb : w.heap[b]? = some (.cells cs t (0, 0))) (ht : e ≠ t) : v.ownBlock ≠ some b := by
  intro eq
  rcases ho.2 with ⟨hv, _⟩ | ⟨g, cap, cur, hv, _, hg, _⟩
  · rw [hv] at eq; cases eq
  · rw [hv] at eq
    have : g = b := by simpa [Value.ownBlock] using eq
    subst this
    rw [hb] at hg
    injection hg with h1
    injection h1 with _ h2
    exact ht h2.symm
theorem ntes_ones (zs : List Nte) : ∀ u ∈ sR nteC zs, u.oneCell' = true := fun u hu => by
  obtain ⟨x, _, hx⟩ := List.mem_flatMap.1 hu
  exact nteC_ones x u hx
theorem few_len (s : StM) : (fewM s).length ≤ 3 + s.op.length := by
  have := few_lens s
  rw [few_parts, List.length_append, List.length_map]
  omega
/-- Folded in two parts. -/
theorem fold_two (z : List Nte) (K : Nat) : foldN (fewM (foldN (z.take K)) ++ z.drop K) = foldN z := by
  have h1 := fold_few (foldN_inv (z.take K))
  unfold foldN
  rw [List.foldl_append]
  unfold foldN at h1
  rw [h1, ← List.foldl_append, List.take_append_drop]
/-- The zero cells of a state. -/
def stZ : Array Value := stC 0 0 (.slice none 0 0) [] 0
theorem st_there {W : World} {b : Nat} {cs : Array Value} (h : W.heap[b]? = some (.cells cs 43 (0, 0))) (h5 : cs.size = 5) : W.there b 0 5 := fun j hj => ⟨by
  have : cs[j]? = some cs[j] := Array.getElem?_eq_getElem (by omega)
  rw [Nat.zero_add, fcell h this]
  rfl, fzero h _⟩
set_option maxHeartbeats 40000000 in
set_option maxRecDepth 100000 in
theorem walk (w : World) (a0 : Option Addr) (len0 cap0 : Nat) (z0 : List Nte) (w0 : IsNtes w a0 len0 cap0 z0) (a1 : Int) (w1 : (Lit.int .i64 a1).wf = true) :
    Calls Try.prog 5 #[.slice a0 len0 cap0, .int .i64 a1] w fun e w' => e = .returned (.bool true) ∧ Below w.heap.size w w' := by
  have x1 := rng_i64 w1
  clear w1
  obtain ⟨hr0, hcap0, hcm0, _, hnil0⟩ := w0
  obtain ⟨ii, hi, hz0, hz1, hz2⟩ := info_parts infoNote
  have hl0 : z0.length = len0 := by have := hr0.1; rw [sR_len nteC 6 nteC_len] at this; omega
  have cT0 := light_any a0 len0 cap0 z0 w (by omega) hr0
  replace hr0 := Lib.hid hr0
  replace hl0 := Lib.hid hl0
  replace cT0 := Lib.hid cT0
  go_enter Try.func5, Try.ntmps5
  go_wp2_with fail
  refine cT0.out.mono ?_
  rintro e W ⟨⟨bb0, rfl, hb0⟩, rfl⟩
  cases bb0 with
  | false =>
    go_wp2_with fail
    refine (alive_any _).mono ?_
    rintro e W1 ⟨rfl, g1⟩
    go_wp2
    go_ret
    exact ⟨rfl, gr_below g1⟩
  | true =>
    have hn60 := hb0 rfl
    clear hb0
    go_wp2_with fail
    refine (alive_any _).mono ?_
    rintro e W1 ⟨rfl, g1⟩
    replace g1 := Lib.hid g1
    go_upto_region 3 with fail
    go_cut [5] (fun s5 wx => ∃ K : Nat, s5 = .int .i64 K ∧ K ≤ len0 ∧ W1 = wx)
    case first =>
      go_wp2_with fail
      go_meet
      obtain ⟨K, hK, hl⟩ := cut_place2 a1 len0 (by omega)
      exact ⟨K, by rw [← hK], hl, rfl⟩
    case rest =>
    obtain ⟨K, rfl, hK, rfl⟩ := hcut
    have hKi : (K : Int) ≤ (len0 : Int) := by omega
    have hK0 : (0 : Int) ≤ (K : Int) := by omega
    have hrK : Row w a0 K 6 (sR nteC (z0.take K)) := by rw [sR_take nteC 6 nteC_len]; exact row_take hr0.out K hK
    have hrD : ∀ A' : Option Addr, (∀ B o, a0 = some ⟨B, o, none⟩ → K < len0 → A' = some ⟨B, o + K * 6, none⟩) → Row w A' (len0 - K) 6 (sR nteC (z0.drop K)) := fun A' hA => by
      rw [sR_drop nteC 6 nteC_len]
      exact row_drop hr0.out K A' hA (by decide)
    replace hrK := Lib.hid hrK
    replace hrD := Lib.hid hrD
    go_wp2_with fail
    refine (dFold_any a0 K cap0 (z0.take K) W1 (row_gr hrK.out g1.out) (by omega)).mono ?_
    rintro e W2 ⟨⟨A1, n1, c1, rfl, hoA⟩, g2⟩
    obtain ⟨s1, hs1⟩ : ∃ s1, s1 = foldN (z0.take K) := ⟨_, rfl⟩
    rw [← hs1] at hoA ⊢
    replace hs1 := Lib.hid hs1
    have G2 := gr_trans g1.out g2
    replace G2 := Lib.hid G2
    clear g1 g2
    go_upto_region 5 with fail
    obtain ⟨W3, hW3⟩ : ∃ W3, W3 = W2.alloc (.cells #[.int .i64 s1.next, .int .i64 s1.now, .slice A1 n1 c1, .string (txt s1.seg), .int .i64 s1.pts] 43) := ⟨_, rfl⟩
    rw [← hW3]
    have hcs : ∀ j v, (#[.int .i64 s1.next, .int .i64 s1.now, .slice A1 n1 c1, .string (txt s1.seg), .int .i64 s1.pts] : Array Value)[j]? = some v → W3.cell? ⟨W2.heap.size, j, none⟩ = some v := fun j v hj => by rw [hW3, World.cell?_alloc_new]; exact hj
    have g3 : Gr W2 W3 := by rw [hW3]; exact gr_alloc _ _ _
    have hst : (W3.cell? ⟨W2.heap.size, 0, none⟩ = some (.int .i64 s1.next) ∧ W3.cell? ⟨W2.heap.size, 1, none⟩ = some (.int .i64 s1.now) ∧ W3.cell? ⟨W2.heap.size, 2, none⟩ = some (.slice A1 n1 c1) ∧ W3.cell? ⟨W2.heap.size, 3, none⟩ = some (.string (txt s1.seg)) ∧ W3.cell? ⟨W2.heap.size, 4, none⟩ = some (.int .i64 s1.pts)) := ⟨hcs 0 _ rfl, hcs 1 _ rfl, hcs 2 _ rfl, hcs 3 _ rfl, hcs 4 _ rfl⟩
    have hz3 : W3.heap.size = W2.heap.size + 1 := by rw [hW3]; simp
    have hstg : ∀ w', Gr W3 w' → (w'.cell? ⟨W2.heap.size, 0, none⟩ = some (.int .i64 s1.next) ∧ w'.cell? ⟨W2.heap.size, 1, none⟩ = some (.int .i64 s1.now) ∧ w'.cell? ⟨W2.heap.size, 2, none⟩ = some (.slice A1 n1 c1) ∧ w'.cell? ⟨W2.heap.size, 3, none⟩ = some (.string (txt s1.seg)) ∧ w'.cell? ⟨W2.heap.size, 4, none⟩ = some (.int .i64 s1.pts)) := fun w' g => ⟨gr_cell g hst.1, gr_cell g hst.2.1, gr_cell g hst.2.2.1, gr_cell g hst.2.2.2.1, gr_cell g hst.2.2.2.2⟩
    replace hstg := Lib.hid hstg
    replace g3 := Lib.hid g3
    replace hoA := Lib.hid hoA
    clear hcs hW3 hst
    go_cut [7] (fun s7 wx => ∃ (b : Nat) (A5 : Option Addr) (n5 c5 : Nat), s7 = .pointer (some ⟨b, 0, none⟩) ∧ Hid (wx.cell? ⟨b, 0, none⟩ = some (.int .i64 (foldN z0).next) ∧ wx.cell? ⟨b, 1, none⟩ = some (.int .i64 (foldN z0).now) ∧ wx.cell? ⟨b, 2, none⟩ = some (.slice A5 n5 c5) ∧ wx.cell? ⟨b, 3, none⟩ = some (.string (txt (foldN z0).seg)) ∧ wx.cell? ⟨b, 4, none⟩ = some (.int .i64 (foldN z0).pts)) ∧ Hid (wx.ownsRow W2.heap.size 30 5 (.slice A5 n5 c5) n5 (sR curC (foldN z0).op)) ∧ Hid (Gr W3 wx))
    case first =>
      have hrA : Row W3.drew A1 n1 5 (sR curC s1.op) := row_gr (row_gr (row_own hoA.out) g3.out) (gr_drew _ none)
      have hn1 : n1 ≤ 60 := by
        have h1 := hoA.out.1
        rw [sR_len curC 5 curC_len] at h1
        have h2 := foldN_len (z0.take K)
        rw [← hs1.out, List.length_take] at h2
        have := hl0.out
        omega
      have hnx1 : 1 ≤ s1.next ∧ s1.next ≤ 1000001 := by rw [hs1.out]; exact (foldN_inv _).nx
      have hlenF : (fewM s1).length + (len0 - K) ≤ 130 := by
        have h1 := few_len s1
        have h2 := foldN_len (z0.take K)
        rw [← hs1.out, List.length_take] at h2
        omega
      have hfin : foldN (fewM s1 ++ z0.drop K) = foldN z0 := by rw [hs1.out]; exact fold_two z0 K
      have gwd : Gr W3 W3.drew := gr_drew _ none
      have gww : Gr w W3.drew := gr_trans (gr_trans G2.out g3.out) gwd
      replace hrA := Lib.hid hrA
      replace hn1 := Lib.hid hn1
      replace hnx1 := Lib.hid hnx1
      replace hlenF := Lib.hid hlenF
      replace hfin := Lib.hid hfin
      refine wp_region_held_drew (S := fun w' => (w'.cell? ⟨W2.heap.size, 0, none⟩ = some (.int .i64 s1.next) ∧ w'.cell? ⟨W2.heap.size, 1, none⟩ = some (.int .i64 s1.now) ∧ w'.cell? ⟨W2.heap.size, 2, none⟩ = some (.slice A1 n1 c1) ∧ w'.cell? ⟨W2.heap.size, 3, none⟩ = some (.string (txt s1.seg)) ∧ w'.cell? ⟨W2.heap.size, 4, none⟩ = some (.int .i64 s1.pts))) (by kernel_rfl) (hstg.out _ (gr_drew _ _)) (fun hHeld => ?_)
      refine wpAnyH_take (i := 0) (oi := ⟨some 34, _, _, _, _, _⟩) (v := ?_) rfl (by kernel_rfl) (by kernel_rfl) (by kernel_rfl) (fun _ _ _ h => h) (Or.inl ⟨by rfl, ?_⟩) hHeld ?_
      rotate_left
      · intro w hSw
        try dsimp only at hSw
        go_simp
        first | done | with_reducible rfl
      try simp only [Act.put, List.setIfInBounds_toArray, List.set_cons_zero, List.set_cons_succ]
      refine wpAnyH_take (i := 2) (oi := ⟨some 36, _, _, _, _, _⟩) (v := ?_) rfl (by kernel_rfl) (by kernel_rfl) (by kernel_rfl) (fun _ _ _ h => h) (Or.inl ⟨by rfl, ?_⟩) hHeld ?_
      rotate_left
      · intro w hSw
        try dsimp only at hSw
        go_simp
        first | done | with_reducible rfl
      try simp only [Act.put, List.setIfInBounds_toArray, List.set_cons_zero, List.set_cons_succ]
      refine wpAnyH_take (i := 3) (oi := ⟨some 37, _, _, _, _, _⟩) (v := ?_) rfl (by kernel_rfl) (by kernel_rfl) (by kernel_rfl) (fun _ _ _ h => h) (Or.inl ⟨by rfl, ?_⟩) hHeld ?_
      rotate_left
      · intro w hSw
        try dsimp only at hSw
        go_simp
        first | done | with_reducible rfl
      try simp only [Act.put, List.setIfInBounds_toArray, List.set_cons_zero, List.set_cons_succ]
      refine wpAnyH_take (i := 4) (oi := ⟨some 38, _, _, _, _, _⟩) (v := ?_) rfl (by kernel_rfl) (by kernel_rfl) (by kernel_rfl) (fun _ _ _ h => h) (Or.inl ⟨by rfl, ?_⟩) hHeld ?_
      rotate_left
      · intro w hSw
        try dsimp only at hSw
        go_simp
        first | done | with_reducible rfl
      try simp only [Act.put, List.setIfInBounds_toArray, List.set_cons_zero, List.set_cons_succ]
      have hA2 : ∀ B o, a0 = some ⟨B, o, none⟩ → K < len0 → (if cap0 = K then a0 else Option.map (fun x => x.add (K * 6)) a0) = some ⟨B, o + K * 6, none⟩ := fun B o e h => by
        rw [if_neg (by omega), e]
        exact congrArg some (add_plain B o (K * 6))
      have hA3 : (if cap0 = K then a0 else Option.map (fun x => x.add (K * 6)) a0) = none → cap0 - K = 0 := fun e => by
        split at e
        · omega
        · cases a0 with
          | none => have := hnil0 rfl; omega
          | some x => cases e
      have hrD2 := hrD.out _ hA2
      generalize (if cap0 = K then a0 else Option.map (fun x => x.add (K * 6)) a0) = A2 at *
      replace hrD2 := Lib.hid hrD2
      replace hA3 := Lib.hid hA3
      clear hA2 hrD
      generalize W3.drew = wd at *
      have hbwd := Below.refl wd.heap.size wd
      refine wpAnyH_ready (rs := [1, 7]) (by kernel_rfl) (by simp) (AllReadyH.cons (o := ⟨some 35, _, _, _, _, _⟩) rfl (fun K9 hK => ?_) (AllReadyH.cons (o := ⟨some 7, _, _, _, _, _⟩) rfl (fun K9 hK => ?_) AllReadyH.nil))
      · skip
        go_simp
        refine (dnotes_any s1 A1 n1 c1 wd (row_gr hrA.out (gr_of_below hbwd (Nat.le_refl _))) (by have := hn1.out; omega) hnx1.out).mono ?_
        rintro e Wn1 ⟨v1, rfl, hN0, gN⟩
        try (go_wp2_with fail)
        have hNWn1 : Wn1.ownsRow wd.heap.size 32 6 v1 (fewM s1).length (sR nteC (fewM s1)) := own_mono hN0 hbwd.size
        have hbWn1 := below_gr hbwd gN hbwd.size (by simp)
        refine hK.out _ _ ?_ (fun hHeld => ?_)
        · exact hstg.out _ (gr_trans gwd (gr_of_below hbWn1 (Nat.le_refl _)))
        clear hK K9 gN hN0
        try simp only [Act.put, List.setIfInBounds_toArray, List.set_cons_zero, List.set_cons_succ]
        refine wpAnyH_ready (rs := [5, 7]) (by kernel_rfl) (by simp) (AllReadyH.cons (o := ⟨some 39, _, _, _, _, _⟩) rfl (fun K9 hK => ?_) (AllReadyH.cons (o := ⟨some 7, _, _, _, _, _⟩) rfl (fun K9 hK => ?_) AllReadyH.nil))
        · skip
          refine step_append_rowS (by rfl) _ _ 22 (by rfl) wd.heap.size 32 ii (.agg #[.int .i64 0, .int .i64 0, .int .i64 0, .int .i64 0, .int .i64 0, .string ⟨#[]⟩]) 6 56 Try.underlying22 hi hz0 hz1 hz2 rfl (by decide) v1 _ _ rfl hNWn1 A2 (len0 - K) (cap0 - K) (sR nteC (z0.drop K)) rfl hA3.out (row_gr (row_gr hrD2.out gww) (gr_of_below hbWn1 (Nat.le_refl _))) (ntes_ones _) _ _ rfl (sR_append nteC (fewM s1) (z0.drop K)).symm ?_ ?_ hbWn1.size (fun v2 Wp2 hN0 gP => ?_)
          · unfold maxLen; have := hlenF.out; omega
          · have := hlenF.out; omega
          have hbWp2 := hbWn1.grown gP hbWn1.size (fun k hk => (hNWn1.lt k hk).1)
          obtain ⟨A4, c4, rfl, _, _, _⟩ := own_sliceS hN0
          have hNWp2 := hN0
          refine hK.out _ _ ?_ (fun hHeld => ?_)
          · exact hstg.out _ (gr_trans gwd (gr_of_below hbWp2 (Nat.le_refl _)))
          clear hK K9 gP hN0
          try simp only [Act.put, List.setIfInBounds_toArray, List.set_cons_zero, List.set_cons_succ]
          refine wpAnyH_ready (rs := [6, 7]) (by kernel_rfl) (by simp) (AllReadyH.cons (o := ⟨some 40, _, _, _, _, _⟩) rfl (fun K9 hK => ?_) (AllReadyH.cons (o := ⟨some 7, _, _, _, _, _⟩) rfl (fun K9 hK => ?_) AllReadyH.nil))
          · skip
            go_simp
            refine (dFold_any A4 _ c4 (fewM s1 ++ z0.drop K) Wp2 (row_own hNWp2) (by have := hlenF.out; omega)).mono ?_
            rw [hfin.out]
            rintro e Wf3 ⟨⟨A5, n5, c5, rfl, hO0⟩, gF⟩
            try (go_wp2_with fail)
            have hOWf3 : Wf3.ownsRow wd.heap.size 30 5 (.slice A5 n5 c5) n5 (sR curC (foldN z0).op) := own_mono hO0 hbWp2.size
            have hbWf3 := below_gr hbWp2 gF hbWp2.size (by simp)
            refine hK.out _ _ ?_ (fun hHeld => ?_)
            · exact hstg.out _ (gr_trans gwd (gr_of_below hbWf3 (Nat.le_refl _)))
            clear hK K9 gF hO0
            try simp only [Act.put, List.setIfInBounds_toArray, List.set_cons_zero, List.set_cons_succ]
            refine wpAnyH_ready (rs := [7]) (by kernel_rfl) (by simp) (AllReadyH.cons (o := ⟨some 7, _, _, _, _, _⟩) rfl (fun K9 hK => ?_) AllReadyH.nil)
            go_simp
            have hgA := gr_alloc Wf3 (.cells #[.int .i64 0, .int .i64 0, .slice none 0 0, .string ⟨#[]⟩, .int .i64 0] 43) none
            have hnA : (Wf3.alloc (.cells #[.int .i64 0, .int .i64 0, .slice none 0 0, .string ⟨#[]⟩, .int .i64 0] 43)).heap[Wf3.heap.size]? = some (.cells stZ 43) := blk_new Wf3 _
            have hbWa4 := below_gr hbWf3 hgA hbWf3.size (by simp)
            have hOWa4 := hOWf3.kept hgA (Classical.em _)
            refine hK.out _ _ ?_ (fun hHeld => ?_)
            · exact hstg.out _ (gr_trans gwd (gr_of_below hbWa4 (Nat.le_refl _)))
            clear hK K9 hgA
            try simp only [Act.put, List.setIfInBounds_toArray, List.set_cons_zero, List.set_cons_succ]
            generalize Wf3.alloc (.cells #[.int .i64 0, .int .i64 0, .slice none 0 0, .string ⟨#[]⟩, .int .i64 0] 43) = Wa4 at *
            generalize hb7 : Wf3.heap.size = b7 at hnA ⊢
            have hle7 : wd.heap.size ≤ b7 := by rw [← hb7]; exact hbWf3.size
            have hRWa4 := hnA
            clear hnA
            refine wpAnyH_ready (rs := [8]) (by kernel_rfl) (by simp) (AllReadyH.cons (o := ⟨none, _, _, _, _, _⟩) rfl (fun K9 hK => ?_) AllReadyH.nil)
            have hth := st_there hRWa4 rfl
            have hsame := World.rangeAt_setCells_same Wa4 b7 0 [.int .i64 (foldN z0).next, .int .i64 (foldN z0).now, .slice A5 n5 c5, .string (txt (foldN z0).seg), .int .i64 (foldN z0).pts] hth
            have hgs := gr_setCells Wa4 b7 0 [.int .i64 (foldN z0).next, .int .i64 (foldN z0).now, .slice A5 n5 c5, .string (txt (foldN z0).seg), .int .i64 (foldN z0).pts]
            have r0 := hsame 0 _ rfl
            have r1 := hsame 1 _ rfl
            have r2 := hsame 2 _ rfl
            have r3 := hsame 3 _ rfl
            have r4 := hsame 4 _ rfl
            simp only [Nat.zero_add] at r0 r1 r2 r3 r4
            have hap := own_apart hOWa4 hRWa4 (by decide)
            have hOF := hOWa4.kept hgs (.inr hap)
            have hbF := hbWa4.grown hgs hbWa4.size (fun k hk => by cases hk; exact hle7)
            refine step_store_mid (by rfl) 43 _ _ (by rfl) b7 0 #[.int .i64 (foldN z0).next, .int .i64 (foldN z0).now, .slice A5 n5 c5, .string (txt (foldN z0).seg), .int .i64 (foldN z0).pts] (by rfl) (by rfl) hth infoSt (by simp [Value.oneCell']) ?_
            refine hK.out _ _ ?_ (fun hHeld => ?_)
            · exact hstg.out _ (gr_trans gwd (gr_of_below hbF (Nat.le_refl _)))
            clear hK K9
            try simp only [Act.put, List.setIfInBounds_toArray, List.set_cons_zero, List.set_cons_succ]
            refine wpAnyH_done (by kernel_rfl) ?_ _
            go_wp2_with fail
            go_meet
            exact ⟨b7, A5, n5, c5, rfl, ⟨r0, r1, r2, r3, r4⟩, own_mono hOF (Nat.le_trans g3.out.size gwd.size), gr_trans gwd (gr_of_below hbF (Nat.le_refl _))⟩
          · skip
            go_simp
            have hgA := gr_alloc Wp2 (.cells #[.int .i64 0, .int .i64 0, .slice none 0 0, .string ⟨#[]⟩, .int .i64 0] 43) none
            have hnA : (Wp2.alloc (.cells #[.int .i64 0, .int .i64 0, .slice none 0 0, .string ⟨#[]⟩, .int .i64 0] 43)).heap[Wp2.heap.size]? = some (.cells stZ 43) := blk_new Wp2 _
            have hbWa6 := below_gr hbWp2 hgA hbWp2.size (by simp)
            have hNWa6 := hNWp2.kept hgA (Classical.em _)
            refine hK.out _ _ ?_ (fun hHeld => ?_)
            · exact hstg.out _ (gr_trans gwd (gr_of_below hbWa6 (Nat.le_refl _)))
            clear hK K9 hgA
            try simp only [Act.put, List.setIfInBounds_toArray, List.set_cons_zero, List.set_cons_succ]
            generalize Wp2.alloc (.cells #[.int .i64 0, .int .i64 0, .slice none 0 0, .string ⟨#[]⟩, .int .i64 0] 43) = Wa6 at *
            generalize hb7 : Wp2.heap.size = b7 at hnA ⊢
            have hle7 : wd.heap.size ≤ b7 := by rw [← hb7]; exact hbWp2.size
            have hRWa6 := hnA
            clear hnA
            refine wpAnyH_ready (rs := [6]) (by kernel_rfl) (by simp) (AllReadyH.cons (o := ⟨some 40, _, _, _, _, _⟩) rfl (fun K9 hK => ?_) AllReadyH.nil)
            go_simp
            refine (dFold_any A4 _ c4 (fewM s1 ++ z0.drop K) Wa6 (row_own hNWa6) (by have := hlenF.out; omega)).mono ?_
            rw [hfin.out]
            rintro e Wf7 ⟨⟨A5, n5, c5, rfl, hO0⟩, gF⟩
            try (go_wp2_with fail)
            have hOWf7 : Wf7.ownsRow wd.heap.size 30 5 (.slice A5 n5 c5) n5 (sR curC (foldN z0).op) := own_mono hO0 hbWa6.size
            have hbWf7 := below_gr hbWa6 gF hbWa6.size (by simp)
            have hRWf7 := gr_blk gF hRWa6 (by simp)
            refine hK.out _ _ ?_ (fun hHeld => ?_)
            · exact hstg.out _ (gr_trans gwd (gr_of_below hbWf7 (Nat.le_refl _)))
            clear hK K9 gF hO0
            try simp only [Act.put, List.setIfInBounds_toArray, List.set_cons_zero, List.set_cons_succ]
            refine wpAnyH_ready (rs := [8]) (by kernel_rfl) (by simp) (AllReadyH.cons (o := ⟨none, _, _, _, _, _⟩) rfl (fun K9 hK => ?_) AllReadyH.nil)
            have hth := st_there hRWf7 rfl
            have hsame := World.rangeAt_setCells_same Wf7 b7 0 [.int .i64 (foldN z0).next, .int .i64 (foldN z0).now, .slice A5 n5 c5, .string (txt (foldN z0).seg), .int .i64 (foldN z0).pts] hth
            have hgs := gr_setCells Wf7 b7 0 [.int .i64 (foldN z0).next, .int .i64 (foldN z0).now, .slice A5 n5 c5, .string (txt (foldN z0).seg), .int .i64 (foldN z0).pts]
            have r0 := hsame 0 _ rfl
            have r1 := hsame 1 _ rfl
            have r2 := hsame 2 _ rfl
            have r3 := hsame 3 _ rfl
            have r4 := hsame 4 _ rfl
            simp only [Nat.zero_add] at r0 r1 r2 r3 r4
            have hap := own_apart hOWf7 hRWf7 (by decide)
            have hOF := hOWf7.kept hgs (.inr hap)
            have hbF := hbWf7.grown hgs hbWf7.size (fun k hk => by cases hk; exact hle7)
            refine step_store_mid (by rfl) 43 _ _ (by rfl) b7 0 #[.int .i64 (foldN z0).next, .int .i64 (foldN z0).now, .slice A5 n5 c5, .string (txt (foldN z0).seg), .int .i64 (foldN z0).pts] (by rfl) (by rfl) hth infoSt (by simp [Value.oneCell']) ?_
            refine hK.out _ _ ?_ (fun hHeld => ?_)
            · exact hstg.out _ (gr_trans gwd (gr_of_below hbF (Nat.le_refl _)))
            clear hK K9
            try simp only [Act.put, List.setIfInBounds_toArray, List.set_cons_zero, List.set_cons_succ]
            refine wpAnyH_done (by kernel_rfl) ?_ _
            go_wp2_with fail
            go_meet
            exact ⟨b7, A5, n5, c5, rfl, ⟨r0, r1, r2, r3, r4⟩, own_mono hOF (Nat.le_trans g3.out.size gwd.size), gr_trans gwd (gr_of_below hbF (Nat.le_refl _))⟩
        · skip
          go_simp
          have hgA := gr_alloc Wn1 (.cells #[.int .i64 0, .int .i64 0, .slice none 0 0, .string ⟨#[]⟩, .int .i64 0] 43) none
          have hnA : (Wn1.alloc (.cells #[.int .i64 0, .int .i64 0, .slice none 0 0, .string ⟨#[]⟩, .int .i64 0] 43)).heap[Wn1.heap.size]? = some (.cells stZ 43) := blk_new Wn1 _
          have hbWa9 := below_gr hbWn1 hgA hbWn1.size (by simp)
          have hNWa9 := hNWn1.kept hgA (Classical.em _)
          refine hK.out _ _ ?_ (fun hHeld => ?_)
          · exact hstg.out _ (gr_trans gwd (gr_of_below hbWa9 (Nat.le_refl _)))
          clear hK K9 hgA
          try simp only [Act.put, List.setIfInBounds_toArray, List.set_cons_zero, List.set_cons_succ]
          generalize Wn1.alloc (.cells #[.int .i64 0, .int .i64 0, .slice none 0 0, .string ⟨#[]⟩, .int .i64 0] 43) = Wa9 at *
          generalize hb7 : Wn1.heap.size = b7 at hnA ⊢
          have hle7 : wd.heap.size ≤ b7 := by rw [← hb7]; exact hbWn1.size
          have hRWa9 := hnA
          clear hnA
          refine wpAnyH_ready (rs := [5]) (by kernel_rfl) (by simp) (AllReadyH.cons (o := ⟨some 39, _, _, _, _, _⟩) rfl (fun K9 hK => ?_) AllReadyH.nil)
          refine step_append_rowS (by rfl) _ _ 22 (by rfl) wd.heap.size 32 ii (.agg #[.int .i64 0, .int .i64 0, .int .i64 0, .int .i64 0, .int .i64 0, .string ⟨#[]⟩]) 6 56 Try.underlying22 hi hz0 hz1 hz2 rfl (by decide) v1 _ _ rfl hNWa9 A2 (len0 - K) (cap0 - K) (sR nteC (z0.drop K)) rfl hA3.out (row_gr (row_gr hrD2.out gww) (gr_of_below hbWa9 (Nat.le_refl _))) (ntes_ones _) _ _ rfl (sR_append nteC (fewM s1) (z0.drop K)).symm ?_ ?_ hbWa9.size (fun v2 Wp10 hN0 gP => ?_)
          · unfold maxLen; have := hlenF.out; omega
          · have := hlenF.out; omega
          have hbWp10 := hbWa9.grown gP hbWa9.size (fun k hk => (hNWa9.lt k hk).1)
          obtain ⟨A4, c4, rfl, _, _, _⟩ := own_sliceS hN0
          have hNWp10 := hN0
          have hRWp10 := gr_blk gP hRWa9 (fun e => own_apart hNWa9 hRWa9 (by decide) e.symm)
          refine hK.out _ _ ?_ (fun hHeld => ?_)
          · exact hstg.out _ (gr_trans gwd (gr_of_below hbWp10 (Nat.le_refl _)))
          clear hK K9 gP hN0
          try simp only [Act.put, List.setIfInBounds_toArray, List.set_cons_zero, List.set_cons_succ]
          refine wpAnyH_ready (rs := [6]) (by kernel_rfl) (by simp) (AllReadyH.cons (o := ⟨some 40, _, _, _, _, _⟩) rfl (fun K9 hK => ?_) AllReadyH.nil)
          go_simp
          refine (dFold_any A4 _ c4 (fewM s1 ++ z0.drop K) Wp10 (row_own hNWp10) (by have := hlenF.out; omega)).mono ?_
          rw [hfin.out]
          rintro e Wf11 ⟨⟨A5, n5, c5, rfl, hO0⟩, gF⟩
          try (go_wp2_with fail)
          have hOWf11 : Wf11.ownsRow wd.heap.size 30 5 (.slice A5 n5 c5) n5 (sR curC (foldN z0).op) := own_mono hO0 hbWp10.size
          have hbWf11 := below_gr hbWp10 gF hbWp10.size (by simp)
          have hRWf11 := gr_blk gF hRWp10 (by simp)
          refine hK.out _ _ ?_ (fun hHeld => ?_)
          · exact hstg.out _ (gr_trans gwd (gr_of_below hbWf11 (Nat.le_refl _)))
          clear hK K9 gF hO0
          try simp only [Act.put, List.setIfInBounds_toArray, List.set_cons_zero, List.set_cons_succ]
          refine wpAnyH_ready (rs := [8]) (by kernel_rfl) (by simp) (AllReadyH.cons (o := ⟨none, _, _, _, _, _⟩) rfl (fun K9 hK => ?_) AllReadyH.nil)
          have hth := st_there hRWf11 rfl
          have hsame := World.rangeAt_setCells_same Wf11 b7 0 [.int .i64 (foldN z0).next, .int .i64 (foldN z0).now, .slice A5 n5 c5, .string (txt (foldN z0).seg), .int .i64 (foldN z0).pts] hth
          have hgs := gr_setCells Wf11 b7 0 [.int .i64 (foldN z0).next, .int .i64 (foldN z0).now, .slice A5 n5 c5, .string (txt (foldN z0).seg), .int .i64 (foldN z0).pts]
          have r0 := hsame 0 _ rfl
          have r1 := hsame 1 _ rfl
          have r2 := hsame 2 _ rfl
          have r3 := hsame 3 _ rfl
          have r4 := hsame 4 _ rfl
          simp only [Nat.zero_add] at r0 r1 r2 r3 r4
          have hap := own_apart hOWf11 hRWf11 (by decide)
          have hOF := hOWf11.kept hgs (.inr hap)
          have hbF := hbWf11.grown hgs hbWf11.size (fun k hk => by cases hk; exact hle7)
          refine step_store_mid (by rfl) 43 _ _ (by rfl) b7 0 #[.int .i64 (foldN z0).next, .int .i64 (foldN z0).now, .slice A5 n5 c5, .string (txt (foldN z0).seg), .int .i64 (foldN z0).pts] (by rfl) (by rfl) hth infoSt (by simp [Value.oneCell']) ?_
          refine hK.out _ _ ?_ (fun hHeld => ?_)
          · exact hstg.out _ (gr_trans gwd (gr_of_below hbF (Nat.le_refl _)))
          clear hK K9
          try simp only [Act.put, List.setIfInBounds_toArray, List.set_cons_zero, List.set_cons_succ]
          refine wpAnyH_done (by kernel_rfl) ?_ _
          go_wp2_with fail
          go_meet
          exact ⟨b7, A5, n5, c5, rfl, ⟨r0, r1, r2, r3, r4⟩, own_mono hOF (Nat.le_trans g3.out.size gwd.size), gr_trans gwd (gr_of_below hbF (Nat.le_refl _))⟩
      · skip
        go_simp
        have hgA := gr_alloc wd (.cells #[.int .i64 0, .int .i64 0, .slice none 0 0, .string ⟨#[]⟩, .int .i64 0] 43) none
        have hnA : (wd.alloc (.cells #[.int .i64 0, .int .i64 0, .slice none 0 0, .string ⟨#[]⟩, .int .i64 0] 43)).heap[wd.heap.size]? = some (.cells stZ 43) := blk_new wd _
        have hbWa13 := below_gr hbwd hgA hbwd.size (by simp)
        refine hK.out _ _ ?_ (fun hHeld => ?_)
        · exact hstg.out _ (gr_trans gwd (gr_of_below hbWa13 (Nat.le_refl _)))
        clear hK K9 hgA
        try simp only [Act.put, List.setIfInBounds_toArray, List.set_cons_zero, List.set_cons_succ]
        generalize wd.alloc (.cells #[.int .i64 0, .int .i64 0, .slice none 0 0, .string ⟨#[]⟩, .int .i64 0] 43) = Wa13 at *
        generalize hb7 : wd.heap.size = b7 at hnA ⊢
        have hle7 : wd.heap.size ≤ b7 := by rw [← hb7]; exact hbwd.size
        have hRWa13 := hnA
        clear hnA
        refine wpAnyH_ready (rs := [1]) (by kernel_rfl) (by simp) (AllReadyH.cons (o := ⟨some 35, _, _, _, _, _⟩) rfl (fun K9 hK => ?_) AllReadyH.nil)
        go_simp
        refine (dnotes_any s1 A1 n1 c1 Wa13 (row_gr hrA.out (gr_of_below hbWa13 (Nat.le_refl _))) (by have := hn1.out; omega) hnx1.out).mono ?_
        rintro e Wn14 ⟨v1, rfl, hN0, gN⟩
        try (go_wp2_with fail)
        have hNWn14 : Wn14.ownsRow wd.heap.size 32 6 v1 (fewM s1).length (sR nteC (fewM s1)) := own_mono hN0 hbWa13.size
        have hbWn14 := below_gr hbWa13 gN hbWa13.size (by simp)
        have hRWn14 := gr_blk gN hRWa13 (by simp)
        refine hK.out _ _ ?_ (fun hHeld => ?_)
        · exact hstg.out _ (gr_trans gwd (gr_of_below hbWn14 (Nat.le_refl _)))
        clear hK K9 gN hN0
        try simp only [Act.put, List.setIfInBounds_toArray, List.set_cons_zero, List.set_cons_succ]
        refine wpAnyH_ready (rs := [5]) (by kernel_rfl) (by simp) (AllReadyH.cons (o := ⟨some 39, _, _, _, _, _⟩) rfl (fun K9 hK => ?_) AllReadyH.nil)
        refine step_append_rowS (by rfl) _ _ 22 (by rfl) wd.heap.size 32 ii (.agg #[.int .i64 0, .int .i64 0, .int .i64 0, .int .i64 0, .int .i64 0, .string ⟨#[]⟩]) 6 56 Try.underlying22 hi hz0 hz1 hz2 rfl (by decide) v1 _ _ rfl hNWn14 A2 (len0 - K) (cap0 - K) (sR nteC (z0.drop K)) rfl hA3.out (row_gr (row_gr hrD2.out gww) (gr_of_below hbWn14 (Nat.le_refl _))) (ntes_ones _) _ _ rfl (sR_append nteC (fewM s1) (z0.drop K)).symm ?_ ?_ hbWn14.size (fun v2 Wp15 hN0 gP => ?_)
        · unfold maxLen; have := hlenF.out; omega
        · have := hlenF.out; omega
        have hbWp15 := hbWn14.grown gP hbWn14.size (fun k hk => (hNWn14.lt k hk).1)
        obtain ⟨A4, c4, rfl, _, _, _⟩ := own_sliceS hN0
        have hNWp15 := hN0
        have hRWp15 := gr_blk gP hRWn14 (fun e => own_apart hNWn14 hRWn14 (by decide) e.symm)
        refine hK.out _ _ ?_ (fun hHeld => ?_)
        · exact hstg.out _ (gr_trans gwd (gr_of_below hbWp15 (Nat.le_refl _)))
        clear hK K9 gP hN0
        try simp only [Act.put, List.setIfInBounds_toArray, List.set_cons_zero, List.set_cons_succ]
        refine wpAnyH_ready (rs := [6]) (by kernel_rfl) (by simp) (AllReadyH.cons (o := ⟨some 40, _, _, _, _, _⟩) rfl (fun K9 hK => ?_) AllReadyH.nil)
        go_simp
        refine (dFold_any A4 _ c4 (fewM s1 ++ z0.drop K) Wp15 (row_own hNWp15) (by have := hlenF.out; omega)).mono ?_
        rw [hfin.out]
        rintro e Wf16 ⟨⟨A5, n5, c5, rfl, hO0⟩, gF⟩
        try (go_wp2_with fail)
        have hOWf16 : Wf16.ownsRow wd.heap.size 30 5 (.slice A5 n5 c5) n5 (sR curC (foldN z0).op) := own_mono hO0 hbWp15.size
        have hbWf16 := below_gr hbWp15 gF hbWp15.size (by simp)
        have hRWf16 := gr_blk gF hRWp15 (by simp)
        refine hK.out _ _ ?_ (fun hHeld => ?_)
        · exact hstg.out _ (gr_trans gwd (gr_of_below hbWf16 (Nat.le_refl _)))
        clear hK K9 gF hO0
        try simp only [Act.put, List.setIfInBounds_toArray, List.set_cons_zero, List.set_cons_succ]
        refine wpAnyH_ready (rs := [8]) (by kernel_rfl) (by simp) (AllReadyH.cons (o := ⟨none, _, _, _, _, _⟩) rfl (fun K9 hK => ?_) AllReadyH.nil)
        have hth := st_there hRWf16 rfl
        have hsame := World.rangeAt_setCells_same Wf16 b7 0 [.int .i64 (foldN z0).next, .int .i64 (foldN z0).now, .slice A5 n5 c5, .string (txt (foldN z0).seg), .int .i64 (foldN z0).pts] hth
        have hgs := gr_setCells Wf16 b7 0 [.int .i64 (foldN z0).next, .int .i64 (foldN z0).now, .slice A5 n5 c5, .string (txt (foldN z0).seg), .int .i64 (foldN z0).pts]
        have r0 := hsame 0 _ rfl
        have r1 := hsame 1 _ rfl
        have r2 := hsame 2 _ rfl
        have r3 := hsame 3 _ rfl
        have r4 := hsame 4 _ rfl
        simp only [Nat.zero_add] at r0 r1 r2 r3 r4
        have hap := own_apart hOWf16 hRWf16 (by decide)
        have hOF := hOWf16.kept hgs (.inr hap)
        have hbF := hbWf16.grown hgs hbWf16.size (fun k hk => by cases hk; exact hle7)
        refine step_store_mid (by rfl) 43 _ _ (by rfl) b7 0 #[.int .i64 (foldN z0).next, .int .i64 (foldN z0).now, .slice A5 n5 c5, .string (txt (foldN z0).seg), .int .i64 (foldN z0).pts] (by rfl) (by rfl) hth infoSt (by simp [Value.oneCell']) ?_
        refine hK.out _ _ ?_ (fun hHeld => ?_)
        · exact hstg.out _ (gr_trans gwd (gr_of_below hbF (Nat.le_refl _)))
        clear hK K9
        try simp only [Act.put, List.setIfInBounds_toArray, List.set_cons_zero, List.set_cons_succ]
        refine wpAnyH_done (by kernel_rfl) ?_ _
        go_wp2_with fail
        go_meet
        exact ⟨b7, A5, n5, c5, rfl, ⟨r0, r1, r2, r3, r4⟩, own_mono hOF (Nat.le_trans g3.out.size gwd.size), gr_trans gwd (gr_of_below hbF (Nat.le_refl _))⟩
    case rest =>
    obtain ⟨b7, A5, n5, c5, rfl, hcb, hOb, gb⟩ := hcut
    have hrw : Row wc a0 len0 6 (sR nteC z0) := row_gr (row_gr hr0.out (gr_trans G2.out g3.out)) gb.out
    replace hrw := Lib.hid hrw
    have hcw := hcb.out
    replace hcw := Lib.hid hcw
    go_wp2_with fail
    refine (dFold_any a0 len0 cap0 z0 wc hrw.out (by omega)).mono ?_
    rintro e W6 ⟨⟨A6, n6, c6, rfl, hoC⟩, g6⟩
    go_upto_region 7 with fail
    obtain ⟨W7, hW7⟩ : ∃ W7, W7 = W6.alloc (.cells #[.int .i64 (foldN z0).next, .int .i64 (foldN z0).now, .slice A6 n6 c6, .string (txt (foldN z0).seg), .int .i64 (foldN z0).pts] 43) := ⟨_, rfl⟩
    rw [← hW7]
    have hn56 : n5 = n6 := by
      have h1 := hOb.out.1
      have h2 := hoC.1
      rw [h1] at h2
      omega
    subst hn56
    have hn5 : n5 ≤ 60 := by
      have h1 := hOb.out.1
      rw [sR_len curC 5 curC_len] at h1
      have h2 := foldN_len z0
      have := hl0.out
      omega
    have g7 : Gr W6 W7 := by rw [hW7]; exact gr_alloc _ _ _
    have hnew : ∀ j v, (#[.int .i64 (foldN z0).next, .int .i64 (foldN z0).now, .slice A6 n5 c6, .string (txt (foldN z0).seg), .int .i64 (foldN z0).pts] : Array Value)[j]? = some v → W7.cell? ⟨W6.heap.size, j, none⟩ = some v := fun j v hj => by rw [hW7, World.cell?_alloc_new]; exact hj
    have q0 := hnew 0 _ rfl
    have q1 := hnew 1 _ rfl
    have q2 := hnew 2 _ rfl
    have q3 := hnew 3 _ rfl
    have q4 := hnew 4 _ rfl
    have g67 := gr_trans g6 g7
    have hB7 := hcb.out
    have hst7 := hstg.out wc gb.out
    have hrB : Row W7 A5 n5 5 (sR curC (foldN z0).op) := row_gr (row_own hOb.out) g67
    have hrC : Row W7 A6 n5 5 (sR curC (foldN z0).op) := row_gr (row_own hoC) g7
    have hup1 : s1.next ≤ (foldN z0).next ∧ s1.now ≤ (foldN z0).now ∧ 1 ≤ s1.next := by
      rw [hs1.out]
      have h1 := folds_up (z0.drop K) (foldN (z0.take K))
      have h2 : (z0.drop K).foldl foldM (foldN (z0.take K)) = foldN z0 := by unfold foldN; rw [← List.foldl_append, List.take_append_drop]
      rw [h2] at h1
      exact ⟨h1.1, h1.2, (foldN_inv _).nx.1⟩
    have GG : Gr w W7 := gr_trans (gr_trans (gr_trans G2.out g3.out) gb.out) g67
    obtain ⟨hu1, hu2, hu3⟩ := hup1
    generalize foldN z0 = sc at *
    obtain ⟨nx, now, op, seg, pts⟩ := sc
    simp only at q0 q1 q2 q3 q4 hB7 hrB hrC hu1 hu2
    have hS7 : W7.cell? ⟨W2.heap.size, 0, none⟩ = some (.int .i64 s1.next) ∧ W7.cell? ⟨W2.heap.size, 1, none⟩ = some (.int .i64 s1.now) ∧ W7.cell? ⟨b7, 0, none⟩ = some (.int .i64 nx) ∧ W7.cell? ⟨b7, 1, none⟩ = some (.int .i64 now) ∧ W7.cell? ⟨b7, 2, none⟩ = some (.slice A5 n5 c5) ∧ W7.cell? ⟨b7, 3, none⟩ = some (.string (txt seg)) ∧ W7.cell? ⟨b7, 4, none⟩ = some (.int .i64 pts) ∧ W7.cell? ⟨W6.heap.size, 0, none⟩ = some (.int .i64 nx) ∧ W7.cell? ⟨W6.heap.size, 1, none⟩ = some (.int .i64 now) ∧ W7.cell? ⟨W6.heap.size, 2, none⟩ = some (.slice A6 n5 c6) ∧ W7.cell? ⟨W6.heap.size, 3, none⟩ = some (.string (txt seg)) ∧ W7.cell? ⟨W6.heap.size, 4, none⟩ = some (.int .i64 pts) := ⟨gr_cell g67 hst7.1, gr_cell g67 hst7.2.1, gr_cell g67 hB7.1, gr_cell g67 hB7.2.1, gr_cell g67 hB7.2.2.1, gr_cell g67 hB7.2.2.2.1, gr_cell g67 hB7.2.2.2.2, q0, q1, q2, q3, q4⟩
    have hup : ∀ w1 w', Gr w1 w' → (Gr W7 w1 ∧ w1.cell? ⟨W2.heap.size, 0, none⟩ = some (.int .i64 s1.next) ∧ w1.cell? ⟨W2.heap.size, 1, none⟩ = some (.int .i64 s1.now) ∧ w1.cell? ⟨b7, 0, none⟩ = some (.int .i64 nx) ∧ w1.cell? ⟨b7, 1, none⟩ = some (.int .i64 now) ∧ w1.cell? ⟨b7, 2, none⟩ = some (.slice A5 n5 c5) ∧ w1.cell? ⟨b7, 3, none⟩ = some (.string (txt seg)) ∧ w1.cell? ⟨b7, 4, none⟩ = some (.int .i64 pts) ∧ w1.cell? ⟨W6.heap.size, 0, none⟩ = some (.int .i64 nx) ∧ w1.cell? ⟨W6.heap.size, 1, none⟩ = some (.int .i64 now) ∧ w1.cell? ⟨W6.heap.size, 2, none⟩ = some (.slice A6 n5 c6) ∧ w1.cell? ⟨W6.heap.size, 3, none⟩ = some (.string (txt seg)) ∧ w1.cell? ⟨W6.heap.size, 4, none⟩ = some (.int .i64 pts)) → (Gr W7 w' ∧ w'.cell? ⟨W2.heap.size, 0, none⟩ = some (.int .i64 s1.next) ∧ w'.cell? ⟨W2.heap.size, 1, none⟩ = some (.int .i64 s1.now) ∧ w'.cell? ⟨b7, 0, none⟩ = some (.int .i64 nx) ∧ w'.cell? ⟨b7, 1, none⟩ = some (.int .i64 now) ∧ w'.cell? ⟨b7, 2, none⟩ = some (.slice A5 n5 c5) ∧ w'.cell? ⟨b7, 3, none⟩ = some (.string (txt seg)) ∧ w'.cell? ⟨b7, 4, none⟩ = some (.int .i64 pts) ∧ w'.cell? ⟨W6.heap.size, 0, none⟩ = some (.int .i64 nx) ∧ w'.cell? ⟨W6.heap.size, 1, none⟩ = some (.int .i64 now) ∧ w'.cell? ⟨W6.heap.size, 2, none⟩ = some (.slice A6 n5 c6) ∧ w'.cell? ⟨W6.heap.size, 3, none⟩ = some (.string (txt seg)) ∧ w'.cell? ⟨W6.heap.size, 4, none⟩ = some (.int .i64 pts)) := fun w1 w' g h => ⟨gr_trans h.1 g, gr_cell g h.2.1, gr_cell g h.2.2.1, gr_cell g h.2.2.2.1, gr_cell g h.2.2.2.2.1, gr_cell g h.2.2.2.2.2.1, gr_cell g h.2.2.2.2.2.2.1, gr_cell g h.2.2.2.2.2.2.2.1, gr_cell g h.2.2.2.2.2.2.2.2.1, gr_cell g h.2.2.2.2.2.2.2.2.2.1, gr_cell g h.2.2.2.2.2.2.2.2.2.2.1, gr_cell g h.2.2.2.2.2.2.2.2.2.2.2.1, gr_cell g h.2.2.2.2.2.2.2.2.2.2.2.2⟩
    have hrBg : ∀ w', Gr W7 w' → Row w' A5 n5 5 (sR curC op) := fun w' g => row_gr hrB g
    have hrCg : ∀ w', Gr W7 w' → Row w' A6 n5 5 (sR curC op) := fun w' g => row_gr hrC g
    replace hup := Lib.hid hup
    replace hS7 := Lib.hid hS7
    replace hrBg := Lib.hid hrBg
    replace hrCg := Lib.hid hrCg
    replace GG := Lib.hid GG
    clear hrB hrC hB7 hst7 hnew q0 q1 q2 q3 q4 g67 g7 hW7 g6 hoC hcb hOb gb hrw hcw hoA g3 hstg hz3 G2 hs1
    go_region_held3 (fun w' => Gr W7 w' ∧ w'.cell? ⟨W2.heap.size, 0, none⟩ = some (.int .i64 s1.next) ∧ w'.cell? ⟨W2.heap.size, 1, none⟩ = some (.int .i64 s1.now) ∧ w'.cell? ⟨b7, 0, none⟩ = some (.int .i64 nx) ∧ w'.cell? ⟨b7, 1, none⟩ = some (.int .i64 now) ∧ w'.cell? ⟨b7, 2, none⟩ = some (.slice A5 n5 c5) ∧ w'.cell? ⟨b7, 3, none⟩ = some (.string (txt seg)) ∧ w'.cell? ⟨b7, 4, none⟩ = some (.int .i64 pts) ∧ w'.cell? ⟨W6.heap.size, 0, none⟩ = some (.int .i64 nx) ∧ w'.cell? ⟨W6.heap.size, 1, none⟩ = some (.int .i64 now) ∧ w'.cell? ⟨W6.heap.size, 2, none⟩ = some (.slice A6 n5 c6) ∧ w'.cell? ⟨W6.heap.size, 3, none⟩ = some (.string (txt seg)) ∧ w'.cell? ⟨W6.heap.size, 4, none⟩ = some (.int .i64 pts)) (first | exact hup.out _ _ (gr_drew W7 none) ⟨gr_refl _ _, hS7.out⟩ | exact hup.out _ _ gP (by assumption)) (first | (go_at_call 14; refine (plain_any _ _ _ _ _ _ _ _).mono ?_; rintro e wP ⟨rfl, gP⟩) | (go_at_call 15; refine (same_yes nx now A5 A6 n5 c5 c6 seg pts op _ (by omega) (hrBg.out _ (gr_trans (gr_drew W7 none) (gr_trans (by assumption) gP))) (hrCg.out _ (gr_trans (gr_drew W7 none) (gr_trans (by assumption) gP)))).mono ?_; rintro e wP ⟨rfl, gP⟩))
    all_goals
      go_wp2
      go_ret
      exact ⟨rfl, gr_below (gr_trans GG.out (gr_trans (gr_drew W7 none) (gr_trans (by assumption) (gr_trans (by assumption) gP))))⟩


set_option maxRecDepth 100000 in
theorem lifted (os : Os) (started : os.Started) (H : Type) (enc : TypeId × Value → H) :
    ReturnsInHanded {} Try.checked os 5 .any (Rows.diaryFoldsSpec.pre6 enc Try.prog Try.f5 Rows.diaryFoldsRow.domain false) (Rows.diaryFoldsSpec.post enc Try.prog Try.f5 false true false false) := by
  refine returnsInHanded_of_change (C := Try.checked) own started (by kernel_rfl) Try.func5
    (ChangeSpec.witness6 (enc := enc) (C := Try.checked) false ⟨#[], #[.slice none 0 0, .int .i64 0], []⟩ 8 (by kernel_rfl) (by kernel_rfl) (by kernel_rfl) (by kernel_rfl)) ?_
  intro W base args ds gs before hval0 hW hcnd _
  have hval : ∀ (j : Nat) t v, Try.f5.params[j]? = some t → args[j]? = some v → Value.okWide Try.prog W .any base t v := hval0
  have hW' := hW
  obtain ⟨p, q, hA0, hV, rfl, hfz, hnd⟩ := hW
  have hA : DataW.TrodAll enc Try.prog W 0 (fun _ => true) true Try.f5.params.toList args.toList ds p := hA0
  rw [Try.params5] at hA hval
  obtain ⟨v0, vs0, d0, ds0, p0, q0, hargs, rfl, rfl, h0, r0⟩ := trodAll_cons hA
  obtain ⟨v1, vs1, d1, ds1, p1, q1, rfl, rfl, rfl, h1, r1⟩ := trodAll_cons r0
  obtain ⟨rfl, rfl, rfl⟩ := trodAll_nil r1
  obtain rfl : args = #[v0, v1] := by cases args; simp_all
  obtain ⟨rfl, rfl⟩ := trodVars_none hV
  obtain ⟨a0, len0, cap0, rfl⟩ := okWide_slice Try.underlying22 (hval 0 22 v0 rfl rfl)
  have k0 := h0
  have lt0 : ∀ x ∈ p0, x.block < W.heap.size := by obtain ⟨m, hm⟩ := k0; exact DataW.trod_lt m _ _ _ hm
  obtain ⟨z0, w0⟩ := ntes_open h0
  obtain ⟨a1, rfl, rfl, rfl, w1⟩ := open_int Try.underlying3 (hval 1 3 v1 rfl rfl) h1
  clear hA0 hval0
  refine (walk W a0 len0 cap0 z0 w0 a1 w1).mono fun e W' ⟨he, bel⟩ => ?_
  subst he
  exact ⟨_, rfl, _, _, _, [], _, [], hW', trodAll_mk1 (shut_bool Try.underlying4 _), (trodAll_cons_mk (Below.trod laidOut (by kernel_rfl) (of_decide_eq_true (by kernel_rfl)) k0 bel lt0) (trodAll_cons_mk (shut_int Try.underlying3 w1) trodAll_mk0)), rfl, bel.frame _, fun h => by cases h⟩

theorem over : Rows.diaryFoldsRow.holds Try.pinned (OpenSpec.ofChange Rows.diaryFoldsSpec) :=
  OpenClaim.holds_of_wide 5 Try.f5 rfl rfl rfl rfl rfl rfl rfl ⟨rfl, rfl, rfl, rfl, rfl⟩ rfl rfl rfl rfl rfl (by kernel_rfl) Try.func5 (by kernel_rfl)
    (of_decide_eq_true (by kernel_rfl)) (by unfold Func.isWrapper; first | (rw [if_pos (by decide +kernel)]; kernel_rfl) | (rw [if_neg (by decide +kernel)]; exact ⟨rfl, rfl⟩))
    (fun os started H enc _ => lifted os started H enc)

/-- THE STATEMENT -/
theorem proved : Rows.DiaryFoldsSaid := over
#print axioms proved
end Go.Proofs.Ytboemalcgplaaaa.diaryFolds

