/-
  What diary.one answers of a frame. No condition but a bound on the length.
-/
import Derived.Test.YtmldoeeangekoaaGreatDiaryLift
import Derived.Test.YtmldoeeangekoaaGreatDiaryNum
import Derived.Deep.RegionLaw
import Derived.Handy
import Derived.StillTailTactics
import Derived.Deep.RegionHeld3
namespace Go.Proofs.YtmldoeeangekoaaGreat
open Go.RowKit

theorem sub_txt (f : List UInt8) (a b : Nat) : (txt f).extract a (a + b) = txt ((f.drop a).take b) := str_eq (by
  rw [Lib.extract_data, txt_data]
  rw [Nat.add_sub_cancel_left])
def oneV (x : Nte) (b : Bool) : Ending := .returned (.tuple #[nteV x, .bool b])
theorem done_short (f : List UInt8) (w : World) (h : f.length < 17) : Calls Tryz.prog 48 #[.string (txt f)] w fun e w' => e = .returned (.tuple #[.agg #[.int .i64 0, .int .i64 0, .int .i64 0, .int .i64 0, .int .i64 0, .string ⟨#[]⟩], .bool false]) ∧ Gr w w' := by
  have hi : (f.length : Int) < 17 := by omega
  go_enter Tryz.func48, Tryz.ntmps48
  go_wp2
  go_returns
  exact ⟨rfl, gr_alloc _ _ _⟩
/-- The four numbers as far as they have been read. -/
def quad (a0 a1 a2 a3 : Int) : Nat → Array Value
  | 0 => #[.int .i64 0, .int .i64 0, .int .i64 0, .int .i64 0]
  | 1 => #[.int .i64 a0, .int .i64 0, .int .i64 0, .int .i64 0]
  | 2 => #[.int .i64 a0, .int .i64 a1, .int .i64 0, .int .i64 0]
  | 3 => #[.int .i64 a0, .int .i64 a1, .int .i64 a2, .int .i64 0]
  | _ => #[.int .i64 a0, .int .i64 a1, .int .i64 a2, .int .i64 a3]
theorem fzero {w : World} {b : Nat} {cs : Array Value} {t : TypeId} (h : w.heap[b]? = some (.cells cs t (0, 0))) (j : Nat) : w.frozen? ⟨b, j, none⟩ = false := by
  unfold World.frozen?
  rw [h]
  simp
theorem fcell {w : World} {b : Nat} {cs : Array Value} {t : TypeId} {fr : Nat × Nat} (h : w.heap[b]? = some (.cells cs t fr)) {j : Nat} {v : Value} (hj : cs[j]? = some v) : w.cell? ⟨b, j, none⟩ = some v := by
  unfold World.cell?
  rw [h]
  exact hj
theorem infoNt : (Tryz.prog.info? 30).map (·.size) = some 6 := by kernel_rfl
set_option maxHeartbeats 16000000 in
set_option maxRecDepth 100000 in
theorem done_long (f : List UInt8) (w : World) (h : 17 ≤ f.length) (hm : f.length ≤ 1000000000) : Calls Tryz.prog 48 #[.string (txt f)] w fun e w' => e = oneV (noteOf f) (decide (okN (noteOf f))) ∧ Gr w w' := by
  have hi : ((f.length : Int) < 17) = False := eq_false (by omega)
  have hi2 : (17 : Int) ≤ (f.length : Int) := by omega
  have hi3 : (0 : Int) < (f.length : Int) := by omega
  have s1 := sub_txt f 1 4
  have s2 := sub_txt f 5 4
  have s3 := sub_txt f 9 4
  have s4 := sub_txt f 13 4
  simp only [Nat.reduceAdd] at s1 s2 s3 s4
  have s5 : (txt f).extract 17 f.length = txt (f.drop 17) := str_eq (by
    rw [Lib.extract_data, txt_data, List.take_of_length_le]
    rw [List.length_drop]; exact Nat.le_refl _)
  obtain ⟨c, hc⟩ : ∃ c, c = f.getD 0 0 := ⟨_, rfl⟩
  have hget : (txt f)[0]'(by rw [txt_size]; omega) = c := by
    rw [hc]
    cases f with
    | nil => simp at h
    | cons b f => rfl
  have hget2 : f[0]'(by omega) = c := by
    rw [hc]
    cases f with
    | nil => simp at h
    | cons b f => rfl
  have hwc : IntKind.i64.wrap (c.toNat : Int) = (c.toNat : Int) := IntWalk.i64_in _ (by have := c.toNat_lt; omega)
  have v1 := fun W => dvalue_any ((f.drop 1).take 4) W (by rw [List.length_take]; omega)
  have v2 := fun W => dvalue_any ((f.drop 5).take 4) W (by rw [List.length_take]; omega)
  have v3 := fun W => dvalue_any ((f.drop 9).take 4) W (by rw [List.length_take]; omega)
  have v4 := fun W => dvalue_any ((f.drop 13).take 4) W (by rw [List.length_take]; omega)
  have cR := fun W => right_any (noteOf f) W
  have hno : noteOf f = ⟨((f.getD 0 0).toNat : Int), ⟨(dvN ((f.drop 1).take 4) : Nat), (dvN ((f.drop 5).take 4) : Nat), (dvN ((f.drop 9).take 4) : Nat), (dvN ((f.drop 13).take 4) : Nat), f.drop 17⟩⟩ := rfl
  generalize (f.drop 1).take 4 = f1 at *
  generalize (f.drop 5).take 4 = f2 at *
  generalize (f.drop 9).take 4 = f3 at *
  generalize (f.drop 13).take 4 = f4 at *
  generalize ((dvN f1 : Nat) : Int) = a0 at *
  generalize ((dvN f2 : Nat) : Int) = a1 at *
  generalize ((dvN f3 : Nat) : Int) = a2 at *
  generalize ((dvN f4 : Nat) : Int) = a3 at *
  unfold oneV
  rw [← hc] at hno
  rw [hno] at cR ⊢
  unfold nteV at cR ⊢
  simp only at cR ⊢
  generalize hdb : decide (okN ⟨(c.toNat : Int), ⟨a0, a1, a2, a3, f.drop 17⟩⟩) = db at *
  clear hno hdb hc
  replace v1 := Lib.hid v1
  replace v2 := Lib.hid v2
  replace v3 := Lib.hid v3
  replace v4 := Lib.hid v4
  replace cR := Lib.hid cR
  go_enter Tryz.func48, Tryz.ntmps48
  go_wp2
  go_loopw [11] (fun iv wr => ∃ k : Nat, k ≤ 4 ∧ iv = .int .i64 k ∧ Hid (wr.heap[w.heap.size + 1]? = some (.cells (quad a0 a1 a2 a3 k) 175 (0, 0))) ∧ Hid (wr.heap[w.heap.size]? = some (.cells #[.int .i64 0, .int .i64 0, .int .i64 0, .int .i64 0, .int .i64 0, .string ⟨#[]⟩] 30 (0, 0))) ∧ Hid (Below w.heap.size w wr)) (fun iv _ => 4 - (intOf iv).toNat)
  case atStart =>
    have hz : (w.alloc (.cells #[.int .i64 0, .int .i64 0, .int .i64 0, .int .i64 0, .int .i64 0, .string ⟨#[]⟩] 30)).heap.size = w.heap.size + 1 := by simp
    have hn1 := blk_new (w.alloc (.cells #[.int .i64 0, .int .i64 0, .int .i64 0, .int .i64 0, .int .i64 0, .string ⟨#[]⟩] 30)) (.cells #[.int .i64 0, .int .i64 0, .int .i64 0, .int .i64 0] 175)
    rw [hz] at hn1
    exact ⟨0, Nat.zero_le _, rfl, hn1, gr_blk (gr_alloc _ _ none) (blk_new w _) (by simp), gr_below (gr_trans (gr_alloc _ _ _) (gr_alloc _ _ _))⟩
  case round =>
    obtain ⟨k, hk, rfl, hb, hnb, hbel⟩ := hrel
    have hs := hbel.out.size
    match k, hk with
    | 0, _ =>
      have ck : wr.cell? ⟨w.heap.size + 1, 0, none⟩ = some (.int .i64 0) := fcell hb.out rfl
      have fk := fzero hb.out 0
      go_wp2_with fail
      refine (v1.out _).mono ?_
      rintro e w2 ⟨rfl, hw2⟩
      subst hw2
      go_wp2
      go_roundw
      case rel => exact ⟨1, by decide, by rfl, blk_set hb.out 0 _, gr_blk (gr_set wr ⟨w.heap.size + 1, 0, none⟩ _) hnb.out (by simp), hbel.out.trans ((Below.refl _ _).grown (gr_set wr ⟨w.heap.size + 1, 0, none⟩ _) hs (by intro k hk; cases hk; exact Nat.le_succ _))⟩
      case measure => simp [intOf]
    | 1, _ =>
      have ck : wr.cell? ⟨w.heap.size + 1, 1, none⟩ = some (.int .i64 0) := fcell hb.out rfl
      have fk := fzero hb.out 1
      go_wp2_with fail
      refine (v2.out _).mono ?_
      rintro e w2 ⟨rfl, hw2⟩
      subst hw2
      go_wp2
      go_roundw
      case rel => exact ⟨2, by decide, by rfl, blk_set hb.out 1 _, gr_blk (gr_set wr ⟨w.heap.size + 1, 1, none⟩ _) hnb.out (by simp), hbel.out.trans ((Below.refl _ _).grown (gr_set wr ⟨w.heap.size + 1, 1, none⟩ _) hs (by intro k hk; cases hk; exact Nat.le_succ _))⟩
      case measure => simp [intOf]
    | 2, _ =>
      have ck : wr.cell? ⟨w.heap.size + 1, 2, none⟩ = some (.int .i64 0) := fcell hb.out rfl
      have fk := fzero hb.out 2
      go_wp2_with fail
      refine (v3.out _).mono ?_
      rintro e w2 ⟨rfl, hw2⟩
      subst hw2
      go_wp2
      go_roundw
      case rel => exact ⟨3, by decide, by rfl, blk_set hb.out 2 _, gr_blk (gr_set wr ⟨w.heap.size + 1, 2, none⟩ _) hnb.out (by simp), hbel.out.trans ((Below.refl _ _).grown (gr_set wr ⟨w.heap.size + 1, 2, none⟩ _) hs (by intro k hk; cases hk; exact Nat.le_succ _))⟩
      case measure => simp [intOf]
    | 3, _ =>
      have ck : wr.cell? ⟨w.heap.size + 1, 3, none⟩ = some (.int .i64 0) := fcell hb.out rfl
      have fk := fzero hb.out 3
      go_wp2_with fail
      refine (v4.out _).mono ?_
      rintro e w2 ⟨rfl, hw2⟩
      subst hw2
      go_wp2
      go_roundw
      case rel => exact ⟨4, by decide, by rfl, blk_set hb.out 3 _, gr_blk (gr_set wr ⟨w.heap.size + 1, 3, none⟩ _) hnb.out (by simp), hbel.out.trans ((Below.refl _ _).grown (gr_set wr ⟨w.heap.size + 1, 3, none⟩ _) hs (by intro k hk; cases hk; exact Nat.le_succ _))⟩
      case measure => simp [intOf]
    | 4, _ =>
      have q0 : wr.cell? ⟨w.heap.size + 1, 0, none⟩ = some (.int .i64 a0) := fcell hb.out rfl
      have q1 : wr.cell? ⟨w.heap.size + 1, 1, none⟩ = some (.int .i64 a1) := fcell hb.out rfl
      have q2 : wr.cell? ⟨w.heap.size + 1, 2, none⟩ = some (.int .i64 a2) := fcell hb.out rfl
      have q3 : wr.cell? ⟨w.heap.size + 1, 3, none⟩ = some (.int .i64 a3) := fcell hb.out rfl
      go_upto_region 9 with fail
      have n0 := World.new_ne wr _ q0
      have n1 := World.new_ne wr _ q1
      have n2 := World.new_ne wr _ q2
      have n3 := World.new_ne wr _ q3
      go_region_held3 (fun w' => w'.cell? ⟨w.heap.size + 1, 0, none⟩ = some (.int .i64 a0) ∧ w'.cell? ⟨w.heap.size + 1, 1, none⟩ = some (.int .i64 a1) ∧ w'.cell? ⟨w.heap.size + 1, 2, none⟩ = some (.int .i64 a2) ∧ w'.cell? ⟨w.heap.size + 1, 3, none⟩ = some (.int .i64 a3)) (go_keep) (fail)
      all_goals
        clear n0 n1 n2 n3 q0 q1 q2 q3
        obtain ⟨W1, hW1⟩ : ∃ W1, W1 = (wr.alloc (.cells #[.int .i64 (c.toNat : Int), .int .i64 a0, .int .i64 a1, .int .i64 a2, .int .i64 a3, .string (txt (f.drop 17))] 30)).drew := ⟨_, rfl⟩
        have gW : Gr wr W1 := by rw [hW1]; exact gr_trans (gr_alloc _ _ none) (gr_drew _ _)
        have hcl : ∀ j v, (#[.int .i64 (c.toNat : Int), .int .i64 a0, .int .i64 a1, .int .i64 a2, .int .i64 a3, .string (txt (f.drop 17))] : Array Value)[j]? = some v → W1.cell? ⟨wr.heap.size, j, none⟩ = some v := fun j v hj => by rw [hW1]; exact gr_cell (gr_drew _ _) (by rw [World.cell?_alloc_new]; exact hj)
        rw [← hW1]
        have hnb1 := gr_blk gW hnb.out (by simp)
        have hbel1 := below_gr hbel.out gW hs (by simp)
        have hne : wr.heap.size ≠ w.heap.size := by
          have := lt_of_blk hb.out
          omega
        have hsz : wr.heap.size < W1.heap.size := by rw [hW1]; simp
        clear hW1 hb hnb hbel
        have st : ∀ w', Gr W1 w' → (w'.cell? ⟨wr.heap.size, 0, none⟩ = some (.int .i64 (c.toNat : Int)) ∧ w'.cell? ⟨wr.heap.size, 1, none⟩ = some (.int .i64 a0) ∧ w'.cell? ⟨wr.heap.size, 2, none⟩ = some (.int .i64 a1) ∧ w'.cell? ⟨wr.heap.size, 3, none⟩ = some (.int .i64 a2) ∧ w'.cell? ⟨wr.heap.size, 4, none⟩ = some (.int .i64 a3) ∧ w'.cell? ⟨wr.heap.size, 5, none⟩ = some (.string (txt (f.drop 17)))) := fun w' g => ⟨gr_cell g (hcl 0 _ rfl), gr_cell g (hcl 1 _ rfl), gr_cell g (hcl 2 _ rfl), gr_cell g (hcl 3 _ rfl), gr_cell g (hcl 4 _ rfl), gr_cell g (hcl 5 _ rfl)⟩
        have bt : ∀ w', Gr W1 w' → w'.heap[w.heap.size]? = some (.cells #[.int .i64 0, .int .i64 0, .int .i64 0, .int .i64 0, .int .i64 0, .string ⟨#[]⟩] 30 (0, 0)) := fun w' g => gr_blk g hnb1 (by simp)
        replace st := Lib.hid st
        replace bt := Lib.hid bt
        replace hbel1 := Lib.hid hbel1
        clear hcl hnb1 gW
        go_upto_region 10 with fail
        refine wp_region_held_drew (S := (fun w' => w'.cell? ⟨wr.heap.size, 0, none⟩ = some (.int .i64 (c.toNat : Int)) ∧ w'.cell? ⟨wr.heap.size, 1, none⟩ = some (.int .i64 a0) ∧ w'.cell? ⟨wr.heap.size, 2, none⟩ = some (.int .i64 a1) ∧ w'.cell? ⟨wr.heap.size, 3, none⟩ = some (.int .i64 a2) ∧ w'.cell? ⟨wr.heap.size, 4, none⟩ = some (.int .i64 a3) ∧ w'.cell? ⟨wr.heap.size, 5, none⟩ = some (.string (txt (f.drop 17))))) (by kernel_rfl) (st.out _ (gr_drew _ _)) (fun hHeld => ?_)
        have gd : Gr W1 W1.drew := gr_drew W1 none
        generalize W1.drew = wd at *
        refine wpAnyH_take (i := 0) (oi := ⟨some 42, _, _, _, _, _⟩) (v := ?_) rfl (by kernel_rfl) (by kernel_rfl) (by kernel_rfl) (fun _ _ _ h => h) (Or.inl ⟨by rfl, ?_⟩) hHeld ?_
        rotate_left
        · intro w hSw
          try dsimp only at hSw
          go_simp
          first | done | with_reducible rfl
        try simp only [Act.put, List.setIfInBounds_toArray, List.set_cons_zero, List.set_cons_succ]
        refine wpAnyH_take (i := 1) (oi := ⟨some 43, _, _, _, _, _⟩) (v := ?_) rfl (by kernel_rfl) (by kernel_rfl) (by kernel_rfl) (fun _ _ _ h => h) (Or.inl ⟨by rfl, ?_⟩) hHeld ?_
        rotate_left
        · intro w hSw
          try dsimp only at hSw
          go_simp
          first | done | with_reducible rfl
        try simp only [Act.put, List.setIfInBounds_toArray, List.set_cons_zero, List.set_cons_succ]
        refine wpAnyH_ready (rs := [2]) (by kernel_rfl) (by simp) (AllReadyH.cons (o := _) rfl (fun K hK => ?_) AllReadyH.nil)
        go_simp
        refine (cR.out _).mono ?_
        rintro e wR ⟨rfl, gR0⟩
        try (go_wp2_with fail)
        have gR := gr_trans gd gR0
        refine hK.out _ _ ?_ (fun hHeld => ?_)
        · exact st.out _ gR
        clear hK K gR0 gd
        try simp only [Act.put, List.setIfInBounds_toArray, List.set_cons_zero, List.set_cons_succ]
        have hbR := bt.out _ gR
        have hth : wR.there w.heap.size 0 6 := fun j hj => ⟨by
          match j, hj with
          | 0, _ => rw [fcell hbR rfl]; rfl
          | 1, _ => rw [fcell hbR rfl]; rfl
          | 2, _ => rw [fcell hbR rfl]; rfl
          | 3, _ => rw [fcell hbR rfl]; rfl
          | 4, _ => rw [fcell hbR rfl]; rfl
          | 5, _ => rw [fcell hbR rfl]; rfl
          | j + 6, hj => omega, fzero hbR _⟩
        have hgs := gr_setCells wR w.heap.size 0 #[.int .i64 (c.toNat : Int), .int .i64 a0, .int .i64 a1, .int .i64 a2, .int .i64 a3, .string (txt (f.drop 17))].toList
        have hsame := World.rangeAt_setCells_same wR w.heap.size 0 #[.int .i64 (c.toNat : Int), .int .i64 a0, .int .i64 a1, .int .i64 a2, .int .i64 a3, .string (txt (f.drop 17))].toList hth
        have hfar : ∀ j v, wR.cell? ⟨wr.heap.size, j, none⟩ = some v → (wR.setCells w.heap.size 0 #[.int .i64 (c.toNat : Int), .int .i64 a0, .int .i64 a1, .int .i64 a2, .int .i64 a3, .string (txt (f.drop 17))].toList).cell? ⟨wr.heap.size, j, none⟩ = some v := fun j v hv => by
          rw [World.cell?_setCells_out _ _ _ _ _ (fun h1 _ => absurd h1 hne)]
          exact hv
        refine wpAnyH_ready (rs := [3]) (by kernel_rfl) (by simp) (AllReadyH.cons (o := ⟨none, _, _, _, _, _⟩) rfl (fun K hK => ?_) AllReadyH.nil)
        refine step_store_mid (by rfl) 30 _ _ (by rfl) w.heap.size 0 #[.int .i64 (c.toNat : Int), .int .i64 a0, .int .i64 a1, .int .i64 a2, .int .i64 a3, .string (txt (f.drop 17))] (by rfl) (by rfl) hth infoNt (by simp [Value.oneCell']) ?_
        refine hK.out _ _ ?_ (fun hHeld => ?_)
        · obtain ⟨e0, e1, e2, e3, e4, e5⟩ := st.out _ gR
          exact ⟨hfar 0 _ e0, hfar 1 _ e1, hfar 2 _ e2, hfar 3 _ e3, hfar 4 _ e4, hfar 5 _ e5⟩
        clear hK K
        try simp only [Act.put]
        obtain ⟨WF, hWF⟩ : ∃ WF, WF = wR.setCells w.heap.size 0 #[.int .i64 (c.toNat : Int), .int .i64 a0, .int .i64 a1, .int .i64 a2, .int .i64 a3, .string (txt (f.drop 17))].toList := ⟨_, rfl⟩
        rw [← hWF] at hgs hsame hHeld ⊢
        have r0 := hsame 0 _ rfl
        have r1 := hsame 1 _ rfl
        have r2 := hsame 2 _ rfl
        have r3 := hsame 3 _ rfl
        have r4 := hsame 4 _ rfl
        have r5 := hsame 5 _ rfl
        simp only [Nat.zero_add] at r0 r1 r2 r3 r4 r5
        clear hsame hfar hth hWF hbR
        refine wpAnyH_take (i := 4) (oi := ⟨some 3, _, _, _, _, _⟩) (v := ?_) rfl (by kernel_rfl) (by kernel_rfl) (by kernel_rfl) (fun _ _ _ h => h) (Or.inl ⟨by rfl, ?_⟩) hHeld ?_
        rotate_left
        · intro w hSw
          try dsimp only at hSw
          go_simp
          first | done | with_reducible rfl
        try simp only [Act.put, List.setIfInBounds_toArray, List.set_cons_zero, List.set_cons_succ]
        refine wpAnyH_done (by kernel_rfl) ?_ _
        go_wp2
        (try simp only [Exit.inBlock, Exit.then])
        refine bodyPost_ret (by simp [results, Tryz.results48, go_sem, r0, r1, r2, r3, r4, r5]; try rfl) rfl ?_
        refine ⟨rfl, ?_⟩
        have hB := (below_gr hbel1.out gR hbel1.out.size (by simp)).grown hgs (Nat.le_trans hbel1.out.size gR.size) (fun k hk => by cases hk; exact Nat.le_refl _)
        exact gr_of_below hB (Nat.le_refl _)
    | k + 5, hk => omega
end Go.Proofs.YtmldoeeangekoaaGreat
