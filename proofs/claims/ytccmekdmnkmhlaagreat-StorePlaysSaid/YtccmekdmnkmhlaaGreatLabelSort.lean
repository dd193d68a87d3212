/-
  slices.SortFunc of a few labels: they come sorted, each as often as it was. No condition but that there are at most twelve.
-/
import Derived.Test.YtccmekdmnkmhlaaGreatLabelOrd
import Derived.Test.YtccmekdmnkmhlaaGreatRowMore
import Derived.BigRegion
namespace Go.Proofs.YtccmekdmnkmhlaaGreat
open Go.RowKit

theorem ins_sorted {A B : List Lb} (h : Srt (A ++ B)) {x : Lb} (h1 : ∀ y ∈ B, ltLb x y) (h2 : ∀ A' y, A = A' ++ [y] → ¬ ltLb x y) : Srt (A ++ x :: B) := by
  have h3 := srt_insert h (j := A.length) (by simp) (x := x) (by rw [List.drop_left]; exact h1) (fun y hj hy => by
    have hne : A ≠ [] := fun e => by subst e; simp at hj
    have h4 := List.dropLast_concat_getLast hne
    have h5 : A.getLast hne = y := by
      rw [List.getElem?_append_left (by omega), List.getElem?_eq_getElem (by omega)] at hy
      rw [List.getLast_eq_getElem]
      exact Option.some.inj hy
    exact h2 _ y (by rw [← h5]; exact h4.symm))
  rwa [List.take_left, List.drop_left] at h3
theorem nil_or_snoc {α : Type} (A : List α) : A = [] ∨ ∃ A' y, A = A' ++ [y] := by
  rcases List.eq_nil_or_concat A with h | ⟨a, b, h⟩
  · exact .inl h
  · exact .inr ⟨a, b, by rw [h, List.concat_eq_append]⟩
theorem swap_set (A R : List Lb) (x y : Lb) : ((A ++ y :: x :: R).set (A.length + 1) y).set A.length x = A ++ x :: y :: R := by
  simp
/-- Two neighbours change their places. -/
theorem own_swap {w : World} {base g n c : Nat} {A R : List Lb} {x y : Lb} (h : w.ownsRow base 58 2 (.slice (some ⟨g, 0, none⟩) n c) n (sR lblC (A ++ y :: x :: R))) :
    ((w.setCells g ((A.length + 1) * 2) (lblC y)).setCells g (A.length * 2) (lblC x)).ownsRow base 58 2 (.slice (some ⟨g, 0, none⟩) n c) n (sR lblC (A ++ x :: y :: R)) ∧ w.grownBy ((w.setCells g ((A.length + 1) * 2) (lblC y)).setCells g (A.length * 2) (lblC x)) (some g) := by
  have hl : A.length + (R.length + 2) = n := by have := h.1; rw [sR_len lblC 2 lblC_len] at this; simp at this; omega
  obtain ⟨_, _, h1⟩ := own_setB lblC_len h (by decide) (k := A.length + 1) (by omega) y
  obtain ⟨_, _, h2⟩ := own_setB lblC_len h1 (by decide) (k := A.length) (by omega) x
  rw [swap_set] at h2
  exact ⟨h2, (gr_setCells w g _ _).trans (gr_setCells _ g _ _)⟩
section
variable {w : World} {base g n c : Nat} {A R : List Lb} {x y : Lb}
theorem own_two (h : w.ownsRow base 58 2 (.slice (some ⟨g, 0, none⟩) n c) n (sR lblC (A ++ y :: x :: R))) :
    w.cell? ⟨g, A.length * 2, none⟩ = some (.string (txt y.n)) ∧ w.cell? ⟨g, A.length * 2 + 1, none⟩ = some (.string (txt y.v)) ∧ w.cell? ⟨g, (A.length + 1) * 2, none⟩ = some (.string (txt x.n)) ∧ w.cell? ⟨g, (A.length + 1) * 2 + 1, none⟩ = some (.string (txt x.v)) := by
  have hl : A.length + (R.length + 2) = n := by have := h.1; rw [sR_len lblC 2 lblC_len] at this; simp at this; omega
  have e1 : (A ++ y :: x :: R)[A.length]? = some y := by simp
  have e2 : (A ++ y :: x :: R)[A.length + 1]? = some x := by simp
  have k1 := fun j (hj : j < 2) => sR_at lblC 2 lblC_len e1 hj
  have k2 := fun j (hj : j < 2) => sR_at lblC 2 lblC_len e2 hj
  have hc := fun j (hj : j < n * 2) => h.cellAt j hj
  exact ⟨(hc _ (by omega)).trans (k1 0 (by decide)), (hc _ (by omega)).trans (k1 1 (by decide)), (hc _ (by omega)).trans (k2 0 (by decide)), (hc _ (by omega)).trans (k2 1 (by decide))⟩
end
theorem gr_own_drew {w : World} {base : Nat} {e : TypeId} {size n : Nat} {v : Value} {xs : List Value} (h : w.ownsRow base e size v n xs) : w.drew.ownsRow base e size v n xs := h
theorem sizeLb (w : World) : (Go.sizeOf 58).run Tryz.prog w = .ok 2 w := by
  obtain ⟨ii, hi, hz0, hz1, hz2⟩ := info_parts infoLb
  simp [Go.sizeOf, typeInfo, hi, hz1]
theorem loads2 {w : World} {g o : Nat} {x : Lb} (h0 : w.cell? ⟨g, o, none⟩ = some (.string (txt x.n))) (h1 : w.cell? ⟨g, o + 1, none⟩ = some (.string (txt x.v))) : Sem.run Tryz.prog (loadCellsFrom ⟨g, o, none⟩ 0 2 #[]) w = .ok #[.string (txt x.n), .string (txt x.v)] w := by
  have h2 := run_loadCells_list (P := Tryz.prog) w ⟨g, o, none⟩ (lblC x) (fun j v hv => by
    rw [add_plain]
    match j, hv with
    | 0, hv => simp [lblC] at hv; subst hv; exact h0
    | 1, hv => simp [lblC] at hv; subst hv; exact h1
    | j + 2, hv => simp [lblC] at hv)
  exact h2
set_option maxHeartbeats 16000000 in
set_option maxRecDepth 100000 in
theorem lsort_ins (g n c base : Nat) (zs : List Lb) (w : World) (h : w.ownsRow base 58 2 (.slice (some ⟨g, 0, none⟩) n c) n (sR lblC zs)) (hn : n ≤ 12) :
    Calls Tryz.prog 151 #[.slice (some ⟨g, 0, none⟩) n c, .int .i64 0, .int .i64 n, .func (.func 97) #[] #[]] w fun e w' =>
      e = .returned (.tuple #[]) ∧ ∃ zs' : List Lb, zs'.Perm zs ∧ Srt zs' ∧ w'.ownsRow base 58 2 (.slice (some ⟨g, 0, none⟩) n c) n (sR lblC zs') ∧ w.grownBy w' (some g) := by
  have hl : zs.length = n := by have := h.1; rw [sR_len lblC 2 lblC_len] at this; omega
  replace h := Lib.hid h
  replace hl := Lib.hid hl
  have mixed : Tryz.prog.follows Departure.mixedOrders = true := by kernel_rfl
  go_enter Tryz.func151, Tryz.ntmps151
  go_wp2
  go_loopw [8] (fun iv wr => ∃ (i : Nat) (z1 : List Lb), 1 ≤ i ∧ i ≤ n + 1 ∧ iv = .int .i64 i ∧ Hid (z1.Perm zs) ∧ Hid (Srt (z1.take i)) ∧ Hid (wr.ownsRow base 58 2 (.slice (some ⟨g, 0, none⟩) n c) n (sR lblC z1)) ∧ Hid (w.grownBy wr (some g))) (fun iv _ => n + 1 - (intOf iv).toNat)
  case atStart =>
    refine ⟨1, zs, by omega, by omega, rfl, List.Perm.refl _, ?_, h.out, World.grownBy.refl _ _⟩
    show Srt _
    cases zs with
    | nil => exact List.Pairwise.nil
    | cons z zs => rw [List.take_succ_cons, List.take_zero]; exact List.pairwise_singleton _ _
  case round =>
    obtain ⟨i, z1, hi1, hi2, rfl, hp, hs, ho, hg⟩ := hrel
    by_cases hlt : i < n
    · have hli : (i : Int) < (n : Int) := by omega
      have hlz : z1.length = n := by rw [hp.out.length_eq]; exact hl.out
      obtain ⟨x, hx⟩ : ∃ x, z1[i]? = some x := ⟨_, List.getElem?_eq_getElem (by omega)⟩
      obtain ⟨P, hP⟩ : ∃ P, P = z1.take i := ⟨_, rfl⟩
      obtain ⟨R, hR⟩ : ∃ R, R = z1.drop (i + 1) := ⟨_, rfl⟩
      have hz : z1 = P ++ x :: R := by
        rw [hP, hR]
        have := List.take_append_drop i z1
        rw [List.drop_eq_getElem_cons (by omega)] at this
        rw [← (List.getElem?_eq_some_iff.1 hx).2]
        exact this.symm
      have hPl : P.length = i := by rw [hP, List.length_take]; omega
      rw [← hP] at hs
      clear hP hR hx hlz
      replace hz := Lib.hid hz
      go_wp2
      go_loopw [9] (fun jv w2 => ∃ (A B : List Lb), jv = .int .i64 A.length ∧ Hid (P = A ++ B) ∧ Hid (∀ y ∈ B, ltLb x y) ∧ Hid (w2.ownsRow base 58 2 (.slice (some ⟨g, 0, none⟩) n c) n (sR lblC (A ++ x :: (B ++ R)))) ∧ Hid (wr.grownBy w2 (some g))) (fun jv _ => (intOf jv).toNat)
      case atStart => exact ⟨P, [], by rw [hPl], (List.append_nil _).symm, by intro y hy; simp at hy, by have := ho.out; rw [hz.out] at this; exact this, World.grownBy.refl _ _⟩
      case round =>
        obtain ⟨A, B, rfl, hab, hb, ho2, hg2⟩ := hrel
        have hAB : A.length + B.length = i := by rw [← hPl, hab.out, List.length_append]
        have done : (∀ A' y, A = A' ++ [y] → ¬ ltLb x y) → ((A ++ x :: (B ++ R)).Perm zs ∧ Srt ((A ++ x :: (B ++ R)).take (i + 1))) := fun h2 => by
          refine ⟨?_, ?_⟩
          · refine List.Perm.trans ?_ hp.out
            rw [hz.out, hab.out, List.append_assoc]
            exact List.Perm.append_left A List.perm_middle.symm
          · have h1 := ins_sorted (by rw [← hab.out]; exact hs.out) hb.out h2
            have : (A ++ x :: (B ++ R)) = (A ++ x :: B) ++ R := by simp
            rw [this, List.take_left' (by simp; omega)]
            exact h1
        replace done := Lib.hid done
        rcases nil_or_snoc A with rfl | ⟨A', y, rfl⟩
        · have hd := done.out (fun A' y e => by simp at e)
          clear done
          have hjz : decide (((0 : Nat) : Int) > (0 : Int)) = false := rfl
          go_wp2_with fail
          go_big_region_o
          all_goals go_wp2
          go_roundw
          case rel => exact ⟨i + 1, _, by omega, by omega, by go_num, hd.1, hd.2, gr_own_drew ho2.out, hg.out.trans (hg2.out.trans (gr_drew _ _))⟩
          case measure => simp [intOf]; omega
        · have ho3 : wr.ownsRow base 58 2 (.slice (some ⟨g, 0, none⟩) n c) n (sR lblC (A' ++ y :: x :: (B ++ R))) := by
            have := ho2.out
            rwa [List.append_assoc, List.singleton_append] at this
          have h1 := own_two ho3
          have hlA : (A' ++ [y]).length = A'.length + 1 := by simp
          rw [hlA] at hAB
          obtain ⟨j, hj⟩ : ∃ j, j = A'.length := ⟨_, rfl⟩
          have hjv : (Value.int .i64 ((A' ++ [y]).length : Nat)) = .int .i64 ((j : Int) + 1) := by rw [hlA, hj]; rfl
          rw [hjv]
          rw [← hj] at hAB h1
          have hst : ∀ w', Gr wr w' → (w'.cell? ⟨g, j * 2, none⟩ = some (.string (txt y.n)) ∧ w'.cell? ⟨g, j * 2 + 1, none⟩ = some (.string (txt y.v)) ∧ w'.cell? ⟨g, (j + 1) * 2, none⟩ = some (.string (txt x.n)) ∧ w'.cell? ⟨g, (j + 1) * 2 + 1, none⟩ = some (.string (txt x.v))) := fun w' gr => ⟨gr_cell gr h1.1, gr_cell gr h1.2.1, gr_cell gr h1.2.2.1, gr_cell gr h1.2.2.2⟩
          have hor : ∀ W, Calls Tryz.prog 97 #[.agg #[.string (txt x.n), .string (txt x.v)], .agg #[.string (txt y.n), .string (txt y.v)]] W fun e w' => e = .returned (.int .i64 (cmpLb x y)) ∧ Gr W w' := fun W => order_any x y W
          have hcz : cmpLb x y < 0 ↔ ltLb x y := Iff.rfl
          generalize cmpLb x y = r at hor hcz
          replace hst := Lib.hid hst
          replace hor := Lib.hid hor
          replace ho3 := Lib.hid ho3
          replace hj := Lib.hid hj
          have q1 : (j : Int) + 1 < (n : Int) := by omega
          have q2 : (j : Int) < (n : Int) := by omega
          have q3 : (0 : Int) < (j : Int) + 1 := by omega
          have q4 : (0 : Int) ≤ (j : Int) + 1 := by omega
          have q5 : ((j : Int) + 1).toNat = j + 1 := by omega
          have q6 : IntKind.i64.wrap (j : Int) = (j : Int) := IntWalk.i64_in _ (by omega)
          have q7 : decide ((j : Int) + 1 > 0) = true := decide_eq_true q3
          clear h1 hjv hlA
          by_cases hr : r < 0
          · have hxy := hcz.1 hr
            replace hxy := Lib.hid hxy
            clear hcz done
            go_wp2_with fail
            go_region_held3 (fun w' => w'.cell? ⟨g, j * 2, none⟩ = some (.string (txt y.n)) ∧ w'.cell? ⟨g, j * 2 + 1, none⟩ = some (.string (txt y.v)) ∧ w'.cell? ⟨g, (j + 1) * 2, none⟩ = some (.string (txt x.n)) ∧ w'.cell? ⟨g, (j + 1) * 2 + 1, none⟩ = some (.string (txt x.v))) (first | exact hst.out _ (gr_drew _ _) | exact hst.out _ (gr_trans (gr_drew _ _) gP)) (first | (go_at_call 97; refine (hor.out _).mono ?_; rintro e wP ⟨rfl, gP⟩))
            all_goals
              go_wp2_with fail
              have gP2 : Gr wr wP := gr_trans (gr_drew wr none) gP
              have ho4 : wP.ownsRow base 58 2 (.slice (some ⟨g, 0, none⟩) n c) n (sR lblC (A' ++ y :: x :: (B ++ R))) := ho3.out.kept gP2 (Classical.em _)
              have f0 := ho4.frozenAt (j * 2)
              have f1 := ho4.frozenAt (j * 2 + 1)
              have f2 := ho4.frozenAt ((j + 1) * 2)
              have f3 := ho4.frozenAt ((j + 1) * 2 + 1)
              have hsw := own_swap ho4
              rw [← hj.out] at hsw
              replace hsw := Lib.hid hsw
              replace ho4 := Lib.hid ho4
              go_region
              all_goals
                go_wp2
                go_roundw
                case rel => exact ⟨A', y :: B, by rw [← hj.out], (by show _ = _; rw [hab.out]; simp), (fun z hz => by
                  rcases List.mem_cons.1 hz with rfl | hz
                  · exact hxy.out
                  · exact hb.out z hz), gr_own_drew hsw.out.1, ((hg2.out.trans (gr_more _ gP2)).trans hsw.out.2).trans (gr_drew _ _)⟩
                case measure => simp [intOf] <;> omega
          · have hxy : ¬ ltLb x y := fun k => hr (hcz.2 k)
            have hd := done.out (fun A2 y2 e => by
              have := List.append_inj' e rfl
              obtain ⟨_, e2⟩ := this
              injection e2 with e3
              subst e3
              exact hxy)
            clear done
            replace hd := Lib.hid hd
            replace hxy := Lib.hid hxy
            go_wp2_with fail
            go_region_held3 (fun w' => w'.cell? ⟨g, j * 2, none⟩ = some (.string (txt y.n)) ∧ w'.cell? ⟨g, j * 2 + 1, none⟩ = some (.string (txt y.v)) ∧ w'.cell? ⟨g, (j + 1) * 2, none⟩ = some (.string (txt x.n)) ∧ w'.cell? ⟨g, (j + 1) * 2 + 1, none⟩ = some (.string (txt x.v))) (first | exact hst.out _ (gr_drew _ _) | exact hst.out _ (gr_trans (gr_drew _ _) gP)) (first | (go_at_call 97; refine (hor.out _).mono ?_; rintro e wP ⟨rfl, gP⟩))
            all_goals
              go_wp2
              go_roundw
              case rel => exact ⟨i + 1, _, by omega, by omega, by go_num, hd.out.1, hd.out.2, (by have := (ho2.out.kept (gr_trans (gr_drew wr none) gP) (Classical.em _)); exact this), hg.out.trans (hg2.out.trans (gr_more _ (gr_trans (gr_drew _ none) gP)))⟩
              case measure => simp [intOf]; omega
    · have hli : ((i : Int) < (n : Int)) = False := eq_false (by omega)
      go_wp2
      go_end0
      exact ⟨rfl, z1, hp.out, by have h1 := hs.out; rw [List.take_of_length_le (by rw [hp.out.length_eq, hl.out]; omega)] at h1; exact h1, ho.out, hg.out⟩
end Go.Proofs.YtccmekdmnkmhlaaGreat
