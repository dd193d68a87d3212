/-
  GuardTells holds of the program: for every input the call returns true and leaves what came in as it was. No condition.
-/
import Derived.Test.YtncokhgkojhdfaaRows
import Derived.Test.YtncokhgkojhdfaaGuardRef
import Derived.Test.YtncokhgkojhdfaaGuardAll
import Derived.Test.YtncokhgkojhdfaaApartTexts
import Derived.WalkKit
import Derived.ProofKit
import Derived.OpenShut
import Derived.ShutString
import Derived.ChangeOld
import Derived.Below
namespace Go.Proofs.Ytncokhgkojhdfaa.guardTells
open Go.ChangeShapes Go.WideShapes Go.ChangeAt Go.RowKit
open Go.ChangeMaps (open_string shut_string)
set_option linter.unusedVariables false

theorem own : ownKnob Try.prog.godebug = none := by kernel_rfl
theorem laidOut : laidOutB Try.prog = true := by kernel_rfl

theorem frameL (l : List UInt8) (w : World) (h : l.length ≤ 12000) : Calls Try.prog 9 #[.string (txt l)] w fun e w' => e = .returned (.tuple #[.string (txt (Crc.frm l)), .int .i64 0]) ∧ Gr w w' := by
  have := frame_any (txt l) w (by rw [txt_size]; exact h)
  rwa [txt_data] at this
theorem ofL (l : List UInt8) (w : World) (h : l.length ≤ 1000000) : Calls Try.prog 11 #[.string (txt l)] w fun e w' => e = .returned (.int .u32 (Crc.sum l)) ∧ w = w' := by
  have := of_any (txt l) w (by rw [txt_size]; unfold maxLen; omega)
  rwa [txt_data] at this
theorem allL (l : List UInt8) (w : World) (h : l.length ≤ 1000000) : Calls Try.prog 15 #[.string (txt l)] w (AllPost w l) := by
  have := all_any (txt l) w (by rw [txt_size]; omega)
  rwa [txt_data] at this
theorem got_pre {A B : List UInt8} {xs : List (List UInt8)} {R : List UInt8} (hA : A.length ≤ 12000) (h : Crc.Got B xs R) : Crc.Got (Crc.frm A ++ B) (A :: xs) R := by
  induction h with
  | start => exact .more (.start _) (Crc.take_frm A _ hA)
  | more h1 h2 ih => exact .more ih h2
theorem below_le {B B' : Nat} {w w' : World} (h : Below B w w') (hB : B' ≤ B) : Below B' w w' := ⟨h.os, h.tape, h.output, h.size, fun k hk => h.block k (Nat.lt_of_lt_of_le hk hB)⟩
theorem kept_new (w : World) : Kept (w.alloc (.cells (bkCells (.slice none 0 0) (.slice none 0 0)) 48)) w.heap.size ⟨none, 0, 0⟩ ⟨none, 0, 0⟩ [] [] :=
  ⟨blk_new w _, World.ownsRow_nil _ _ _ _, World.ownsRow_nil _ _ _ _, rfl, rfl, fun k h => by simp [Value.ownBlock] at h⟩
theorem kept_gr {w w' : World} {K : Nat} {T V : Lst} {ls cs : List Lst} (h : Kept w K T V ls cs) (g : Gr w w') : Kept w' K T V ls cs :=
  ⟨gr_blk g h.blk (by simp), h.hT.kept g (by cases T.v.ownBlock <;> simp), h.hV.kept g (by cases V.v.ownBlock <;> simp), h.nT, h.nV, h.ne⟩
theorem kept0 {w w' : World} {base : Nat} {e : TypeId} {v : Value} {n : Nat} {xs : List Value} (h : w.ownsRow base e 1 v n xs) (g : Gr w w') : w'.ownsRow base e 1 v n xs := h.kept g (by cases v.ownBlock <;> simp)
theorem own_lst {w : World} {base : Nat} {e : TypeId} {v : Value} {n : Nat} {xs : List Value} (h : w.ownsRow base e 1 v n xs) : ∃ l : Lst, v = l.v ∧ l.n = n := by
  obtain ⟨A, c, rfl, _, _⟩ := own_open h
  exact ⟨⟨A, n, c⟩, rfl, rfl⟩
set_option maxHeartbeats 16000000 in
set_option maxRecDepth 100000 in
theorem walk (w : World) (a0 : ByteArray) (w0 : a0.size ≤ maxLen) (a1 : ByteArray) (w1 : a1.size ≤ maxLen) :
    Calls Try.prog 6 #[.string a0, .string a1] w fun e w' => e = .returned (.bool true) ∧ Below w.heap.size w w' := by
  obtain ⟨A, rfl⟩ : ∃ A, a0 = txt A := ⟨_, (txt_of a0).symm⟩
  obtain ⟨B, rfl⟩ : ∃ B, a1 = txt B := ⟨_, (txt_of a1).symm⟩
  rw [txt_size] at w0 w1
  unfold maxLen at w0 w1
  by_cases cA : 2000 < A.length
  · have cAi : (2000 : Int) < (A.length : Int) := by omega
    go_enter Try.func6, Try.ntmps6
    go_wp2_with fail
    refine (alive_any _).mono ?_
    rintro e W1 ⟨rfl, g1⟩
    go_wp2
    go_ret
    exact ⟨rfl, gr_below g1⟩
  have cAi : (A.length : Int) ≤ 2000 := by omega
  have cAi' : ((2000 : Int) < (A.length : Int)) = False := by simp; omega
  by_cases cB : 4000 < B.length
  · have cBi : (4000 : Int) < (B.length : Int) := by omega
    go_enter Try.func6, Try.ntmps6
    go_wp2_with fail
    refine (alive_any _).mono ?_
    rintro e W1 ⟨rfl, g1⟩
    go_wp2
    go_ret
    exact ⟨rfl, gr_below g1⟩
  have cBi : (B.length : Int) ≤ 4000 := by omega
  have cBi' : ((4000 : Int) < (B.length : Int)) = False := by simp; omega
  obtain ⟨ii, hi, hz0, hz1, hz2⟩ := info_parts infoE
  obtain ⟨x, y, n, hxy⟩ : ∃ x y n, Crc.take B = (x, y, n) := ⟨_, _, _, rfl⟩
  have hfl := Crc.frm_length A
  have hff : (Crc.frm A == Crc.frm A) = true := by simp
  have hxx : (x == x) = true := by simp
  have hyy : (y == y) = true := by simp
  have hnn : (n == n) = true := by simp
  have hss : (((Crc.sum A : Nat) : Int) == ((Crc.sum A : Nat) : Int)) = true := by simp
  have cTk := fun w => take_eq (txt B) w (by rw [txt_size]; unfold maxLen; omega) x y n (by rw [txt_data]; exact hxy)
  have cRt : ∀ w, Calls Try.prog 12 #[.string (txt B)] w fun e w' => e = .returned (.tuple #[.string (txt x), .string (txt y), .int .i64 n]) ∧ Gr w w' := fun w => by
    have h := refTake_any B w (by omega)
    unfold TakePost at h
    rw [hxy] at h
    exact h
  have cFr := fun w => frameL A w (by omega)
  have cRf := fun w => refFrame_any A w (by omega)
  have cOf := fun w => ofL A w (by omega)
  have cSm := fun w => sumL A w (by omega)
  replace hxy := Lib.hid hxy
  go_enter Try.func6, Try.ntmps6
  go_wp2_with fail
  refine (alive_any _).mono ?_
  rintro e W1 ⟨rfl, g1⟩
  go_wp2_with fail
  refine (cFr _).mono ?_
  rintro e W2 ⟨rfl, g2⟩
  go_wp2_with fail
  refine (cTk _).mono ?_
  rintro e W3 ⟨rfl, g3⟩
  go_wp2_with fail
  refine (cRt _).mono ?_
  rintro e W4 ⟨rfl, g4⟩
  go_wp2_with fail
  refine (cRf _).mono ?_
  rintro e W5 ⟨rfl, g5⟩
  go_wp2_with fail
  refine (cOf _).mono ?_
  rintro e W6 ⟨rfl, rfl⟩
  go_wp2_with fail
  refine (cSm _).mono ?_
  rintro e W6 ⟨rfl, rfl⟩
  have G5 := Lib.hid (gr_trans (gr_trans (gr_trans (gr_trans g1 g2) g3) g4) g5)
  clear g1 g2 g3 g4 g5 cTk cRt cFr cRf cOf cSm
  generalize hS : Crc.sum A = SA at *
  generalize hF : Crc.frm A = F at *
  replace hF := Lib.hid hF
  clear hS
  go_wp2
  go_loopw [13, 14] (fun wv cv wr => ∃ (xs : List (List UInt8)) (R : List UInt8) (l : Lst), cv = .string (txt R) ∧ wv = .slice l.A l.n l.c ∧ Hid (l.n = xs.length) ∧ Hid (Crc.Got B xs R) ∧ Hid (wr.ownsRow W5.heap.size 9 1 l.v l.n (xs.map bkE)) ∧ Hid (Below W5.heap.size W5 wr)) (fun _ c _ => match c with | .string s => s.size | _ => 0)
  case atStart => exact ⟨[], B, ⟨none, 0, 0⟩, rfl, rfl, rfl, .start B, World.ownsRow_nil _ _ _ _, Below.refl _ _⟩
  case round =>
    obtain ⟨xs, R, ⟨lA, ln, lc⟩, rfl, rfl, hln, hgot, hown, hbel⟩ := hrel
    have hgl := Crc.got_length hgot.out
    have hlnb : ln ≤ 400 := by have := hln.out; simp only at this; omega
    obtain ⟨x2, R', n2, hr⟩ : ∃ x R' n, Crc.take R = (x, R', n) := ⟨_, _, _, rfl⟩
    have cT : ∀ w, Calls Try.prog 12 #[.string (txt R)] w fun e w' => e = .returned (.tuple #[.string (txt x2), .string (txt R'), .int .i64 n2]) ∧ Gr w w' := fun w => by
      have h := refTake_any R w (by omega)
      unfold TakePost at h
      rw [hr] at h
      exact h
    have hbs := hbel.out.size
    simp only [Lst.v] at hln hown
    by_cases hn2 : n2 = 0
    · subst hn2
      have hsh := Crc.take_shorter R (by rw [hr])
      rw [hr] at hsh
      simp only at hsh
      replace hr := Lib.hid hr
      go_wp2_with fail
      refine (cT _).mono ?_
      rintro e W7 ⟨rfl, g7⟩
      have hown7 := Lib.hid (hown.out.kept g7 (by cases (Value.slice lA ln lc).ownBlock <;> simp))
      have hs7 := g7.size
      have hb7 := Lib.hid (below_gr hbel.out g7 hbs (by simp))
      go_wp2_with (at_builtin; refine wpList_append_own _ rfl _ _ 35 rfl W5.heap.size 9 ii (.string ⟨#[]⟩) 1 16 Try.underlying35 hi hz0 hz1 hz2 rfl (by decide) (.slice lA ln lc) _ _ rfl (hown7.out.alloc _) ⟨W7.heap.size, 0, none⟩ 1 1 [.string (txt x2)] rfl rfl ?c1 ?c2 ?c3 ?c4 ?c5 ?_; rotate_right; intro v' W8 hown8 hgrow _nl; clear _nl; have hb8 := below_append hown7.out hgrow (Nat.le_trans hbs hs7); clear hgrow; replace hown8 := Lib.hid hown8; replace hb8 := Lib.hid hb8)
      case c1 => exact cell_one_new _ _ _
      case c2 => simp [Value.oneCell']
      case c3 => unfold maxLen; omega
      case c4 => omega
      case c5 => simp; omega
      obtain ⟨lA', lc', rfl, _, _⟩ := own_open hown8.out
      go_roundw
      case rel =>
        refine ⟨xs ++ [x2], R', ⟨lA', ln + 1, lc'⟩, rfl, rfl, ?_, .more hgot.out hr.out, ?_, hb7.out.trans hb8.out⟩
        · have := hln.out; rw [List.length_append]; exact Lib.hid (by simp only [List.length_singleton]; omega)
        · rw [List.map_append]; exact hown8.out
      case measure => simp [txt_size]; omega
    · have hnf : (n2 == 0) = false := eqF hn2
      have hfin := Crc.got_end hgot.out (by rw [hr]; exact hn2)
      have hpre := got_pre (A := A) (by omega) hgot.out
      have hfin2 := Crc.got_end hpre (by rw [hr]; exact hn2)
      rw [hF.out] at hfin2
      replace hfin := Lib.hid hfin
      replace hfin2 := Lib.hid hfin2
      replace hr := Lib.hid hr
      clear hpre
      go_wp2_with fail
      refine (cT _).mono ?_
      rintro e W7 ⟨rfl, g7⟩
      obtain ⟨W8, hW8⟩ : ∃ W8, W8 = W7.alloc (.cells (bkCells (.slice none 0 0) (.slice none 0 0)) 48) := ⟨_, rfl⟩
      have hk8 := kept_new W7
      have hwant8 := (kept0 hown.out g7).alloc (.cells (bkCells (.slice none 0 0) (.slice none 0 0)) 48)
      have hb7 := below_gr hbel.out g7 hbs (by simp)
      have hbel8 := below_gr hb7 (gr_alloc W7 (.cells (bkCells (.slice none 0 0) (.slice none 0 0)) 48) none) hb7.size (by simp)
      have hK5 : W5.heap.size ≤ W7.heap.size := hb7.size
      rw [← hW8] at hk8 hwant8 hbel8
      obtain ⟨D, hD⟩ : ∃ D : Nat, D = B.length - R.length := ⟨_, rfl⟩
      have hDi : (B.length : Int) - (R.length : Int) = (D : Int) := by omega
      have hDD : ((D : Int) == (D : Int)) = true := by simp
      have cA1 : ∀ w, Calls Try.prog 15 #[.string (txt B)] w fun e w' => ∃ A1 c1, e = .returned (.tuple #[.slice A1 ln c1, .int .i64 D]) ∧ w'.ownsRow w.heap.size 9 1 (.slice A1 ln c1) ln (xs.map bkE) ∧ Gr w w' := fun w => (allL B w (by omega)).mono (by
        rintro e w' ⟨v, rfl, ho, g⟩
        rw [hfin.out] at ho ⊢
        unfold OwnTexts at ho
        rw [← hln.out] at ho
        obtain ⟨A1, c1, rfl, _, _⟩ := own_open ho
        exact ⟨A1, c1, by rw [hD], ho, g⟩)
      have cA2 : ∀ w, Calls Try.prog 15 #[.string (txt (F ++ B))] w fun e w' => ∃ (g2 c2 : Nat) (z : Int), e = .returned (.tuple #[.slice (some ⟨g2, 0, none⟩) (ln + 1) c2, .int .i64 z]) ∧ w'.ownsRow w.heap.size 9 1 (.slice (some ⟨g2, 0, none⟩) (ln + 1) c2) (ln + 1) ((A :: xs).map bkE) ∧ Gr w w' := fun w => (allL (F ++ B) w (by rw [List.length_append]; omega)).mono (by
        rintro e w' ⟨v, rfl, ho, g⟩
        rw [hfin2.out] at ho ⊢
        unfold OwnTexts at ho
        rw [List.length_cons, ← hln.out] at ho
        obtain ⟨g2, c2, rfl, _, _⟩ := ho.form (by omega)
        exact ⟨g2, c2, _, rfl, ho, g⟩)
      have hFB : (9223372036854775807 < F.length + B.length) = False := by simp; omega
      have hAA : (A == A) = true := by simp
      replace hwant8 := Lib.hid hwant8
      replace hbel8 := Lib.hid hbel8
      replace hk8 := Lib.hid hk8
      replace hD := Lib.hid hD
      replace hln := Lib.hid hln
      clear hb7 g7 cT hbel hown
      go_wp2_with fail
      have hchg : ∀ (Q : Ending → World → Prop), Calls Try.prog 15 #[.string (txt B)] W8 Q → Calls Try.prog 15 #[.string (txt B)] (W7.alloc (.cells (bkCells (.slice none 0 0) (.slice none 0 0)) 48)) Q := fun Q h => by rw [← hW8]; exact h
      refine hchg _ ?_
      refine (cA1 _).mono ?_
      rintro e W9 ⟨A1, cc1, rfl, hall9, g9⟩
      have hk9 := kept_gr hk8.out g9
      have hwant9 := kept0 hwant8.out g9
      have hbel9 := below_gr hbel8.out g9 hbel8.out.size (by simp)
      have hW8s : W7.heap.size < W8.heap.size := by rw [hW8]; simp
      have hkeep1 := keep_any W7.heap.size ⟨none, 0, 0⟩ ⟨none, 0, 0⟩ [] [] ⟨A1, ln, cc1⟩ xs W9 (by simp) rfl hk9 (by simp only; omega) (own_mono hall9 (Nat.zero_le _))
      clear hchg
      replace hk9 := Lib.hid hk9
      replace hwant9 := Lib.hid hwant9
      replace hbel9 := Lib.hid hbel9
      replace hall9 := Lib.hid hall9
      replace hkeep1 := Lib.hid hkeep1
      replace hW8 := Lib.hid hW8
      go_wp2_with fail
      refine hkeep1.out.mono ?_
      rintro e W10 ⟨rfl, T1, V1, c1, hk10, hc1n, hc1o, hb10, ty10⟩
      have hwant10 := ty10 _ _ _ _ _ _ (by decide) (by decide) hwant9.out
      have hall10 := ty10 _ _ _ _ _ _ (by decide) (by decide) hall9.out
      have hbel10 := hbel9.out.trans (below_le hb10 hK5)
      clear ty10 hb10
      replace hk10 := Lib.hid hk10
      replace hwant10 := Lib.hid hwant10
      replace hall10 := Lib.hid hall10
      replace hbel10 := Lib.hid hbel10
      replace hc1n := Lib.hid hc1n
      replace hc1o := Lib.hid hc1o
      go_wp2_with fail
      refine (cA2 _).mono ?_
      rintro e W11 ⟨g2, cc2, z2, rfl, hm11, g11⟩
      have hk11 := kept_gr hk10.out g11
      have hwant11 := kept0 hwant10.out g11
      have hall11 := kept0 hall10.out g11
      have hc111 := kept0 hc1o.out g11
      have hbel11 := below_gr hbel10.out g11 hbel10.out.size (by simp)
      have hkeep2 := keep_any W7.heap.size T1 V1 _ _ ⟨some ⟨g2, 0, none⟩, ln + 1, cc2⟩ (A :: xs) W11 (by simp) (by simp) hk11 (by simp only; omega) (own_mono hm11 (Nat.zero_le _))
      have hpart : ∀ k, (Value.slice A1 ln cc1).ownBlock = some k → k ≠ g2 := by
        rintro k hk rfl
        have h1 := (hall10.out.lt k hk).2
        have h2 := (hm11.lt k rfl).1
        omega
      replace hk11 := Lib.hid hk11
      replace hwant11 := Lib.hid hwant11
      replace hall11 := Lib.hid hall11
      replace hc111 := Lib.hid hc111
      replace hbel11 := Lib.hid hbel11
      replace hm11 := Lib.hid hm11
      replace hkeep2 := Lib.hid hkeep2
      replace hpart := Lib.hid hpart
      go_wp2_with fail
      refine hkeep2.out.mono ?_
      rintro e W12 ⟨rfl, T2, V2, c2, hk12, hc2n, hc2o, hb12, ty12⟩
      have hwant12 := ty12 _ _ _ _ _ _ (by decide) (by decide) hwant11.out
      have hall12 := ty12 _ _ _ _ _ _ (by decide) (by decide) hall11.out
      have hm12 := ty12 _ _ _ _ _ _ (by decide) (by decide) hm11.out
      have hc112 := ty12 _ _ _ _ _ _ (by decide) (by decide) hc111.out
      have hbel12 := hbel11.out.trans (below_le hb12 hK5)
      have hsame := same_yes A1 lA ln cc1 lc xs W12 (by omega) (row_own hall12) (row_own hwant12)
      clear ty12 hb12
      replace hk12 := Lib.hid hk12
      replace hall12 := Lib.hid hall12
      replace hm12 := Lib.hid hm12
      replace hc112 := Lib.hid hc112
      replace hbel12 := Lib.hid hbel12
      replace hc2n := Lib.hid hc2n
      replace hc2o := Lib.hid hc2o
      replace hsame := Lib.hid hsame
      clear hwant12
      go_wp2_with fail
      refine hsame.out.mono ?_
      rintro e W13 ⟨rfl, g13⟩
      have hk13 := kept_gr hk12.out g13
      have hall13 := kept0 hall12.out g13
      have hm13 := kept0 hm12.out g13
      have hc113 := kept0 hc112.out g13
      have hc213 := kept0 hc2o.out g13
      have hbel13 := below_gr hbel12.out g13 hbel12.out.size (by simp)
      have hm0 : W13.cell? ⟨g2, 0, none⟩ = some (.string (txt A)) := hm13.cellAt 0 (by omega)
      have hK13 : W5.heap.size ≤ W13.heap.size := hbel13.size
      have hpd : Parted [⟨A1, ln, cc1⟩, ⟨some ⟨g2, 0, none⟩, ln + 1, cc2⟩] := by
        intro i j l m k hi hj hl hm
        match i, j, hi, hj with
        | 0, 0, _, _ => rfl
        | 1, 1, _, _ => rfl
        | 0, 1, hi, hj =>
          obtain rfl : (⟨A1, ln, cc1⟩ : Lst) = l := by simpa using hi
          obtain rfl : (⟨some ⟨g2, 0, none⟩, ln + 1, cc2⟩ : Lst) = m := by simpa using hj
          exact absurd (by simpa [Value.ownBlock] using hm.symm) (hpart.out k hl)
        | 1, 0, hi, hj =>
          obtain rfl : (⟨A1, ln, cc1⟩ : Lst) = m := by simpa using hj
          obtain rfl : (⟨some ⟨g2, 0, none⟩, ln + 1, cc2⟩ : Lst) = l := by simpa using hi
          exact absurd (by simpa [Value.ownBlock] using hl.symm) (hpart.out k hm)
        | i + 2, _, hi, _ => simp at hi
        | _, j + 2, _, hj => simp at hj
      have hap := apart_any W7.heap.size T2 V2 [⟨A1, ln, cc1⟩, ⟨some ⟨g2, 0, none⟩, ln + 1, cc2⟩] [c1, c2] W13 (by simp) rfl hk13 hpd (fun j l c hl hc => by
        match j, hl, hc with
        | 0, hl, hc =>
          obtain rfl : (⟨A1, ln, cc1⟩ : Lst) = l := by simpa using hl
          obtain rfl : c1 = c := by simpa using hc
          exact ⟨by simp only; omega, hc1n.out, xs, own_mono hall13 (Nat.zero_le _), own_mono hc113 (Nat.zero_le _)⟩
        | 1, hl, hc =>
          obtain rfl : (⟨some ⟨g2, 0, none⟩, ln + 1, cc2⟩ : Lst) = l := by simpa using hl
          obtain rfl : c2 = c := by simpa using hc
          exact ⟨by simp only; omega, hc2n.out, A :: xs, own_mono hm13 (Nat.zero_le _), own_mono hc213 (Nat.zero_le _)⟩
        | j + 2, hl, _ => simp at hl)
      have hin : ∀ k, InL [⟨A1, ln, cc1⟩, ⟨some ⟨g2, 0, none⟩, ln + 1, cc2⟩] k → W5.heap.size ≤ k := by
        rintro k ⟨l, hm, hb⟩
        simp only [List.mem_cons, List.not_mem_nil, or_false] at hm
        rcases hm with rfl | rfl
        · have := (hall13.lt k hb).1; omega
        · have h1 := (hm13.lt k hb).1
          have h2 := hbel10.out.size
          omega
      replace hk13 := Lib.hid hk13
      replace hall13 := Lib.hid hall13
      replace hm13 := Lib.hid hm13
      replace hc113 := Lib.hid hc113
      replace hc213 := Lib.hid hc213
      replace hbel13 := Lib.hid hbel13
      replace hap := Lib.hid hap
      replace hin := Lib.hid hin
      clear hpd
      go_wp2_with fail
      refine hap.out.mono ?_
      rintro e W14 ⟨rfl, gs14⟩
      go_wp2
      go_ret
      exact ⟨rfl, (gr_below G5.out).trans (below_le (below_grs hbel13.out gs14 hK13 hin.out) (Nat.le_refl _) |> fun h => below_le h (gr_below G5.out).size)⟩


set_option maxRecDepth 100000 in
theorem lifted (os : Os) (started : os.Started) (H : Type) (enc : TypeId × Value → H) :
    ReturnsInHanded {} Try.checked os 6 .any (Rows.guardTellsSpec.pre6 enc Try.prog Try.f6 Rows.guardTellsRow.domain false) (Rows.guardTellsSpec.post enc Try.prog Try.f6 false true false false) := by
  refine returnsInHanded_of_change (C := Try.checked) own started (by kernel_rfl) Try.func6
    (ChangeSpec.witness6 (enc := enc) (C := Try.checked) false ⟨#[], #[.string ByteArray.empty, .string ByteArray.empty], []⟩ 8 (by kernel_rfl) (by kernel_rfl) (by kernel_rfl) (by kernel_rfl)) ?_
  intro W base args ds gs before hval0 hW hcnd _
  have hval : ∀ (j : Nat) t v, Try.f6.params[j]? = some t → args[j]? = some v → Value.okWide Try.prog W .any base t v := hval0
  have hW' := hW
  obtain ⟨p, q, hA0, hV, rfl, hfz, hnd⟩ := hW
  have hA : DataW.TrodAll enc Try.prog W 0 (fun _ => true) true Try.f6.params.toList args.toList ds p := hA0
  rw [Try.params6] at hA hval
  obtain ⟨v0, vs0, d0, ds0, p0, q0, hargs, rfl, rfl, h0, r0⟩ := trodAll_cons hA
  obtain ⟨v1, vs1, d1, ds1, p1, q1, rfl, rfl, rfl, h1, r1⟩ := trodAll_cons r0
  obtain ⟨rfl, rfl, rfl⟩ := trodAll_nil r1
  obtain rfl : args = #[v0, v1] := by cases args; simp_all
  obtain ⟨rfl, rfl⟩ := trodVars_none hV
  obtain ⟨a0, rfl, rfl, rfl, w0⟩ := open_string Try.underlying9 (hval 0 9 v0 rfl rfl) h0
  obtain ⟨a1, rfl, rfl, rfl, w1⟩ := open_string Try.underlying9 (hval 1 9 v1 rfl rfl) h1
  clear hA0 hval0
  refine (walk W a0 w0 a1 w1).mono fun e W' ⟨he, bel⟩ => ?_
  subst he
  exact ⟨_, rfl, _, _, _, [], _, [], hW', trodAll_mk1 (shut_bool Try.underlying4 _), (trodAll_cons_mk (shut_string Try.underlying9 w0) (trodAll_cons_mk (shut_string Try.underlying9 w1) trodAll_mk0)), rfl, bel.frame _, fun h => by cases h⟩

theorem over : Rows.guardTellsRow.holds Try.pinned (OpenSpec.ofChange Rows.guardTellsSpec) :=
  OpenClaim.holds_of_wide 6 Try.f6 rfl rfl rfl rfl rfl rfl rfl ⟨rfl, rfl, rfl, rfl, rfl⟩ rfl rfl rfl rfl rfl (by kernel_rfl) Try.func6 (by kernel_rfl)
    (of_decide_eq_true (by kernel_rfl)) (by unfold Func.isWrapper; first | (rw [if_pos (by decide +kernel)]; kernel_rfl) | (rw [if_neg (by decide +kernel)]; exact ⟨rfl, rfl⟩))
    (fun os started H enc _ => lifted os started H enc)

/-- THE STATEMENT -/
theorem proved : Rows.GuardTellsSaid := over
#print axioms proved
end Go.Proofs.Ytncokhgkojhdfaa.guardTells

