/-
  Several facts, one behind the other; no condition but bounds: The document's bytes of a note that may be. No condition. The document's notes of bytes, one by one: they are those that the program reads. No condition. The document's notes of bytes. No condition but a bound on the length.
-/
import Derived.Test.YtmldoeeangekoaaGreatDiaryLay
import Derived.Test.YtmldoeeangekoaaGreatDiaryOne
import Derived.Test.YtmldoeeangekoaaGreatGuardRef
import Derived.Test.YtmldoeeangekoaaGreatQuietGr
import Derived.Test.YtmldoeeangekoaaGreatDiaryRead
import Derived.Test.YtmldoeeangekoaaGreatRFDA
import Derived.Deep.CutBlock
namespace Go.Proofs.YtmldoeeangekoaaGreat
open Go.RowKit

set_option maxHeartbeats 8000000 in
set_option maxRecDepth 100000 in
theorem rlay_nat (k i r s t : Nat) (file : List UInt8) (w : World) (h : okN ⟨k, ⟨i, r, s, t, file⟩⟩) : Calls Tryz.prog 11 #[.agg #[.int .i64 k, .int .i64 i, .int .i64 r, .int .i64 s, .int .i64 t, .string (txt file)]] w fun e w' => e = .returned (.string (txt (Crc.frm (noteL ⟨k, ⟨i, r, s, t, file⟩⟩)))) ∧ Gr w w' := by
  obtain ⟨⟨h1, h2⟩, ⟨h3, h4⟩, ⟨h5, h6⟩, ⟨h7, h8⟩, ⟨h9, h10⟩, h11⟩ := ok_bounds h
  simp only at h1 h2 h3 h4 h5 h6 h7 h8 h9 h10 h11
  have cK := fun W => refHigh_any k 1 W (by decide) (by omega)
  have cI := fun W => refHigh_any i 4 W (by decide) (by omega)
  have cR := fun W => refHigh_any r 4 W (by decide) (by omega)
  have cS := fun W => refHigh_any s 4 W (by decide) (by omega)
  have cT := fun W => refHigh_any t 4 W (by decide) (by omega)
  have e1 : Crc.be 1 k = [UInt8.ofNat k] := by simp [Crc.be]
  have hfin : noteL ⟨k, ⟨i, r, s, t, file⟩⟩ = Crc.be 1 k ++ Crc.be 4 i ++ Crc.be 4 r ++ Crc.be 4 s ++ Crc.be 4 t ++ file := by rw [e1]; simp [noteL]
  have bK : (Crc.be 1 k).length = 1 := Crc.be_length 1 k
  have bI : (Crc.be 4 i).length = 4 := Crc.be_length 4 i
  have bR : (Crc.be 4 r).length = 4 := Crc.be_length 4 r
  have bS : (Crc.be 4 s).length = 4 := Crc.be_length 4 s
  have bT : (Crc.be 4 t).length = 4 := Crc.be_length 4 t
  rw [hfin]
  simp only [List.append_assoc]
  clear hfin e1 h
  generalize Crc.be 1 k = BK at *
  generalize Crc.be 4 i = BI at *
  generalize Crc.be 4 r = BR at *
  generalize Crc.be 4 s = BS at *
  generalize Crc.be 4 t = BT at *
  have cF := fun W => refFrame_any (BK ++ (BI ++ (BR ++ (BS ++ (BT ++ file))))) W (by simp [bK, bI, bR, bS, bT]; omega)
  have hs1 : (9223372036854775807 < BK.length + BI.length) = False := eq_false (by omega)
  have hs2 : (9223372036854775807 < BK.length + BI.length + BR.length) = False := eq_false (by omega)
  have hs3 : (9223372036854775807 < BK.length + BI.length + BR.length + BS.length) = False := eq_false (by omega)
  have hs4 : (9223372036854775807 < BK.length + BI.length + BR.length + BS.length + BT.length) = False := eq_false (by omega)
  have hs5 : (9223372036854775807 < BK.length + BI.length + BR.length + BS.length + BT.length + file.length) = False := eq_false (by omega)
  have ht3 : (9223372036854775807 < BK.length + (BI.length + BR.length) + BS.length) = False := eq_false (by omega)
  have ht4 : (9223372036854775807 < BK.length + (BI.length + (BR.length + BS.length)) + BT.length) = False := eq_false (by omega)
  have ht5 : (9223372036854775807 < BK.length + (BI.length + (BR.length + (BS.length + BT.length))) + file.length) = False := eq_false (by omega)
  obtain ⟨W1, hW1⟩ : ∃ W1, W1 = (w.alloc (.cells #[.int .i64 k, .int .i64 i, .int .i64 r, .int .i64 s, .int .i64 t, .string (txt file)] 30)).alloc (.cells #[.int .i64 i, .int .i64 r, .int .i64 s, .int .i64 t, .string (txt file)] 28) := ⟨_, rfl⟩
  have hz : (w.alloc (.cells #[.int .i64 k, .int .i64 i, .int .i64 r, .int .i64 s, .int .i64 t, .string (txt file)] 30)).heap.size = w.heap.size + 1 := by simp
  have g1 : Gr w W1 := by rw [hW1]; exact gr_trans (gr_alloc _ _ _) (gr_alloc _ _ _)
  have hR : W1.heap[w.heap.size + 1]? = some (.cells #[.int .i64 i, .int .i64 r, .int .i64 s, .int .i64 t, .string (txt file)] 28) := by rw [← hz, hW1]; exact blk_new _ _
  have n0 : ∀ p : Grown W1, p.wd.cell? ⟨w.heap.size, 0, none⟩ = some (.int .i64 k) := fun p => cell_to (by rw [hW1]; exact gr_cell (gr_alloc _ _ none) (by rw [World.cell?_alloc_new]; rfl)) p
  have r0 : ∀ p : Grown W1, p.wd.cell? ⟨w.heap.size + 1, 0, none⟩ = some (.int .i64 i) := fun p => cell_to (fcell hR rfl) p
  have r1 : ∀ p : Grown W1, p.wd.cell? ⟨w.heap.size + 1, 1, none⟩ = some (.int .i64 r) := fun p => cell_to (fcell hR rfl) p
  have r2 : ∀ p : Grown W1, p.wd.cell? ⟨w.heap.size + 1, 2, none⟩ = some (.int .i64 s) := fun p => cell_to (fcell hR rfl) p
  have r3 : ∀ p : Grown W1, p.wd.cell? ⟨w.heap.size + 1, 3, none⟩ = some (.int .i64 t) := fun p => cell_to (fcell hR rfl) p
  have r4 : ∀ p : Grown W1, p.wd.cell? ⟨w.heap.size + 1, 4, none⟩ = some (.string (txt file)) := fun p => cell_to (fcell hR rfl) p
  replace g1 := Lib.hid g1
  replace hW1 := Lib.hid hW1
  replace cK := Lib.hid cK
  replace cI := Lib.hid cI
  replace cR := Lib.hid cR
  replace cS := Lib.hid cS
  replace cT := Lib.hid cT
  replace cF := Lib.hid cF
  clear hz hR bK bI bR bS bT
  go_enter Tryz.func11, Tryz.ntmps11
  go_upto_region 2 with fail
  rw [← hW1.out]
  refine wp_region_quiet_gr (by kernel_rfl) (by kernel_rfl) ?_
  repeat (go_big_quiet_step (first
    | (go_at_call 46; first | with_reducible exact calls_gr (cK.out _) | with_reducible exact calls_gr (cI.out _) | with_reducible exact calls_gr (cR.out _) | with_reducible exact calls_gr (cS.out _) | with_reducible exact calls_gr (cT.out _))
    | (go_at_call 45; exact calls_gr (cF.out _))))
  refine wpQuiet_nil ?_
  intro w2 hw2
  obtain ⟨⟨wP, gP⟩, rfl⟩ := hw2
  clear n0 r0 r1 r2 r3 r4
  go_wp2
  go_ret
  exact ⟨rfl, gr_trans g1.out gP⟩
theorem rlay_any (x : Nte) (w : World) (h : okN x) : Calls Tryz.prog 11 #[nteV x] w fun e w' => e = .returned (.string (txt (Crc.frm (noteL x)))) ∧ Gr w w' := by
  obtain ⟨kd, ⟨id, rows, size, tl, file⟩⟩ := x
  obtain ⟨⟨h1, h2⟩, ⟨h3, h4⟩, ⟨h5, h6⟩, ⟨h7, h8⟩, ⟨h9, h10⟩, h11⟩ := ok_bounds h
  simp only at h1 h2 h3 h4 h5 h6 h7 h8 h9 h10 h11
  obtain ⟨k, rfl⟩ := Int.eq_ofNat_of_zero_le (show 0 ≤ kd by omega)
  obtain ⟨i, rfl⟩ := Int.eq_ofNat_of_zero_le h3
  obtain ⟨r, rfl⟩ := Int.eq_ofNat_of_zero_le h5
  obtain ⟨s, rfl⟩ := Int.eq_ofNat_of_zero_le h7
  obtain ⟨t, rfl⟩ := Int.eq_ofNat_of_zero_le h9
  exact rlay_nat k i r s t file w h
end Go.Proofs.YtmldoeeangekoaaGreat
namespace Go.Proofs.YtmldoeeangekoaaGreat

/-- Notes read one by one. -/
def rdN : Nat → List UInt8 → List Nte
  | 0, _ => []
  | f + 1, L => if (Crc.take L).2.2 = 0 ∧ 17 ≤ (Crc.take L).1.length ∧ okN (noteOf (Crc.take L).1) then noteOf (Crc.take L).1 :: rdN f (Crc.take L).2.1 else []
theorem rdN_all : ∀ (f : Nat) (L : List UInt8), readN (Crc.all f L).1 = rdN f L
  | 0, _ => rfl
  | f + 1, L => by
    unfold Crc.all rdN
    by_cases h : (Crc.take L).2.2 = 0
    · rw [if_pos h]
      simp only
      unfold readN
      by_cases h2 : 17 ≤ (Crc.take L).1.length ∧ okN (noteOf (Crc.take L).1)
      · rw [if_pos h2, if_pos ⟨h, h2⟩, rdN_all f]
      · rw [if_neg h2, if_neg (fun e => h2 e.2)]
    · rw [if_neg h, if_neg (fun e => h e.1)]
      rfl
theorem rdN_more : ∀ (f g : Nat) (L : List UInt8), L.length ≤ f → L.length ≤ g → rdN f L = rdN g L
  | 0, g, L, hf, hg => by
    have hl : L = [] := List.length_eq_zero_iff.1 (by omega)
    subst hl
    cases g with
    | zero => rfl
    | succ g => rfl
  | f + 1, 0, L, hf, hg => by
    have hl : L = [] := List.length_eq_zero_iff.1 (by omega)
    subst hl
    rfl
  | f + 1, g + 1, L, hf, hg => by
    unfold rdN
    by_cases h : (Crc.take L).2.2 = 0
    · have h1 := (Crc.take_shorter L h).1
      rw [rdN_more f g _ (by omega) (by omega)]
    · rw [if_neg (fun e => h e.1), if_neg (fun e => h e.1)]
theorem rdN_yes {L : List UInt8} (h : (Crc.take L).2.2 = 0) (h1 : 17 ≤ (Crc.take L).1.length) (h2 : okN (noteOf (Crc.take L).1)) : rdN L.length L = noteOf (Crc.take L).1 :: rdN (Crc.take L).2.1.length (Crc.take L).2.1 := by
  have h3 := Crc.take_shorter L h
  cases hl : L.length with
  | zero => omega
  | succ n =>
    unfold rdN
    rw [if_pos ⟨h, h1, h2⟩, rdN_more n (Crc.take L).2.1.length _ (by omega) (Nat.le_refl _)]
    cases hq : (Crc.take L).2.1.length with
    | zero => rfl
    | succ q => conv => lhs; rw [rdN]
theorem rdN_no {L : List UInt8} (h : ¬ ((Crc.take L).2.2 = 0 ∧ 17 ≤ (Crc.take L).1.length ∧ okN (noteOf (Crc.take L).1))) : rdN L.length L = [] := by
  cases hl : L.length with
  | zero => rfl
  | succ n => unfold rdN; rw [if_neg h]
theorem notesOf_rd (L : List UInt8) : notesOf L = rdN L.length L := rdN_all _ _
theorem catN_snocL (ns : List Nte) (x : Nte) : (catN (ns ++ [x])).length = (catN ns).length + (10 + (noteL x).length) := by
  unfold catN
  rw [List.map_append, List.map_singleton, Crc.cat_snoc, List.length_append, Crc.frm_length]
  omega
theorem catN_geL (ns : List Nte) : ns.length ≤ (catN ns).length := by
  induction ns with
  | nil => exact Nat.zero_le _
  | cons x l ih =>
    unfold catN at ih ⊢
    rw [List.map_cons, Crc.cat_cons, List.length_append, Crc.frm_length, List.length_cons]
    omega
end Go.Proofs.YtmldoeeangekoaaGreat
namespace Go.Proofs.YtmldoeeangekoaaGreat
open Go.RowKit

theorem nt_there {w : World} {b : Nat} {v0 v1 v2 v3 v4 v5 : Value} {t : TypeId} (h : w.heap[b]? = some (.cells #[v0, v1, v2, v3, v4, v5] t (0, 0))) : w.there b 0 6 := fun j hj => ⟨by
  match j, hj with
  | 0, _ => rw [fcell h rfl]; rfl
  | 1, _ => rw [fcell h rfl]; rfl
  | 2, _ => rw [fcell h rfl]; rfl
  | 3, _ => rw [fcell h rfl]; rfl
  | 4, _ => rw [fcell h rfl]; rfl
  | 5, _ => rw [fcell h rfl]; rfl
  | j + 6, hj => omega, fzero h _⟩
set_option maxHeartbeats 16000000 in
set_option maxRecDepth 100000 in
theorem rnotes_any (L : List UInt8) (w : World) (hL : L.length ≤ 1000000) : Calls Tryz.prog 13 #[.string (txt L)] w (ReadPost L w) := by
  obtain ⟨ii, hi, hz0, hz1, hz2⟩ := info_parts infoNote
  have cV : ∀ (l : List UInt8) (W : World), l.length ≤ 6 → Calls Tryz.prog 50 #[.string (txt l)] W fun e w' => e = .returned (.int .i64 (dvN l)) ∧ W = w' := fun l W h => refValue_any l W h
  have cN := fun x W => refNote_any x W
  unfold nteV at cN
  replace cV := Lib.hid cV
  replace cN := Lib.hid cN
  go_enter Tryz.func13, Tryz.ntmps13
  go_wp2
  go_loopw [0, 4, 5] (fun bv ov nv wr => ∃ (R : List UInt8) (ns : List Nte) (k : Nat), bv = .string (txt R) ∧ nv = .int .i64 k ∧ Hid (k = (catN ns).length) ∧ Hid (notesOf L = ns ++ rdN R.length R) ∧ Hid (k + R.length = L.length) ∧ Hid (wr.ownsRow w.heap.size 30 6 ov ns.length (sR nteC ns)) ∧ Hid (Below w.heap.size w wr)) (fun bv _ _ _ => match bv with | .string s => s.size | _ => 0)
  case atStart => exact ⟨L, [], 0, rfl, rfl, rfl, by rw [notesOf_rd]; exact Lib.hid rfl, Lib.hid (Nat.zero_add _), World.ownsRow_nil _ _ _ _, Below.refl _ _⟩
  case round =>
    obtain ⟨R, ns, k, rfl, rfl, hk, hN, hlen, hown, hbel⟩ := hrel
    have hRl : R.length ≤ 1000000 := by have := hlen.out; omega
    have hT := refTake_any R wr hRl
    unfold TakePost at hT
    have hno := fun h => rdN_no (L := R) h
    have hyes := rdN_yes (L := R)
    have hsh := Crc.take_shorter R
    generalize Crc.take R = tk at *
    obtain ⟨f, rest, e0⟩ := tk
    simp only at hT hno hyes hsh
    have hstop : ¬ (e0 = 0 ∧ 17 ≤ f.length ∧ okN (noteOf f)) → notesOf L = ns := fun h => by rw [hN.out, hno h, List.append_nil]
    have hs0 := hbel.out.size
    replace hT := Lib.hid hT
    replace hstop := Lib.hid hstop
    clear hno
    go_wp2_with fail
    refine hT.out.mono ?_
    rintro e W1 ⟨rfl, g1⟩
    have hown1 := hown.out.kept g1 (Classical.em _)
    have hbel1 := below_gr hbel.out g1 hs0 (by simp)
    have hs1 := hbel1.size
    replace hown1 := Lib.hid hown1
    replace hbel1 := Lib.hid hbel1
    clear hT hown hbel hs0 g1
    by_cases he : e0 = 0
    · subst he
      by_cases hf : 17 ≤ f.length
      · have hfi : ((f.length : Int) < 17) = False := eq_false (by omega)
        obtain ⟨hsh1, hsh2⟩ := hsh rfl
        have hfl : f.length ≤ 1000000 := by omega
        have hi0 : (0 : Int) < (f.length : Int) := by omega
        have hi2 : (17 : Int) ≤ (f.length : Int) := by omega
        have hl0 : 0 < f.length := by omega
        have hl13 : (5 : Int) ≤ (f.length : Int) := by omega
        have hl9 : (9 : Int) ≤ (f.length : Int) := by omega
        have hl14 : (13 : Int) ≤ (f.length : Int) := by omega
        obtain ⟨c, hc⟩ : ∃ c : UInt8, c = f.getD 0 0 := ⟨_, rfl⟩
        have hget : (txt f)[0]'(by rw [txt_size]; omega) = c := by
          rw [hc]
          cases f with
          | nil => simp at hl0
          | cons b f => rfl
        have hget2 : f[0]'(by omega) = c := by
          rw [hc]
          cases f with
          | nil => simp at hl0
          | cons b f => rfl
        have hwc : IntKind.i64.wrap (c.toNat : Int) = (c.toNat : Int) := IntWalk.i64_in _ (by have := c.toNat_lt; omega)
        have hno : noteOf f = ⟨((f.getD 0 0).toNat : Int), ⟨(dvN ((f.drop 1).take 4) : Nat), (dvN ((f.drop 5).take 4) : Nat), (dvN ((f.drop 9).take 4) : Nat), (dvN ((f.drop 13).take 4) : Nat), f.drop 17⟩⟩ := rfl
        have hnl := noteL_of hf
        have x1 : (txt f).extract 1 5 = txt ((f.drop 1).take 4) := sub_txt f 1 4
        have x2 : (txt f).extract 5 9 = txt ((f.drop 5).take 4) := sub_txt f 5 4
        have x3 : (txt f).extract 9 13 = txt ((f.drop 9).take 4) := sub_txt f 9 4
        have x4 : (txt f).extract 13 17 = txt ((f.drop 13).take 4) := sub_txt f 13 4
        have x5 : (txt f).extract 17 f.length = txt (f.drop 17) := str_eq (by
          rw [Lib.extract_data, txt_data, List.take_of_length_le]
          rw [List.length_drop]; exact Nat.le_refl _)
        have v1 := fun W => cV.out ((f.drop 1).take 4) W (by rw [List.length_take]; omega)
        have v2 := fun W => cV.out ((f.drop 5).take 4) W (by rw [List.length_take]; omega)
        have v3 := fun W => cV.out ((f.drop 9).take 4) W (by rw [List.length_take]; omega)
        have v4 := fun W => cV.out ((f.drop 13).take 4) W (by rw [List.length_take]; omega)
        generalize (f.drop 1).take 4 = f1 at *
        generalize (f.drop 5).take 4 = f2 at *
        generalize (f.drop 9).take 4 = f3 at *
        generalize (f.drop 13).take 4 = f4 at *
        generalize ((dvN f1 : Nat) : Int) = a0 at *
        generalize ((dvN f2 : Nat) : Int) = a1 at *
        generalize ((dvN f3 : Nat) : Int) = a2 at *
        generalize ((dvN f4 : Nat) : Int) = a3 at *
        have cR := fun W => cN.out (noteOf f) W
        rw [hno] at cR
        rw [← hc] at hno cR
        simp only at cR
        replace v1 := Lib.hid v1
        replace v2 := Lib.hid v2
        replace v3 := Lib.hid v3
        replace v4 := Lib.hid v4
        replace cR := Lib.hid cR
        replace hyes := Lib.hid hyes
        replace hno := Lib.hid hno
        replace hnl := Lib.hid hnl
        replace hc := Lib.hid hc
        clear hsh
        go_upto_region 6 with fail
        go_cut [9] (fun xv wx => ∃ X : Nat, xv = .pointer (some ⟨X, 0, none⟩) ∧ Hid (wx.heap[X]? = some (.cells #[.int .i64 (c.toNat : Int), .int .i64 a0, .int .i64 a1, .int .i64 a2, .int .i64 a3, .string (txt (f.drop 17))] 30 (0, 0))) ∧ Hid (Gr W1 wx))
        case first =>
          refine wp_region_held_drew (S := (fun w' => Gr W1 w')) rfl (gr_drew W1 none) (fun hHeld => ?_)
          have hG : Gr W1 W1.drew := gr_drew W1 none
          generalize W1.drew = wd at *
          refine wpAnyH_take (i := 0) (oi := ⟨some 25, _, _, _, _, _⟩) (v := ?_) rfl (by kernel_rfl) (by kernel_rfl) (by kernel_rfl) (fun _ _ _ h => h) (Or.inl ⟨by rfl, ?_⟩) hHeld ?_
          rotate_left
          · intro w hSw
            try dsimp only at hSw
            go_simp
            first | done | with_reducible rfl
          try simp only [Act.put, List.setIfInBounds_toArray, List.set_cons_zero, List.set_cons_succ]
          refine wpAnyH_take (i := 1) (oi := ⟨some 26, _, _, _, _, _⟩) (v := ?_) rfl (by kernel_rfl) (by kernel_rfl) (by kernel_rfl) (fun _ _ _ h => h) (Or.inl ⟨by rfl, ?_⟩) hHeld ?_
          rotate_left
          · intro w hSw
            try dsimp only at hSw
            go_simp
            first | done | with_reducible rfl
          try simp only [Act.put, List.setIfInBounds_toArray, List.set_cons_zero, List.set_cons_succ]
          refine wpAnyH_take (i := 2) (oi := ⟨some 27, _, _, _, _, _⟩) (v := ?_) rfl (by kernel_rfl) (by kernel_rfl) (by kernel_rfl) (fun _ _ _ h => h) (Or.inl ⟨by rfl, ?_⟩) hHeld ?_
          rotate_left
          · intro w hSw
            try dsimp only at hSw
            go_simp
            first | done | with_reducible rfl
          try simp only [Act.put, List.setIfInBounds_toArray, List.set_cons_zero, List.set_cons_succ]
          refine wpAnyH_take (i := 3) (oi := ⟨some 28, _, _, _, _, _⟩) (v := ?_) rfl (by kernel_rfl) (by kernel_rfl) (by kernel_rfl) (fun _ _ _ h => h) (Or.inl ⟨by rfl, ?_⟩) hHeld ?_
          rotate_left
          · intro w hSw
            try dsimp only at hSw
            go_simp
            first | done | with_reducible rfl
          try simp only [Act.put, List.setIfInBounds_toArray, List.set_cons_zero, List.set_cons_succ]
          refine wpAnyH_take (i := 4) (oi := ⟨some 29, _, _, _, _, _⟩) (v := ?_) rfl (by kernel_rfl) (by kernel_rfl) (by kernel_rfl) (fun _ _ _ h => h) (Or.inl ⟨by rfl, ?_⟩) hHeld ?_
          rotate_left
          · intro w hSw
            try dsimp only at hSw
            go_simp
            first | done | with_reducible rfl
          try simp only [Act.put, List.setIfInBounds_toArray, List.set_cons_zero, List.set_cons_succ]
          refine wpAnyH_take (i := 6) (oi := ⟨some 31, _, _, _, _, _⟩) (v := ?_) rfl (by kernel_rfl) (by kernel_rfl) (by kernel_rfl) (fun _ _ _ h => h) (Or.inl ⟨by rfl, ?_⟩) hHeld ?_
          rotate_left
          · intro w hSw
            try dsimp only at hSw
            go_simp
            first | done | with_reducible rfl
          try simp only [Act.put, List.setIfInBounds_toArray, List.set_cons_zero, List.set_cons_succ]
          refine wpAnyH_take (i := 7) (oi := ⟨some 32, _, _, _, _, _⟩) (v := ?_) rfl (by kernel_rfl) (by kernel_rfl) (by kernel_rfl) (fun _ _ _ h => h) (Or.inl ⟨by rfl, ?_⟩) hHeld ?_
          rotate_left
          · intro w hSw
            try dsimp only at hSw
            go_simp
            first | done | with_reducible rfl
          try simp only [Act.put, List.setIfInBounds_toArray, List.set_cons_zero, List.set_cons_succ]
          refine wpAnyH_take (i := 9) (oi := ⟨some 34, _, _, _, _, _⟩) (v := ?_) rfl (by kernel_rfl) (by kernel_rfl) (by kernel_rfl) (fun _ _ _ h => h) (Or.inl ⟨by rfl, ?_⟩) hHeld ?_
          rotate_left
          · intro w hSw
            try dsimp only at hSw
            go_simp
            first | done | with_reducible rfl
          try simp only [Act.put, List.setIfInBounds_toArray, List.set_cons_zero, List.set_cons_succ]
          refine wpAnyH_take (i := 10) (oi := ⟨some 35, _, _, _, _, _⟩) (v := ?_) rfl (by kernel_rfl) (by kernel_rfl) (by kernel_rfl) (fun _ _ _ h => h) (Or.inl ⟨by rfl, ?_⟩) hHeld ?_
          rotate_left
          · intro w hSw
            try dsimp only at hSw
            go_simp
            first | done | with_reducible rfl
          try simp only [Act.put, List.setIfInBounds_toArray, List.set_cons_zero, List.set_cons_succ]
          refine wpAnyH_take (i := 12) (oi := ⟨some 37, _, _, _, _, _⟩) (v := ?_) rfl (by kernel_rfl) (by kernel_rfl) (by kernel_rfl) (fun _ _ _ h => h) (Or.inl ⟨by rfl, ?_⟩) hHeld ?_
          rotate_left
          · intro w hSw
            try dsimp only at hSw
            go_simp
            first | done | with_reducible rfl
          try simp only [Act.put, List.setIfInBounds_toArray, List.set_cons_zero, List.set_cons_succ]
          refine wpAnyH_take (i := 13) (oi := ⟨some 38, _, _, _, _, _⟩) (v := ?_) rfl (by kernel_rfl) (by kernel_rfl) (by kernel_rfl) (fun _ _ _ h => h) (Or.inl ⟨by rfl, ?_⟩) hHeld ?_
          rotate_left
          · intro w hSw
            try dsimp only at hSw
            go_simp
            first | done | with_reducible rfl
          try simp only [Act.put, List.setIfInBounds_toArray, List.set_cons_zero, List.set_cons_succ]
          refine wpAnyH_take (i := 15) (oi := ⟨some 40, _, _, _, _, _⟩) (v := ?_) rfl (by kernel_rfl) (by kernel_rfl) (by kernel_rfl) (fun _ _ _ h => h) (Or.inl ⟨by rfl, ?_⟩) hHeld ?_
          rotate_left
          · intro w hSw
            try dsimp only at hSw
            go_simp
            first | done | with_reducible rfl
          try simp only [Act.put, List.setIfInBounds_toArray, List.set_cons_zero, List.set_cons_succ]
          refine wpAnyH_take (i := 16) (oi := ⟨some 41, _, _, _, _, _⟩) (v := ?_) rfl (by kernel_rfl) (by kernel_rfl) (by kernel_rfl) (fun _ _ _ h => h) (Or.inl ⟨by rfl, ?_⟩) hHeld ?_
          rotate_left
          · intro w hSw
            try dsimp only at hSw
            go_simp
            first | done | with_reducible rfl
          try simp only [Act.put, List.setIfInBounds_toArray, List.set_cons_zero, List.set_cons_succ]
          refine wpAnyH_ready (rs := [5, 19]) (by kernel_rfl) (by simp) (AllReadyH.cons (o := _) rfl (fun K hK => ?_) (AllReadyH.cons (o := _) rfl (fun K hK => ?_) AllReadyH.nil))
          · skip
            go_simp
            refine (v1.out _).mono ?_
            rintro e wz ⟨rfl, hwz⟩
            subst hwz
            try (go_wp2_with fail)
            refine hK.out _ _ ?_ (fun hHeld => ?_)
            · exact hG
            clear hK K
            try simp only [Act.put, List.setIfInBounds_toArray, List.set_cons_zero, List.set_cons_succ]
            refine wpAnyH_ready (rs := [8, 19]) (by kernel_rfl) (by simp) (AllReadyH.cons (o := _) rfl (fun K hK => ?_) (AllReadyH.cons (o := _) rfl (fun K hK => ?_) AllReadyH.nil))
            · skip
              go_simp
              refine (v2.out _).mono ?_
              rintro e wz ⟨rfl, hwz⟩
              subst hwz
              try (go_wp2_with fail)
              refine hK.out _ _ ?_ (fun hHeld => ?_)
              · exact hG
              clear hK K
              try simp only [Act.put, List.setIfInBounds_toArray, List.set_cons_zero, List.set_cons_succ]
              refine wpAnyH_ready (rs := [11, 19]) (by kernel_rfl) (by simp) (AllReadyH.cons (o := _) rfl (fun K hK => ?_) (AllReadyH.cons (o := _) rfl (fun K hK => ?_) AllReadyH.nil))
              · skip
                go_simp
                refine (v3.out _).mono ?_
                rintro e wz ⟨rfl, hwz⟩
                subst hwz
                try (go_wp2_with fail)
                refine hK.out _ _ ?_ (fun hHeld => ?_)
                · exact hG
                clear hK K
                try simp only [Act.put, List.setIfInBounds_toArray, List.set_cons_zero, List.set_cons_succ]
                refine wpAnyH_ready (rs := [14, 19]) (by kernel_rfl) (by simp) (AllReadyH.cons (o := _) rfl (fun K hK => ?_) (AllReadyH.cons (o := _) rfl (fun K hK => ?_) AllReadyH.nil))
                · skip
                  go_simp
                  refine (v4.out _).mono ?_
                  rintro e wz ⟨rfl, hwz⟩
                  subst hwz
                  try (go_wp2_with fail)
                  refine hK.out _ _ ?_ (fun hHeld => ?_)
                  · exact hG
                  clear hK K
                  try simp only [Act.put, List.setIfInBounds_toArray, List.set_cons_zero, List.set_cons_succ]
                  refine wpAnyH_take (i := 17) (oi := ⟨some 42, _, _, _, _, _⟩) (v := ?_) rfl (by kernel_rfl) (by kernel_rfl) (by kernel_rfl) (fun _ _ _ h => h) (Or.inl ⟨by rfl, ?_⟩) hHeld ?_
                  rotate_left
                  · intro w hSw
                    try dsimp only at hSw
                    go_simp
                    first | done | with_reducible rfl
                  try simp only [Act.put, List.setIfInBounds_toArray, List.set_cons_zero, List.set_cons_succ]
                  refine wpAnyH_take (i := 18) (oi := ⟨some 43, _, _, _, _, _⟩) (v := ?_) rfl (by kernel_rfl) (by kernel_rfl) (by kernel_rfl) (fun _ _ _ h => h) (Or.inl ⟨by rfl, ?_⟩) hHeld ?_
                  rotate_left
                  · intro w hSw
                    try dsimp only at hSw
                    go_simp
                    first | done | with_reducible rfl
                  try simp only [Act.put, List.setIfInBounds_toArray, List.set_cons_zero, List.set_cons_succ]
                  refine wpAnyH_ready (rs := [19]) (by kernel_rfl) (by simp) (AllReadyH.cons (o := _) rfl (fun K hK => ?_) AllReadyH.nil)
                  go_simp
                  refine hK.out _ _ ?_ (fun hHeld => ?_)
                  · exact gr_trans hG (gr_alloc _ _ _)
                  clear hK K
                  try simp only [Act.put, List.setIfInBounds_toArray, List.set_cons_zero, List.set_cons_succ]
                  have hal := blk_new wd (.cells #[.int .i64 0, .int .i64 0, .int .i64 0, .int .i64 0, .int .i64 0, .string ⟨#[]⟩] 30)
                  have hXg := hG.size
                  have hG := gr_trans hG (gr_alloc wd (.cells #[.int .i64 0, .int .i64 0, .int .i64 0, .int .i64 0, .int .i64 0, .string ⟨#[]⟩] 30) none)
                  obtain ⟨wn, hN⟩ : ∃ wn, wn = wd.alloc (.cells #[.int .i64 0, .int .i64 0, .int .i64 0, .int .i64 0, .int .i64 0, .string ⟨#[]⟩] 30) := ⟨_, rfl⟩
                  obtain ⟨X, hX⟩ : ∃ X, X = wd.heap.size := ⟨_, rfl⟩
                  rw [← hN] at hal hG hHeld ⊢
                  rw [← hX] at hal hXg ⊢
                  clear hN hX
                  refine wpAnyH_ready (rs := [20]) (by kernel_rfl) (by simp) (AllReadyH.cons (o := _) rfl (fun K hK => ?_) AllReadyH.nil)
                  have hth := nt_there hal
                  have gS := gr_setCells wn X 0 [.int .i64 (c.toNat : Int), .int .i64 a0, .int .i64 a1, .int .i64 a2, .int .i64 a3, .string (txt (f.drop 17))]
                  have hGf : Gr W1 (wn.setCells X 0 [.int .i64 (c.toNat : Int), .int .i64 a0, .int .i64 a1, .int .i64 a2, .int .i64 a3, .string (txt (f.drop 17))]) := gr_of_below ((gr_below hG).grown gS hG.size (by intro k hk; cases hk; exact hXg)) (Nat.le_refl _)
                  have hCu := blk_set (blk_set (blk_set (blk_set (blk_set (blk_set hal 0 (.int .i64 (c.toNat : Int))) 1 (.int .i64 a0)) 2 (.int .i64 a1)) 3 (.int .i64 a2)) 4 (.int .i64 a3)) 5 (.string (txt (f.drop 17)))
                  refine step_store_mid rfl 30 _ _ rfl X 0 #[.int .i64 (c.toNat : Int), .int .i64 a0, .int .i64 a1, .int .i64 a2, .int .i64 a3, .string (txt (f.drop 17))] rfl rfl hth infoNt (by simp [Value.oneCell']) ?_
                  refine hK.out _ _ ?_ (fun hHeld => ?_)
                  · exact hGf
                  clear hK K hHeld
                  try simp only [Act.put, List.setIfInBounds_toArray, List.set_cons_zero, List.set_cons_succ]
                  refine wpAnyH_done (by kernel_rfl) ?_ _
                  go_simp
                  go_step
                  go_meet
                  exact ⟨X, rfl, Lib.hid hCu, Lib.hid hGf⟩
                · skip
                  go_simp
                  refine hK.out _ _ ?_ (fun hHeld => ?_)
                  · exact gr_trans hG (gr_alloc _ _ _)
                  clear hK K
                  try simp only [Act.put, List.setIfInBounds_toArray, List.set_cons_zero, List.set_cons_succ]
                  have hal := blk_new wd (.cells #[.int .i64 0, .int .i64 0, .int .i64 0, .int .i64 0, .int .i64 0, .string ⟨#[]⟩] 30)
                  have hXg := hG.size
                  have hG := gr_trans hG (gr_alloc wd (.cells #[.int .i64 0, .int .i64 0, .int .i64 0, .int .i64 0, .int .i64 0, .string ⟨#[]⟩] 30) none)
                  obtain ⟨wn, hN⟩ : ∃ wn, wn = wd.alloc (.cells #[.int .i64 0, .int .i64 0, .int .i64 0, .int .i64 0, .int .i64 0, .string ⟨#[]⟩] 30) := ⟨_, rfl⟩
                  obtain ⟨X, hX⟩ : ∃ X, X = wd.heap.size := ⟨_, rfl⟩
                  rw [← hN] at hal hG hHeld ⊢
                  rw [← hX] at hal hXg ⊢
                  clear hN hX
                  refine wpAnyH_ready (rs := [14]) (by kernel_rfl) (by simp) (AllReadyH.cons (o := _) rfl (fun K hK => ?_) AllReadyH.nil)
                  go_simp
                  refine (v4.out _).mono ?_
                  rintro e wz ⟨rfl, hwz⟩
                  subst hwz
                  try (go_wp2_with fail)
                  refine hK.out _ _ ?_ (fun hHeld => ?_)
                  · exact hG
                  clear hK K
                  try simp only [Act.put, List.setIfInBounds_toArray, List.set_cons_zero, List.set_cons_succ]
                  refine wpAnyH_take (i := 17) (oi := ⟨some 42, _, _, _, _, _⟩) (v := ?_) rfl (by kernel_rfl) (by kernel_rfl) (by kernel_rfl) (fun _ _ _ h => h) (Or.inl ⟨by rfl, ?_⟩) hHeld ?_
                  rotate_left
                  · intro w hSw
                    try dsimp only at hSw
                    go_simp
                    first | done | with_reducible rfl
                  try simp only [Act.put, List.setIfInBounds_toArray, List.set_cons_zero, List.set_cons_succ]
                  refine wpAnyH_take (i := 18) (oi := ⟨some 43, _, _, _, _, _⟩) (v := ?_) rfl (by kernel_rfl) (by kernel_rfl) (by kernel_rfl) (fun _ _ _ h => h) (Or.inl ⟨by rfl, ?_⟩) hHeld ?_
                  rotate_left
                  · intro w hSw
                    try dsimp only at hSw
                    go_simp
                    first | done | with_reducible rfl
                  try simp only [Act.put, List.setIfInBounds_toArray, List.set_cons_zero, List.set_cons_succ]
                  refine wpAnyH_ready (rs := [20]) (by kernel_rfl) (by simp) (AllReadyH.cons (o := _) rfl (fun K hK => ?_) AllReadyH.nil)
                  have hth := nt_there hal
                  have gS := gr_setCells wn X 0 [.int .i64 (c.toNat : Int), .int .i64 a0, .int .i64 a1, .int .i64 a2, .int .i64 a3, .string (txt (f.drop 17))]
                  have hGf : Gr W1 (wn.setCells X 0 [.int .i64 (c.toNat : Int), .int .i64 a0, .int .i64 a1, .int .i64 a2, .int .i64 a3, .string (txt (f.drop 17))]) := gr_of_below ((gr_below hG).grown gS hG.size (by intro k hk; cases hk; exact hXg)) (Nat.le_refl _)
                  have hCu := blk_set (blk_set (blk_set (blk_set (blk_set (blk_set hal 0 (.int .i64 (c.toNat : Int))) 1 (.int .i64 a0)) 2 (.int .i64 a1)) 3 (.int .i64 a2)) 4 (.int .i64 a3)) 5 (.string (txt (f.drop 17)))
                  refine step_store_mid rfl 30 _ _ rfl X 0 #[.int .i64 (c.toNat : Int), .int .i64 a0, .int .i64 a1, .int .i64 a2, .int .i64 a3, .string (txt (f.drop 17))] rfl rfl hth infoNt (by simp [Value.oneCell']) ?_
                  refine hK.out _ _ ?_ (fun hHeld => ?_)
                  · exact hGf
                  clear hK K hHeld
                  try simp only [Act.put, List.setIfInBounds_toArray, List.set_cons_zero, List.set_cons_succ]
                  refine wpAnyH_done (by kernel_rfl) ?_ _
                  go_simp
                  go_step
                  go_meet
                  exact ⟨X, rfl, Lib.hid hCu, Lib.hid hGf⟩
              · skip
                go_simp
                refine hK.out _ _ ?_ (fun hHeld => ?_)
                · exact gr_trans hG (gr_alloc _ _ _)
                clear hK K
                try simp only [Act.put, List.setIfInBounds_toArray, List.set_cons_zero, List.set_cons_succ]
                have hal := blk_new wd (.cells #[.int .i64 0, .int .i64 0, .int .i64 0, .int .i64 0, .int .i64 0, .string ⟨#[]⟩] 30)
                have hXg := hG.size
                have hG := gr_trans hG (gr_alloc wd (.cells #[.int .i64 0, .int .i64 0, .int .i64 0, .int .i64 0, .int .i64 0, .string ⟨#[]⟩] 30) none)
                obtain ⟨wn, hN⟩ : ∃ wn, wn = wd.alloc (.cells #[.int .i64 0, .int .i64 0, .int .i64 0, .int .i64 0, .int .i64 0, .string ⟨#[]⟩] 30) := ⟨_, rfl⟩
                obtain ⟨X, hX⟩ : ∃ X, X = wd.heap.size := ⟨_, rfl⟩
                rw [← hN] at hal hG hHeld ⊢
                rw [← hX] at hal hXg ⊢
                clear hN hX
                refine wpAnyH_ready (rs := [11]) (by kernel_rfl) (by simp) (AllReadyH.cons (o := _) rfl (fun K hK => ?_) AllReadyH.nil)
                go_simp
                refine (v3.out _).mono ?_
                rintro e wz ⟨rfl, hwz⟩
                subst hwz
                try (go_wp2_with fail)
                refine hK.out _ _ ?_ (fun hHeld => ?_)
                · exact hG
                clear hK K
                try simp only [Act.put, List.setIfInBounds_toArray, List.set_cons_zero, List.set_cons_succ]
                refine wpAnyH_ready (rs := [14]) (by kernel_rfl) (by simp) (AllReadyH.cons (o := _) rfl (fun K hK => ?_) AllReadyH.nil)
                go_simp
                refine (v4.out _).mono ?_
                rintro e wz ⟨rfl, hwz⟩
                subst hwz
                try (go_wp2_with fail)
                refine hK.out _ _ ?_ (fun hHeld => ?_)
                · exact hG
                clear hK K
                try simp only [Act.put, List.setIfInBounds_toArray, List.set_cons_zero, List.set_cons_succ]
                refine wpAnyH_take (i := 17) (oi := ⟨some 42, _, _, _, _, _⟩) (v := ?_) rfl (by kernel_rfl) (by kernel_rfl) (by kernel_rfl) (fun _ _ _ h => h) (Or.inl ⟨by rfl, ?_⟩) hHeld ?_
                rotate_left
                · intro w hSw
                  try dsimp only at hSw
                  go_simp
                  first | done | with_reducible rfl
                try simp only [Act.put, List.setIfInBounds_toArray, List.set_cons_zero, List.set_cons_succ]
                refine wpAnyH_take (i := 18) (oi := ⟨some 43, _, _, _, _, _⟩) (v := ?_) rfl (by kernel_rfl) (by kernel_rfl) (by kernel_rfl) (fun _ _ _ h => h) (Or.inl ⟨by rfl, ?_⟩) hHeld ?_
                rotate_left
                · intro w hSw
                  try dsimp only at hSw
                  go_simp
                  first | done | with_reducible rfl
                try simp only [Act.put, List.setIfInBounds_toArray, List.set_cons_zero, List.set_cons_succ]
                refine wpAnyH_ready (rs := [20]) (by kernel_rfl) (by simp) (AllReadyH.cons (o := _) rfl (fun K hK => ?_) AllReadyH.nil)
                have hth := nt_there hal
                have gS := gr_setCells wn X 0 [.int .i64 (c.toNat : Int), .int .i64 a0, .int .i64 a1, .int .i64 a2, .int .i64 a3, .string (txt (f.drop 17))]
                have hGf : Gr W1 (wn.setCells X 0 [.int .i64 (c.toNat : Int), .int .i64 a0, .int .i64 a1, .int .i64 a2, .int .i64 a3, .string (txt (f.drop 17))]) := gr_of_below ((gr_below hG).grown gS hG.size (by intro k hk; cases hk; exact hXg)) (Nat.le_refl _)
                have hCu := blk_set (blk_set (blk_set (blk_set (blk_set (blk_set hal 0 (.int .i64 (c.toNat : Int))) 1 (.int .i64 a0)) 2 (.int .i64 a1)) 3 (.int .i64 a2)) 4 (.int .i64 a3)) 5 (.string (txt (f.drop 17)))
                refine step_store_mid rfl 30 _ _ rfl X 0 #[.int .i64 (c.toNat : Int), .int .i64 a0, .int .i64 a1, .int .i64 a2, .int .i64 a3, .string (txt (f.drop 17))] rfl rfl hth infoNt (by simp [Value.oneCell']) ?_
                refine hK.out _ _ ?_ (fun hHeld => ?_)
                · exact hGf
                clear hK K hHeld
                try simp only [Act.put, List.setIfInBounds_toArray, List.set_cons_zero, List.set_cons_succ]
                refine wpAnyH_done (by kernel_rfl) ?_ _
                go_simp
                go_step
                go_meet
                exact ⟨X, rfl, Lib.hid hCu, Lib.hid hGf⟩
            · skip
              go_simp
              refine hK.out _ _ ?_ (fun hHeld => ?_)
              · exact gr_trans hG (gr_alloc _ _ _)
              clear hK K
              try simp only [Act.put, List.setIfInBounds_toArray, List.set_cons_zero, List.set_cons_succ]
              have hal := blk_new wd (.cells #[.int .i64 0, .int .i64 0, .int .i64 0, .int .i64 0, .int .i64 0, .string ⟨#[]⟩] 30)
              have hXg := hG.size
              have hG := gr_trans hG (gr_alloc wd (.cells #[.int .i64 0, .int .i64 0, .int .i64 0, .int .i64 0, .int .i64 0, .string ⟨#[]⟩] 30) none)
              obtain ⟨wn, hN⟩ : ∃ wn, wn = wd.alloc (.cells #[.int .i64 0, .int .i64 0, .int .i64 0, .int .i64 0, .int .i64 0, .string ⟨#[]⟩] 30) := ⟨_, rfl⟩
              obtain ⟨X, hX⟩ : ∃ X, X = wd.heap.size := ⟨_, rfl⟩
              rw [← hN] at hal hG hHeld ⊢
              rw [← hX] at hal hXg ⊢
              clear hN hX
              refine wpAnyH_ready (rs := [8]) (by kernel_rfl) (by simp) (AllReadyH.cons (o := _) rfl (fun K hK => ?_) AllReadyH.nil)
              go_simp
              refine (v2.out _).mono ?_
              rintro e wz ⟨rfl, hwz⟩
              subst hwz
              try (go_wp2_with fail)
              refine hK.out _ _ ?_ (fun hHeld => ?_)
              · exact hG
              clear hK K
              try simp only [Act.put, List.setIfInBounds_toArray, List.set_cons_zero, List.set_cons_succ]
              refine wpAnyH_ready (rs := [11]) (by kernel_rfl) (by simp) (AllReadyH.cons (o := _) rfl (fun K hK => ?_) AllReadyH.nil)
              go_simp
              refine (v3.out _).mono ?_
              rintro e wz ⟨rfl, hwz⟩
              subst hwz
              try (go_wp2_with fail)
              refine hK.out _ _ ?_ (fun hHeld => ?_)
              · exact hG
              clear hK K
              try simp only [Act.put, List.setIfInBounds_toArray, List.set_cons_zero, List.set_cons_succ]
              refine wpAnyH_ready (rs := [14]) (by kernel_rfl) (by simp) (AllReadyH.cons (o := _) rfl (fun K hK => ?_) AllReadyH.nil)
              go_simp
              refine (v4.out _).mono ?_
              rintro e wz ⟨rfl, hwz⟩
              subst hwz
              try (go_wp2_with fail)
              refine hK.out _ _ ?_ (fun hHeld => ?_)
              · exact hG
              clear hK K
              try simp only [Act.put, List.setIfInBounds_toArray, List.set_cons_zero, List.set_cons_succ]
              refine wpAnyH_take (i := 17) (oi := ⟨some 42, _, _, _, _, _⟩) (v := ?_) rfl (by kernel_rfl) (by kernel_rfl) (by kernel_rfl) (fun _ _ _ h => h) (Or.inl ⟨by rfl, ?_⟩) hHeld ?_
              rotate_left
              · intro w hSw
                try dsimp only at hSw
                go_simp
                first | done | with_reducible rfl
              try simp only [Act.put, List.setIfInBounds_toArray, List.set_cons_zero, List.set_cons_succ]
              refine wpAnyH_take (i := 18) (oi := ⟨some 43, _, _, _, _, _⟩) (v := ?_) rfl (by kernel_rfl) (by kernel_rfl) (by kernel_rfl) (fun _ _ _ h => h) (Or.inl ⟨by rfl, ?_⟩) hHeld ?_
              rotate_left
              · intro w hSw
                try dsimp only at hSw
                go_simp
                first | done | with_reducible rfl
              try simp only [Act.put, List.setIfInBounds_toArray, List.set_cons_zero, List.set_cons_succ]
              refine wpAnyH_ready (rs := [20]) (by kernel_rfl) (by simp) (AllReadyH.cons (o := _) rfl (fun K hK => ?_) AllReadyH.nil)
              have hth := nt_there hal
              have gS := gr_setCells wn X 0 [.int .i64 (c.toNat : Int), .int .i64 a0, .int .i64 a1, .int .i64 a2, .int .i64 a3, .string (txt (f.drop 17))]
              have hGf : Gr W1 (wn.setCells X 0 [.int .i64 (c.toNat : Int), .int .i64 a0, .int .i64 a1, .int .i64 a2, .int .i64 a3, .string (txt (f.drop 17))]) := gr_of_below ((gr_below hG).grown gS hG.size (by intro k hk; cases hk; exact hXg)) (Nat.le_refl _)
              have hCu := blk_set (blk_set (blk_set (blk_set (blk_set (blk_set hal 0 (.int .i64 (c.toNat : Int))) 1 (.int .i64 a0)) 2 (.int .i64 a1)) 3 (.int .i64 a2)) 4 (.int .i64 a3)) 5 (.string (txt (f.drop 17)))
              refine step_store_mid rfl 30 _ _ rfl X 0 #[.int .i64 (c.toNat : Int), .int .i64 a0, .int .i64 a1, .int .i64 a2, .int .i64 a3, .string (txt (f.drop 17))] rfl rfl hth infoNt (by simp [Value.oneCell']) ?_
              refine hK.out _ _ ?_ (fun hHeld => ?_)
              · exact hGf
              clear hK K hHeld
              try simp only [Act.put, List.setIfInBounds_toArray, List.set_cons_zero, List.set_cons_succ]
              refine wpAnyH_done (by kernel_rfl) ?_ _
              go_simp
              go_step
              go_meet
              exact ⟨X, rfl, Lib.hid hCu, Lib.hid hGf⟩
          · skip
            go_simp
            refine hK.out _ _ ?_ (fun hHeld => ?_)
            · exact gr_trans hG (gr_alloc _ _ _)
            clear hK K
            try simp only [Act.put, List.setIfInBounds_toArray, List.set_cons_zero, List.set_cons_succ]
            have hal := blk_new wd (.cells #[.int .i64 0, .int .i64 0, .int .i64 0, .int .i64 0, .int .i64 0, .string ⟨#[]⟩] 30)
            have hXg := hG.size
            have hG := gr_trans hG (gr_alloc wd (.cells #[.int .i64 0, .int .i64 0, .int .i64 0, .int .i64 0, .int .i64 0, .string ⟨#[]⟩] 30) none)
            obtain ⟨wn, hN⟩ : ∃ wn, wn = wd.alloc (.cells #[.int .i64 0, .int .i64 0, .int .i64 0, .int .i64 0, .int .i64 0, .string ⟨#[]⟩] 30) := ⟨_, rfl⟩
            obtain ⟨X, hX⟩ : ∃ X, X = wd.heap.size := ⟨_, rfl⟩
            rw [← hN] at hal hG hHeld ⊢
            rw [← hX] at hal hXg ⊢
            clear hN hX
            refine wpAnyH_ready (rs := [5]) (by kernel_rfl) (by simp) (AllReadyH.cons (o := _) rfl (fun K hK => ?_) AllReadyH.nil)
            go_simp
            refine (v1.out _).mono ?_
            rintro e wz ⟨rfl, hwz⟩
            subst hwz
            try (go_wp2_with fail)
            refine hK.out _ _ ?_ (fun hHeld => ?_)
            · exact hG
            clear hK K
            try simp only [Act.put, List.setIfInBounds_toArray, List.set_cons_zero, List.set_cons_succ]
            refine wpAnyH_ready (rs := [8]) (by kernel_rfl) (by simp) (AllReadyH.cons (o := _) rfl (fun K hK => ?_) AllReadyH.nil)
            go_simp
            refine (v2.out _).mono ?_
            rintro e wz ⟨rfl, hwz⟩
            subst hwz
            try (go_wp2_with fail)
            refine hK.out _ _ ?_ (fun hHeld => ?_)
            · exact hG
            clear hK K
            try simp only [Act.put, List.setIfInBounds_toArray, List.set_cons_zero, List.set_cons_succ]
            refine wpAnyH_ready (rs := [11]) (by kernel_rfl) (by simp) (AllReadyH.cons (o := _) rfl (fun K hK => ?_) AllReadyH.nil)
            go_simp
            refine (v3.out _).mono ?_
            rintro e wz ⟨rfl, hwz⟩
            subst hwz
            try (go_wp2_with fail)
            refine hK.out _ _ ?_ (fun hHeld => ?_)
            · exact hG
            clear hK K
            try simp only [Act.put, List.setIfInBounds_toArray, List.set_cons_zero, List.set_cons_succ]
            refine wpAnyH_ready (rs := [14]) (by kernel_rfl) (by simp) (AllReadyH.cons (o := _) rfl (fun K hK => ?_) AllReadyH.nil)
            go_simp
            refine (v4.out _).mono ?_
            rintro e wz ⟨rfl, hwz⟩
            subst hwz
            try (go_wp2_with fail)
            refine hK.out _ _ ?_ (fun hHeld => ?_)
            · exact hG
            clear hK K
            try simp only [Act.put, List.setIfInBounds_toArray, List.set_cons_zero, List.set_cons_succ]
            refine wpAnyH_take (i := 17) (oi := ⟨some 42, _, _, _, _, _⟩) (v := ?_) rfl (by kernel_rfl) (by kernel_rfl) (by kernel_rfl) (fun _ _ _ h => h) (Or.inl ⟨by rfl, ?_⟩) hHeld ?_
            rotate_left
            · intro w hSw
              try dsimp only at hSw
              go_simp
              first | done | with_reducible rfl
            try simp only [Act.put, List.setIfInBounds_toArray, List.set_cons_zero, List.set_cons_succ]
            refine wpAnyH_take (i := 18) (oi := ⟨some 43, _, _, _, _, _⟩) (v := ?_) rfl (by kernel_rfl) (by kernel_rfl) (by kernel_rfl) (fun _ _ _ h => h) (Or.inl ⟨by rfl, ?_⟩) hHeld ?_
            rotate_left
            · intro w hSw
              try dsimp only at hSw
              go_simp
              first | done | with_reducible rfl
            try simp only [Act.put, List.setIfInBounds_toArray, List.set_cons_zero, List.set_cons_succ]
            refine wpAnyH_ready (rs := [20]) (by kernel_rfl) (by simp) (AllReadyH.cons (o := _) rfl (fun K hK => ?_) AllReadyH.nil)
            have hth := nt_there hal
            have gS := gr_setCells wn X 0 [.int .i64 (c.toNat : Int), .int .i64 a0, .int .i64 a1, .int .i64 a2, .int .i64 a3, .string (txt (f.drop 17))]
            have hGf : Gr W1 (wn.setCells X 0 [.int .i64 (c.toNat : Int), .int .i64 a0, .int .i64 a1, .int .i64 a2, .int .i64 a3, .string (txt (f.drop 17))]) := gr_of_below ((gr_below hG).grown gS hG.size (by intro k hk; cases hk; exact hXg)) (Nat.le_refl _)
            have hCu := blk_set (blk_set (blk_set (blk_set (blk_set (blk_set hal 0 (.int .i64 (c.toNat : Int))) 1 (.int .i64 a0)) 2 (.int .i64 a1)) 3 (.int .i64 a2)) 4 (.int .i64 a3)) 5 (.string (txt (f.drop 17)))
            refine step_store_mid rfl 30 _ _ rfl X 0 #[.int .i64 (c.toNat : Int), .int .i64 a0, .int .i64 a1, .int .i64 a2, .int .i64 a3, .string (txt (f.drop 17))] rfl rfl hth infoNt (by simp [Value.oneCell']) ?_
            refine hK.out _ _ ?_ (fun hHeld => ?_)
            · exact hGf
            clear hK K hHeld
            try simp only [Act.put, List.setIfInBounds_toArray, List.set_cons_zero, List.set_cons_succ]
            refine wpAnyH_done (by kernel_rfl) ?_ _
            go_simp
            go_step
            go_meet
            exact ⟨X, rfl, Lib.hid hCu, Lib.hid hGf⟩
        case rest =>
        obtain ⟨X, rfl, hX, gW⟩ := hcut
        have hown2 := hown1.out.kept gW.out (Classical.em _)
        have hbel2 := below_gr hbel1.out gW.out hs1 (by simp)
        have c0 : wc.cell? ⟨X, 0, none⟩ = some (.int .i64 (c.toNat : Int)) := fcell hX.out rfl
        have c1 : wc.cell? ⟨X, 1, none⟩ = some (.int .i64 a0) := fcell hX.out rfl
        have c2 : wc.cell? ⟨X, 2, none⟩ = some (.int .i64 a1) := fcell hX.out rfl
        have c3 : wc.cell? ⟨X, 3, none⟩ = some (.int .i64 a2) := fcell hX.out rfl
        have c4 : wc.cell? ⟨X, 4, none⟩ = some (.int .i64 a3) := fcell hX.out rfl
        have c5 : wc.cell? ⟨X, 5, none⟩ = some (.string (txt (f.drop 17))) := fcell hX.out rfl
        clear hX gW hown1 hbel1 x1 x2 x3 x4 x5 hget hget2 hl0 hl13 hl9 hl14 hi0 hi2 hwc
        replace hown2 := Lib.hid hown2
        replace hbel2 := Lib.hid hbel2
        by_cases hok : okN ⟨(c.toNat : Int), ⟨a0, a1, a2, a3, f.drop 17⟩⟩
        · have cR1 := cR.out
          simp only [decide_eq_true hok] at cR1
          have hy := hyes.out trivial hf (by rw [hno.out]; exact hok)
          have hkl := hlen.out
          have hwr1 : IntKind.i64.wrap ((k : Int) + (R.length : Int)) = (k : Int) + (R.length : Int) := IntWalk.i64_in _ (by omega)
          have hwr2 : IntKind.i64.wrap ((k : Int) + (R.length : Int) - (rest.length : Int)) = (k : Int) + (R.length : Int) - (rest.length : Int) := IntWalk.i64_in _ (by omega)
          have hone := nteC_ones ⟨(c.toNat : Int), ⟨a0, a1, a2, a3, f.drop 17⟩⟩
          unfold nteC at hone
          replace hone := Lib.hid hone
          replace cR1 := Lib.hid cR1
          replace hok := Lib.hid hok
          replace hy := Lib.hid hy
          go_wp2_with fail
          refine (cR1.out _).mono ?_
          rintro e W3 ⟨rfl, g3⟩
          have hown3 := hown2.out.kept g3 (Classical.em _)
          have hbel3 := below_gr hbel2.out g3 (by have := hbel2.out.size; exact this) (by simp)
          replace c0 := gr_cell g3 c0
          replace c1 := gr_cell g3 c1
          replace c2 := gr_cell g3 c2
          replace c3 := gr_cell g3 c3
          replace c4 := gr_cell g3 c4
          replace c5 := gr_cell g3 c5
          have hs3 := hbel3.size
          clear g3 hown2 hbel2
          replace hown3 := Lib.hid hown3
          replace hbel3 := Lib.hid hbel3
          have hns : ns.length ≤ 1000000 := by have := catN_geL ns; rw [← hk.out] at this; omega
          go_wp2_with (at_builtin; refine wpList_append_own _ rfl _ _ 22 rfl w.heap.size 30 ii (.agg #[.int .i64 0, .int .i64 0, .int .i64 0, .int .i64 0, .int .i64 0, .string ⟨#[]⟩]) 6 56 Tryz.underlying22 hi hz0 hz1 hz2 rfl (by decide) u4 _ _ rfl (hown3.out.alloc _) ⟨W3.heap.size, 0, none⟩ 1 1 [.int .i64 (c.toNat : Int), .int .i64 a0, .int .i64 a1, .int .i64 a2, .int .i64 a3, .string (txt (f.drop 17))] rfl rfl ?c1 ?c2 ?c3 ?c4 ?c5 ?_; rotate_right; intro v' W4 hown4 hgrow _nl; clear _nl; have hb4 := hbel3.out.trans (below_append hown3.out hgrow hs3); clear hgrow; replace hown4 := Lib.hid hown4; replace hb4 := Lib.hid hb4)
          case c1 =>
            intro j u hj
            have hjl := (List.getElem?_eq_some_iff.1 hj).1
            rw [add_plain, Nat.zero_add, World.cell?_alloc_new]
            simpa using hj
          case c2 => exact hone.out
          case c3 => unfold maxLen; omega
          case c4 => omega
          case c5 => first | omega | (simp; omega)
          have hk2 := catN_snocL ns (noteOf f)
          rw [← hk.out, hnl.out] at hk2
          have ho4 : W4.ownsRow w.heap.size 30 6 v' (ns ++ [noteOf f]).length (sR nteC (ns ++ [noteOf f])) := by
            rw [sR_append, sR_one, hno.out, List.length_append]
            exact hown4.out
          have hN2 : notesOf L = (ns ++ [noteOf f]) ++ rdN rest.length rest := by rw [hN.out, hy.out, List.append_assoc]; rfl
          replace ho4 := Lib.hid ho4
          replace hk2 := Lib.hid hk2
          replace hN2 := Lib.hid hN2
          clear c0 c1 c2 c3 c4 c5
          go_roundw
          case rel => exact ⟨rest, ns ++ [noteOf f], k + (10 + f.length), rfl, by go_num, Lib.hid hk2.out.symm, hN2, Lib.hid (by omega), ho4, hb4⟩
          case measure => simp [txt_size]; omega
        · have cR1 := cR.out
          simp only [decide_eq_false hok] at cR1
          have hst := hstop.out (fun h => hok (by have := h.2.2; rw [hno.out] at this; exact this))
          replace hst := Lib.hid hst
          replace cR1 := Lib.hid cR1
          replace hok := Lib.hid hok
          go_wp2_with fail
          refine (cR1.out _).mono ?_
          rintro e W3 ⟨rfl, g3⟩
          have hown3 := hown2.out.kept g3 (Classical.em _)
          have hbel3 := below_gr hbel2.out g3 (by have := hbel2.out.size; exact this) (by simp)
          clear g3 hown2 hbel2 c0 c1 c2 c3 c4 c5
          replace hown3 := Lib.hid hown3
          replace hbel3 := Lib.hid hbel3
          go_wp2
          go_ret2
          exact ⟨_, by rw [hst.out, ← hk.out]; rfl, by rw [hst.out]; exact hown3.out, gr_of_below hbel3.out (Nat.le_refl _)⟩
      · have hfi : (f.length : Int) < 17 := by omega
        have hst := hstop.out (fun h => hf h.2.1)
        replace hst := Lib.hid hst
        clear hsh hyes
        go_wp2
        go_ret2
        exact ⟨_, by rw [hst.out, ← hk.out]; rfl, by rw [hst.out]; exact hown1.out, gr_of_below hbel1.out (Nat.le_refl _)⟩
    · have hei : (e0 != 0) = true := by simpa using he
      have hst := hstop.out (fun h => he h.1)
      replace hst := Lib.hid hst
      replace he := Lib.hid he
      clear hsh hyes
      go_wp2
      go_ret2
      exact ⟨_, by rw [hst.out, ← hk.out]; rfl, by rw [hst.out]; exact hown1.out, gr_of_below hbel1.out (Nat.le_refl _)⟩
end Go.Proofs.YtmldoeeangekoaaGreat
