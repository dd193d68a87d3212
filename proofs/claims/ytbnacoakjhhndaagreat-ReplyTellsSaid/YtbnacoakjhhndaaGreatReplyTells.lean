/-
  ReplyTells holds of the program: for every input the call returns true and leaves what came in as it was. No condition.
-/
import Derived.Test.YtbnacoakjhhndaaGreatRows
import Derived.Test.YtbnacoakjhhndaaGreatRpC
import Derived.Test.YtbnacoakjhhndaaGreatRpE
import Derived.WalkKit
import Derived.ProofKit
import Derived.OpenShut
import Derived.ShutString
import Derived.ChangeOld
import Derived.Below
namespace Go.Proofs.YtbnacoakjhhndaaGreat.replyTells
open Go.ChangeShapes Go.WideShapes Go.ChangeAt Go.RowKit
open Go.ChangeMaps (open_string shut_string)
set_option linter.unusedVariables false

theorem own : ownKnob Tryz.prog.godebug = none := by kernel_rfl
theorem laidOut : laidOutB Tryz.prog = true := by kernel_rfl
theorem below_le {B B' : Nat} {w w' : World} (h : Below B w w') (hB : B' ≤ B) : Below B' w w' := ⟨h.os, h.tape, h.output, h.size, fun k hk => h.block k (Nat.lt_of_lt_of_le hk hB)⟩
theorem kept_new (w : World) : BkW.Kept (w.alloc (.cells (BkW.bkCells (.slice none 0 0) (.slice none 0 0)) 47)) w.heap.size ⟨none, 0, 0⟩ ⟨none, 0, 0⟩ [] [] :=
  ⟨blk_new w _, World.ownsRow_nil _ _ _ _, World.ownsRow_nil _ _ _ _, rfl, rfl, fun k h => by simp [Value.ownBlock] at h⟩
theorem kept_gr {w w' : World} {K : Nat} {T V : Lst} {ls cs : List Lst} (h : BkW.Kept w K T V ls cs) (g : Gr w w') : BkW.Kept w' K T V ls cs :=
  ⟨gr_blk g h.blk (by simp), h.hT.kept g (by cases T.v.ownBlock <;> simp), h.hV.kept g (by cases V.v.ownBlock <;> simp), h.nT, h.nV, h.ne⟩
theorem parted2 {a b : Lst} (h : ∀ k, a.v.ownBlock = some k → b.v.ownBlock = some k → False) : Parted [a, b] := by
  intro i j l m k hi hj hl hm
  match i, j, hi, hj with
  | 0, 0, _, _ => rfl
  | 1, 1, _, _ => rfl
  | 0, 1, hi, hj =>
    obtain rfl : a = l := by simpa using hi
    obtain rfl : b = m := by simpa using hj
    exact absurd hm (fun hm => h k hl hm)
  | 1, 0, hi, hj =>
    obtain rfl : a = m := by simpa using hj
    obtain rfl : b = l := by simpa using hi
    exact absurd hl (fun hl => h k hm hl)
  | i + 2, _, hi, _ => simp at hi
  | _, j + 2, _, hj => simp at hj
/-- A reply's block, as a row of one. -/
theorem own_rep (w : World) (a b c d : Value) : (w.alloc (.cells #[a, b, c, d] 25)).ownsRow w.heap.size 25 4 (.slice (some ⟨w.heap.size, 0, none⟩) 1 1) 1 [a, b, c, d] :=
  World.ownsRow_lit (e := 25) (size := 4) w #[a, b, c, d] 1 (Nat.le_refl _) (by unfold maxLen; omega) rfl
theorem own_rep_cells {w : World} {base b : Nat} {x y z u : Value} (h : w.ownsRow base 25 4 (.slice (some ⟨b, 0, none⟩) 1 1) 1 [x, y, z, u]) : w.cell? ⟨b, 0, none⟩ = some x ∧ w.cell? ⟨b, 1, none⟩ = some y ∧ w.cell? ⟨b, 2, none⟩ = some z ∧ w.cell? ⟨b, 3, none⟩ = some u := ⟨h.cellAt 0 (by decide), h.cellAt 1 (by decide), h.cellAt 2 (by decide), h.cellAt 3 (by decide)⟩
/-- What ReadReply hands back, in one shape. -/
theorem rr_post {b : List UInt8} {w w' : World} {e : Ending} (h : RRPost b w e w') : ∃ (Y : Rep) (A : Option Addr) (c : Nat) (g : Int), e = .returned (.tuple #[rpV A Y.rows.length c Y, .int .i64 g]) ∧ OwnRs w' w.heap.size (.slice A Y.rows.length c) Y.rows ∧ Gr w w' ∧ ((g = 0 ∧ IsRepL b ∧ Y = (readP b).1) ∨ (g = 2 ∧ ¬ IsRepL b ∧ Y = ⟨0, 0, [], []⟩)) := by
  obtain ⟨hg, ⟨h1, A, n, c, rfl, hn, ho⟩ | ⟨h1, rfl⟩⟩ := h
  · subst hn
    exact ⟨(readP b).1, A, c, 0, rfl, ho, hg, .inl ⟨rfl, h1, rfl⟩⟩
  · exact ⟨⟨0, 0, [], []⟩, none, 0, 2, rfl, ownRs_nil _ _, hg, .inr ⟨rfl, h1, rfl⟩⟩
theorem rep_post {r : Rep} {w w' : World} {e : Ending} (h : RepPost r w e w') : ∃ (S : List UInt8) (E : Int), e = .returned (.tuple #[.string (txt S), .int .i64 E]) ∧ Gr w w' ∧ (∀ b', repB? r = some b' → S = b' ∧ E = 0) ∧ (repB? r = none → S = [] ∧ E = repE r) := by
  unfold RepPost at h
  cases hb : repB? r with
  | none =>
    rw [hb] at h
    exact ⟨[], repE r, h.1, h.2, (fun b' q => by cases q), fun _ => ⟨rfl, rfl⟩⟩
  | some b' =>
    rw [hb] at h
    exact ⟨b', 0, h.1, h.2, fun b2 q => ⟨Option.some.inj q, rfl⟩, fun q => by cases q⟩
/-- What High answers, as one name. -/
def hB (k a : Int) : List UInt8 := Crc.be k.toNat a.toNat
theorem hB_len (k a : Int) : (hB k a).length = k.toNat := Crc.be_length _ _
theorem hi_any (a k : Int) (w : World) (h0 : 0 ≤ a) (h1 : a < 1000000000) (hk : k = 1 ∨ k = 4) : Calls Tryz.prog 8 #[.int .i64 a, .int .i64 k] w fun e w' => e = .returned (.string (txt (hB k a))) ∧ Gr w w' := by
  obtain ⟨v, rfl⟩ : ∃ v : Nat, a = (v : Int) := ⟨a.toNat, by omega⟩
  rcases hk with rfl | rfl
  · exact refHigh_any v 1 w (by decide) (by omega)
  · exact refHigh_any v 4 w (by decide) (by omega)
theorem be1_eq (v : Nat) (_h : v < 256) : Crc.be 1 v = [UInt8.ofNat v] := by simp [Crc.be, List.range_succ]
theorem rr_small {b : List UInt8} {Y : Rep} {g : Int} (h : (g = 0 ∧ IsRepL b ∧ Y = (readP b).1) ∨ (g = 2 ∧ ¬ IsRepL b ∧ Y = ⟨0, 0, [], []⟩)) : okP Y ∧ Y.rows.length ≤ 100 ∧ (∀ r ∈ Y.rows, SmallL r.l ∧ (-9223372036854775808 ≤ r.v ∧ r.v ≤ 9223372036854775807)) ∧ (g = 0 → repB? Y = some b) := by
  rcases h with ⟨rfl, h1, rfl⟩ | ⟨rfl, h1, rfl⟩
  · have h2 := h1.2
    unfold repB? at h2
    split at h2
    · rename_i hh
      exact ⟨hh.1, hh.1.2.2.2, fun r hr => ⟨okLbs_small (hh.2.1 r hr).1, by have := (hh.2.1 r hr).2; unfold okV at this; omega⟩, fun _ => h1.2⟩
    · cases h2
  · exact ⟨by decide, by decide, by simp, fun h => by cases h⟩
theorem apart_in {w : World} {b1 b2 : Nat} {l c : Lst} {rs : List Rw} (hl : OwnRs w b1 l.v rs) (hc : OwnRs w b2 c.v rs) (hn : rs.length = l.n) (hcn : c.n = l.n) (h1 : l.n ≤ 100000) (h9 : ∀ r ∈ rs, r.l.length ≤ 1000000) :
    l.n ≤ 100000 ∧ c.n = l.n ∧ ∃ (rs : List Rw) (zs zc : List Hd), w.ownsRow 0 34 2 l.v l.n (BkW.bkR zs) ∧ w.ownsRow 0 34 2 c.v c.n (BkW.bkR zc) ∧ Rows w l.A l.n rs ∧ Rows w c.A l.n rs ∧ ∀ r ∈ rs, r.l.length ≤ 1000000 := by
  obtain ⟨z1, k1, o1⟩ := hl
  obtain ⟨z2, k2, o2⟩ := hc
  rw [hn] at o1 o2
  refine ⟨h1, hcn, rs, z1, z2, own_mono o1 (Nat.zero_le _), ?_, ?_, ?_, h9⟩
  · rw [hcn]; exact own_mono o2 (Nat.zero_le _)
  · exact ownRows_rows k1 hn (row_own o1)
  · obtain ⟨cA, cn, cc⟩ := c
    simp only at hcn
    subst hcn
    exact ownRows_rows k2 hn (row_own o2)
set_option maxHeartbeats 64000000 in
set_option maxRecDepth 100000 in
theorem walk (w : World) (v0 : Value) (z0 : Rep) (w0 : IsRepV w v0 z0) (a1 : ByteArray) (w1 : a1.size ≤ maxLen) :
    Calls Tryz.prog 3 #[v0, .string a1] w fun e w' => e = .returned (.bool true) ∧ Below w.heap.size w w' := by
  obtain ⟨A, n, c, rfl, hin⟩ := w0
  obtain ⟨b, rfl⟩ : ∃ b, a1 = txt b := ⟨_, (txt_of a1).symm⟩
  rw [txt_size] at w1
  unfold maxLen at w1
  obtain ⟨R, hR⟩ : ∃ R, R = z0 := ⟨_, rfl⟩
  have hlen : z0.rows.length = n := hin.rows.1.1
  obtain ⟨err, id, slip, rows⟩ := z0
  simp only at hlen
  have hs9 := hin.slip
  simp only at hs9
  unfold rpV
  simp only
  obtain ⟨W1, hW1⟩ : ∃ W1, W1 = w.alloc (.cells #[.int .i64 err, .int .i64 id, .string (txt slip), .slice A n c] 25) := ⟨_, rfl⟩
  have g1 : Gr w W1 := by rw [hW1]; exact gr_alloc _ _ _
  have hW1s : w.heap.size < W1.heap.size := by rw [hW1]; simp
  have hb : W1.heap[w.heap.size]? = some (.cells #[.int .i64 err, .int .i64 id, .string (txt slip), .slice A n c] 25 (0, 0)) := by rw [hW1]; exact blk_new _ _
  have hC : ∀ W, Gr W1 W → (W.cell? ⟨w.heap.size, 0, none⟩ = some (.int .i64 err) ∧ W.cell? ⟨w.heap.size, 1, none⟩ = some (.int .i64 id) ∧ W.cell? ⟨w.heap.size, 2, none⟩ = some (.string (txt slip)) ∧ W.cell? ⟨w.heap.size, 3, none⟩ = some (.slice A n c)) := fun W g => by
    have hq := gr_blk g hb (by simp)
    exact ⟨fcellR hq rfl, fcellR hq rfl, fcellR hq rfl, fcellR hq rfl⟩
  have hrw : ∀ W, Gr W1 W → Rows W A n rows := fun W g => rows_gr hin.rows.1 (gr_trans g1 g)
  have hn9 : n ≤ 9223372036854775807 := by have := hin.rows.2.1; have := hin.rows.2.2.1; omega
  have cL := rlight_any A n c rows W1 hn9 (hrw W1 (gr_refl _ _))
  unfold RLPost at cL
  obtain ⟨b0, b1, b2, b3⟩ := hC W1 (gr_refl _ _)
  replace hb := Lib.hid hb
  replace hC := Lib.hid hC
  replace hrw := Lib.hid hrw
  replace cL := Lib.hid cL
  replace hin := Lib.hid hin
  replace g1 := Lib.hid g1
  replace hR := Lib.hid hR
  replace hlen := Lib.hid hlen
  replace hW1s := Lib.hid hW1s
  go_enter Tryz.func3, Tryz.ntmps3
  go_upto_region 1 with fail
  rw [← hW1]
  clear hW1
  go_wp2_with fail
  refine cL.out.mono ?_
  rintro e Wl ⟨⟨bl, rfl, hbl⟩, rfl⟩
  cases bl with
  | false =>
    go_wp2_with fail
    refine (alive_any _).mono ?_
    rintro e w9 ⟨rfl, g9⟩
    go_wp2
    go_ret
    exact ⟨rfl, gr_below (gr_trans g1.out g9)⟩
  | true =>
    obtain ⟨hn60, hL⟩ := hbl rfl
    rw [hlen.out] at hn60
    have hok : RpOk w A n R := by rw [hR.out]; exact rpIn_ok hin.out hL
    have hlab : LabsIn rows := fun r hr => ⟨by have := (hL r hr).1; omega, fun x hx => by have := (hL r hr).2 x hx; omega⟩
    have hsml : ∀ r ∈ rows, r.l.length ≤ 100000 := fun r hr => by have := (hL r hr).1; omega
    replace hok := Lib.hid hok
    replace hlab := Lib.hid hlab
    replace hsml := Lib.hid hsml
    clear hbl hL hin cL
    by_cases hs200 : 200 < slip.length
    · have hsI : (200 : Int) < (slip.length : Int) := by omega
      go_wp2_with fail
      refine (alive_any _).mono ?_
      rintro e w9 ⟨rfl, g9⟩
      go_wp2
      go_ret
      exact ⟨rfl, gr_below (gr_trans g1.out g9)⟩
    have hsI : ((200 : Int) < (slip.length : Int)) = False := eq_false (by omega)
    by_cases hb2 : 2000 < b.length
    · have hbI : (2000 : Int) < (b.length : Int) := by omega
      go_wp2_with fail
      refine (alive_any _).mono ?_
      rintro e w9 ⟨rfl, g9⟩
      go_wp2
      go_ret
      exact ⟨rfl, gr_below (gr_trans g1.out g9)⟩
    have hbI : ((2000 : Int) < (b.length : Int)) = False := eq_false (by omega)
    go_wp2_with fail
    refine (alive_any _).mono ?_
    rintro e W2 ⟨rfl, g2⟩
    clear b0 b1 b2 b3
    obtain ⟨b0, b1, b2, b3⟩ := hC.out W2 g2
    have cR := rep_any A n c R W2 (rpOk_gr hok.out (gr_trans g1.out g2))
    have hrpv : rpV A n c R = .agg #[.int .i64 err, .int .i64 id, .string (txt slip), .slice A n c] := by rw [hR.out]; rfl
    rw [hrpv] at cR
    obtain ⟨q, hq⟩ : ∃ q, q = decide (okP R ∧ ∀ x ∈ R.rows, okR x) := ⟨_, rfl⟩
    replace cR := Lib.hid cR
    replace hq := Lib.hid hq
    clear hrpv
    go_wp2_with fail
    refine cR.out.mono ?_
    intro e W3 hpost
    obtain ⟨S, E, rfl, g3, hS1, hS2⟩ := rep_post hpost
    replace hS1 := Lib.hid hS1
    replace hS2 := Lib.hid hS2
    clear hpost
    have G3 := gr_trans g2 g3
    clear b0 b1 b2 b3 cR g3
    obtain ⟨b0, b1, b2, b3⟩ := hC.out W3 G3
    go_upto_region 4 with fail
    go_cut [7] (fun s7 wx => s7 = .bool q ∧ Hid (Gr W3 wx))
    case first =>
      have hq0 : ¬ okP R → q = false := fun h => by rw [hq.out]; exact decide_eq_false (fun k => h k.1)
      by_cases k1 : 0 ≤ err
      rotate_left
      · have k1F : (0 ≤ err) = False := eq_false k1
        have hqF : q = false := hq0 (fun h => k1 (by have := h.1.1; rw [hR.out] at this; exact this))
        replace hqF := Lib.hid hqF
        replace k1 := Lib.hid k1
        clear hq0
        go_wp2_with fail
        go_meet
        exact ⟨by rw [hqF.out], Lib.hid (gr_refl _ _)⟩
      by_cases k2 : err ≤ 12
      rotate_left
      · have k2F : (err ≤ 12) = False := eq_false k2
        have hqF : q = false := hq0 (fun h => k2 (by have := h.1.2; rw [hR.out] at this; exact this))
        replace hqF := Lib.hid hqF
        replace k2 := Lib.hid k2
        clear hq0
        go_wp2_with fail
        go_meet
        exact ⟨by rw [hqF.out], Lib.hid (gr_refl _ _)⟩
      by_cases k3 : 0 ≤ id
      rotate_left
      · have k3F : (0 ≤ id) = False := eq_false k3
        have hqF : q = false := hq0 (fun h => k3 (by have := h.2.1.1; rw [hR.out] at this; exact this))
        replace hqF := Lib.hid hqF
        replace k3 := Lib.hid k3
        clear hq0
        go_wp2_with fail
        go_meet
        exact ⟨by rw [hqF.out], Lib.hid (gr_refl _ _)⟩
      by_cases k4 : id ≤ 1000000
      rotate_left
      · have k4F : (id ≤ 1000000) = False := eq_false k4
        have hqF : q = false := hq0 (fun h => k4 (by have := h.2.1.2; rw [hR.out] at this; exact this))
        replace hqF := Lib.hid hqF
        replace k4 := Lib.hid k4
        clear hq0
        go_wp2_with fail
        go_meet
        exact ⟨by rw [hqF.out], Lib.hid (gr_refl _ _)⟩
      by_cases k5 : (slip.length : Int) ≤ 60
      rotate_left
      · have k5F : ((slip.length : Int) ≤ 60) = False := eq_false k5
        have hqF : q = false := hq0 (fun h => k5 (by have := h.2.2.1; rw [hR.out] at this; simp only at this; omega))
        replace hqF := Lib.hid hqF
        replace k5 := Lib.hid k5
        clear hq0
        go_wp2_with fail
        go_meet
        exact ⟨by rw [hqF.out], Lib.hid (gr_refl _ _)⟩
      by_cases k6 : (n : Int) ≤ 100
      rotate_left
      · have k6F : ((n : Int) ≤ 100) = False := eq_false k6
        have hqF : q = false := hq0 (fun h => k6 (by have := h.2.2.2; rw [hR.out] at this; simp only at this; rw [hlen.out] at this; omega))
        replace hqF := Lib.hid hqF
        replace k6 := Lib.hid k6
        clear hq0
        go_wp2_with fail
        go_meet
        exact ⟨by rw [hqF.out], Lib.hid (gr_refl _ _)⟩
      have hokP : okP R := by rw [hR.out]; exact ⟨⟨k1, k2⟩, ⟨k3, k4⟩, by simp only; omega, by simp only; rw [hlen.out]; omega⟩
      have c13 := ref13Rows_any A n c rows W3 (by omega) (hrw.out W3 G3) hlab.out
      have hqd : decide (∀ r ∈ rows, okR r) = q := by
        rw [hq.out, Bool.eq_iff_iff, decide_eq_true_iff, decide_eq_true_iff]
        exact ⟨fun h => ⟨hokP, by rw [hR.out]; exact h⟩, fun h => by have := h.2; rw [hR.out] at this; exact this⟩
      rw [hqd] at c13
      replace c13 := Lib.hid c13
      replace hokP := Lib.hid hokP
      clear hqd hq0
      go_wp2_with fail
      refine c13.out.mono ?_
      rintro e W4 ⟨rfl, g4⟩
      go_wp2
      go_meet
      exact ⟨rfl, Lib.hid g4⟩
    case rest =>
    obtain ⟨rfl, g4⟩ := hcut
    have G4 := gr_trans G3 g4.out
    clear b0 b1 b2 b3 G3 g2 g4
    obtain ⟨b0, b1, b2, b3⟩ := hC.out wc G4
    obtain ⟨W4, hW4⟩ : ∃ W4, W4 = wc := ⟨_, rfl⟩
    rw [← hW4] at G4 b0 b1 b2 b3 ⊢
    clear hW4
    cases q with
    | false =>
      have hnot : ¬ (okP R ∧ ∀ x ∈ R.rows, okR x) := of_decide_eq_false hq.out.symm
      have hnone : repB? R = none := by unfold repB?; rw [if_neg (fun k => hnot ⟨k.1, k.2.1⟩)]
      have hE1 : repE R = 1 := by unfold repE; rw [if_neg hnot]
      obtain ⟨rfl, hE2⟩ := hS2.out hnone
      obtain rfl : E = 1 := hE2.trans hE1
      replace hnot := Lib.hid hnot
      clear hnone hE1 hE2
      go_wp2
      go_ret
      exact ⟨rfl, gr_below (gr_trans g1.out G4)⟩
    | true =>
      obtain ⟨hokP, hallR⟩ : okP R ∧ ∀ x ∈ R.rows, okR x := of_decide_eq_true hq.out.symm
      have hEq8 : repE R = 8 := by unfold repE; rw [if_pos ⟨hokP, hallR⟩]
      replace hEq8 := Lib.hid hEq8
      have hokP2 := hokP
      have hallr : ∀ x ∈ rows, okR x := by rw [hR.out] at hallR; exact hallR
      rw [hR.out] at hokP2
      obtain ⟨⟨e1, e2⟩, ⟨i1, i2⟩, s60, n100⟩ := hokP2
      simp only at e1 e2 i1 i2 s60 n100
      rw [hlen.out] at n100
      obtain ⟨ev, rfl⟩ : ∃ k : Nat, err = (k : Int) := ⟨err.toNat, by omega⟩
      obtain ⟨iv, rfl⟩ : ∃ k : Nat, id = (k : Int) := ⟨id.toNat, by omega⟩
      have hH := fun (a k : Int) (p : Grown W4) (h0 : 0 ≤ a) (h1 : a < 1000000000) (hk : k = 1 ∨ k = 4) => hi_any a k p.wd h0 h1 hk
      have l1 := hB_len 1 (ev : Int)
      have l2 := hB_len 4 (iv : Int)
      have l3 := hB_len 1 (slip.length : Int)
      have l4 := hB_len 1 (n : Int)
      have d0 := cell_to b0
      have d1 := cell_to b1
      have d2 := cell_to b2
      have d3 := cell_to b3
      have hhead : repH (ev : Int) (iv : Int) slip n = hB 1 (ev : Int) ++ hB 4 (iv : Int) ++ hB 1 (slip.length : Int) ++ slip ++ hB 1 (n : Int) := by
        have e1 : hB 1 (ev : Int) = [UInt8.ofNat ev] := be1_eq ev (by omega)
        have e2 : hB 1 (slip.length : Int) = [UInt8.ofNat slip.length] := be1_eq slip.length (by omega)
        have e3 : hB 1 (n : Int) = [UInt8.ofNat n] := be1_eq n (by omega)
        have e4 : hB 4 (iv : Int) = Crc.be 4 iv := rfl
        rw [e1, e2, e3, e4]
        simp [repH]
      replace hH := Lib.hid hH
      replace hhead := Lib.hid hhead
      replace hokP := Lib.hid hokP
      replace hallR := Lib.hid hallR
      replace hallr := Lib.hid hallr
      clear b0 b1 b2 b3
      go_upto_region 7 with fail
      go_cut [8] (fun s8 wx => s8 = .string (txt (repH (ev : Int) (iv : Int) slip n)) ∧ Hid (Gr W4 wx))
      case first =>
        refine wp_region_quiet_gr (by kernel_rfl) (by kernel_rfl) ?_
        repeat (go_big_quiet_step ((go_at_call 8; exact calls_gr (hH.out _ _ _ (by omega) (by omega) (by simp)))))
        refine wpQuiet_nil ?_
        intro wP hw2
        have gP : Gr W4 wP := by
          obtain ⟨p, hp⟩ := hw2
          rw [hp]
          exact p.gr
        clear hw2
        go_wp2
        go_meet
        exact ⟨by rw [hhead.out]; first | rfl | (simp only [List.append_assoc]; rfl) | simp, Lib.hid gP⟩
      case rest =>
      obtain ⟨rfl, g5⟩ := hcut
      have G5 := gr_trans G4 g5.out
      have hHl := repH_len (ev : Int) (iv : Int) slip n
      obtain ⟨Hd0, hHd⟩ : ∃ Hd0, Hd0 = repH (ev : Int) (iv : Int) slip n := ⟨_, rfl⟩
      rw [← hHd] at hHl ⊢
      replace hHd := Lib.hid hHd
      replace hHl := Lib.hid hHl
      replace G5 := Lib.hid G5
      clear d0 d1 d2 d3 hH l1 l2 l3 l4 hhead g5 G4
      go_wp2_with fail
      go_loopw [8, 9] (fun wv iv' wr => ∃ k : Nat, k ≤ n ∧ wv = .string (txt (Hd0 ++ rowsL (rows.take k))) ∧ iv' = .int .i64 k ∧ Hid (Gr W1 wr)) (fun _ iv' _ => n - (intOf iv').toNat)
      case atStart => exact ⟨0, Nat.zero_le _, by simp [rowsL], rfl, G5⟩
      case round =>
        obtain ⟨k, hk, rfl, rfl, hg⟩ := hrel
        obtain ⟨b0, b1, b2, b3⟩ := hC.out wr hg.out
        have hlenk : (Hd0 ++ rowsL (rows.take k)).length ≤ 67 + 1463 * k := by
          have h1 := rowsL_len (rs := rows.take k) (fun x hx => hallr.out x (List.mem_of_mem_take hx))
          rw [List.length_take] at h1
          rw [List.length_append, hHl.out]
          have : 1463 * min k rows.length ≤ 1463 * k := Nat.mul_le_mul_left _ (Nat.min_le_left _ _)
          omega
        by_cases hlt : k < n
        · obtain ⟨x, hx2, Bx, ox, hx, hok2, rfl, c0, c1⟩ := rows_at (hrw.out wr hg.out) hlt
          have hki : (k : Int) < (n : Int) := by omega
          have hk0 : (0 : Int) ≤ (k : Int) := by omega
          have hox := hallr.out x (List.mem_of_getElem? hx)
          have hrow := hok2.row
          have hvv := hok2.v
          have heq : (⟨x.l, hx2.v⟩ : Rw) = x := by rw [hvv]
          have cP := refPut_any hx2.A hx2.n hx2.c x.l hx2.v wr (by rw [heq]; exact hox) hrow
          rw [heq] at cP
          have hxl := rowL_le hox
          have htk : Hd0 ++ rowsL (rows.take k) ++ rowL x = Hd0 ++ rowsL (rows.take (k + 1)) := by rw [take_snocP hx, rowsL_append, rowsL_one, List.append_assoc]
          obtain ⟨M, hM⟩ : ∃ M, M = Hd0 ++ rowsL (rows.take k) := ⟨_, rfl⟩
          rw [← hM] at htk hlenk ⊢
          have hcat : (9223372036854775807 < M.length + (rowL x).length) = False := eq_false (by omega)
          replace cP := Lib.hid cP
          replace hM := Lib.hid hM
          replace hox := Lib.hid hox
          replace htk := Lib.hid htk
          clear hok2 hx hrow hvv heq
          go_wp2_with fail
          refine cP.out.mono ?_
          rintro e wa ⟨rfl, ga⟩
          have Ga := Lib.hid (gr_trans hg.out ga)
          clear cP ga b0 b1 b2 b3 c0 c1
          go_wp2
          go_roundw
          case rel => exact ⟨k + 1, by omega, by rw [← htk.out]; try rfl, by go_num, Ga⟩
          case measure => simp [intOf]; omega
        · obtain rfl : n = k := by omega
          have hki : ((n : Int) < (n : Int)) = False := eq_false (by omega)
          have hfull : rows.take n = rows := List.take_of_length_le (by rw [hlen.out]; exact Nat.le_refl _)
          rw [hfull] at hlenk ⊢
          have hT : repT R = Hd0 ++ rowsL rows := by rw [hR.out, hHd.out]; unfold repT; simp only; rw [hlen.out]
          rw [← hT] at hlenk ⊢
          obtain ⟨M, hM⟩ : ∃ M, M = repT R := ⟨_, rfl⟩
          rw [← hM] at hlenk ⊢
          replace hM := Lib.hid hM
          clear hfull hT
          by_cases h4 : 4000 < M.length
          · have h4I : (4000 : Int) < (M.length : Int) := by omega
            have hnone : repB? R = none := by unfold repB?; rw [if_neg (fun k => by have := k.2.2; rw [← hM.out] at this; omega)]
            obtain ⟨rfl, hE2⟩ := hS2.out hnone
            obtain rfl : E = 8 := hE2.trans hEq8.out
            have hG := Lib.hid (gr_trans g1.out hg.out)
            clear hnone hE2
            go_wp2
            go_ret
            exact ⟨rfl, gr_below hG.out⟩
          have h4I : ((4000 : Int) < (M.length : Int)) = False := eq_false (by omega)
          have hB2 : repB? R = some (Crc.frm M) := by unfold repB?; rw [if_pos ⟨hokP.out, hallR.out, by rw [← hM.out]; omega⟩, hM.out]
          obtain ⟨hSF, rfl⟩ := hS1.out _ hB2
          subst hSF
          obtain ⟨isF, readF⟩ := isRep_of hB2
          have hFl : (Crc.frm M).length ≤ 5000 := by rw [Crc.frm_length]; omega
          have cF := fun W => refFrame_any M W (by omega)
          have rr1 := fun W => readReply_any (Crc.frm M) W hFl
          have rr2 := fun W => readReply_any b W (by omega)
          obtain ⟨F, hF⟩ : ∃ F, F = Crc.frm M := ⟨_, rfl⟩
          rw [← hF] at isF readF cF rr1 hFl ⊢
          obtain ⟨W5, hW5⟩ : ∃ W5, W5 = wr := ⟨_, rfl⟩
          rw [← hW5] at hg b0 b1 b2 b3 ⊢
          clear hW5
          obtain ⟨W6, hW6⟩ : ∃ W6, W6 = W5.alloc (.cells (BkW.bkCells (.slice none 0 0) (.slice none 0 0)) 47) := ⟨_, rfl⟩
          have kp6 := kept_new W5
          rw [← hW6] at kp6
          have g6 : Gr W5 W6 := by rw [hW6]; exact gr_alloc _ _ _
          have G6 := gr_trans hg.out g6
          have hK1 : W1.heap.size ≤ W5.heap.size := hg.out.size
          have hKw : w.heap.size < W5.heap.size := Nat.lt_of_lt_of_le hW1s.out hK1
          have hK6 : W5.heap.size < W6.heap.size := by rw [hW6]; simp
          replace isF := Lib.hid isF
          replace readF := Lib.hid readF
          replace cF := Lib.hid cF
          replace rr1 := Lib.hid rr1
          replace rr2 := Lib.hid rr2
          replace kp6 := Lib.hid kp6
          replace G6 := Lib.hid G6
          replace hF := Lib.hid hF
          replace hK1 := Lib.hid hK1
          replace hKw := Lib.hid hKw
          replace hK6 := Lib.hid hK6
          clear g6 hB2 hq hS1 hS2
          go_upto_region 15 with fail
          unfold BkW.bkCells at hW6
          rw [← hW6]
          replace hW6 := Lib.hid hW6
          go_wp2_with fail
          refine (rr1.out W6).mono ?_
          intro e W7 hp1
          obtain ⟨Y1, A1, k1, cg1, he, ho1, g7, hY1⟩ := rr_post hp1
          have hy1 : cg1 = 0 ∧ Y1 = R := by
            rcases hY1 with ⟨h, _, h2⟩ | ⟨_, h, _⟩
            · exact ⟨h, h2.trans readF.out⟩
            · exact absurd isF.out h
          obtain ⟨rfl, hYR⟩ := hy1
          rw [hR.out] at hYR
          subst hYR
          rw [hlen.out] at he ho1
          unfold rpV at he
          simp only at he ho1
          subst he
          obtain ⟨W8, hW8⟩ : ∃ W8, W8 = W7.alloc (.cells #[.int .i64 (ev : Int), .int .i64 (iv : Int), .string (txt slip), .slice A1 n k1] 25) := ⟨_, rfl⟩
          have ox8 := own_rep W7 (.int .i64 (ev : Int)) (.int .i64 (iv : Int)) (.string (txt slip)) (.slice A1 n k1)
          rw [← hW8] at ox8
          have g8 : Gr W7 W8 := by rw [hW8]; exact gr_alloc _ _ _
          have s78 : W7.heap.size < W8.heap.size := by rw [hW8]; simp
          have ho8 := ownRs_gr ho1 g8
          have hl1 : ∀ k, (Value.slice A1 n k1).ownBlock = some k → k < W7.heap.size := fun k hk => by obtain ⟨hs, z1, z2⟩ := ho1; exact (z2.lt k hk).2
          have G8 := gr_trans G6.out (gr_trans g7 g8)
          have hG68 : W6.heap.size ≤ W8.heap.size := Nat.le_trans g7.size g8.size
          replace hG68 := Lib.hid hG68
          have kp8 := kept_gr kp6.out (gr_trans g7 g8)
          replace ox8 := Lib.hid ox8
          replace ho8 := Lib.hid ho8
          replace hl1 := Lib.hid hl1
          replace G8 := Lib.hid G8
          replace kp8 := Lib.hid kp8
          replace s78 := Lib.hid s78
          clear hp1 hY1 ho1 g7 g8 rr1 kp6 G6
          go_upto_region 16 with fail
          rw [← hW8]
          clear hW8 b0 b1 b2 b3
          go_wp2_with fail
          refine (rr2.out W8).mono ?_
          intro e W9 hp2
          obtain ⟨Y, A2, k2, cg, he, ho2, g9, hY⟩ := rr_post hp2
          obtain ⟨yokP, yl100, ysm, yrep⟩ := rr_small hY
          obtain ⟨ye, yi, yt, yr⟩ := Y
          unfold rpV at he
          simp only at he ho2 yl100 ysm
          subst he
          obtain ⟨W10, hW10⟩ : ∃ W10, W10 = W9.alloc (.cells #[.int .i64 ye, .int .i64 yi, .string (txt yt), .slice A2 yr.length k2] 25) := ⟨_, rfl⟩
          have oy10 := own_rep W9 (.int .i64 ye) (.int .i64 yi) (.string (txt yt)) (.slice A2 yr.length k2)
          rw [← hW10] at oy10
          have g10 : Gr W9 W10 := by rw [hW10]; exact gr_alloc _ _ _
          have hl2 : ∀ k, (Value.slice A2 yr.length k2).ownBlock = some k → W8.heap.size ≤ k := fun k hk => by obtain ⟨hs, z1, z2⟩ := ho2; exact (z2.lt k hk).1
          have hy10 := ownRs_gr ho2 g10
          have g910 := gr_trans g9 g10
          have hx10 := ownRs_gr ho8.out g910
          have ox10 := ox8.out.kept g910 (Classical.em _)
          have G10 := gr_trans G8.out g910
          have kp10 := kept_gr kp8.out g910
          obtain ⟨-, -, -, q3⟩ := own_rep_cells ox10
          have hkeep1 := BkW.keep_any W5.heap.size ⟨none, 0, 0⟩ ⟨none, 0, 0⟩ [] [] ⟨A1, n, k1⟩ rows W10 (by simp) rfl kp10 (by simp only; omega) (ownRs_base hx10 (Nat.zero_le _)) hlen.out hsml.out
          replace hkeep1 := Lib.hid hkeep1
          replace hy10 := Lib.hid hy10
          replace hx10 := Lib.hid hx10
          replace ox10 := Lib.hid ox10
          replace oy10 := Lib.hid oy10
          replace G10 := Lib.hid G10
          replace hl2 := Lib.hid hl2
          replace hY := Lib.hid hY
          replace yokP := Lib.hid yokP
          replace ysm := Lib.hid ysm
          replace yrep := Lib.hid yrep
          clear hp2 ho2 g9 g10 g910 ox8 ho8 G8 kp8 kp10 rr2
          go_upto_region 17 with fail
          rw [← hW10]
          clear hW10
          go_wp2_with fail
          refine hkeep1.out.mono ?_
          rintro e W11 ⟨rfl, T1, V1, cc1, kp11, hc1n, hc1o, hb11, ty11⟩
          have hx11 := BkW.ownRs_typed ty11 hx10.out
          have hy11 := BkW.ownRs_typed ty11 hy10.out
          have ox11 := ty11 _ _ _ _ _ _ (by decide) (by decide) ox10.out
          have oy11 := ty11 _ _ _ _ _ _ (by decide) (by decide) oy10.out
          have hkeep2 := BkW.keep_any W5.heap.size T1 V1 _ _ ⟨A2, yr.length, k2⟩ yr W11 (by simp) (by simp) kp11 (by simp only; omega) (ownRs_base hy11 (Nat.zero_le _)) rfl (fun r hr => by have := (ysm.out r hr).1.1; omega)
          clear q3
          obtain ⟨-, -, -, q3⟩ := own_rep_cells oy11
          replace hkeep2 := Lib.hid hkeep2
          replace hx11 := Lib.hid hx11
          replace hy11 := Lib.hid hy11
          replace ox11 := Lib.hid ox11
          replace oy11 := Lib.hid oy11
          replace hc1o := Lib.hid hc1o
          replace hc1n := Lib.hid hc1n
          replace hb11 := Lib.hid hb11
          clear kp11 ty11 hkeep1 hx10 hy10 ox10 oy10
          go_wp2_with fail
          refine hkeep2.out.mono ?_
          rintro e W12 ⟨rfl, T2, V2, cc2, kp12, hc2n, hc2o, hb12, ty12⟩
          have hx12 := BkW.ownRs_typed ty12 hx11.out
          have hy12 := BkW.ownRs_typed ty12 hy11.out
          have hc112 := BkW.ownRs_typed ty12 hc1o.out
          have ox12 := ty12 _ _ _ _ _ _ (by decide) (by decide) ox11.out
          have oy12 := ty12 _ _ _ _ _ _ (by decide) (by decide) oy11.out
          have G12 : Gr W1 W12 := gr_of_below ((gr_below G10.out).trans (below_le (hb11.out.trans hb12) hK1.out)) (Nat.le_refl _)
          have cF2 := cF.out W12
          have hfacts : ∀ W, Gr W12 W → (OwnRs W W6.heap.size (.slice A1 n k1) rows ∧ OwnRs W W8.heap.size (.slice A2 yr.length k2) yr ∧ OwnRs W W10.heap.size cc1.v rows ∧ OwnRs W W11.heap.size cc2.v yr ∧ BkW.Kept W W5.heap.size T2 V2 [⟨A1, n, k1⟩, ⟨A2, yr.length, k2⟩] [cc1, cc2]) := fun W g => ⟨ownRs_gr hx12 g, ownRs_gr hy12 g, ownRs_gr hc112 g, ownRs_gr hc2o g, kept_gr kp12 g⟩
          have hxc := fun W (g : Gr W12 W) => own_rep_cells (ox12.kept g (Classical.em _))
          have hyc := fun W (g : Gr W12 W) => own_rep_cells (oy12.kept g (Classical.em _))
          have hcells := fun W (g : Gr W12 W) => hC.out W (gr_trans G12 g)
          have cS := fun W (g : Gr W12 W) => BkW.rows_yes A1 A n k1 c rows W (by omega) (ownRs_rows (hfacts W g).1 hlen.out) (hrw.out W (gr_trans G12 g)) (fun r hr => by have := hsml.out r hr; omega)
          have hap := fun W (g : Gr W12 W) => BkW.apart_any W5.heap.size T2 V2 [⟨A1, n, k1⟩, ⟨A2, yr.length, k2⟩] [cc1, cc2] W (by simp) rfl (hfacts W g).2.2.2.2 (parted2 (fun k h1 h2 => by
              have z1 := hl1.out k h1
              have z2 := hl2.out k h2
              have z3 := s78.out
              omega)) (fun j l c' hl hc => by
            match j, hl, hc with
            | 0, hl, hc =>
              obtain rfl : (⟨A1, n, k1⟩ : Lst) = l := by simpa using hl
              obtain rfl : cc1 = c' := by simpa using hc
              exact apart_in (hfacts W g).1 (hfacts W g).2.2.1 hlen.out hc1n.out (by simp only; omega) (fun r hr => by have := hsml.out r hr; omega)
            | 1, hl, hc =>
              obtain rfl : (⟨A2, yr.length, k2⟩ : Lst) = l := by simpa using hl
              obtain rfl : cc2 = c' := by simpa using hc
              exact apart_in (hfacts W g).2.1 (hfacts W g).2.2.2.1 rfl hc2n (by simp only; omega) (fun r hr => by have := (ysm.out r hr).1.1; omega)
            | j + 2, hl, hc => simp at hl)
          have hend : ∀ W W', Gr W12 W → GrS (InL [⟨A1, n, k1⟩, ⟨A2, yr.length, k2⟩]) W W' → Below w.heap.size w W' := fun W W' g gs => by
            have hbw : Below w.heap.size w W := gr_below (gr_trans g1.out (gr_trans G12 g))
            refine below_grs hbw gs hbw.size (fun k hk => ?_)
            obtain ⟨l, hm, hlk⟩ := hk
            simp only [List.mem_cons, List.not_mem_nil, or_false] at hm
            rcases hm with rfl | rfl
            · obtain ⟨hs, z1, z2⟩ := (hfacts W g).1
              have := (z2.lt k hlk).1
              have := hK6.out
              have := hKw.out
              omega
            · have := hl2.out k hlk
              have := hK6.out
              have := hKw.out
              have := s78.out
              have := hG68.out
              omega
          obtain ⟨b0, b1, b2, b3⟩ := hcells W12 (gr_refl _ _)
          obtain ⟨x0, x1, x2, x3⟩ := hxc W12 (gr_refl _ _)
          have hFF : (F == F) = true := by simp
          have hSS : (slip == slip) = true := by simp
          have hee : ((ev : Int) == (ev : Int)) = true := by simp
          have hii : ((iv : Int) == (iv : Int)) = true := by simp
          replace cF2 := Lib.hid cF2
          replace hfacts := Lib.hid hfacts
          replace hxc := Lib.hid hxc
          replace hyc := Lib.hid hyc
          replace hcells := Lib.hid hcells
          replace cS := Lib.hid cS
          replace hap := Lib.hid hap
          replace hend := Lib.hid hend
          clear hkeep2 hx11 hy11 ox11 oy11 hc1o hc2o hb11 hb12 kp12 ty12 hx12 hy12 hc112 ox12 oy12 q3 cF
          go_wp2_with fail
          refine cF2.out.mono ?_
          rintro e W13 ⟨rfl, g13⟩
          clear b0 b1 b2 b3 x0 x1 x2 x3
          obtain ⟨b0, b1, b2, b3⟩ := hcells.out W13 g13
          obtain ⟨x0, x1, x2, x3⟩ := hxc.out W13 g13
          go_wp2_with fail
          refine (cS.out W13 g13).mono ?_
          rintro e W14 ⟨rfl, g14⟩
          have G14 := gr_trans g13 g14
          clear b0 b1 b2 b3 x0 x1 x2 x3 g13 g14
          obtain ⟨y0, y1, y2, y3⟩ := hyc.out W14 G14
          rcases hY.out with ⟨rfl, hyb, -⟩ | ⟨rfl, hyb, hY0⟩
          · have hrep := yrep.out rfl
            have hok2 : RpOk W14 A2 yr.length ⟨ye, yi, yt, yr⟩ := by
              obtain ⟨⟨z1, z2⟩, ⟨z3, z4⟩, z5, z6⟩ := yokP.out
              simp only at z1 z2 z3 z4 z5
              exact ⟨ownRs_rows (hfacts.out W14 G14).2.1 rfl, fun x hx => ⟨small_short (ysm.out x hx).1, by have := (ysm.out x hx).1.1; omega, (ysm.out x hx).2⟩, by omega, by simp only; omega, by simp only; omega, by simp only; omega⟩
            have cR2 := rep_any A2 yr.length k2 _ W14 hok2
            unfold rpV at cR2
            simp only at cR2
            replace cR2 := Lib.hid cR2
            replace hrep := Lib.hid hrep
            replace hyb := Lib.hid hyb
            clear hok2
            go_wp2_with fail
            refine cR2.out.mono ?_
            intro e W15 hpost
            obtain ⟨S2, E2, rfl, g15, z1, -⟩ := rep_post hpost
            obtain ⟨hSb, rfl⟩ := z1 _ hrep.out
            subst hSb
            have G15 := gr_trans G14 g15
            have hbb : (S2 == S2) = true := by simp
            have hA := hap.out W15 G15
            replace hA := Lib.hid hA
            clear hpost z1 cR2 y0 y1 y2 y3 g15
            go_wp2_with fail
            refine hA.out.mono ?_
            rintro e W16 ⟨rfl, gs⟩
            have hfin := Lib.hid (hend.out W15 W16 G15 gs)
            go_wp2
            go_ret
            exact ⟨rfl, hfin.out⟩
          · injection hY0 with z1 z2 z3 z4
            subst z1 z2 z3 z4
            have hA := hap.out W14 G14
            replace hA := Lib.hid hA
            replace hyb := Lib.hid hyb
            go_wp2_with fail
            refine hA.out.mono ?_
            rintro e W16 ⟨rfl, gs⟩
            have hfin := Lib.hid (hend.out W14 W16 G14 gs)
            go_wp2
            go_ret
            exact ⟨rfl, hfin.out⟩



set_option maxRecDepth 100000 in
theorem lifted (os : Os) (started : os.Started) (H : Type) (enc : TypeId × Value → H) :
    ReturnsInHanded {} Tryz.checked os 3 .any (Rows.replyTellsSpec.pre6 enc Tryz.prog Tryz.f3 Rows.replyTellsRow.domain false) (Rows.replyTellsSpec.post enc Tryz.prog Tryz.f3 false true false false) := by
  refine returnsInHanded_of_change (C := Tryz.checked) own started (by kernel_rfl) Tryz.func3
    (ChangeSpec.witness6 (enc := enc) (C := Tryz.checked) false ⟨#[], #[.agg #[.int .i64 0, .int .i64 0, .string ByteArray.empty, .slice none 0 0], .string ByteArray.empty], []⟩ 8 (by kernel_rfl) (by kernel_rfl) (by kernel_rfl) (by kernel_rfl)) ?_
  intro W base args ds gs before hval0 hW hcnd _
  have hval : ∀ (j : Nat) t v, Tryz.f3.params[j]? = some t → args[j]? = some v → Value.okWide Tryz.prog W .any base t v := hval0
  have hW' := hW
  obtain ⟨p, q, hA0, hV, rfl, hfz, hnd⟩ := hW
  have hA : DataW.TrodAll enc Tryz.prog W 0 (fun _ => true) true Tryz.f3.params.toList args.toList ds p := hA0
  rw [Tryz.params3] at hA hval
  obtain ⟨v0, vs0, d0, ds0, p0, q0, hargs, rfl, rfl, h0, r0⟩ := trodAll_cons hA
  obtain ⟨v1, vs1, d1, ds1, p1, q1, rfl, rfl, rfl, h1, r1⟩ := trodAll_cons r0
  obtain ⟨rfl, rfl, rfl⟩ := trodAll_nil r1
  obtain rfl : args = #[v0, v1] := by cases args; simp_all
  obtain ⟨rfl, rfl⟩ := trodVars_none hV
  have k0 := h0
  have lt0 : ∀ x ∈ p0, x.block < W.heap.size := by obtain ⟨m, hm⟩ := k0; exact DataW.trod_lt m _ _ _ hm
  obtain ⟨z0, w0⟩ := rep_open (hval 0 25 v0 rfl rfl) h0
  obtain ⟨a1, rfl, rfl, rfl, w1⟩ := open_string Tryz.underlying9 (hval 1 9 v1 rfl rfl) h1
  clear hA0 hval0
  refine (walk W v0 z0 w0 a1 w1).mono fun e W' ⟨he, bel⟩ => ?_
  subst he
  exact ⟨_, rfl, _, _, _, [], _, [], hW', trodAll_mk1 (shut_bool Tryz.underlying4 _), (trodAll_cons_mk (Below.trod laidOut (by kernel_rfl) (of_decide_eq_true (by kernel_rfl)) k0 bel lt0) (trodAll_cons_mk (shut_string Tryz.underlying9 w1) trodAll_mk0)), rfl, bel.frame _, fun h => by cases h⟩

theorem over : Rows.replyTellsRow.holds Tryz.pinned (OpenSpec.ofChange Rows.replyTellsSpec) :=
  OpenClaim.holds_of_wide 3 Tryz.f3 rfl rfl rfl rfl rfl rfl rfl ⟨rfl, rfl, rfl, rfl, rfl⟩ rfl rfl rfl rfl rfl (by kernel_rfl) Tryz.func3 (by kernel_rfl)
    (of_decide_eq_true (by kernel_rfl)) (by unfold Func.isWrapper; first | (rw [if_pos (by decide +kernel)]; kernel_rfl) | (rw [if_neg (by decide +kernel)]; exact ⟨rfl, rfl⟩))
    (fun os started H enc _ => lifted os started H enc)

/-- THE STATEMENT -/
theorem proved : Rows.ReplyTellsSaid := over
#print axioms proved
end Go.Proofs.YtbnacoakjhhndaaGreat.replyTells

