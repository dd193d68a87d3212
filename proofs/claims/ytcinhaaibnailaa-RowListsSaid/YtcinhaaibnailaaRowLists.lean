/-
  RowLists holds of the program: for every input the call returns true and leaves what came in as it was. No condition.
-/
import Derived.Test.YtcinhaaibnailaaRows
import Derived.Test.YtcinhaaibnailaaRowsTidy
import Derived.Test.YtcinhaaibnailaaRowAlive
import Derived.Test.YtcinhaaibnailaaRowOpen
import Derived.WalkKit
import Derived.ProofKit
import Derived.OpenShut
import Derived.ShutString
import Derived.ChangeOld
import Derived.Below
namespace Go.Proofs.Ytcinhaaibnailaa.rowLists
open Go.ChangeShapes Go.WideShapes Go.ChangeAt Go.RowKit
open Go.ChangeMaps (open_string shut_string)
set_option linter.unusedVariables false

theorem own : ownKnob Try.prog.godebug = none := by kernel_rfl
theorem laidOut : laidOutB Try.prog = true := by kernel_rfl
theorem goodRows {w : World} : ∀ (hs : List Hd), (∀ h ∈ hs, GoodH w h) → ∃ rs : List Rw, rs.length = hs.length ∧ (∀ r ∈ rs, okR r) ∧ ∀ (i : Nat) (r : Rw), rs[i]? = some r → ∃ h, hs[i]? = some h ∧ HdOk w h r := by
  intro hs
  induction hs with
  | nil => intro _; exact ⟨[], rfl, by simp, by simp⟩
  | cons h hs ih =>
    intro hg
    obtain ⟨rs, h1, h2, h3⟩ := ih fun x hx => hg x (List.mem_cons_of_mem _ hx)
    obtain ⟨r, k1, k2⟩ := hg h List.mem_cons_self
    refine ⟨r :: rs, by simp [h1], fun x hx => ?_, fun i x hx => ?_⟩
    · rcases List.mem_cons.1 hx with rfl | hx
      · exact k2
      · exact h2 x hx
    · cases i with
      | zero => simp at hx; subst hx; exact ⟨h, rfl, k1⟩
      | succ i => simp at hx; obtain ⟨y, e, ky⟩ := h3 i x hx; exact ⟨y, by simpa using e, ky⟩
def flatL (rs : List Rw) : List UInt8 := rs.flatMap rowL
theorem take_snocR {rs : List Rw} {k : Nat} {x : Rw} (hx : rs[k]? = some x) : rs.take (k + 1) = rs.take k ++ [x] := by
  obtain ⟨h1, h2⟩ := List.getElem?_eq_some_iff.1 hx
  rw [List.take_succ_eq_append_getElem h1, h2]
theorem flatL_snoc {rs : List Rw} {k : Nat} {r : Rw} (hx : rs[k]? = some r) : flatL (rs.take (k + 1)) = flatL (rs.take k) ++ rowL r := by
  obtain ⟨h1, h2⟩ := List.getElem?_eq_some_iff.1 hx
  rw [List.take_succ_eq_append_getElem h1, h2]
  simp [flatL]
theorem flatL_cons {rs : List Rw} {k : Nat} {r : Rw} (hx : rs[k]? = some r) : flatL (rs.drop k) = rowL r ++ flatL (rs.drop (k + 1)) := by
  obtain ⟨h1, h2⟩ := List.getElem?_eq_some_iff.1 hx
  rw [List.drop_eq_getElem_cons h1, h2]
  simp [flatL]
theorem flatL_le : ∀ (rs : List Rw), (∀ r ∈ rs, okR r) → (flatL rs).length ≤ 1463 * rs.length := by
  intro rs
  induction rs with
  | nil => intro _; simp [flatL]
  | cons r rs ih =>
    intro h
    have h1 := rowL_le (h r List.mem_cons_self)
    have h2 := ih fun x hx => h x (List.mem_cons_of_mem _ hx)
    have h3 : flatL (r :: rs) = rowL r ++ flatL rs := by simp [flatL]
    rw [h3, List.length_append, List.length_cons]
    omega
/-- A row whose labels the call has laid itself. -/
def OwnHd (w : World) (base : Nat) (h : Hd) (r : Rw) : Prop := h.v = r.v ∧ h.n = r.l.length ∧ w.ownsRow base 41 2 (.slice h.A h.n h.c) h.n (sR lblC r.l)
theorem ownHd_ok {w : World} {base : Nat} {h : Hd} {r : Rw} (k : OwnHd w base h r) : HdOk w h r := by
  obtain ⟨k1, k2, k3⟩ := k
  have h1 := hdOk_own (v := r.v) k3
  exact ⟨k1, k2, h1.row, h1.nil, h1.le, h1.small⟩
def OwnRows (w : World) (base : Nat) (hs : List Hd) (rs : List Rw) : Prop := hs.length = rs.length ∧ ∀ (i : Nat) (r : Rw), rs[i]? = some r → ∃ h, hs[i]? = some h ∧ OwnHd w base h r
theorem ownRows_kept {w w' : World} {base : Nat} {hs : List Hd} {rs : List Rw} {b2 size n : Nat} {v : Value} {xs : List Value} (k : OwnRows w base hs rs) (ho : w.ownsRow b2 24 size v n xs) (g : w.grownBy w' v.ownBlock) : OwnRows w' base hs rs :=
  ⟨k.1, fun i r hr => by
    obtain ⟨h, e, k1, k2, k3⟩ := k.2 i r hr
    exact ⟨h, e, k1, k2, k3.kept g (own_types k3 ho (by decide))⟩⟩
theorem ownRows_gr {w w' : World} {base : Nat} {hs : List Hd} {rs : List Rw} (k : OwnRows w base hs rs) (g : Gr w w') : OwnRows w' base hs rs :=
  ⟨k.1, fun i r hr => by
    obtain ⟨h, e, k1, k2, k3⟩ := k.2 i r hr
    exact ⟨h, e, k1, k2, k3.kept g (Classical.em _)⟩⟩
theorem ownRows_snoc {w : World} {base : Nat} {hs : List Hd} {rs : List Rw} {h : Hd} {r : Rw} (k : OwnRows w base hs rs) (k1 : OwnHd w base h r) : OwnRows w base (hs ++ [h]) (rs ++ [r]) := by
  refine ⟨by simp [k.1], fun i x hx => ?_⟩
  by_cases hi : i < rs.length
  · rw [List.getElem?_append_left hi] at hx
    obtain ⟨y, e, ky⟩ := k.2 i x hx
    exact ⟨y, by rw [List.getElem?_append_left (by rw [k.1]; exact hi)]; exact e, ky⟩
  · rw [List.getElem?_append_right (by omega)] at hx
    have hi2 : i - rs.length = 0 := by
      cases hq : i - rs.length with
      | zero => rfl
      | succ q => rw [hq] at hx; simp at hx
    rw [hi2] at hx
    simp at hx
    subst hx
    exact ⟨h, by rw [List.getElem?_append_right (by rw [k.1]; omega), k.1, hi2]; rfl, k1⟩
theorem ownRows_rows {w : World} {base n : Nat} {A : Option Addr} {hs : List Hd} {rs : List Rw} (k : OwnRows w base hs rs) (hl : rs.length = n) (h : Row w A n 2 (sR hdC hs)) : Rows w A n rs :=
  ⟨hl, hs, h, fun i r hr => by
    obtain ⟨h, e, k1⟩ := k.2 i r hr
    exact ⟨h, e, ownHd_ok k1⟩⟩
theorem sum8 : ∀ (l : List Lb), 8 * l.length ≤ (l.map fun x => 8 + x.n.length + x.v.length).sum := by
  intro l
  induction l with
  | nil => simp
  | cons x l ih => simp only [List.map_cons, List.sum_cons, List.length_cons]; omega
theorem costR_le {zs : List Lb} (h : LightL zs) (v : Int) : costR ⟨zs, v⟩ ≤ 10000 ∧ 16 + 8 * zs.length ≤ costR ⟨zs, v⟩ := by
  have h1 := cost_le h zs.length
  rw [List.take_length] at h1
  have h2 := sum8 zs
  have h3 := h.1
  unfold costR
  simp only
  omega
set_option maxHeartbeats 32000000 in
set_option maxRecDepth 100000 in
theorem walk (w : World) (a0 : Option Addr) (len0 cap0 : Nat) (z0 : List Rw) (w0 : IsRows w a0 len0 cap0 z0) (a1 : Int) (w1 : (Lit.int .i64 a1).wf = true) :
    Calls Try.prog 4 #[.slice a0 len0 cap0, .int .i64 a1] w fun e w' => e = .returned (.bool true) ∧ Below w.heap.size w w' := by
  obtain ⟨hr0, hc1, hc2, hb0, hn0⟩ := w0
  obtain ⟨ii, hi, hz0, hz1, hz2⟩ := info_parts infoRow3
  have hl0 := rlight_any a0 len0 cap0 z0 w (by omega) hr0
  have hzl : z0.length = len0 := hr0.1
  replace hr0 := Lib.hid hr0
  replace hl0 := Lib.hid hl0
  replace hzl := Lib.hid hzl
  clear hb0 hn0
  go_enter Try.func4, Try.ntmps4
  go_wp2_with fail
  refine hl0.out.mono ?_
  rintro e W2 ⟨⟨b0, rfl, hb0⟩, rfl⟩
  cases b0 with
  | false =>
    go_wp2_with fail
    refine (alive_any _).mono ?_
    rintro e w2 ⟨rfl, g2⟩
    go_wp2
    go_ret
    exact ⟨rfl, gr_below g2⟩
  | true =>
    obtain ⟨hn60, hL0⟩ := hb0 rfl
    rw [hzl.out] at hn60
    replace hL0 := Lib.hid hL0
    clear hb0
    go_wp2_with fail
    refine (alive_any _).mono ?_
    rintro e w2 ⟨rfl, g2⟩
    have ht := rtidy10_any a0 len0 cap0 z0 w2 hn60 (rows_gr hr0.out g2) hL0.out
    replace ht := Lib.hid ht
    replace g2 := Lib.hid g2
    go_wp2_with fail
    refine ht.out.mono ?_
    rintro e w3 ⟨⟨v, m, hs1, rfl, hm, hsl, hgood, ho⟩, g3⟩
    obtain ⟨A, c, rfl, hmc, hc9, hnone⟩ := own_sliceS ho
    obtain ⟨rs, hrl, hrok, hrh⟩ := goodRows hs1 hgood
    have hR : Rows w3 A m rs := ⟨by rw [hrl, hsl], hs1, row_own ho, hrh⟩
    have hm60 : m ≤ 60 := by omega
    have G3 := gr_trans g2.out g3
    have hrm : rs.length = m := by rw [hrl, hsl]
    replace hrok := Lib.hid hrok
    replace hR := Lib.hid hR
    replace G3 := Lib.hid G3
    replace hrm := Lib.hid hrm
    clear ht hgood ho hrh hrl hsl g3 hnone
    go_wp2
    go_loopw [6, 7] (fun bv iv wr => ∃ k : Nat, k ≤ m ∧ iv = .int .i64 k ∧ bv = .string (txt (flatL (rs.take k))) ∧ Hid (Gr w3 wr)) (fun _ iv _ => m - (intOf iv).toNat)
    case atStart => exact ⟨0, Nat.zero_le _, rfl, rfl, gr_refl _ _⟩
    case round =>
      obtain ⟨k, hk, rfl, rfl, hg⟩ := hrel
      by_cases hlt : k < m
      · obtain ⟨⟨rl, rv⟩, ⟨Ah, nh, ch, vh⟩, gA, oA, hre, hok, rfl, c0, c1⟩ := rows_at (rows_gr hR.out hg.out) hlt
        have hev := hok.v
        simp only at hev c0 c1
        subst hev
        have hokr := hrok.out _ (List.mem_of_getElem? hre)
        have hki : (k : Int) < (m : Int) := by omega
        have hk0 : (0 : Int) ≤ (k : Int) := by omega
        have hLt := okLbs_light hokr.1
        have hnh : nh = rl.length := hok.n
        have hL1 : rl.length ≤ 20 := hLt.1
        have hput := put_any Ah nh ch rl vh wr (by omega) hok.nil hok.row (light_short hLt) (by have := hokr.2; unfold okV at this; simp only at this; omega)
        unfold PutPost at hput
        rw [if_pos hokr] at hput
        have hf := flatL_snoc hre
        have hfl := flatL_le (rs.take (k + 1)) (fun r hr => hrok.out r (List.mem_of_mem_take hr))
        rw [hf, List.length_append, List.length_take] at hfl
        have hcl := costR_le hLt vh
        have hca : ∀ W, Gr wr W → ∀ v : Int, Calls Try.prog 12 #[.agg #[.slice Ah nh ch, .int .i64 v]] W fun e w' => e = .returned (.int .i64 (costR ⟨rl, vh⟩)) ∧ Gr W w' := fun W g v => cost_any Ah nh ch rl v W hLt (row_gr hok.row g)
        generalize costR ⟨rl, vh⟩ = N at hcl hca
        rw [← hnh] at hcl
        obtain ⟨hN1, hN2⟩ := hcl
        replace hput := Lib.hid hput
        replace hca := Lib.hid hca
        replace hf := Lib.hid hf
        have hfb : (flatL (rs.take k)).length + (rowL ⟨rl, vh⟩).length ≤ 100000 := by have := Nat.min_le_left (k + 1) rs.length; omega
        clear hok hre hLt hfl hnh hL1
        replace hN1 := Lib.hid hN1
        replace hN2 := Lib.hid hN2
        replace hfb := Lib.hid hfb
        go_wp2_with fail
        refine hput.out.mono ?_
        rintro e w4 ⟨rfl, g4⟩
        have hN1 := hN1.out
        have hN2 := hN2.out
        have hfb := hfb.out
        have e0 := gr_cell g4 c0
        have e1 := gr_cell g4 c1
        have d0 : ∀ p : Grown w4, p.wd.cell? ⟨gA, oA + k * 2, none⟩ = some (.slice Ah nh ch) := fun p => cell_to e0 p
        have d1 : ∀ p : Grown w4, p.wd.cell? ⟨gA, oA + k * 2 + 1, none⟩ = some (.int .i64 vh) := fun p => cell_to e1 p
        have hC : ∀ (p : Grown w4) (v : Int), Calls Try.prog 12 #[.agg #[.slice Ah nh ch, .int .i64 v]] p.wd fun e w' => e = .returned (.int .i64 N) ∧ Gr p.wd w' := fun p v => hca.out p.wd (gr_trans g4 p.gr) v
        have hcmp : ((N : Int) < 16 + 8 * (nh : Int)) = False := eq_false (by omega)
        have hww : IntKind.i64.wrap (16 + 8 * (nh : Int)) = 16 + 8 * (nh : Int) := IntWalk.i64_in _ (by omega)
        have hww2 : IntKind.i64.wrap (8 * (nh : Int)) = 8 * (nh : Int) := IntWalk.i64_in _ (by omega)
        replace hC := Lib.hid hC
        clear c0 c1 e0 e1
        go_upto_region 12 with fail
        refine wp_region_quiet_gr (by kernel_rfl) (by kernel_rfl) ?_
        repeat (go_big_quiet_step ((go_at_call 12; exact calls_gr (hC.out _ _))))
        refine wpQuiet_nil ?_
        intro wq hwq
        obtain ⟨⟨wp, gq⟩, rfl⟩ := hwq
        clear hww hww2 hcmp d0 d1
        go_wp2
        rw [← hf.out]
        go_roundw
        case rel => exact ⟨k + 1, by omega, by go_num, rfl, gr_trans hg.out (gr_trans g4 gq)⟩
        case measure => simp [intOf]; omega
      · obtain rfl : k = m := by omega
        have htk : rs.take k = rs.drop 0 := by rw [List.take_of_length_le (by rw [hrm.out]; exact Nat.le_refl _)]; rfl
        rw [htk]
        replace htk := Lib.hid htk
        go_wp2
        go_loopw [6, 10, 11] (fun bv av iv wq => ∃ (j : Nat) (hs2 : List Hd) (A2 : Option Addr) (c2 : Nat), j ≤ k ∧ iv = .int .i64 j ∧ bv = .string (txt (flatL (rs.drop j))) ∧ av = .slice A2 j c2 ∧ Hid (OwnRows wq w3.heap.size hs2 (rs.take j)) ∧ Hid (wq.ownsRow w3.heap.size 24 2 (.slice A2 j c2) j (sR hdC hs2)) ∧ Hid (Gr w3 wq)) (fun _ _ iv _ => k - (intOf iv).toNat)
        case atStart => exact ⟨0, [], none, 0, Nat.zero_le _, rfl, rfl, rfl, ⟨rfl, by intro i r h; simp at h⟩, World.ownsRow_nil _ _ _ _, hg.out⟩
        case round =>
          obtain ⟨j, hs2, A2, c2, hj, rfl, rfl, rfl, hh, ho, hg2⟩ := hrel
          clear hg
          by_cases hlt2 : j < k
          · obtain ⟨r, hre⟩ : ∃ r, rs[j]? = some r := ⟨rs[j]'(by rw [hrm.out]; exact hlt2), List.getElem?_eq_getElem _⟩
            have hokr := hrok.out r (List.mem_of_getElem? hre)
            have hfl := flatL_le (rs.drop j) (fun r hr => hrok.out r (List.mem_of_mem_drop hr))
            rw [List.length_drop, hrm.out] at hfl
            have hget : getR (flatL (rs.drop j)) = some (r, flatL (rs.drop (j + 1))) := by rw [flatL_cons hre]; exact getR_of hokr (okLbs_small hokr.1) _
            have hgt := get_any (flatL (rs.drop j)) wr (by omega)
            have hsn := take_snocR hre
            have hji : (j : Int) < (k : Int) := by omega
            replace hgt := Lib.hid hgt
            replace hget := Lib.hid hget
            replace hsn := Lib.hid hsn
            clear hre hokr hfl
            go_wp2_with fail
            refine hgt.out.mono ?_
            rintro e w5 ⟨⟨r', t, Ag, cg, hgr, rfl, hown⟩ | ⟨hgr, rfl⟩, g5⟩
            · rw [hget.out] at hgr
              injection hgr with hgr
              injection hgr with q1 q2
              subst q1 q2
              go_upto_region 19 with fail
              obtain ⟨w6, hw6⟩ : ∃ w6, w6 = w5.alloc (.cells #[.slice Ag r.l.length cg, .int .i64 r.v] 24) := ⟨_, rfl⟩
              have g6 : Gr w5 w6 := by rw [hw6]; exact gr_alloc _ _ _
              have d0 : w6.cell? ⟨w5.heap.size, 0, none⟩ = some (.slice Ag r.l.length cg) := by rw [hw6, World.cell?_alloc_new]; rfl
              have d1 : w6.cell? ⟨w5.heap.size, 1, none⟩ = some (.int .i64 r.v) := by rw [hw6, World.cell?_alloc_new]; rfl
              have hk1 : OwnHd w6 w3.heap.size ⟨Ag, r.l.length, cg, r.v⟩ r := ⟨rfl, rfl, (own_mono hown hg2.out.size).kept g6 (Classical.em _)⟩
              have hrs := ownRows_snoc (ownRows_gr hh.out (gr_trans g5 g6)) hk1
              rw [← hsn.out] at hrs
              have ho6 := ho.out.kept (gr_trans g5 g6) (Classical.em _)
              have G6 := gr_trans hg2.out (gr_trans g5 g6)
              have G7 := gr_trans G6 (gr_alloc w6 (.cells (hdC ⟨Ag, r.l.length, cg, r.v⟩).toArray 24) none)
              have hs6 := G7.size
              rw [← hw6]
              replace hrs := Lib.hid hrs
              replace ho6 := Lib.hid ho6
              replace G7 := Lib.hid G7
              replace hs6 := Lib.hid hs6
              clear hw6 hk1 hh ho hg2 hgt hget hsn g5 g6 G6 hown
              go_wp2_with (at_builtin; refine wpList_append_row rfl _ _ 32 rfl w3.heap.size 24 ii (.agg #[.slice none 0 0, .int .i64 0]) 2 32 Try.underlying32 hi hz0 hz1 hz2 rfl (by decide) (.slice A2 j c2) j (sR hdC hs2) rfl (ho6.out.alloc _) (some ⟨w6.heap.size, 0, none⟩) 1 1 (hdC ⟨Ag, r.l.length, cg, r.v⟩) rfl (by intro e; cases e) (row_newS hdC_len w6 ⟨Ag, r.l.length, cg, r.v⟩ 24) (hdC_ones _) (j + 1) (sR hdC (hs2 ++ [⟨Ag, r.l.length, cg, r.v⟩])) rfl (by rw [sR_append, sR_one]) (by unfold maxLen; omega) (by omega) hs6.out ?_; intro v7 w7 hown7 hgrow7; obtain ⟨A7, c7, rfl, _, _, _⟩ := own_sliceS hown7)
              have hr7 := ownRows_kept (ownRows_gr hrs.out (gr_alloc w6 (.cells (hdC ⟨Ag, r.l.length, cg, r.v⟩).toArray 24) none)) (ho6.out.alloc _) hgrow7
              have G8 : Gr w3 w7 := gr_of_below ((gr_below G7.out).grown hgrow7 G7.out.size (fun q hq => (ho6.out.lt q hq).1)) (Nat.le_refl _)
              replace hr7 := Lib.hid hr7
              replace G8 := Lib.hid G8
              replace hown7 := Lib.hid hown7
              clear hgrow7 hrs ho6 G7 hs6
              go_wp2
              go_roundw
              case rel => exact ⟨j + 1, _, A7, c7, by omega, by go_num, rfl, rfl, hr7.out, hown7.out, G8.out⟩
              case measure => simp [intOf]; omega
            · rw [hget.out] at hgr
              cases hgr
          · obtain rfl : j = k := by omega
            have hd0 : rs.drop j = [] := List.drop_eq_nil_of_le (by rw [hrm.out]; exact Nat.le_refl _)
            have hb0 : flatL (rs.drop j) = [] := by rw [hd0]; rfl
            have htj : rs.take j = rs := List.take_of_length_le (by rw [hrm.out]; exact Nat.le_refl _)
            have hh2 := hh.out
            rw [htj] at hh2
            have hrl : ∀ r ∈ rs, r.l.length ≤ 1000000000 := fun r hr => by have := (hrok.out r hr).1.1; omega
            have hsm := rsame_any A2 A j j c2 c rs rs wr (by omega) (by omega) (ownRows_rows hh2 hrm.out (row_own ho.out)) (rows_gr hR.out hg2.out) hrl hrl
            rw [decide_eq_true rfl] at hsm
            rw [hb0]
            replace hsm := Lib.hid hsm
            clear hd0 hb0 hh2 hrl
            replace htj := Lib.hid htj
            go_wp2_with fail
            refine hsm.out.mono ?_
            rintro e w5 ⟨rfl, g5⟩
            go_wp2
            go_ret
            exact ⟨rfl, gr_below (gr_trans G3.out (gr_trans hg2.out g5))⟩


set_option maxRecDepth 100000 in
theorem lifted (os : Os) (started : os.Started) (H : Type) (enc : TypeId × Value → H) :
    ReturnsInHanded {} Try.checked os 4 .any (Rows.rowListsSpec.pre6 enc Try.prog Try.f4 Rows.rowListsRow.domain false) (Rows.rowListsSpec.post enc Try.prog Try.f4 false true false false) := by
  refine returnsInHanded_of_change (C := Try.checked) own started (by kernel_rfl) Try.func4
    (ChangeSpec.witness6 (enc := enc) (C := Try.checked) false ⟨#[], #[.slice none 0 0, .int .i64 0], []⟩ 8 (by kernel_rfl) (by kernel_rfl) (by kernel_rfl) (by kernel_rfl)) ?_
  intro W base args ds gs before hval0 hW hcnd _
  have hval : ∀ (j : Nat) t v, Try.f4.params[j]? = some t → args[j]? = some v → Value.okWide Try.prog W .any base t v := hval0
  have hW' := hW
  obtain ⟨p, q, hA0, hV, rfl, hfz, hnd⟩ := hW
  have hA : DataW.TrodAll enc Try.prog W 0 (fun _ => true) true Try.f4.params.toList args.toList ds p := hA0
  rw [Try.params4] at hA hval
  obtain ⟨v0, vs0, d0, ds0, p0, q0, hargs, rfl, rfl, h0, r0⟩ := trodAll_cons hA
  obtain ⟨v1, vs1, d1, ds1, p1, q1, rfl, rfl, rfl, h1, r1⟩ := trodAll_cons r0
  obtain ⟨rfl, rfl, rfl⟩ := trodAll_nil r1
  obtain rfl : args = #[v0, v1] := by cases args; simp_all
  obtain ⟨rfl, rfl⟩ := trodVars_none hV
  obtain ⟨a0, len0, cap0, rfl⟩ := okWide_slice Try.underlying32 (hval 0 32 v0 rfl rfl)
  have k0 := h0
  have lt0 : ∀ x ∈ p0, x.block < W.heap.size := by obtain ⟨m, hm⟩ := k0; exact DataW.trod_lt m _ _ _ hm
  obtain ⟨z0, w0⟩ := rows_open h0
  obtain ⟨a1, rfl, rfl, rfl, w1⟩ := open_int Try.underlying3 (hval 1 3 v1 rfl rfl) h1
  clear hA0 hval0
  refine (walk W a0 len0 cap0 z0 w0 a1 w1).mono fun e W' ⟨he, bel⟩ => ?_
  subst he
  exact ⟨_, rfl, _, _, _, [], _, [], hW', trodAll_mk1 (shut_bool Try.underlying4 _), (trodAll_cons_mk (Below.trod laidOut (by kernel_rfl) (of_decide_eq_true (by kernel_rfl)) k0 bel lt0) (trodAll_cons_mk (shut_int Try.underlying3 w1) trodAll_mk0)), rfl, bel.frame _, fun h => by cases h⟩

theorem over : Rows.rowListsRow.holds Try.pinned (OpenSpec.ofChange Rows.rowListsSpec) :=
  OpenClaim.holds_of_wide 4 Try.f4 rfl rfl rfl rfl rfl rfl rfl ⟨rfl, rfl, rfl, rfl, rfl⟩ rfl rfl rfl rfl rfl (by kernel_rfl) Try.func4 (by kernel_rfl)
    (of_decide_eq_true (by kernel_rfl)) (by unfold Func.isWrapper; first | (rw [if_pos (by decide +kernel)]; kernel_rfl) | (rw [if_neg (by decide +kernel)]; exact ⟨rfl, rfl⟩))
    (fun os started H enc _ => lifted os started H enc)

/-- THE STATEMENT -/
theorem proved : Rows.RowListsSaid := over
#print axioms proved
end Go.Proofs.Ytcinhaaibnailaa.rowLists

