/-
  PurseBack holds of the program: for every input the call returns true and leaves what came in as it was. No condition.
-/
import Derived.Test.YtfgfmkkdofkggaaRows
import Derived.Test.YtfgfmkkdofkggaaPurseAlive
import Derived.WalkKit
import Derived.ProofKit
import Derived.OpenShut
import Derived.ShutString
import Derived.ChangeOld
import Derived.Below
namespace Go.Proofs.Ytfgfmkkdofkggaa.purseBack
open Go.ChangeShapes Go.WideShapes Go.ChangeAt Go.RowKit
open Go.ChangeMaps (open_string shut_string)
set_option linter.unusedVariables false

theorem own : ownKnob Try.prog.godebug = none := by kernel_rfl
theorem laidOut : laidOutB Try.prog = true := by kernel_rfl

theorem infoInt : (Try.prog.info? 3).map (fun i => (i.zero, i.size, i.bytes)) = some (some (.int .i64 0), 1, 8) := by kernel_rfl

def Rel1 (w : World) (b : Nat) (r : Int) (len : Nat) (B : Nat) (t s i : Value) (wr : World) : Prop :=
  ∃ (k : Nat) (ts : List Int), k ≤ len ∧ i = .int .i64 k ∧ s = .int .i64 ts.sum ∧ (∀ x ∈ ts, 0 ≤ x) ∧ ts.sum ≤ r ∧ ts.length ≤ k ∧
    wr.ownsRow B 3 1 t ts.length (ts.map (.int .i64)) ∧ PuAt wr b r ts.sum ts.sum ∧ Below w.heap.size w wr ∧ B ≤ wr.heap.size

theorem sum_nn : ∀ (ts : List Int), (∀ x ∈ ts, 0 ≤ x) → 0 ≤ ts.sum
  | [], _ => by simp
  | x :: ts, h => by
    have h1 := h x (by simp)
    have h2 := sum_nn ts (fun y hy => h y (by simp [hy]))
    simp only [List.sum_cons]; omega

set_option maxHeartbeats 1000000 in
theorem walk (w : World) (a0 : Int) (w0 : (Lit.int .i64 a0).wf = true) (a1 : Option Addr) (len1 cap1 : Nat) (z1 : List Int) (w1 : IsRow .i64 w a1 len1 cap1 z1) :
    Calls Try.prog 4 #[.int .i64 a0, .slice a1 len1 cap1] w fun e w' => e = .returned (.bool true) ∧ Below w.heap.size w w' := by
  have x0 := rng_i64 w0
  clear w0
  by_cases c : 0 ≤ a0 ∧ a0 ≤ 1000000 ∧ (len1 : Int) ≤ 100
  · obtain ⟨c1, c2, c3⟩ := c
    obtain ⟨ii, hi, hz0, hz1, hz2⟩ := info_parts infoInt
    go_enter Try.func4, Try.ntmps4
    go_wp2_with fail
    refine (alive_any _).mono ?_
    rintro e W1 ⟨rfl, B1⟩
    have hsz := B1.size
    go_wp2_with fail
    refine (new_ok _ _ c1 c2).mono ?_
    rintro e W2 ⟨b, rfl, hb, H2, B2⟩
    have hbb : w.heap.size ≤ b := by rw [hb]; exact hsz
    have hs2 := B2.size
    have hb2 : b < W2.heap.size := lt_of_blk H2
    have B := Lib.hid (gr_below (gr_trans B1 B2))
    clear hb B1 B2
    go_wp2_with fail
    go_loopw [6, 7, 8] (Rel1 w b a0 len1 W2.heap.size) (fun _ _ i _ => len1 - (intOf i).toNat)
    case atStart => exact ⟨0, [], Nat.zero_le _, rfl, rfl, by simp, by simpa using c1, by simp, World.ownsRow_nil _ _ _ _, by simpa using H2, B.out, Nat.le_refl _⟩
    case round =>
      obtain ⟨k, ts, hk, rfl, rfl, hnn, hle, hlk, hown, hpu, hbel, hBs⟩ := hrel
      have hs0 := sum_nn ts hnn
      have hbw : w.heap.size ≤ W2.heap.size := by omega
      by_cases hlt : k < len1
      · obtain ⟨x, ad, rfl, _, hc, hxw, hlt2⟩ := isRow_at w1 hlt
        have hx := rng_i64 hxw
        have hcr : wr.cell? (ad.add k) = some (.int .i64 x) := by rw [hbel.cell (by rw [Go.ChangeShapes.block_add]; exact hlt2)]; exact hc
        clear hc hxw
        by_cases hy : 0 ≤ x ∧ x ≤ a0 - ts.sum
        · have HC := Lib.hid hcr
          go_wp2_with fail
          refine (take_yes _ _ _ _ _ _ hpu ⟨by omega, by omega, by omega, by omega⟩ (by omega) (by omega)).mono ?_
          rintro e W3 ⟨rfl, H3, B3⟩
          have hc3 : W3.cell? (ad.add k) = some (.int .i64 x) := B3.cell HC.out (by rw [Go.ChangeShapes.block_add]; simp; omega)
          have hown3 := Lib.hid (hown.kept B3 (.inr (fun e => by have := hown.lt b e; omega)))
          have hbel3 := Lib.hid (below_gr hbel B3 hbel.size (by simp; omega))
          have hs3 := B3.size
          have hmax : max ts.sum (ts.sum + x) = ts.sum + x := by omega
          rw [hmax] at H3
          clear hmax hcr hown hpu hbel
          go_wp2_with (at_builtin; refine wpList_append_own _ rfl _ _ 31 rfl W2.heap.size 3 ii (.int .i64 0) 1 8 Try.underlying31 hi hz0 hz1 hz2 rfl (by decide) u6 _ _ rfl (hown3.out.alloc _) ⟨W3.heap.size, 0, none⟩ 1 1 [.int .i64 x] rfl rfl ?c1 ?c2 ?c3 ?c4 ?c5 ?_; rotate_right; intro v' W4 hown4 hgrow _nl; clear _nl; have hb4 := below_append hown3.out hgrow (Nat.le_trans hBs hs3); clear hgrow; have hc4 := cell_add hb4 hc3 (by omega); have hown4 := Lib.hid hown4)
          case c1 => exact cell_one_new _ _ _
          case c2 => simp [Value.oneCell']
          case c3 => unfold maxLen; omega
          case c4 => omega
          case c5 => simp; omega
          have hs4 := hb4.size
          go_roundw
          case rel => exact ⟨k + 1, ts ++ [x], by omega, by go_num, by simp [List.sum_append], fun y hy => by simp at hy; rcases hy with hy | rfl; exact hnn _ hy; omega, by simp [List.sum_append]; omega, by simp; omega, by simpa using hown4.out, by simp [List.sum_append]; exact pu_below H3 hb4 hb2, hbel3.out.trans (hb4.mono (by omega)), by omega⟩
          case measure => simp [intOf]; omega
        · go_wp2_with fail
          refine (take_no _ _ _ _ x _ hpu ⟨by omega, by omega, by omega, by omega⟩ (by omega)).mono ?_
          rintro e W3 ⟨rfl, B3⟩
          have hown3 := Lib.hid (hown.kept B3 (by cases u6.ownBlock <;> simp))
          have H3 := pu_gr hpu B3
          have hbel3 := Lib.hid (below_gr hbel B3 hbel.size (by simp))
          have hs3 := B3.size
          clear hown hpu hbel
          go_wp2
          go_roundw
          case rel => exact ⟨k + 1, ts, by omega, by go_num, rfl, hnn, hle, by omega, hown3.out, H3, hbel3.out, by omega⟩
          case measure => simp [intOf]; omega
      · replace hown := Lib.hid hown
        replace hbel := Lib.hid hbel
        replace hnn := Lib.hid hnn
        go_wp2_with fail
        refine (now_any _ _ _ _ _ hpu).mono ?_
        rintro e W3 ⟨rfl, rfl⟩
        go_wp2_with fail
        refine (high_any _ _ _ _ _ hpu).mono ?_
        rintro e W3 ⟨rfl, rfl⟩
        have HPU := Lib.hid hpu
        clear hpu
        obtain ⟨m, hm0⟩ : ∃ m, m = ts.length := ⟨_, rfl⟩
        have hm := Lib.hid hm0
        replace hown := hown.out
        rw [← hm0] at hown
        clear hm0
        obtain ⟨A, cc, rfl, hxl, hxs⟩ := own_open hown
        replace hown := Lib.hid hown
        replace hxs := Lib.hid hxs
        replace hxl := Lib.hid hxl
        obtain ⟨wo, rfl⟩ : ∃ wo : World, wo = wr := ⟨_, rfl⟩
        have hm100 : m ≤ 100 := by have := hm.out; omega
        go_wp2_with fail
        go_loopw [9] (fun i wr2 => ∃ j : Nat, j ≤ m ∧ i = .int .i64 j ∧ PuAt wr2 b a0 (ts.drop j).sum ts.sum ∧ GrB b wo wr2) (fun i _ => m - (intOf i).toNat)
        case atStart => exact ⟨0, Nat.zero_le _, rfl, HPU.out, gr_refl _ _⟩
        case round =>
          obtain ⟨j, hj, rfl, hpu, hgr⟩ := hrel
          by_cases hjm : j < m
          · obtain ⟨y, hy⟩ : ∃ y, ts[j]? = some y := ⟨_, List.getElem?_eq_getElem (by rw [← hm.out]; exact hjm)⟩
            obtain ⟨g, rfl, hg, hgs, hgc⟩ := hxs.out j (.int .i64 y) (by simp [hy])
            have hgc2 : wr.cell? ⟨g, j, none⟩ = some (.int .i64 y) := hgr.cell hgc (by simp; omega)
            have hys : (ts.drop j).sum = y + (ts.drop (j + 1)).sum := by
              obtain ⟨hjl, e⟩ := List.getElem?_eq_some_iff.1 hy
              rw [List.drop_eq_getElem_cons hjl, List.sum_cons, e]
            have hy0 : 0 ≤ y := hnn.out y (List.mem_of_getElem? hy)
            have hd0 : 0 ≤ (ts.drop (j + 1)).sum := sum_nn _ (fun z hz => hnn.out z (List.mem_of_mem_drop hz))
            have hdt : (ts.drop j).sum ≤ ts.sum := by
              have h1 : (ts.take j ++ ts.drop j).sum = ts.sum := by rw [List.take_append_drop]
              rw [List.sum_append] at h1
              have h2 := sum_nn (ts.take j) (fun z hz => hnn.out z (List.mem_of_mem_take hz))
              omega
            rw [hys] at hpu hdt
            clear hys hy
            go_wp2_with fail
            refine (give_yes _ _ _ _ y _ hpu ⟨by omega, by omega, by omega, by omega⟩ (by omega) (by omega)).mono ?_
            rintro e W5 ⟨rfl, H5, B5⟩
            have e5 : y + (ts.drop (j + 1)).sum - y = (ts.drop (j + 1)).sum := by omega
            rw [e5] at H5
            clear e5
            go_wp2
            go_roundw
            case rel => exact ⟨j + 1, by omega, by go_num, H5, gr_trans hgr B5⟩
            case measure => simp [intOf]; omega
          · obtain rfl : j = m := by omega
            have hz : (ts.drop j).sum = 0 := by rw [List.drop_eq_nil_of_le (by have := hm.out; omega)]; rfl
            rw [hz] at hpu
            clear hz
            go_wp2_with fail
            refine (now_any _ _ _ _ _ hpu).mono ?_
            rintro e W5 ⟨rfl, rfl⟩
            go_wp2_with fail
            refine (left_any _ _ _ _ _ hpu ⟨by omega, by omega, by omega, by omega⟩).mono ?_
            rintro e W6 ⟨rfl, B6⟩
            have H6 := pu_gr hpu B6
            have e6 : a0 - 0 = a0 := by omega
            rw [e6]
            clear e6
            go_wp2_with fail
            refine (high_any _ _ _ _ _ H6).mono ?_
            rintro e W7 ⟨rfl, rfl⟩
            go_wp2_with fail
            refine (give_no _ _ _ _ _ _ H6 ⟨by omega, by omega, by omega, by omega⟩ (by omega)).mono ?_
            rintro e W8 ⟨rfl, rfl⟩
            go_wp2
            go_ret
            have g := below_gr hbel.out (gr_trans hgr (gr_more _ B6)) hbel.out.size (by simp; omega)
            exact ⟨rfl, g⟩
  · have c' : a0 < 0 ∨ (0 ≤ a0 ∧ 1000000 < a0) ∨ (0 ≤ a0 ∧ a0 ≤ 1000000 ∧ (100 : Int) < len1) := by omega
    clear c
    rcases c' with c | ⟨c1, c⟩ | ⟨c1, c2, c⟩
    all_goals
      go_enter Try.func4, Try.ntmps4
      go_wp2_with (go_at_call 6; refine (alive_any _).mono ?_; rintro e w1 ⟨rfl, B⟩)
      go_ret
      exact ⟨rfl, gr_below B⟩

set_option maxRecDepth 100000 in
theorem lifted (os : Os) (started : os.Started) (H : Type) (enc : TypeId × Value → H) :
    ReturnsInHanded {} Try.checked os 4 .any (Rows.purseBackSpec.pre6 enc Try.prog Try.f4 Rows.purseBackRow.domain false) (Rows.purseBackSpec.post enc Try.prog Try.f4 false true false false) := by
  refine returnsInHanded_of_change (C := Try.checked) own started (by kernel_rfl) Try.func4
    (ChangeSpec.witness6 (enc := enc) (C := Try.checked) false ⟨#[], #[.int .i64 0, .slice none 0 0], []⟩ 8 (by kernel_rfl) (by kernel_rfl) (by kernel_rfl) (by kernel_rfl)) ?_
  intro W base args ds gs before hval0 hW hcnd _
  have hval : ∀ (j : Nat) t v, Try.f4.params[j]? = some t → args[j]? = some v → Value.okWide Try.prog W .any base t v := hval0
  have hW' := hW
  obtain ⟨p, q, hA0, hV, rfl, hfz, hnd⟩ := hW
  have hA : DataW.TrodAll enc Try.prog W 0 (fun _ => true) true Try.f4.params.toList args.toList ds p := hA0
  rw [Try.params4] at hA hval
  obtain ⟨v0, vs0, d0, ds0, p0, q0, hargs, rfl, rfl, h0, r0⟩ := trodAll_cons hA
  obtain ⟨v1, vs1, d1, ds1, p1, q1, rfl, rfl, rfl, h1, r1⟩ := trodAll_cons r0
  obtain ⟨rfl, rfl, rfl⟩ := trodAll_nil r1
  obtain rfl : args = #[v0, v1] := by cases args; simp_all
  obtain ⟨rfl, rfl⟩ := trodVars_none hV
  obtain ⟨a0, rfl, rfl, rfl, w0⟩ := open_int Try.underlying3 (hval 0 3 v0 rfl rfl) h0
  obtain ⟨a1, len1, cap1, rfl⟩ := okWide_slice Try.underlying31 (hval 1 31 v1 rfl rfl)
  have k1 := h1
  have lt1 : ∀ x ∈ p1, x.block < W.heap.size := by obtain ⟨m, hm⟩ := k1; exact DataW.trod_lt m _ _ _ hm
  obtain ⟨z1, w1⟩ := isRow_open Try.underlying31 Try.underlying3 (by kernel_rfl) h1 rfl
  clear hA0 hval0
  refine (walk W a0 w0 a1 len1 cap1 z1 w1).mono fun e W' ⟨he, bel⟩ => ?_
  subst he
  exact ⟨_, rfl, _, _, _, [], _, [], hW', trodAll_mk1 (shut_bool Try.underlying4 _), (trodAll_cons_mk (shut_int Try.underlying3 w0) (trodAll_cons_mk (Below.trod laidOut (by kernel_rfl) (of_decide_eq_true (by kernel_rfl)) k1 bel lt1) trodAll_mk0)), rfl, bel.frame _, fun h => by cases h⟩

theorem over : Rows.purseBackRow.holds Try.pinned (OpenSpec.ofChange Rows.purseBackSpec) :=
  OpenClaim.holds_of_wide 4 Try.f4 rfl rfl rfl rfl rfl rfl rfl ⟨rfl, rfl, rfl, rfl, rfl⟩ rfl rfl rfl rfl rfl (by kernel_rfl) Try.func4 (by kernel_rfl)
    (of_decide_eq_true (by kernel_rfl)) (by unfold Func.isWrapper; first | (rw [if_pos (by decide +kernel)]; kernel_rfl) | (rw [if_neg (by decide +kernel)]; exact ⟨rfl, rfl⟩))
    (fun os started H enc _ => lifted os started H enc)

/-- THE STATEMENT -/
theorem proved : Rows.PurseBackSaid := over
#print axioms proved
end Go.Proofs.Ytfgfmkkdofkggaa.purseBack

