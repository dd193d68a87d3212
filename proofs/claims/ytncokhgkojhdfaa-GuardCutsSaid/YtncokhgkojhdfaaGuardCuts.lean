/-
  GuardCuts holds of the program: for every input the call returns true and leaves what came in as it was. No condition.
-/
import Derived.Test.YtncokhgkojhdfaaRows
import Derived.Test.YtncokhgkojhdfaaGuardCutMath
import Derived.Test.YtncokhgkojhdfaaSameTexts
import Derived.WalkKit
import Derived.ProofKit
import Derived.OpenShut
import Derived.ShutString
import Derived.ChangeOld
import Derived.Below
namespace Go.Proofs.Ytncokhgkojhdfaa.guardCuts
open Go.ChangeShapes Go.WideShapes Go.ChangeAt Go.RowKit
open Go.ChangeMaps (open_string shut_string)
set_option linter.unusedVariables false

theorem own : ownKnob Try.prog.godebug = none := by kernel_rfl
theorem laidOut : laidOutB Try.prog = true := by kernel_rfl

theorem infoInt : (Try.prog.info? 3).map (fun i => (i.zero, i.size, i.bytes)) = some (some (.int .i64 0), 1, 8) := by kernel_rfl

/-- The frames' ends. -/
def ends (zs : List (List UInt8)) (i : Nat) : List Int := (List.range i).map fun j => (((Crc.cat (zs.take (j + 1))).length : Nat) : Int)

def Rel1 (w : World) (zs : List (List UInt8)) (b e i : Value) (wr : World) : Prop :=
  ∃ j : Nat, j ≤ zs.length ∧ i = .int .i64 j ∧ b = .string (txt (Crc.cat (zs.take j))) ∧ (∀ x ∈ zs.take j, x.length ≤ 200) ∧ wr.ownsRow w.heap.size 3 1 e j ((ends zs j).map (.int .i64)) ∧ Below w.heap.size w wr

set_option maxHeartbeats 4000000 in
set_option maxRecDepth 100000 in
theorem walk (w : World) (a0 : Option Addr) (len0 cap0 : Nat) (z0 : List ByteArray) (w0 : IsTexts w a0 len0 cap0 z0) (a1 : Int) (w1 : (Lit.int .i64 a1).wf = true) :
    Calls Try.prog 7 #[.slice a0 len0 cap0, .int .i64 a1] w fun e w' => e = .returned (.bool true) ∧ Below w.heap.size w w' := by
  have x1 := rng_i64 w1
  clear w1
  by_cases c : (len0 : Int) ≤ 20
  · obtain ⟨ii, hi, hz0, hz1, hz2⟩ := info_parts infoInt
    obtain ⟨zs, hzs⟩ : ∃ zs : List (List UInt8), zs = z0.map fun s => s.data.toList := ⟨_, rfl⟩
    have hzl : zs.length = len0 := by rw [hzs, List.length_map]; simpa using w0.2.2.1.1
    have hz0e : z0 = zs.map txt := by rw [hzs, List.map_map]; exact (List.map_id' z0).symm.trans (List.map_congr_left fun s _ => (txt_of s).symm)
    have hrow : Row w a0 len0 1 ((zs.map txt).map .string) := by rw [← hz0e]; exact w0.2.2.1
    have hcap := w0.1
    have hcap2 := w0.2.1
    unfold maxLen at hcap2
    clear w0 hzs hz0e z0
    replace hrow := Lib.hid hrow
    subst hzl
    go_enter Try.func7, Try.ntmps7
    go_wp2_with fail
    refine (alive_any _).mono ?_
    rintro e W1 ⟨rfl, B1⟩
    go_wp2_with fail
    go_loopw [5, 6, 7] (Rel1 w zs) (fun _ _ i _ => zs.length - (intOf i).toNat)
    case atStart => exact ⟨0, Nat.zero_le _, rfl, rfl, by simp, by simpa [ends] using World.ownsRow_nil _ _ _ _, gr_below B1⟩
    case round =>
      obtain ⟨j, hj, rfl, rfl, h200, hown, hbel⟩ := hrel
      have hbs := hbel.size
      have hcl := Crc.cat_le _ h200
      have hcl2 : (Crc.cat (zs.take j)).length ≤ 4200 := by have := List.length_take_le j zs; have h := List.length_take (i := j) (l := zs); omega
      clear hcl
      by_cases hlt : j < zs.length
      · obtain ⟨x, hx⟩ : ∃ x, zs[j]? = some x := ⟨_, List.getElem?_eq_getElem hlt⟩
        obtain ⟨B, o, rfl, hB, hc⟩ := hrow.out.2 j (.string (txt x)) (by simp [hx])
        have hc' := gr_cell (gr_of_below hbel (Nat.le_refl _)) hc
        clear hc
        replace h200 := Lib.hid h200
        replace hown := Lib.hid hown
        replace hbel := Lib.hid hbel
        replace hx := Lib.hid hx
        by_cases hxl : (x.length : Int) ≤ 200
        · go_wp2_with fail
          refine (frame_any _ _ (by rw [txt_size]; omega)).mono ?_
          rintro e W2 ⟨rfl, g2⟩
          have hown2 := Lib.hid (hown.out.kept g2 (by cases u6.ownBlock <;> simp))
          have hs2 := g2.size
          go_wp2_with (at_builtin; refine wpList_append_own _ rfl _ _ 54 rfl w.heap.size 3 ii (.int .i64 0) 1 8 Try.underlying54 hi hz0 hz1 hz2 rfl (by decide) u6 _ _ rfl (hown2.out.alloc _) ⟨W2.heap.size, 0, none⟩ 1 1 [.int .i64 (((Crc.cat (zs.take j)).length : Int) + ((x.length : Int) + 10))] rfl rfl ?c1 ?c2 ?c3 ?c4 ?c5 ?_; rotate_right; intro v' W4 hown4 hgrow _nl; clear _nl; have hb4 := below_append hown2.out hgrow (Nat.le_trans hbs hs2); clear hgrow; replace hown4 := Lib.hid hown4)
          case c1 => exact cell_one_new _ _ _
          case c2 => simp [Value.oneCell']
          case c3 => unfold maxLen; omega
          case c4 => omega
          case c5 => simp; omega
          have hnx : zs.take (j + 1) = zs.take j ++ [x] := by
            obtain ⟨h1, h2⟩ := List.getElem?_eq_some_iff.1 hx.out
            rw [List.take_succ_eq_append_getElem h1, h2]
          have hen : ends zs (j + 1) = ends zs j ++ [((Crc.cat (zs.take j)).length : Int) + ((x.length : Int) + 10)] := by
            unfold ends
            rw [List.range_succ, List.map_append, List.map_singleton, hnx, Crc.cat_snoc, List.length_append, Crc.frm_length]
            simp
          go_roundw
          case rel =>
            refine ⟨j + 1, by omega, by go_num, by rw [hnx, Crc.cat_snoc], ?_, ?_, (below_gr hbel.out g2 hbs (by simp)).trans hb4⟩
            · intro y hy
              rw [hnx] at hy
              rcases List.mem_append.1 hy with hy | hy
              · exact h200.out y hy
              · simp at hy; subst hy; omega
            · rw [hen, List.map_append]
              exact hown4.out
          case measure => simp [intOf]; omega
        · go_wp2
          go_ret
          exact ⟨rfl, hbel.out⟩
      · obtain rfl : j = zs.length := by omega
        rw [List.take_of_length_le (Nat.le_refl _)] at h200 hcl2 ⊢
        obtain ⟨A, cc, rfl, hxl, hxs⟩ := own_open hown
        obtain ⟨wo, rfl⟩ : ∃ wo : World, wo = wr := ⟨_, rfl⟩
        replace hown := Lib.hid hown
        replace hxs := Lib.hid hxs
        replace hxl := Lib.hid hxl
        replace h200 := Lib.hid h200
        replace hbel := Lib.hid hbel
        obtain ⟨L, hL⟩ : ∃ L, L = Crc.cat zs := ⟨_, rfl⟩
        rw [← hL] at hcl2 ⊢
        replace hL := Lib.hid hL
        go_upto_region 15 with fail
        go_cut [10] (fun s10 wx => ∃ K : Nat, s10 = .int .i64 K ∧ K ≤ L.length ∧ wo = wx)
        case first =>
          go_wp2_with fail
          go_meet
          obtain ⟨K, hK, hl⟩ := cut_place2 a1 L.length (by omega)
          exact ⟨K, by rw [← hK], hl, rfl⟩
        case rest =>
          obtain ⟨K, rfl, hK, rfl⟩ := hcut
          have hKi : (K : Int) ≤ (L.length : Int) := by omega
          have hKs : K ≤ (txt L).size := by rw [txt_size]; exact hK
          go_wp2_with fail
          refine (all_any _ _ (by simp; omega)).mono ?_
          rintro e W5 ⟨v, rfl, hv, g5⟩
          have hdat : ((txt L).extract 0 K).data.toList = L.take K := by rw [Lib.extract_data, txt_data]; rfl
          rw [hdat] at hv ⊢
          clear hdat
          have hbel5 := Lib.hid (below_gr hbel.out g5 hbel.out.size (by simp))
          generalize hR : Crc.all (L.take K).length (L.take K) = res at hv ⊢
          replace hR := Lib.hid hR
          obtain ⟨V, vc, rfl, hvl, hvs⟩ := own_open hv
          have hvrow := Lib.hid (row_own hv)
          replace hv := Lib.hid hv
          replace hvs := Lib.hid hvs
          replace hvl := Lib.hid hvl
          go_wp2_with fail
          go_loopw [13, 14, 15] (fun wt en i wr => ∃ (j wn : Nat), j ≤ zs.length ∧ wn ≤ j ∧ i = .int .i64 j ∧ wt = .int .i64 wn ∧ en = .int .i64 ((Crc.cat (zs.take wn)).length : Nat) ∧ (Crc.cat (zs.take wn)).length ≤ K ∧ Hid (wn = j ∨ K < (Crc.cat (zs.take (wn + 1))).length) ∧ Gr W5 wr) (fun _ _ i _ => zs.length - (intOf i).toNat)
          case atStart => exact ⟨0, 0, Nat.zero_le _, Nat.zero_le _, rfl, rfl, rfl, Nat.zero_le _, Or.inl rfl, gr_refl _ _⟩
          case round =>
            obtain ⟨j, wn, hj, hwn, rfl, rfl, rfl, hle, hor, hg6⟩ := hrel
            by_cases hlt : j < zs.length
            · obtain ⟨g, rfl, hg1, hg2, hgc⟩ := hxs.out j (.int .i64 ((Crc.cat (zs.take (j + 1))).length : Nat)) (by simp [ends, hlt])
              have hgc' := gr_cell hg6 (gr_cell g5 hgc)
              clear hgc
              have hjl : (j : Int) < zs.length := by omega
              have hj0 : (0 : Int) ≤ j := by omega
              have hj1 : IntKind.i64.wrap ((j : Int) + 1) = (j : Int) + 1 := IntWalk.i64_in _ (by omega)
              replace hg6 := Lib.hid hg6
              by_cases hE : (Crc.cat (zs.take (j + 1))).length ≤ K
              · have hEi : ((Crc.cat (zs.take (j + 1))).length : Int) ≤ (K : Int) := by omega
                go_wp2_with fail
                go_quiet (fail)
                go_wp2
                go_roundw
                case rel => exact ⟨j + 1, j + 1, by omega, Nat.le_refl _, by go_num, by go_num, rfl, hE, Or.inl rfl, gr_trans hg6.out (gr_drewN _ _ _)⟩
                case measure => simp [intOf]; omega
              · have hEi : ¬ ((Crc.cat (zs.take (j + 1))).length : Int) ≤ (K : Int) := by omega
                go_wp2
                go_roundw
                case rel => exact ⟨j + 1, wn, by omega, by omega, by go_num, rfl, rfl, hle, Or.inr (by rcases hor.out with h | h; subst h; omega; exact h), hg6.out⟩
                case measure => simp [intOf]; omega
            · obtain rfl : j = zs.length := by omega
              obtain ⟨R, hr1, hr2⟩ := Crc.all_cut zs (fun x hx => by have := h200.out x hx; omega) K wn (by rw [← hL.out]; exact hK) hwn hle hor.out
              rw [← hL.out, hR.out] at hr1
              subst hr1
              rw [← hL.out] at hr2
              have hcnt : K - R.length = (Crc.cat (zs.take wn)).length := by rw [← hr2, List.length_take, Nat.min_eq_left hK]
              clear hr2
              have hrow6 := row_gr hvrow.out hg6
              have hvl6 : (zs.take wn).length = wn := by rw [List.length_take]; omega
              rw [hvl6] at hrow6
              rw [show (fun l : List UInt8 => Value.string (txt l)) = Value.string ∘ txt from rfl, ← List.map_map] at hrow6
              have hl0 : Row wr a0 wn 1 (((zs.take wn).map txt).map .string) := by
                have h1 := row_take (row_gr (row_below hrow.out hbel5.out) hg6) wn hwn
                rw [Nat.mul_one, ← List.map_take, ← List.map_take] at h1
                exact h1
              replace hrow6 := Lib.hid hrow6
              replace hl0 := Lib.hid hl0
              replace hvl6 := Lib.hid hvl6
              have hwi : (wn : Int) ≤ (cap0 : Int) := by omega
              go_wp2_with fail
              refine (sameTexts_any _ _ _ _ _ _ _ _ _ (by unfold maxLen; omega) (by unfold maxLen; omega) hrow6.out hl0.out).mono ?_
              rintro e W7 ⟨rfl, g7⟩
              go_wp2
              go_ret
              exact ⟨rfl, below_gr (below_gr hbel5.out hg6 hbel5.out.size (by simp)) g7 (Nat.le_trans hbel5.out.size hg6.size) (by simp)⟩
  · have c' : (20 : Int) < len0 := by omega
    clear c
    go_enter Try.func7, Try.ntmps7
    go_wp2_with (go_at_call 8; refine (alive_any _).mono ?_; rintro e w1 ⟨rfl, B⟩)
    go_ret
    exact ⟨rfl, gr_below B⟩

set_option maxRecDepth 100000 in
theorem lifted (os : Os) (started : os.Started) (H : Type) (enc : TypeId × Value → H) :
    ReturnsInHanded {} Try.checked os 7 .any (Rows.guardCutsSpec.pre6 enc Try.prog Try.f7 Rows.guardCutsRow.domain false) (Rows.guardCutsSpec.post enc Try.prog Try.f7 false true false false) := by
  refine returnsInHanded_of_change (C := Try.checked) own started (by kernel_rfl) Try.func7
    (ChangeSpec.witness6 (enc := enc) (C := Try.checked) false ⟨#[], #[.slice none 0 0, .int .i64 0], []⟩ 8 (by kernel_rfl) (by kernel_rfl) (by kernel_rfl) (by kernel_rfl)) ?_
  intro W base args ds gs before hval0 hW hcnd _
  have hval : ∀ (j : Nat) t v, Try.f7.params[j]? = some t → args[j]? = some v → Value.okWide Try.prog W .any base t v := hval0
  have hW' := hW
  obtain ⟨p, q, hA0, hV, rfl, hfz, hnd⟩ := hW
  have hA : DataW.TrodAll enc Try.prog W 0 (fun _ => true) true Try.f7.params.toList args.toList ds p := hA0
  rw [Try.params7] at hA hval
  obtain ⟨v0, vs0, d0, ds0, p0, q0, hargs, rfl, rfl, h0, r0⟩ := trodAll_cons hA
  obtain ⟨v1, vs1, d1, ds1, p1, q1, rfl, rfl, rfl, h1, r1⟩ := trodAll_cons r0
  obtain ⟨rfl, rfl, rfl⟩ := trodAll_nil r1
  obtain rfl : args = #[v0, v1] := by cases args; simp_all
  obtain ⟨rfl, rfl⟩ := trodVars_none hV
  obtain ⟨a0, len0, cap0, rfl⟩ := okWide_slice Try.underlying35 (hval 0 35 v0 rfl rfl)
  have k0 := h0
  have lt0 : ∀ x ∈ p0, x.block < W.heap.size := by obtain ⟨m, hm⟩ := k0; exact DataW.trod_lt m _ _ _ hm
  obtain ⟨z0, w0⟩ := isTexts_open Try.underlying35 Try.underlying9 (by kernel_rfl) h0 rfl
  obtain ⟨a1, rfl, rfl, rfl, w1⟩ := open_int Try.underlying3 (hval 1 3 v1 rfl rfl) h1
  clear hA0 hval0
  refine (walk W a0 len0 cap0 z0 w0 a1 w1).mono fun e W' ⟨he, bel⟩ => ?_
  subst he
  exact ⟨_, rfl, _, _, _, [], _, [], hW', trodAll_mk1 (shut_bool Try.underlying4 _), (trodAll_cons_mk (Below.trod laidOut (by kernel_rfl) (of_decide_eq_true (by kernel_rfl)) k0 bel lt0) (trodAll_cons_mk (shut_int Try.underlying3 w1) trodAll_mk0)), rfl, bel.frame _, fun h => by cases h⟩

theorem over : Rows.guardCutsRow.holds Try.pinned (OpenSpec.ofChange Rows.guardCutsSpec) :=
  OpenClaim.holds_of_wide 7 Try.f7 rfl rfl rfl rfl rfl rfl rfl ⟨rfl, rfl, rfl, rfl, rfl⟩ rfl rfl rfl rfl rfl (by kernel_rfl) Try.func7 (by kernel_rfl)
    (of_decide_eq_true (by kernel_rfl)) (by unfold Func.isWrapper; first | (rw [if_pos (by decide +kernel)]; kernel_rfl) | (rw [if_neg (by decide +kernel)]; exact ⟨rfl, rfl⟩))
    (fun os started H enc _ => lifted os started H enc)

/-- THE STATEMENT -/
theorem proved : Rows.GuardCutsSaid := over
#print axioms proved
end Go.Proofs.Ytncokhgkojhdfaa.guardCuts

