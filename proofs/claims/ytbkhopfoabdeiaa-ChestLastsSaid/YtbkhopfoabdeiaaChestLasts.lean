/-
  ChestLasts holds of the program: for every input the call returns true and leaves what came in as it was. No condition.
-/
import Derived.Test.YtbkhopfoabdeiaaRows
import Derived.Test.YtbkhopfoabdeiaaChestI
import Derived.WalkKit
import Derived.ProofKit
import Derived.OpenShut
import Derived.ShutString
import Derived.ChangeOld
import Derived.Below
namespace Go.Proofs.Ytbkhopfoabdeiaa.chestLasts
open Go.ChangeShapes Go.WideShapes Go.ChangeAt Go.RowKit
open Go.ChangeMaps (open_string shut_string)
set_option linter.unusedVariables false

theorem own : ownKnob Try.prog.godebug = none := by kernel_rfl
theorem laidOut : laidOutB Try.prog = true := by kernel_rfl
theorem flat_step {zs : List (List UInt8)} {k : Nat} {x : List UInt8} (h : zs[k]? = some x) : (zs.take (k + 1)).flatten = (zs.take k).flatten ++ x := by
  obtain ⟨h1, h2⟩ := List.getElem?_eq_some_iff.1 h
  rw [List.take_succ_eq_append_getElem h1, h2]
  simp
theorem row_txt {w : World} {a : Option Addr} {n c : Nat} {ss : List ByteArray} (h : IsTexts w a n c ss) : ∃ zs : List (List UInt8), Row w a n 1 (zs.map strV) := by
  refine ⟨ss.map (fun s => s.data.toList), ?_⟩
  have e : (ss.map (fun s => s.data.toList)).map strV = ss.map .string := by
    rw [List.map_map]
    exact List.map_congr_left (fun s _ => by show Value.string (txt s.data.toList) = _; rw [txt_of])
  rw [e]
  exact h.2.2.1
set_option maxHeartbeats 16000000 in
set_option maxRecDepth 100000 in
theorem walk (w : World) (a0 : Option Addr) (len0 cap0 : Nat) (z0 : List ByteArray) (w0 : IsTexts w a0 len0 cap0 z0) (a1 : Option Addr) (len1 cap1 : Nat) (z1 : List ByteArray) (w1 : IsTexts w a1 len1 cap1 z1) (a2 : Int) (w2 : (Lit.int .i64 a2).wf = true) :
    Calls Try.prog 3 #[.slice a0 len0 cap0, .slice a1 len1 cap1, .int .i64 a2] w fun e w' => e = .returned (.bool true) ∧ Below w.heap.size w w' := by
  have x2 := rng_i64 w2
  obtain ⟨zs, hr0⟩ := row_txt w0
  obtain ⟨ys, hr1⟩ := row_txt w1
  have hcap0 := w0.1
  have hcapm := w0.2.1
  have hcap1 := w1.1
  have hcapn := w1.2.1
  unfold maxLen at hcapm hcapn
  clear w0 w1 w2
  have hzl : zs.length = len0 := by have := hr0.1; simpa using this
  have hyl : ys.length = len1 := by have := hr1.1; simpa using this
  by_cases c0 : len0 ≤ 20
  · by_cases c1 : len1 ≤ 20
    · have i0 : ¬ (20 : Int) < (len0 : Int) := by omega
      have i1 : ¬ (20 : Int) < (len1 : Int) := by omega
      replace hr0 := Lib.hid hr0
      replace hr1 := Lib.hid hr1
      replace hzl := Lib.hid hzl
      replace hyl := Lib.hid hyl
      go_enter Try.func3, Try.ntmps3
      go_wp2_with fail
      refine (alive_any _).mono ?_
      rintro e W1 ⟨rfl, g1⟩
      go_wp2_with fail
      refine (cnew_any w W1 g1 100000 (by omega)).mono ?_
      rintro e W2 ⟨C, M, rfl, h2, _⟩
      have cC := create_one h2 (by omega) [102] rfl
      rw [show txt [102] = ⟨#[102]⟩ from rfl] at cC
      replace cC := Lib.hid cC
      clear h2 g1
      go_wp2_with fail
      refine cC.out.mono ?_
      rintro e W3 ⟨rfl, h3, _⟩
      have h3 : ChIs w W3 C M 100000 [([102], ⟨[], 0⟩)] false 1 := h3
      replace h3 := Lib.hid h3
      clear cC
      go_wp2_with fail
      go_loopw [8, 10] (fun av iv wr => ∃ k : Nat, k ≤ len0 ∧ iv = .int .i64 k ∧ av = .string (txt (zs.take k).flatten) ∧ Hid ((zs.take k).flatten.length ≤ 200 * k) ∧ Hid (ChIs w wr C M 100000 [([102], ⟨(zs.take k).flatten, 0⟩)] false (1 + k))) (fun _ iv _ => len0 - (intOf iv).toNat)
      case atStart => exact ⟨0, Nat.zero_le _, rfl, rfl, Lib.hid (by simp), Lib.hid (by simpa using h3.out)⟩
      case round =>
        obtain ⟨k, hk, rfl, rfl, hlen, hc⟩ := hrel
        by_cases hlt : k < len0
        · obtain ⟨x, B, o, hx, rfl, hcell⟩ := row_elem (row_gr hr0.out hc.out.gr) hlt
          replace hcell : wr.cell? ⟨B, o + k, none⟩ = some (.string (txt x)) := hcell
          have hki : (k : Int) < (len0 : Int) := by omega
          have hk0 : (0 : Int) ≤ (k : Int) := by omega
          by_cases hbig : 200 < x.length
          · have hbi : (200 : Int) < (x.length : Int) := by omega
            have hgr := hc.out.gr
            replace hgr := Lib.hid hgr
            clear hx hlen hc
            go_wp2
            go_ret
            exact ⟨rfl, gr_below hgr.out⟩
          · have hbi : ¬ (200 : Int) < (x.length : Int) := by omega
            have htk := flat_step hx
            generalize (zs.take k).flatten = p at *
            have hl2 : ((zs.take (k + 1)).flatten).length ≤ 200 * (k + 1) := by have := hlen.out; rw [htk, List.length_append]; omega
            have cA := append_one hc.out (by have := c0; omega) (by omega) x rfl (by have := hlen.out; have := c0; (try simp only [List.length_append]); omega)
            have hs1 : (9223372036854775807 < p.length + x.length) = False := eq_false (by have := hlen.out; have := c0; omega)
            rw [show txt [102] = ⟨#[102]⟩ from rfl] at cA
            try rw [List.append_assoc] at cA
            replace cA := Lib.hid cA
            replace htk := Lib.hid htk
            replace hl2 := Lib.hid hl2
            clear hx hlen
            go_wp2_with fail
            refine cA.out.mono ?_
            rintro e W9 ⟨rfl, h9, g9⟩
            have hcell9 : W9.cell? ⟨B, o + k, none⟩ = some (.string (txt x)) := by
              obtain ⟨x', B', o', hx', hA', hc'⟩ := row_elem (row_gr hr0.out h9.gr) hlt
              injection hA' with hA'
              injection hA' with e1 e2
              subst e1 e2
              rw [hc']
              have hc0 := hcell
              obtain ⟨x2, B2, o2, hx2, hA2, hc2⟩ := row_elem (row_gr hr0.out hc.out.gr) hlt
              injection hA2 with hA2
              injection hA2 with e1 e2
              subst e1 e2
              rw [hc2] at hc0
              rw [hx'] at hx2
              rw [Option.some.inj hx2]
              exact hc0
            replace h9 := Lib.hid h9
            clear cA g9 hcell hc
            go_wp2
            go_roundw
            case rel => exact ⟨k + 1, by omega, by go_num, by rw [htk.out], hl2.out, by rw [htk.out]; exact (by have := h9.out; push_cast; rw [← Int.add_assoc]; exact this)⟩
            case measure => simp [intOf]; omega
        · obtain rfl : k = len0 := by omega

          have hfl : zs.take k = zs := List.take_of_length_le (by rw [hzl.out]; exact Nat.le_refl _)
          rw [hfl] at hlen hc ⊢
          obtain ⟨a, ha⟩ : ∃ a, a = zs.flatten := ⟨_, rfl⟩
          rw [← ha] at hlen hc ⊢
          have hal : a.length ≤ 4000 := by have := hlen.out; omega
          have cX := fix_one hc.out (by omega) rfl (by omega)
          rw [show txt [102] = ⟨#[102]⟩ from rfl] at cX
          replace cX := Lib.hid cX
          clear hlen hc ha hfl h3 hr0 hzl
          go_wp2_with fail
          refine cX.out.mono ?_
          rintro e W4 ⟨rfl, h4, _⟩
          obtain ⟨d4, hd4⟩ : ∃ d4 : Int, d4 = 1 + (k : Int) + 1 := ⟨_, rfl⟩
          rw [← hd4] at h4
          have h4' : ChIs w W4 C M 100000 [([102], ⟨a ++ [], (a.length : Int)⟩)] false (d4 + ((0 : Nat) : Int)) := by simpa using h4
          replace h4' := Lib.hid h4'
          clear h4 cX
          go_wp2_with fail
          go_loopw [9, 11] (fun av iv wr => ∃ k2 : Nat, k2 ≤ len1 ∧ iv = .int .i64 k2 ∧ av = .string (txt (ys.take k2).flatten) ∧ Hid ((ys.take k2).flatten.length ≤ 200 * k2) ∧ Hid (ChIs w wr C M 100000 [([102], ⟨a ++ (ys.take k2).flatten, (a.length : Int)⟩)] false (d4 + k2))) (fun _ iv _ => len1 - (intOf iv).toNat)
          case atStart => exact ⟨0, Nat.zero_le _, rfl, rfl, Lib.hid (by simp), Lib.hid (by simpa using h4'.out)⟩
          case round =>
            obtain ⟨k2, hk, rfl, rfl, hlen, hc⟩ := hrel
            by_cases hlt : k2 < len1
            · obtain ⟨x, B, o, hx, rfl, hcell⟩ := row_elem (row_gr hr1.out hc.out.gr) hlt
              replace hcell : wr.cell? ⟨B, o + k2, none⟩ = some (.string (txt x)) := hcell
              have hki : (k2 : Int) < (len1 : Int) := by omega
              have hk0 : (0 : Int) ≤ (k2 : Int) := by omega
              by_cases hbig : 200 < x.length
              · have hbi : (200 : Int) < (x.length : Int) := by omega
                have hgr := hc.out.gr
                replace hgr := Lib.hid hgr
                clear hx hlen hc
                go_wp2
                go_ret
                exact ⟨rfl, gr_below hgr.out⟩
              · have hbi : ¬ (200 : Int) < (x.length : Int) := by omega
                have htk := flat_step hx
                generalize (ys.take k2).flatten = p at *
                have hl2 : ((ys.take (k2 + 1)).flatten).length ≤ 200 * (k2 + 1) := by have := hlen.out; rw [htk, List.length_append]; omega
                have cA := append_one hc.out (by have := hal; omega) (by omega) x rfl (by have := hlen.out; have := hal; (try simp only [List.length_append]); omega)
                have hs1 : (9223372036854775807 < p.length + x.length) = False := eq_false (by have := hlen.out; have := hal; omega)
                rw [show txt [102] = ⟨#[102]⟩ from rfl] at cA
                try rw [List.append_assoc] at cA
                replace cA := Lib.hid cA
                replace htk := Lib.hid htk
                replace hl2 := Lib.hid hl2
                clear hx hlen
                go_wp2_with fail
                refine cA.out.mono ?_
                rintro e W9 ⟨rfl, h9, g9⟩
                have hcell9 : W9.cell? ⟨B, o + k2, none⟩ = some (.string (txt x)) := by
                  obtain ⟨x', B', o', hx', hA', hc'⟩ := row_elem (row_gr hr1.out h9.gr) hlt
                  injection hA' with hA'
                  injection hA' with e1 e2
                  subst e1 e2
                  rw [hc']
                  have hc0 := hcell
                  obtain ⟨x2, B2, o2, hx2, hA2, hc2⟩ := row_elem (row_gr hr1.out hc.out.gr) hlt
                  injection hA2 with hA2
                  injection hA2 with e1 e2
                  subst e1 e2
                  rw [hc2] at hc0
                  rw [hx'] at hx2
                  rw [Option.some.inj hx2]
                  exact hc0
                replace h9 := Lib.hid h9
                clear cA g9 hcell hc
                go_wp2
                go_roundw
                case rel => exact ⟨k2 + 1, by omega, by go_num, by rw [htk.out], hl2.out, by rw [htk.out]; exact (by have := h9.out; push_cast; rw [← Int.add_assoc]; exact this)⟩
                case measure => simp [intOf]; omega
            · obtain rfl : k2 = len1 := by omega

              have hfl : ys.take k2 = ys := List.take_of_length_le (by rw [hyl.out]; exact Nat.le_refl _)
              rw [hfl] at hlen hc ⊢
              obtain ⟨b, hb⟩ : ∃ b, b = ys.flatten := ⟨_, rfl⟩
              rw [← hb] at hlen hc ⊢
              have hbl : b.length ≤ 4000 := by have := hlen.out; omega
              obtain ⟨d5, hd5⟩ : ∃ d5 : Int, d5 = d4 + (k2 : Int) := ⟨_, rfl⟩
              rw [← hd5] at hc
              have hsub0 : (a ++ b).length - a.length = b.length := by rw [List.length_append]; omega
              obtain ⟨kk, hkk⟩ : ∃ kk, kk = keptC [a2] b.length := ⟨_, rfl⟩
              have hkle : kk ≤ b.length := by rw [hkk]; exact keptC_le _ _
              have hkI : min (max a2 0) (b.length : Int) = (kk : Int) := by rw [hkk]; unfold keptC; simp only; omega
              have hsI : IntKind.i64.wrap ((b.length : Int) - (kk : Int)) = ((b.length - kk : Nat) : Int) := by rw [IntWalk.i64_in _ (by omega)]; omega
              have cF := fun W (g : Gr wr W) A n c (hr : Row W A n 1 ([a2].map (.int .i64))) (hn : n ≤ 1000) => fall_one (ch_gr hc.out g) (by decide) (by rw [List.length_append]; omega) (by rw [List.length_append]; omega) A n c [a2] hr hn
              rw [hsub0] at cF
              rw [← hkk] at cF
              have htake : (a ++ b).take (a.length + kk) = a ++ b.take kk := by rw [List.take_append, List.take_of_length_le (by omega)]; congr 2; omega
              rw [htake] at cF
              replace cF := Lib.hid cF
              have hkk0 : (0 : Int) ≤ (kk : Int) := by omega
              have hkk1 : (kk : Int) ≤ (b.length : Int) := by omega
              have hst : (9223372036854775807 < a.length + (b.take kk).length) = False := eq_false (by rw [List.length_take]; omega)
              have hst2 : (9223372036854775807 < a.length + min kk b.length) = False := eq_false (by omega)
              have hst3 : (9223372036854775807 < a.length + kk) = False := eq_false (by omega)
              clear hlen hc hb hfl h4' hr1 hyl hkk
              go_wp2_with fail
              refine (cF.out _ (gr_alloc _ _ _) _ 1 _ (row_new wr #[.int .i64 a2] 3 1 rfl) (by omega)).mono ?_
              rintro e W5 ⟨rfl, h5, _⟩
              have cP := power_any h5
              replace cP := Lib.hid cP
              clear h5 cF
              go_wp2_with fail
              refine cP.out.mono ?_
              rintro e W6 ⟨rfl, h6, _⟩
              obtain ⟨s, hs⟩ : ∃ s, s = a ++ b.take kk := ⟨_, rfl⟩
              have hsl : s.length = a.length + kk := by rw [hs, List.length_append, List.length_take]; omega
              rw [← hs, ← hsl] at h6
              have cG := get_has h6 (by decide)
              rw [show txt [102] = ⟨#[102]⟩ from rfl] at cG
              have cF2 := fun W (g : Gr W6 W) A n c (hr : Row W A n 1 ([0].map (.int .i64))) (hn : n ≤ 1000) => fall_one (ch_gr h6 g) (by decide) (Nat.le_refl _) (by omega) A n c [0] hr hn
              have hz0 : keptC [0] (s.length - s.length) = 0 := by unfold keptC; simp
              rw [hz0, Nat.add_zero, List.take_of_length_le (Nat.le_refl _)] at cF2
              replace cG := Lib.hid cG
              replace cF2 := Lib.hid cF2
              replace hs := Lib.hid hs
              replace hsl := Lib.hid hsl
              clear h6 cP
              go_wp2_with fail
              refine cG.out.mono ?_
              rintro e W7 ⟨rfl, g7⟩
              rw [hs.out]
              have hex := ext_take b kk
              go_wp2_with fail
              refine (cF2.out _ (gr_trans g7 (gr_alloc _ _ _)) _ 1 _ (row_new W7 #[.int .i64 0] 3 1 rfl) (by omega)).mono ?_
              rintro e W8 ⟨rfl, h8, _⟩
              have cP := power_any h8
              replace cP := Lib.hid cP
              clear h8 cF2
              go_wp2_with fail
              refine cP.out.mono ?_
              rintro e W9 ⟨rfl, h9, _⟩
              have cG := get_has h9 (by decide)
              rw [show txt [102] = ⟨#[102]⟩ from rfl] at cG
              have hend := h9.gr
              rw [hs.out] at cG
              replace cG := Lib.hid cG
              replace hend := Lib.hid hend
              clear h9 cP
              go_wp2_with fail
              refine cG.out.mono ?_
              rintro e W10 ⟨rfl, g10⟩
              go_wp2
              go_ret
              exact ⟨rfl, gr_below (gr_trans hend.out g10)⟩
    · have i0 : ¬ (20 : Int) < (len0 : Int) := by omega
      have i1 : (20 : Int) < (len1 : Int) := by omega
      clear hr0 hr1 hzl hyl
      go_enter Try.func3, Try.ntmps3
      go_wp2_with fail
      refine (alive_any _).mono ?_
      rintro e W1 ⟨rfl, g1⟩
      go_wp2
      go_ret
      exact ⟨rfl, gr_below g1⟩
  · have i0 : (20 : Int) < (len0 : Int) := by omega
    clear hr0 hr1 hzl hyl
    go_enter Try.func3, Try.ntmps3
    go_wp2_with fail
    refine (alive_any _).mono ?_
    rintro e W1 ⟨rfl, g1⟩
    go_wp2
    go_ret
    exact ⟨rfl, gr_below g1⟩



set_option maxRecDepth 100000 in
theorem lifted (os : Os) (started : os.Started) (H : Type) (enc : TypeId × Value → H) :
    ReturnsInHanded {} Try.checked os 3 .any (Rows.chestLastsSpec.pre6 enc Try.prog Try.f3 Rows.chestLastsRow.domain false) (Rows.chestLastsSpec.post enc Try.prog Try.f3 false true false false) := by
  refine returnsInHanded_of_change (C := Try.checked) own started (by kernel_rfl) Try.func3
    (ChangeSpec.witness6 (enc := enc) (C := Try.checked) false ⟨#[], #[.slice none 0 0, .slice none 0 0, .int .i64 0], []⟩ 8 (by kernel_rfl) (by kernel_rfl) (by kernel_rfl) (by kernel_rfl)) ?_
  intro W base args ds gs before hval0 hW hcnd _
  have hval : ∀ (j : Nat) t v, Try.f3.params[j]? = some t → args[j]? = some v → Value.okWide Try.prog W .any base t v := hval0
  have hW' := hW
  obtain ⟨p, q, hA0, hV, rfl, hfz, hnd⟩ := hW
  have hA : DataW.TrodAll enc Try.prog W 0 (fun _ => true) true Try.f3.params.toList args.toList ds p := hA0
  rw [Try.params3] at hA hval
  obtain ⟨v0, vs0, d0, ds0, p0, q0, hargs, rfl, rfl, h0, r0⟩ := trodAll_cons hA
  obtain ⟨v1, vs1, d1, ds1, p1, q1, rfl, rfl, rfl, h1, r1⟩ := trodAll_cons r0
  obtain ⟨v2, vs2, d2, ds2, p2, q2, rfl, rfl, rfl, h2, r2⟩ := trodAll_cons r1
  obtain ⟨rfl, rfl, rfl⟩ := trodAll_nil r2
  obtain rfl : args = #[v0, v1, v2] := by cases args; simp_all
  obtain ⟨rfl, rfl⟩ := trodVars_none hV
  obtain ⟨a0, len0, cap0, rfl⟩ := okWide_slice Try.underlying22 (hval 0 22 v0 rfl rfl)
  have k0 := h0
  have lt0 : ∀ x ∈ p0, x.block < W.heap.size := by obtain ⟨m, hm⟩ := k0; exact DataW.trod_lt m _ _ _ hm
  obtain ⟨z0, w0⟩ := isTexts_open Try.underlying22 Try.underlying9 (by kernel_rfl) h0 rfl
  obtain ⟨a1, len1, cap1, rfl⟩ := okWide_slice Try.underlying22 (hval 1 22 v1 rfl rfl)
  have k1 := h1
  have lt1 : ∀ x ∈ p1, x.block < W.heap.size := by obtain ⟨m, hm⟩ := k1; exact DataW.trod_lt m _ _ _ hm
  obtain ⟨z1, w1⟩ := isTexts_open Try.underlying22 Try.underlying9 (by kernel_rfl) h1 rfl
  obtain ⟨a2, rfl, rfl, rfl, w2⟩ := open_int Try.underlying3 (hval 2 3 v2 rfl rfl) h2
  clear hA0 hval0
  refine (walk W a0 len0 cap0 z0 w0 a1 len1 cap1 z1 w1 a2 w2).mono fun e W' ⟨he, bel⟩ => ?_
  subst he
  exact ⟨_, rfl, _, _, _, [], _, [], hW', trodAll_mk1 (shut_bool Try.underlying4 _), (trodAll_cons_mk (Below.trod laidOut (by kernel_rfl) (of_decide_eq_true (by kernel_rfl)) k0 bel lt0) (trodAll_cons_mk (Below.trod laidOut (by kernel_rfl) (of_decide_eq_true (by kernel_rfl)) k1 bel lt1) (trodAll_cons_mk (shut_int Try.underlying3 w2) trodAll_mk0))), rfl, bel.frame _, fun h => by cases h⟩

theorem over : Rows.chestLastsRow.holds Try.pinned (OpenSpec.ofChange Rows.chestLastsSpec) :=
  OpenClaim.holds_of_wide 3 Try.f3 rfl rfl rfl rfl rfl rfl rfl ⟨rfl, rfl, rfl, rfl, rfl⟩ rfl rfl rfl rfl rfl (by kernel_rfl) Try.func3 (by kernel_rfl)
    (of_decide_eq_true (by kernel_rfl)) (by unfold Func.isWrapper; first | (rw [if_pos (by decide +kernel)]; kernel_rfl) | (rw [if_neg (by decide +kernel)]; exact ⟨rfl, rfl⟩))
    (fun os started H enc _ => lifted os started H enc)

/-- THE STATEMENT -/
theorem proved : Rows.ChestLastsSaid := over
#print axioms proved
end Go.Proofs.Ytbkhopfoabdeiaa.chestLasts

