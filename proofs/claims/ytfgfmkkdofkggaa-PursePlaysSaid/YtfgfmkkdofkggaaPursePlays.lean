/-
  PursePlays holds of the program: for every input the call returns true and leaves what came in as it was. No condition.
-/
import Derived.Test.YtfgfmkkdofkggaaRows
import Derived.Test.YtfgfmkkdofkggaaPurseAlive
import Derived.WalkKit
import Derived.ProofKit
import Derived.OpenShut
import Derived.ShutString
import Derived.ChangeOld
import Derived.Below
namespace Go.Proofs.Ytfgfmkkdofkggaa.pursePlays
open Go.ChangeShapes Go.WideShapes Go.ChangeAt Go.RowKit
open Go.ChangeMaps (open_string shut_string)
set_option linter.unusedVariables false

theorem own : ownKnob Try.prog.godebug = none := by kernel_rfl
theorem laidOut : laidOutB Try.prog = true := by kernel_rfl

/-- The deeds that came in: a kind and a number each. -/
def IsOps (w : World) (a : Option Addr) (len cap : Nat) (zs : List (Int × Int)) : Prop :=
  zs.length = len ∧ ∀ (i : Nat) (x : Int × Int), zs[i]? = some x → ∃ B o, a = some ⟨B, o, none⟩ ∧ B < w.heap.size ∧ w.cell? ⟨B, o + i * 2, none⟩ = some (.int .i64 x.1) ∧ w.cell? ⟨B, o + i * 2 + 1, none⟩ = some (.int .i64 x.2) ∧
    (Lit.int .i64 x.1).wf = true ∧ (Lit.int .i64 x.2).wf = true

section
open Go.Deep
theorem isOps_open {H : Type} {enc : TypeId × Value → H} {W : World} {a : Option Addr} {len cap : Nat} {d : DataW H} {p : List MemPlace} {base : Nat} {sp : Nat → Bool} {hd : Bool}
    (h : DataW.Trod enc Try.prog W base sp hd 22 (.slice a len cap) d p) (hsp : sp = (fun _ => true)) : ∃ zs, IsOps W a len cap zs := by
  subst hsp
  obtain ⟨fuel, hf⟩ := h
  rcases open_slice_fields Try.underlying22 Try.underlying27 (by kernel_rfl) (by kernel_rfl) hf with ⟨hcs, _⟩ | ⟨ad, l, c, m, D, Pl, hcs, _, hl, hm, hmm, _, hi⟩
  · simp [Value.cells] at hcs
    obtain ⟨rfl, rfl, rfl⟩ := hcs
    exact ⟨[], by simp [IsOps]⟩
  · simp [Value.cells] at hcs
    obtain ⟨rfl, rfl, rfl⟩ := hcs
    have hml : m = cap := by simpa using hmm
    have hP : ∀ i, i < len → ∃ x : Int × Int, ∃ B o, some ad = some ⟨B, o, none⟩ ∧ B < W.heap.size ∧ W.cell? ⟨B, o + i * 2, none⟩ = some (.int .i64 x.1) ∧ W.cell? ⟨B, o + i * 2 + 1, none⟩ = some (.int .i64 x.2) ∧ (Lit.int .i64 x.1).wf = true ∧ (Lit.int .i64 x.2).wf = true := by
      intro i hil
      obtain ⟨ys, n, _, _, _, hf⟩ := hi i (by omega)
      obtain ⟨v0, y0, hc0, _, ht0⟩ := hf 0 _ rfl
      obtain ⟨v1, y1, hc1, _, ht1⟩ := hf 1 _ rfl
      obtain ⟨x0, e0, _, wf0⟩ := DataW.trod_int Try.underlying3 ht0
      obtain ⟨x1, e1, _, wf1⟩ := DataW.trod_int Try.underlying3 ht1
      simp at e0 e1
      subst e0 e1
      obtain ⟨_, _, _, _, _, hf0⟩ := hi 0 (by omega)
      obtain ⟨_, _, hc00, _, _⟩ := hf0 0 _ rfl
      obtain ⟨B, o, rfl, hb, hadd⟩ := addr_plain (a := ad) (by simpa [Addr.add] using hc00)
      rw [hadd] at hc0 hc1
      exact ⟨(x0, x1), B, o, rfl, hb, by simpa using hc0, by simpa [Nat.add_assoc] using hc1, wf0, wf1⟩
    obtain ⟨zs, h1, h2⟩ := list_of hP
    exact ⟨zs, h1, h2⟩
end

set_option maxHeartbeats 4000000 in
set_option maxRecDepth 100000 in
theorem walk (w : World) (a0 : Int) (w0 : (Lit.int .i64 a0).wf = true) (a1 : Option Addr) (len1 cap1 : Nat) (z1 : List (Int × Int)) (w1 : IsOps w a1 len1 cap1 z1) :
    Calls Try.prog 3 #[.int .i64 a0, .slice a1 len1 cap1] w fun e w' => e = .returned (.bool true) ∧ Below w.heap.size w w' := by
  have x0 := rng_i64 w0
  clear w0
  by_cases c : (len1 : Int) ≤ 200
  · go_enter Try.func3, Try.ntmps3
    go_wp2_with fail
    refine (alive_any _).mono ?_
    rintro e W1 ⟨rfl, B1⟩
    have hsz := B1.size
    go_wp2_with fail
    refine (new_any _ _).mono ?_
    rintro e W2 ⟨rfl, rfl⟩
    have hR : 0 ≤ min (max a0 0) 1000000 ∧ min (max a0 0) 1000000 ≤ 1000000 := by omega
    have H2 := pu_new W1 (min (max a0 0) 1000000) 0 0
    have B2 := gr_trans B1 (gr_alloc W1 (.cells #[.int .i64 (min (max a0 0) 1000000), .int .i64 0, .int .i64 0] 35) none)
    generalize W1.alloc (.cells #[.int .i64 (min (max a0 0) 1000000), .int .i64 0, .int .i64 0] 35) = W2 at H2 B2 ⊢
    obtain ⟨b, hbe⟩ : ∃ b, b = W1.heap.size := ⟨_, rfl⟩
    rw [← hbe] at H2 ⊢
    have hbb : w.heap.size ≤ b := by omega
    clear hbe
    obtain ⟨R, hRe⟩ : ∃ R, R = min (max a0 0) 1000000 := ⟨_, rfl⟩
    rw [← hRe] at H2 hR
    replace hRe := Lib.hid hRe
    go_upto_region 6 with fail
    go_cut [0] (fun s0 wx => s0 = .int .i64 R ∧ W2 = wx)
    case first =>
      go_wp2_with fail
      all_goals (go_meet; exact ⟨by rw [hRe.out]; congr 1; omega, rfl⟩)
    case rest =>
    obtain ⟨rfl, rfl⟩ := hcut
    clear hRe
    have hs2 := B2.size
    go_wp2_with fail
    go_loopw [6, 7, 8] (fun nw hg i wr => ∃ (k : Nat) (now high : Int), k ≤ len1 ∧ i = .int .i64 k ∧ nw = .int .i64 now ∧ hg = .int .i64 high ∧ PuOk R now high ∧ PuAt wr b R now high ∧ GrB b W2 wr) (fun _ _ i _ => len1 - (intOf i).toNat)
    case atStart => exact ⟨0, 0, 0, Nat.zero_le _, rfl, rfl, rfl, ⟨by omega, by omega, by omega, by omega⟩, H2, gr_refl _ _⟩
    case round =>
      obtain ⟨k, now, high, hk, rfl, rfl, rfl, hok, hpu, hgr⟩ := hrel
      obtain ⟨o1, o2, o3, o4⟩ := id hok
      by_cases hlt : k < len1
      · obtain ⟨⟨kd, x⟩, hz⟩ : ∃ z, z1[k]? = some z := ⟨_, List.getElem?_eq_getElem (by rw [w1.1]; exact hlt)⟩
        obtain ⟨B, o, rfl, hlt2, hc1, hc2, hw1, hw2⟩ := w1.2 k _ hz
        have hx := rng_i64 hw2
        have hbr : Below w.heap.size w wr := below_gr (gr_below B2) hgr hs2 (fun q hq => by cases hq; exact hbb)
        have hc1' := (hbr.cell (p := ⟨B, o + k * 2, none⟩) hlt2).trans hc1
        have hc2' := (hbr.cell (p := ⟨B, o + k * 2 + 1, none⟩) hlt2).trans hc2
        clear hz hw1 hw2 hc1 hc2
        by_cases hkd : kd = 1
        · subst hkd
          by_cases hy : 0 ≤ x ∧ x ≤ R - now
          · obtain ⟨hy1, hy2⟩ := hy
            go_wp2_with fail
            refine (take_yes b R now high x _ hpu hok (by omega) (by omega)).mono ?_
            rintro e W3 ⟨rfl, H3, B3⟩
            clear hpu
            rcases Int.lt_or_le high (now + x) with hm | hm
            · rw [Int.max_eq_right (by omega)] at H3
              have ok3 : PuOk R (now + x) (now + x) := ⟨by omega, by omega, by omega, by omega⟩
              go_wp2_with fail
              refine (now_any _ _ _ _ _ H3).mono ?_
              rintro e W4 ⟨rfl, rfl⟩
              go_wp2_with fail
              refine (high_any _ _ _ _ _ H3).mono ?_
              rintro e W4 ⟨rfl, rfl⟩
              go_wp2_with fail
              refine (left_any _ _ _ _ _ H3 ok3).mono ?_
              rintro e W4 ⟨rfl, B4⟩
              replace H3 := pu_gr H3 B4
              go_wp2_with fail
              refine (high_any _ _ _ _ _ H3).mono ?_
              rintro e W5 ⟨rfl, rfl⟩
              go_wp2
              go_roundw
              case rel => exact ⟨k + 1, _, _, by omega, by go_num, rfl, rfl, ok3, H3, gr_trans (gr_trans hgr B3) (gr_more _ B4)⟩
              case measure => simp [intOf]; omega
            · rw [Int.max_eq_left (by omega)] at H3
              have ok3 : PuOk R (now + x) (high) := ⟨by omega, by omega, by omega, by omega⟩
              go_wp2_with fail
              refine (now_any _ _ _ _ _ H3).mono ?_
              rintro e W4 ⟨rfl, rfl⟩
              go_wp2_with fail
              refine (high_any _ _ _ _ _ H3).mono ?_
              rintro e W4 ⟨rfl, rfl⟩
              go_wp2_with fail
              refine (left_any _ _ _ _ _ H3 ok3).mono ?_
              rintro e W4 ⟨rfl, B4⟩
              replace H3 := pu_gr H3 B4
              go_wp2_with fail
              refine (high_any _ _ _ _ _ H3).mono ?_
              rintro e W5 ⟨rfl, rfl⟩
              go_wp2
              go_roundw
              case rel => exact ⟨k + 1, _, _, by omega, by go_num, rfl, rfl, ok3, H3, gr_trans (gr_trans hgr B3) (gr_more _ B4)⟩
              case measure => simp [intOf]; omega
          · have hyy : x < 0 ∨ (0 ≤ x ∧ R - now < x) := by omega
            clear hy
            rcases hyy with hy' | ⟨hy0, hy'⟩
            all_goals
              go_wp2_with fail
              refine (take_no b R now high x _ hpu hok (by omega)).mono ?_
              rintro e W3 ⟨rfl, B3⟩
              have H3 := pu_gr hpu B3
              replace B3 := gr_more (some b) B3
              clear hpu
              have ok3 : PuOk R (now) (high) := ⟨by omega, by omega, by omega, by omega⟩
              go_wp2_with fail
              refine (now_any _ _ _ _ _ H3).mono ?_
              rintro e W4 ⟨rfl, rfl⟩
              go_wp2_with fail
              refine (high_any _ _ _ _ _ H3).mono ?_
              rintro e W4 ⟨rfl, rfl⟩
              go_wp2_with fail
              refine (left_any _ _ _ _ _ H3 ok3).mono ?_
              rintro e W4 ⟨rfl, B4⟩
              replace H3 := pu_gr H3 B4
              go_wp2_with fail
              refine (high_any _ _ _ _ _ H3).mono ?_
              rintro e W5 ⟨rfl, rfl⟩
              go_wp2
              go_roundw
              case rel => exact ⟨k + 1, _, _, by omega, by go_num, rfl, rfl, ok3, H3, gr_trans (gr_trans hgr B3) (gr_more _ B4)⟩
              case measure => simp [intOf]; omega
        · have hkf : (kd == 1) = false := by simpa using hkd
          by_cases hy : 0 ≤ x ∧ x ≤ now
          · obtain ⟨hy1, hy2⟩ := hy
            go_wp2_with fail
            refine (give_yes b R now high x _ hpu hok (by omega) (by omega)).mono ?_
            rintro e W3 ⟨rfl, H3, B3⟩
            clear hpu
            have ok3 : PuOk R (now - x) (high) := ⟨by omega, by omega, by omega, by omega⟩
            go_wp2_with fail
            refine (now_any _ _ _ _ _ H3).mono ?_
            rintro e W4 ⟨rfl, rfl⟩
            go_wp2_with fail
            refine (high_any _ _ _ _ _ H3).mono ?_
            rintro e W4 ⟨rfl, rfl⟩
            go_wp2_with fail
            refine (left_any _ _ _ _ _ H3 ok3).mono ?_
            rintro e W4 ⟨rfl, B4⟩
            replace H3 := pu_gr H3 B4
            go_wp2_with fail
            refine (high_any _ _ _ _ _ H3).mono ?_
            rintro e W5 ⟨rfl, rfl⟩
            go_wp2
            go_roundw
            case rel => exact ⟨k + 1, _, _, by omega, by go_num, rfl, rfl, ok3, H3, gr_trans (gr_trans hgr B3) (gr_more _ B4)⟩
            case measure => simp [intOf]; omega
          · have hyy : x < 0 ∨ (0 ≤ x ∧ now < x) := by omega
            clear hy
            rcases hyy with hy' | ⟨hy0, hy'⟩
            all_goals
              go_wp2_with fail
              refine (give_no b R now high x _ hpu hok (by omega)).mono ?_
              rintro e W3 ⟨rfl, rfl⟩
              have H3 := hpu
              have B3 := gr_refl wr (some b)
              clear hpu
              have ok3 : PuOk R (now) (high) := ⟨by omega, by omega, by omega, by omega⟩
              go_wp2_with fail
              refine (now_any _ _ _ _ _ H3).mono ?_
              rintro e W4 ⟨rfl, rfl⟩
              go_wp2_with fail
              refine (high_any _ _ _ _ _ H3).mono ?_
              rintro e W4 ⟨rfl, rfl⟩
              go_wp2_with fail
              refine (left_any _ _ _ _ _ H3 ok3).mono ?_
              rintro e W4 ⟨rfl, B4⟩
              replace H3 := pu_gr H3 B4
              go_wp2_with fail
              refine (high_any _ _ _ _ _ H3).mono ?_
              rintro e W5 ⟨rfl, rfl⟩
              go_wp2
              go_roundw
              case rel => exact ⟨k + 1, _, _, by omega, by go_num, rfl, rfl, ok3, H3, gr_trans (gr_trans hgr B3) (gr_more _ B4)⟩
              case measure => simp [intOf]; omega
      · go_wp2_with fail
        refine (take_nil _ _).mono ?_
        rintro e W3 ⟨rfl, k3, rfl⟩
        have g3 := gr_trans hgr (gr_drewN wr k3 (some b))
        generalize wr.drewN k3 = W3 at *
        go_wp2_with fail
        refine (give_nil _ _).mono ?_
        rintro e W4 ⟨rfl, rfl⟩
        go_wp2_with fail
        refine (now_nil _).mono ?_
        rintro e W4 ⟨rfl, rfl⟩
        go_wp2_with fail
        refine (high_nil _).mono ?_
        rintro e W4 ⟨rfl, rfl⟩
        go_wp2_with fail
        refine (left_nil _).mono ?_
        rintro e W4 ⟨rfl, rfl⟩
        go_wp2
        go_ret
        exact ⟨rfl, below_gr (gr_below B2) g3 hs2 (fun q hq => by cases hq; exact hbb)⟩
  · have c' : (200 : Int) < len1 := by omega
    clear c
    go_enter Try.func3, Try.ntmps3
    go_wp2_with (go_at_call 6; refine (alive_any _).mono ?_; rintro e w1 ⟨rfl, B⟩)
    go_ret
    exact ⟨rfl, gr_below B⟩

set_option maxRecDepth 100000 in
theorem lifted (os : Os) (started : os.Started) (H : Type) (enc : TypeId × Value → H) :
    ReturnsInHanded {} Try.checked os 3 .any (Rows.pursePlaysSpec.pre6 enc Try.prog Try.f3 Rows.pursePlaysRow.domain false) (Rows.pursePlaysSpec.post enc Try.prog Try.f3 false true false false) := by
  refine returnsInHanded_of_change (C := Try.checked) own started (by kernel_rfl) Try.func3
    (ChangeSpec.witness6 (enc := enc) (C := Try.checked) false ⟨#[], #[.int .i64 0, .slice none 0 0], []⟩ 8 (by kernel_rfl) (by kernel_rfl) (by kernel_rfl) (by kernel_rfl)) ?_
  intro W base args ds gs before hval0 hW hcnd _
  have hval : ∀ (j : Nat) t v, Try.f3.params[j]? = some t → args[j]? = some v → Value.okWide Try.prog W .any base t v := hval0
  have hW' := hW
  obtain ⟨p, q, hA0, hV, rfl, hfz, hnd⟩ := hW
  have hA : DataW.TrodAll enc Try.prog W 0 (fun _ => true) true Try.f3.params.toList args.toList ds p := hA0
  rw [Try.params3] at hA hval
  obtain ⟨v0, vs0, d0, ds0, p0, q0, hargs, rfl, rfl, h0, r0⟩ := trodAll_cons hA
  obtain ⟨v1, vs1, d1, ds1, p1, q1, rfl, rfl, rfl, h1, r1⟩ := trodAll_cons r0
  obtain ⟨rfl, rfl, rfl⟩ := trodAll_nil r1
  obtain rfl : args = #[v0, v1] := by cases args; simp_all
  obtain ⟨rfl, rfl⟩ := trodVars_none hV
  obtain ⟨a0, rfl, rfl, rfl, w0⟩ := open_int Try.underlying3 (hval 0 3 v0 rfl rfl) h0
  obtain ⟨a1, len1, cap1, rfl⟩ := okWide_slice Try.underlying22 (hval 1 22 v1 rfl rfl)
  have k1 := h1
  have lt1 : ∀ x ∈ p1, x.block < W.heap.size := by obtain ⟨m, hm⟩ := k1; exact DataW.trod_lt m _ _ _ hm
  obtain ⟨z1, w1⟩ := isOps_open h1 rfl
  clear hA0 hval0
  refine (walk W a0 w0 a1 len1 cap1 z1 w1).mono fun e W' ⟨he, bel⟩ => ?_
  subst he
  exact ⟨_, rfl, _, _, _, [], _, [], hW', trodAll_mk1 (shut_bool Try.underlying4 _), (trodAll_cons_mk (shut_int Try.underlying3 w0) (trodAll_cons_mk (Below.trod laidOut (by kernel_rfl) (of_decide_eq_true (by kernel_rfl)) k1 bel lt1) trodAll_mk0)), rfl, bel.frame _, fun h => by cases h⟩

theorem over : Rows.pursePlaysRow.holds Try.pinned (OpenSpec.ofChange Rows.pursePlaysSpec) :=
  OpenClaim.holds_of_wide 3 Try.f3 rfl rfl rfl rfl rfl rfl rfl ⟨rfl, rfl, rfl, rfl, rfl⟩ rfl rfl rfl rfl rfl (by kernel_rfl) Try.func3 (by kernel_rfl)
    (of_decide_eq_true (by kernel_rfl)) (by unfold Func.isWrapper; first | (rw [if_pos (by decide +kernel)]; kernel_rfl) | (rw [if_neg (by decide +kernel)]; exact ⟨rfl, rfl⟩))
    (fun os started H enc _ => lifted os started H enc)

/-- THE STATEMENT -/
theorem proved : Rows.PursePlaysSaid := over
#print axioms proved
end Go.Proofs.Ytfgfmkkdofkggaa.pursePlays

