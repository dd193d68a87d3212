/-
  FixedRanks holds of the program: for every input the call returns true and leaves what came in as it was. No condition.
-/
import Derived.Test.YtoickcaccielkaaRows
import Derived.Test.YtoickcaccielkaaSortMath
import Derived.WalkKit
import Derived.ProofKit
import Derived.OpenShut
import Derived.ShutString
import Derived.ChangeOld
import Derived.Below
namespace Go.Proofs.Ytoickcaccielkaa.fixedRanks
open Go.ChangeShapes Go.WideShapes Go.ChangeAt Go.RowKit
open Go.ChangeMaps (open_string shut_string)
set_option linter.unusedVariables false

theorem own : ownKnob Try.prog.godebug = none := by kernel_rfl
theorem laidOut : laidOutB Try.prog = true := by kernel_rfl

theorem take_snoc {zs : List Int} {k : Nat} {x : Int} (h : zs[k]? = some x) : zs.take (k + 1) = zs.take k ++ [x] := by
  obtain ⟨h1, h2⟩ := List.getElem?_eq_some_iff.1 h
  rw [List.take_succ_eq_append_getElem h1, h2]

/-- What the loop has found among the first k. -/
structure Found (zs : List Int) (a : Int) (k : Nat) (L M : Int) (ib : Bool) (c : Nat) : Prop where
  lo : ∀ x ∈ zs.take k, L ≤ x
  lom : L ∈ zs
  hi : ∀ x ∈ zs.take k, x ≤ M
  him : M ∈ zs
  isin : ib = true ↔ a ∈ zs.take k
  cnt : c = (zs.take k).countP (fun x => decide (x ≤ a))
theorem found_step {zs : List Int} {a : Int} {k : Nat} {L M : Int} {ib : Bool} {c : Nat} (h : Found zs a k L M ib c) {x : Int} (hx : zs[k]? = some x) (L' M' : Int) (ib' : Bool) (c' : Nat)
    (h1 : L' = min L x) (h2 : M' = max M x) (h3 : ib' = true ↔ (ib = true ∨ x = a)) (h4 : c' = c + if x ≤ a then 1 else 0) : Found zs a (k + 1) L' M' ib' c' := by
  have hm := List.mem_of_getElem? hx
  have hl := h.lom
  have hh := h.him
  refine ⟨?_, ?_, ?_, ?_, ?_, ?_⟩
  · intro y hy
    rw [take_snoc hx] at hy
    rcases List.mem_append.1 hy with hy | hy
    · have := h.lo y hy; omega
    · simp at hy; omega
  · rw [h1]; rcases Int.le_total L x with hc | hc
    · rw [Int.min_eq_left hc]; exact hl
    · rw [Int.min_eq_right hc]; exact hm
  · intro y hy
    rw [take_snoc hx] at hy
    rcases List.mem_append.1 hy with hy | hy
    · have := h.hi y hy; omega
    · simp at hy; omega
  · rw [h2]; rcases Int.le_total M x with hc | hc
    · rw [Int.max_eq_right hc]; exact hm
    · rw [Int.max_eq_left hc]; exact hh
  · rw [h3, take_snoc hx, List.mem_append, h.isin]
    simp [eq_comm]
  · rw [h4, take_snoc hx, List.countP_append, h.cnt]
    simp [List.countP_cons]

set_option maxHeartbeats 8000000 in
set_option maxRecDepth 100000 in
theorem walk (w : World) (a0 : Option Addr) (len0 cap0 : Nat) (z0 : List Int) (w0 : IsRow .i64 w a0 len0 cap0 z0) (a1 : Int) (w1 : (Lit.int .i64 a1).wf = true) (a2 : Int) (w2 : (Lit.int .i64 a2).wf = true) :
    Calls Try.prog 5 #[.slice a0 len0 cap0, .int .i64 a1, .int .i64 a2] w fun e w' => e = .returned (.bool true) ∧ Below w.heap.size w w' := by
  have x1 := rng_i64 w1
  have x2 := rng_i64 w2
  clear w1 w2
  have hrow := row_isRow w0
  have hwf : ∀ x ∈ z0.take len0, -9223372036854775808 ≤ x ∧ x ≤ 9223372036854775807 := by
    intro x hx
    rcases w0 with ⟨_, _, _, rfl⟩ | ⟨_, _, _, _, _, _, hw⟩
    · simp at hx
    · exact rng_i64 (hw x (List.mem_of_mem_take hx))
  clear w0
  generalize z0.take len0 = zs at hrow hwf
  have hzl : zs.length = len0 := by simpa using hrow.1
  by_cases c : 1 ≤ (len0 : Int) ∧ (len0 : Int) ≤ 200 ∧ 0 ≤ a1 ∧ a1 ≤ a2 ∧ a2 ≤ 100
  · obtain ⟨c1, c2, c3, c4, c5⟩ := c
    obtain ⟨p, rfl⟩ : ∃ p : Nat, a1 = p := ⟨a1.toNat, by omega⟩
    obtain ⟨q, rfl⟩ : ∃ q : Nat, a2 = q := ⟨a2.toNat, by omega⟩
    subst hzl
    have nz : ((zs.length : Int) == 0) = false := eqF (by omega)
    have hpos : 0 < zs.length := by omega
    have hpq : p ≤ q := by omega
    have hq : q ≤ 100 := by omega
    have cr : ∀ (r : Nat) (W : World), r ≤ 100 → Gr w W → Calls Try.prog 16 #[.int .i64 (r : Int), .slice a0 zs.length cap0] W fun e w' => e = .returned (.tuple #[.int .i64 ((sortI zs).getD (rankI r zs.length) 0), .bool true]) ∧ Gr W w' :=
      fun r W hr g => rank_any r a0 zs.length cap0 zs W hr hpos (by omega) (row_gr hrow g)
    have hab := sortI_mono zs (rankI p zs.length) (rankI q zs.length) (rankI_mono p q _ hpq) (rankI_lt q _ hq hpos)
    have hin := sortI_mem zs (rankI p zs.length) (rankI_lt p _ (by omega) hpos)
    have hcnt := sortI_count zs (rankI p zs.length) (rankI_lt p _ (by omega) hpos)
    have hshare := rankI_share p zs.length
    have c0 : ∀ (W : World), Gr w W → Calls Try.prog 16 #[.int .i64 0, .slice a0 zs.length cap0] W fun e w' => e = .returned (.tuple #[.int .i64 ((sortI zs).getD 0 0), .bool true]) ∧ Gr W w' := fun W g => by
      have := cr 0 W (by omega) g; rwa [rankI_zero] at this
    have c100 : ∀ (W : World), Gr w W → Calls Try.prog 16 #[.int .i64 100, .slice a0 zs.length cap0] W fun e w' => e = .returned (.tuple #[.int .i64 ((sortI zs).getD (zs.length - 1) 0), .bool true]) ∧ Gr W w' := fun W g => by
      have := cr 100 W (by omega) g; rwa [rankI_hundred _ hpos] at this
    have cp : ∀ (W : World), Gr w W → _ := fun W g => cr p W (by omega) g
    have cq : ∀ (W : World), Gr w W → _ := fun W g => cr q W (by omega) g
    clear cr
    generalize (sortI zs).getD (rankI p zs.length) 0 = a at *
    generalize (sortI zs).getD (rankI q zs.length) 0 = b at *
    have hlo := sortI_least zs
    have hhi := sortI_most zs
    generalize (sortI zs).getD 0 0 = lo at *
    generalize (sortI zs).getD (zs.length - 1) 0 = hi at *
    have hfinal : ∀ c : Nat, c = zs.countP (fun x => decide (x ≤ a)) → (p : Int) * (zs.length : Int) ≤ 100 * (c : Int) := by
      intro c hc
      rw [← hc] at hcnt
      have h1 : p * zs.length ≤ 100 * c := by omega
      have h2 : ((p * zs.length : Nat) : Int) ≤ ((100 * c : Nat) : Int) := by omega
      simpa using h2
    clear hcnt hshare
    have hpl : (p : Int) * (zs.length : Int) ≤ 20000 := by
      have h1 : p * zs.length ≤ 100 * 200 := Nat.mul_le_mul (by omega) (by omega)
      have h2 : ((p * zs.length : Nat) : Int) ≤ 20000 := by omega
      simpa using h2
    have hpl0 : 0 ≤ (p : Int) * (zs.length : Int) := by
      have h2 : (0 : Int) ≤ ((p * zs.length : Nat) : Int) := by omega
      simpa using h2
    generalize hPL : (p : Int) * (zs.length : Int) = PL at *
    replace hlo := Lib.hid hlo
    replace hhi := Lib.hid hhi
    replace hin := Lib.hid hin
    replace hfinal := Lib.hid hfinal
    replace hrow := Lib.hid hrow
    replace hwf := Lib.hid hwf
    replace c0 := Lib.hid c0
    replace c100 := Lib.hid c100
    replace cp := Lib.hid cp
    replace cq := Lib.hid cq
    go_enter Try.func5, Try.ntmps5
    go_wp2_with fail
    refine (alive_any _).mono ?_
    rintro e W1 ⟨rfl, g1⟩
    go_wp2_with fail
    refine (cp.out _ g1).mono ?_
    rintro e W2 ⟨rfl, g2⟩
    replace g2 := gr_trans g1 g2
    go_wp2_with fail
    refine (cq.out _ g2).mono ?_
    rintro e W3 ⟨rfl, g3⟩
    replace g3 := gr_trans g2 g3
    go_wp2_with fail
    refine (c0.out _ g3).mono ?_
    rintro e W4 ⟨rfl, g4⟩
    replace g4 := gr_trans g3 g4
    go_wp2_with fail
    refine (c100.out _ g4).mono ?_
    rintro e W5 ⟨rfl, g5⟩
    replace g5 := gr_trans g4 g5
    clear g1 g2 g3 g4
    obtain ⟨x0, hx0⟩ : ∃ x0, zs[0]? = some x0 := ⟨_, List.getElem?_eq_getElem hpos⟩
    obtain ⟨B, o, rfl, hB, hc0⟩ := hrow.out.2 0 (.int .i64 x0) (by simp [hx0])
    rw [Nat.add_zero] at hc0
    have hc0' := gr_cell g5 hc0
    clear hc0
    have hx0m := List.mem_of_getElem? hx0
    replace hx0 := Lib.hid hx0
    have hposi : (0 : Int) < (zs.length : Int) := by omega
    go_wp2_with fail
    go_quiet (fail)
    replace g5 := gr_trans g5 (gr_drewN W5 nq none)
    go_wp2_with fail
    generalize W5.drewN nq = W6 at g5 ⊢
    clear hc0'
    have hst : Found zs a 0 x0 x0 false 0 := ⟨by simp, hx0m, by simp, hx0m, by simp, by simp⟩
    replace hst := Lib.hid hst
    go_loopw [15, 16, 17, 18, 19] (fun l m ib c i wr => ∃ (k : Nat) (L M : Int) (ibv : Bool) (cv : Nat), k ≤ zs.length ∧ i = .int .i64 k ∧ l = .int .i64 L ∧ m = .int .i64 M ∧ ib = .bool ibv ∧ c = .int .i64 cv ∧ cv ≤ k ∧ Hid (Found zs a k L M ibv cv) ∧ Gr w wr) (fun _ _ _ _ i _ => zs.length - (intOf i).toNat)
    case atStart => exact ⟨0, x0, x0, false, 0, Nat.zero_le _, rfl, rfl, rfl, rfl, rfl, Nat.zero_le _, hst.out, g5⟩
    case round =>
      obtain ⟨k, L, M, ibv, cv, hk, rfl, rfl, rfl, rfl, rfl, hck, hf, hg⟩ := hrel
      by_cases hlt : k < zs.length
      · obtain ⟨x, hx⟩ : ∃ x, zs[k]? = some x := ⟨_, List.getElem?_eq_getElem hlt⟩
        obtain ⟨B', o', e, _, hc⟩ := hrow.out.2 k (.int .i64 x) (by simp [hx])
        injection e with e
        injection e with e1 e2
        subst e1 e2
        have hc' := gr_cell hg hc
        clear hc
        have hki : (k : Int) < (zs.length : Int) := by omega
        have hk0 : (0 : Int) ≤ (k : Int) := by omega
        have hxr := hwf.out x (List.mem_of_getElem? hx)
        replace hx := Lib.hid hx
        replace hg := Lib.hid hg
        rcases Int.lt_trichotomy x a with ho | ho | ho <;> cases ibv
        · have d1 : (x == a) = false := eqF (by omega)
          have d2 : x ≤ a := by omega
          go_wp2_with fail
          go_quiet (fail)
          go_wp2
          all_goals
            go_roundw
            case rel => exact ⟨k + 1, _, _, _, cv + 1, by omega, by go_num, rfl, rfl, rfl, by go_num, by omega, found_step hf.out hx.out _ _ _ _ (by omega) (by omega) (by simp; omega) (by rw [if_pos (by omega)]), gr_trans hg.out (gr_drewN _ _ _)⟩
            case measure => simp [intOf]; omega
        · have d1 : (x == a) = false := eqF (by omega)
          have d2 : x ≤ a := by omega
          go_wp2_with fail
          go_quiet (fail)
          go_wp2
          all_goals
            go_roundw
            case rel => exact ⟨k + 1, _, _, _, cv + 1, by omega, by go_num, rfl, rfl, rfl, by go_num, by omega, found_step hf.out hx.out _ _ _ _ (by omega) (by omega) (by simp) (by rw [if_pos (by omega)]), gr_trans hg.out (gr_drewN _ _ _)⟩
            case measure => simp [intOf]; omega
        · subst ho
          have d1 : (x == x) = true := eqT rfl
          go_wp2_with fail
          go_quiet (fail)
          go_wp2
          all_goals
            go_roundw
            case rel => exact ⟨k + 1, _, _, _, cv + 1, by omega, by go_num, rfl, rfl, rfl, by go_num, by omega, found_step hf.out hx.out _ _ _ _ (by omega) (by omega) (by simp) (by rw [if_pos (Int.le_refl _)]), gr_trans hg.out (gr_drewN _ _ _)⟩
            case measure => simp [intOf]; omega
        · subst ho
          have d1 : (x == x) = true := eqT rfl
          go_wp2_with fail
          go_quiet (fail)
          go_wp2
          all_goals
            go_roundw
            case rel => exact ⟨k + 1, _, _, _, cv + 1, by omega, by go_num, rfl, rfl, rfl, by go_num, by omega, found_step hf.out hx.out _ _ _ _ (by omega) (by omega) (by simp) (by rw [if_pos (Int.le_refl _)]), gr_trans hg.out (gr_drewN _ _ _)⟩
            case measure => simp [intOf]; omega
        · have d1 : (x == a) = false := eqF (by omega)
          have d2 : ¬ x ≤ a := by omega
          go_wp2_with fail
          go_quiet (fail)
          go_wp2
          all_goals
            go_roundw
            case rel => exact ⟨k + 1, _, _, _, cv, by omega, by go_num, rfl, rfl, rfl, by go_num, by omega, found_step hf.out hx.out _ _ _ _ (by omega) (by omega) (by simp; omega) (by rw [if_neg (by omega)]; rfl), gr_trans hg.out (gr_drewN _ _ _)⟩
            case measure => simp [intOf]; omega
        · have d1 : (x == a) = false := eqF (by omega)
          have d2 : ¬ x ≤ a := by omega
          go_wp2_with fail
          go_quiet (fail)
          go_wp2
          all_goals
            go_roundw
            case rel => exact ⟨k + 1, _, _, _, cv, by omega, by go_num, rfl, rfl, rfl, by go_num, by omega, found_step hf.out hx.out _ _ _ _ (by omega) (by omega) (by simp) (by rw [if_neg (by omega)]; rfl), gr_trans hg.out (gr_drewN _ _ _)⟩
            case measure => simp [intOf]; omega
      · obtain rfl : k = zs.length := by omega
        have hfo := hf.out
        have e1 := List.take_of_length_le (l := zs) (Nat.le_refl _)
        have hL := hlo.out L hpos hfo.lom (by have := hfo.lo; rwa [e1] at this)
        have hM := hhi.out M hpos hfo.him (by have := hfo.hi; rwa [e1] at this)
        have hI : ibv = true := hfo.isin.2 (by rw [e1]; exact hin.out)
        have hC := hfinal.out cv (by have := hfo.cnt; rwa [e1] at this)
        subst hL hM hI
        clear hfo e1
        go_wp2
        go_ret
        exact ⟨rfl, gr_below hg⟩
  · have c' : (len0 : Int) = 0 ∨ (1 ≤ (len0 : Int) ∧ 200 < (len0 : Int)) ∨ (1 ≤ (len0 : Int) ∧ (len0 : Int) ≤ 200 ∧ a1 < 0) ∨ (1 ≤ (len0 : Int) ∧ (len0 : Int) ≤ 200 ∧ 0 ≤ a1 ∧ a2 < a1) ∨ (1 ≤ (len0 : Int) ∧ (len0 : Int) ≤ 200 ∧ 0 ≤ a1 ∧ a1 ≤ a2 ∧ 100 < a2) := by omega
    clear c hrow hwf hzl
    rcases c' with c | ⟨c1, c⟩ | ⟨c1, c2, c⟩ | ⟨c1, c2, c3, c⟩ | ⟨c1, c2, c3, c4, c⟩
    · have nz : ((len0 : Int) == 0) = true := eqT c
      replace c := Lib.hid c
      go_enter Try.func5, Try.ntmps5
      go_wp2_with (go_at_call 9; refine (alive_any _).mono ?_; rintro e w1 ⟨rfl, B⟩)
      go_ret
      exact ⟨rfl, gr_below B⟩
    all_goals
      have nz : ((len0 : Int) == 0) = false := eqF (by omega)
      go_enter Try.func5, Try.ntmps5
      go_wp2_with (go_at_call 9; refine (alive_any _).mono ?_; rintro e w1 ⟨rfl, B⟩)
      go_ret
      exact ⟨rfl, gr_below B⟩

set_option maxRecDepth 100000 in
theorem lifted (os : Os) (started : os.Started) (H : Type) (enc : TypeId × Value → H) :
    ReturnsInHanded {} Try.checked os 5 .any (Rows.fixedRanksSpec.pre6 enc Try.prog Try.f5 Rows.fixedRanksRow.domain false) (Rows.fixedRanksSpec.post enc Try.prog Try.f5 false true false false) := by
  refine returnsInHanded_of_change (C := Try.checked) own started (by kernel_rfl) Try.func5
    (ChangeSpec.witness6 (enc := enc) (C := Try.checked) false ⟨#[], #[.slice none 0 0, .int .i64 0, .int .i64 0], []⟩ 8 (by kernel_rfl) (by kernel_rfl) (by kernel_rfl) (by kernel_rfl)) ?_
  intro W base args ds gs before hval0 hW hcnd _
  have hval : ∀ (j : Nat) t v, Try.f5.params[j]? = some t → args[j]? = some v → Value.okWide Try.prog W .any base t v := hval0
  have hW' := hW
  obtain ⟨p, q, hA0, hV, rfl, hfz, hnd⟩ := hW
  have hA : DataW.TrodAll enc Try.prog W 0 (fun _ => true) true Try.f5.params.toList args.toList ds p := hA0
  rw [Try.params5] at hA hval
  obtain ⟨v0, vs0, d0, ds0, p0, q0, hargs, rfl, rfl, h0, r0⟩ := trodAll_cons hA
  obtain ⟨v1, vs1, d1, ds1, p1, q1, rfl, rfl, rfl, h1, r1⟩ := trodAll_cons r0
  obtain ⟨v2, vs2, d2, ds2, p2, q2, rfl, rfl, rfl, h2, r2⟩ := trodAll_cons r1
  obtain ⟨rfl, rfl, rfl⟩ := trodAll_nil r2
  obtain rfl : args = #[v0, v1, v2] := by cases args; simp_all
  obtain ⟨rfl, rfl⟩ := trodVars_none hV
  obtain ⟨a0, len0, cap0, rfl⟩ := okWide_slice Try.underlying30 (hval 0 30 v0 rfl rfl)
  have k0 := h0
  have lt0 : ∀ x ∈ p0, x.block < W.heap.size := by obtain ⟨m, hm⟩ := k0; exact DataW.trod_lt m _ _ _ hm
  obtain ⟨z0, w0⟩ := isRow_open Try.underlying30 Try.underlying3 (by kernel_rfl) h0 rfl
  obtain ⟨a1, rfl, rfl, rfl, w1⟩ := open_int Try.underlying3 (hval 1 3 v1 rfl rfl) h1
  obtain ⟨a2, rfl, rfl, rfl, w2⟩ := open_int Try.underlying3 (hval 2 3 v2 rfl rfl) h2
  clear hA0 hval0
  refine (walk W a0 len0 cap0 z0 w0 a1 w1 a2 w2).mono fun e W' ⟨he, bel⟩ => ?_
  subst he
  exact ⟨_, rfl, _, _, _, [], _, [], hW', trodAll_mk1 (shut_bool Try.underlying4 _), (trodAll_cons_mk (Below.trod laidOut (by kernel_rfl) (of_decide_eq_true (by kernel_rfl)) k0 bel lt0) (trodAll_cons_mk (shut_int Try.underlying3 w1) (trodAll_cons_mk (shut_int Try.underlying3 w2) trodAll_mk0))), rfl, bel.frame _, fun h => by cases h⟩

theorem over : Rows.fixedRanksRow.holds Try.pinned (OpenSpec.ofChange Rows.fixedRanksSpec) :=
  OpenClaim.holds_of_wide 5 Try.f5 rfl rfl rfl rfl rfl rfl rfl ⟨rfl, rfl, rfl, rfl, rfl⟩ rfl rfl rfl rfl rfl (by kernel_rfl) Try.func5 (by kernel_rfl)
    (of_decide_eq_true (by kernel_rfl)) (by unfold Func.isWrapper; first | (rw [if_pos (by decide +kernel)]; kernel_rfl) | (rw [if_neg (by decide +kernel)]; exact ⟨rfl, rfl⟩))
    (fun os started H enc _ => lifted os started H enc)

/-- THE STATEMENT -/
theorem proved : Rows.FixedRanksSaid := over
#print axioms proved
end Go.Proofs.Ytoickcaccielkaa.fixedRanks

