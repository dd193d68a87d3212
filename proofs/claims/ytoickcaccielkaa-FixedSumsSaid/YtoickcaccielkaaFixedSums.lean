/-
  FixedSums holds of the program: for every input the call returns true and leaves what came in as it was. No condition.
-/
import Derived.Test.YtoickcaccielkaaRows
import Derived.Test.YtoickcaccielkaaFixedSum
import Derived.WalkKit
import Derived.ProofKit
import Derived.OpenShut
import Derived.ShutString
import Derived.ChangeOld
import Derived.Below
namespace Go.Proofs.Ytoickcaccielkaa.fixedSums
open Go.ChangeShapes Go.WideShapes Go.ChangeAt Go.RowKit
open Go.ChangeMaps (open_string shut_string)
set_option linter.unusedVariables false

theorem own : ownKnob Try.prog.godebug = none := by kernel_rfl
theorem laidOut : laidOutB Try.prog = true := by kernel_rfl

theorem sum_between (zs : List Int) (lo hi : Int) (h : ∀ x ∈ zs, lo ≤ x ∧ x ≤ hi) : lo * zs.length ≤ zs.sum ∧ zs.sum ≤ hi * zs.length := by
  induction zs with
  | nil => simp
  | cons a zs ih =>
    have h1 := ih (fun x hx => h x (by simp [hx]))
    have h2 := h a (by simp)
    simp only [List.sum_cons, List.length_cons]
    have e : ∀ b : Int, b * ((zs.length + 1 : Nat) : Int) = b * zs.length + b := by
      intro b; rw [Int.natCast_add, Int.mul_add]; simp
    rw [e, e]
    generalize lo * (zs.length : Int) = m at *
    generalize hi * (zs.length : Int) = m' at *
    omega
theorem mean_between (s lo hi : Int) (n : Nat) (h0 : 0 < n) (h1 : lo * n ≤ s) (h2 : s ≤ hi * n) : lo - 1 ≤ s.tdiv n ∧ s.tdiv n ≤ hi + 1 := by
  have hn : (0 : Int) < n := by omega
  have e := Int.tdiv_mul_add_tmod s n
  have r1 := Int.tmod_lt_of_pos s hn
  have r2 : -(n : Int) < s.tmod n := by
    rcases Int.le_total 0 s with hs | hs
    · have := Int.tmod_nonneg (n : Int) hs; omega
    · have h3 := Int.tmod_lt_of_pos (-s) hn
      rw [Int.neg_tmod] at h3
      omega
  generalize s.tmod n = r at *
  generalize s.tdiv n = q at *
  constructor
  · rcases Int.lt_or_le q (lo - 1) with hq | hq
    · exfalso
      have h3 : q * n ≤ (lo - 2) * n := Int.mul_le_mul_of_nonneg_right (by omega) (by omega)
      rw [Int.sub_mul] at h3
      generalize lo * (n : Int) = a at *
      generalize q * (n : Int) = b at *
      omega
    · exact hq
  · rcases Int.lt_or_le (hi + 1) q with hq | hq
    · exfalso
      have h3 : (hi + 2) * n ≤ q * n := Int.mul_le_mul_of_nonneg_right (by omega) (by omega)
      rw [Int.add_mul] at h3
      generalize hi * (n : Int) = a at *
      generalize q * (n : Int) = b at *
      omega
    · exact hq

set_option maxHeartbeats 8000000 in
set_option maxRecDepth 100000 in
theorem walk (w : World) (a0 : Option Addr) (len0 cap0 : Nat) (z0 : List Int) (w0 : IsRow .i64 w a0 len0 cap0 z0) (a1 : Int) (w1 : (Lit.int .i64 a1).wf = true) :
    Calls Try.prog 8 #[.slice a0 len0 cap0, .int .i64 a1] w fun e w' => e = .returned (.bool true) ∧ Below w.heap.size w w' := by
  have x1 := rng_i64 w1
  clear w1
  have hrow := row_isRow w0
  have hcap : len0 ≤ cap0 ∧ cap0 ≤ 9223372036854775807 := by
    rcases w0 with ⟨_, rfl, rfl, _⟩ | ⟨_, _, h1, h2, _⟩
    · omega
    · unfold maxLen at h2; omega
  have hwf : ∀ x ∈ z0.take len0, -9223372036854775808 ≤ x ∧ x ≤ 9223372036854775807 := by
    intro x hx
    rcases w0 with ⟨_, _, _, rfl⟩ | ⟨_, _, _, _, _, _, hw⟩
    · simp at hx
    · exact rng_i64 (hw x (List.mem_of_mem_take hx))
  clear w0
  generalize z0.take len0 = zs at hrow hwf
  have hzl : zs.length = len0 := by simpa using hrow.1
  by_cases c : 1 ≤ (len0 : Int) ∧ (len0 : Int) ≤ 100
  · obtain ⟨c1, c2⟩ := c
    subst hzl
    have nz : ((zs.length : Int) == 0) = false := eqF (by omega)
    have hpos : 0 < zs.length := by omega
    replace hrow := Lib.hid hrow
    replace hwf := Lib.hid hwf
    go_enter Try.func8, Try.ntmps8
    go_wp2_with fail
    refine (alive_any _).mono ?_
    rintro e W1 ⟨rfl, g1⟩
    go_wp2_with fail
    go_loopw [5] (fun i wr => ∃ k : Nat, k ≤ zs.length ∧ i = .int .i64 k ∧ Hid (∀ x ∈ zs.take k, -1000000000 ≤ x ∧ x ≤ 1000000000) ∧ Gr w wr) (fun i _ => zs.length - (intOf i).toNat)
    case atStart => exact ⟨0, Nat.zero_le _, rfl, by intro x hx; simp at hx, g1⟩
    case round =>
      obtain ⟨k, hk, rfl, hp, hg⟩ := hrel
      by_cases hlt : k < zs.length
      · obtain ⟨x, B, o, hx, rfl, hc⟩ := row_elem hrow.out hlt
        have hc' := gr_cell hg hc
        clear hc
        have hxr := hwf.out x (List.mem_of_getElem? hx)
        replace hx := Lib.hid hx
        replace hg := Lib.hid hg
        by_cases hb : -1000000000 ≤ x ∧ x ≤ 1000000000
        · obtain ⟨hb1, hb2⟩ := hb
          go_wp2
          go_roundw
          case rel =>
            refine ⟨k + 1, by omega, by go_num, ?_, hg.out⟩
            intro y hy
            obtain ⟨h1, h2⟩ := List.getElem?_eq_some_iff.1 hx.out
            rw [List.take_succ_eq_append_getElem h1, h2] at hy
            rcases List.mem_append.1 hy with hy | hy
            · exact hp.out y hy
            · simp at hy; subst hy; exact ⟨hb1, hb2⟩
          case measure => simp [intOf]; omega
        · have hb' : 1000000000 < x ∨ (x ≤ 1000000000 ∧ x < -1000000000) := by omega
          clear hb
          rcases hb' with hb | ⟨hb1, hb⟩
          all_goals
            go_wp2
            go_ret
            exact ⟨rfl, gr_below hg.out⟩
      · obtain rfl : k = zs.length := by omega
        have hall := hp.out
        rw [List.take_of_length_le (Nat.le_refl _)] at hall
        replace hall := Lib.hid hall
        clear hp hlt
        obtain ⟨wo, rfl⟩ : ∃ wo : World, wo = wr := ⟨_, rfl⟩
        go_upto_region 8 with fail
        go_cut [6] (fun s6 wx => ∃ K : Nat, s6 = .int .i64 K ∧ K ≤ zs.length ∧ wo = wx)
        case first =>
          go_wp2_with fail
          go_meet
          obtain ⟨K, hK, hl⟩ := cut_place2 a1 zs.length (by omega)
          exact ⟨K, by rw [← hK], hl, rfl⟩
        case rest =>
          obtain ⟨K, rfl, hK, rfl⟩ := hcut
          have hKi : (K : Int) ≤ (zs.length : Int) := by omega
          have hKc : (K : Int) ≤ (cap0 : Int) := by omega
          have hzc : (zs.length : Int) ≤ (cap0 : Int) := by omega
          have hin : ∀ x ∈ zs, In x := fun x hx => by have := hall.out x hx; unfold In; omega
          have hint : ∀ x ∈ zs.take K, In x := fun x hx => hin x (List.mem_of_mem_take hx)
          have hind : ∀ x ∈ zs.drop K, In x := fun x hx => hin x (List.mem_of_mem_drop hx)
          have hs1 := sum_bound (zs.take K) 1000000000 (by omega) (fun x hx => hall.out x (List.mem_of_mem_take hx))
          have hs2 := sum_bound (zs.drop K) 1000000000 (by omega) (fun x hx => hall.out x (List.mem_of_mem_drop hx))
          have hs3 : (zs.take K).sum + (zs.drop K).sum = zs.sum := by rw [← List.sum_append, List.take_append_drop]
          have hl1 : (zs.take K).length = K := by rw [List.length_take]; omega
          have hl2 : (zs.drop K).length = zs.length - K := List.length_drop
          have hb1 : In (zs.take K).sum := by unfold In; omega
          have hb2 : In (zs.drop K).sum := by unfold In; omega
          have hb3 : In zs.sum := by unfold In; omega
          have hrw := row_gr hrow.out hg
          have hrt := row_take hrw K hK
          rw [Nat.mul_one, ← List.map_take] at hrt
          replace hl1 := Lib.hid hl1
          replace hl2 := Lib.hid hl2
          replace hs1 := Lib.hid hs1
          replace hs2 := Lib.hid hs2
          replace hin := Lib.hid hin
          replace hint := Lib.hid hint
          replace hind := Lib.hid hind
          replace hrt := Lib.hid hrt
          replace hrw := Lib.hid hrw
          replace hs3 := Lib.hid hs3
          have hsb := sum_between zs ((sortI zs).getD 0 0) ((sortI zs).getD (zs.length - 1) 0) (fun x hx => by
            obtain ⟨i, hi, he⟩ := sortI_idx zs x hx
            have h1 := sortI_mono zs 0 i (Nat.zero_le _) hi
            have h2 := sortI_mono zs i (zs.length - 1) (by omega) (by omega)
            exact ⟨by omega, by omega⟩)
          have hmb := mean_between zs.sum ((sortI zs).getD 0 0) ((sortI zs).getD (zs.length - 1) 0) zs.length hpos hsb.1 hsb.2
          clear hsb
          have hlom := hall.out _ (sortI_mem zs 0 hpos)
          have hhim := hall.out _ (sortI_mem zs (zs.length - 1) (by omega))
          have c0 : ∀ (W : World) (cp : Nat), Gr wo W → Calls Try.prog 16 #[.int .i64 0, .slice a0 zs.length cp] W fun e w' => e = .returned (.tuple #[.int .i64 ((sortI zs).getD 0 0), .bool true]) ∧ Gr W w' := fun W cp g => by
            have := rank_any 0 a0 zs.length cp zs W (by omega) hpos (by omega) (row_gr hrw.out g)
            unfold RankPost at this
            rwa [rankI_zero] at this
          have c100 : ∀ (W : World) (cp : Nat), Gr wo W → Calls Try.prog 16 #[.int .i64 100, .slice a0 zs.length cp] W fun e w' => e = .returned (.tuple #[.int .i64 ((sortI zs).getD (zs.length - 1) 0), .bool true]) ∧ Gr W w' := fun W cp g => by
            have := rank_any 100 a0 zs.length cp zs W (by omega) hpos (by omega) (row_gr hrw.out g)
            unfold RankPost at this
            rwa [rankI_hundred _ hpos] at this
          generalize (sortI zs).getD 0 0 = lo at *
          generalize (sortI zs).getD (zs.length - 1) 0 = hi at *
          have hqb : -2000000000000000 ≤ zs.sum.tdiv (zs.length : Int) ∧ zs.sum.tdiv (zs.length : Int) ≤ 2000000000000000 := by omega
          have hsumb : -1000000000000 ≤ zs.sum ∧ zs.sum ≤ 1000000000000 := hb3
          have hs1b : -1000000000000 ≤ (zs.take K).sum ∧ (zs.take K).sum ≤ 1000000000000 := hb1
          have hs2b : -1000000000000 ≤ (zs.drop K).sum ∧ (zs.drop K).sum ≤ 1000000000000 := hb2
          replace c0 := Lib.hid c0
          replace c100 := Lib.hid c100
          go_wp2_with fail
          refine (sum_ok _ _ _ _ _ (by omega) hrt.out hint.out hb1).mono ?_
          rintro e w' ⟨rfl, rfl⟩
          go_wp2_with fail
          · have hrd : Row wo a0 (zs.length - K) 1 ((zs.drop K).map (.int .i64)) := by
              have := row_drop hrw.out K a0 (fun B o _ h => by omega) (by omega)
              rwa [Nat.mul_one, ← List.map_drop] at this
            refine (sum_ok _ _ _ _ _ (by omega) hrd hind.out hb2).mono ?_
            rintro e w' ⟨rfl, rfl⟩
            go_wp2_with fail
            refine (sum_ok _ _ _ _ _ (by omega) hrw.out hin.out hb3).mono ?_
            rintro e w' ⟨rfl, rfl⟩
            go_wp2_with fail
            refine (mean_ok _ _ _ _ _ hpos (by omega) hrw.out hin.out).mono ?_
            rintro e w' ⟨rfl, rfl⟩
            go_wp2_with fail
            refine (c0.out _ _ (gr_refl _ _)).mono ?_
            rintro e W2 ⟨rfl, g2⟩
            go_wp2_with fail
            refine (c100.out _ _ g2).mono ?_
            rintro e W3 ⟨rfl, g3⟩
            replace hs3 := hs3.out
            go_wp2
            go_ret
            exact ⟨rfl, gr_below (gr_trans (gr_trans hg g2) g3)⟩
          · have hrd : Row wo (Option.map (fun x => x.add K) a0) (zs.length - K) 1 ((zs.drop K).map (.int .i64)) := by
              have := row_drop hrw.out K (Option.map (fun x => x.add K) a0) (fun B o e _ => by rw [e, Nat.mul_one]; exact congrArg some (add_plain B o K)) (by omega)
              rwa [Nat.mul_one, ← List.map_drop] at this
            refine (sum_ok _ _ _ _ _ (by omega) hrd hind.out hb2).mono ?_
            rintro e w' ⟨rfl, rfl⟩
            go_wp2_with fail
            refine (sum_ok _ _ _ _ _ (by omega) hrw.out hin.out hb3).mono ?_
            rintro e w' ⟨rfl, rfl⟩
            go_wp2_with fail
            refine (mean_ok _ _ _ _ _ hpos (by omega) hrw.out hin.out).mono ?_
            rintro e w' ⟨rfl, rfl⟩
            go_wp2_with fail
            refine (c0.out _ _ (gr_refl _ _)).mono ?_
            rintro e W2 ⟨rfl, g2⟩
            go_wp2_with fail
            refine (c100.out _ _ g2).mono ?_
            rintro e W3 ⟨rfl, g3⟩
            replace hs3 := hs3.out
            go_wp2
            go_ret
            exact ⟨rfl, gr_below (gr_trans (gr_trans hg g2) g3)⟩
  · have c' : (len0 : Int) = 0 ∨ (1 ≤ (len0 : Int) ∧ 100 < (len0 : Int)) := by omega
    clear c hrow hwf hzl
    rcases c' with c | ⟨c1, c⟩
    · have nz : ((len0 : Int) == 0) = true := eqT c
      replace c := Lib.hid c
      go_enter Try.func8, Try.ntmps8
      go_wp2_with (go_at_call 9; refine (alive_any _).mono ?_; rintro e w1 ⟨rfl, B⟩)
      go_ret
      exact ⟨rfl, gr_below B⟩
    · have nz : ((len0 : Int) == 0) = false := eqF (by omega)
      go_enter Try.func8, Try.ntmps8
      go_wp2_with (go_at_call 9; refine (alive_any _).mono ?_; rintro e w1 ⟨rfl, B⟩)
      go_ret
      exact ⟨rfl, gr_below B⟩

set_option maxRecDepth 100000 in
theorem lifted (os : Os) (started : os.Started) (H : Type) (enc : TypeId × Value → H) :
    ReturnsInHanded {} Try.checked os 8 .any (Rows.fixedSumsSpec.pre6 enc Try.prog Try.f8 Rows.fixedSumsRow.domain false) (Rows.fixedSumsSpec.post enc Try.prog Try.f8 false true false false) := by
  refine returnsInHanded_of_change (C := Try.checked) own started (by kernel_rfl) Try.func8
    (ChangeSpec.witness6 (enc := enc) (C := Try.checked) false ⟨#[], #[.slice none 0 0, .int .i64 0], []⟩ 8 (by kernel_rfl) (by kernel_rfl) (by kernel_rfl) (by kernel_rfl)) ?_
  intro W base args ds gs before hval0 hW hcnd _
  have hval : ∀ (j : Nat) t v, Try.f8.params[j]? = some t → args[j]? = some v → Value.okWide Try.prog W .any base t v := hval0
  have hW' := hW
  obtain ⟨p, q, hA0, hV, rfl, hfz, hnd⟩ := hW
  have hA : DataW.TrodAll enc Try.prog W 0 (fun _ => true) true Try.f8.params.toList args.toList ds p := hA0
  rw [Try.params8] at hA hval
  obtain ⟨v0, vs0, d0, ds0, p0, q0, hargs, rfl, rfl, h0, r0⟩ := trodAll_cons hA
  obtain ⟨v1, vs1, d1, ds1, p1, q1, rfl, rfl, rfl, h1, r1⟩ := trodAll_cons r0
  obtain ⟨rfl, rfl, rfl⟩ := trodAll_nil r1
  obtain rfl : args = #[v0, v1] := by cases args; simp_all
  obtain ⟨rfl, rfl⟩ := trodVars_none hV
  obtain ⟨a0, len0, cap0, rfl⟩ := okWide_slice Try.underlying30 (hval 0 30 v0 rfl rfl)
  have k0 := h0
  have lt0 : ∀ x ∈ p0, x.block < W.heap.size := by obtain ⟨m, hm⟩ := k0; exact DataW.trod_lt m _ _ _ hm
  obtain ⟨z0, w0⟩ := isRow_open Try.underlying30 Try.underlying3 (by kernel_rfl) h0 rfl
  obtain ⟨a1, rfl, rfl, rfl, w1⟩ := open_int Try.underlying3 (hval 1 3 v1 rfl rfl) h1
  clear hA0 hval0
  refine (walk W a0 len0 cap0 z0 w0 a1 w1).mono fun e W' ⟨he, bel⟩ => ?_
  subst he
  exact ⟨_, rfl, _, _, _, [], _, [], hW', trodAll_mk1 (shut_bool Try.underlying4 _), (trodAll_cons_mk (Below.trod laidOut (by kernel_rfl) (of_decide_eq_true (by kernel_rfl)) k0 bel lt0) (trodAll_cons_mk (shut_int Try.underlying3 w1) trodAll_mk0)), rfl, bel.frame _, fun h => by cases h⟩

theorem over : Rows.fixedSumsRow.holds Try.pinned (OpenSpec.ofChange Rows.fixedSumsSpec) :=
  OpenClaim.holds_of_wide 8 Try.f8 rfl rfl rfl rfl rfl rfl rfl ⟨rfl, rfl, rfl, rfl, rfl⟩ rfl rfl rfl rfl rfl (by kernel_rfl) Try.func8 (by kernel_rfl)
    (of_decide_eq_true (by kernel_rfl)) (by unfold Func.isWrapper; first | (rw [if_pos (by decide +kernel)]; kernel_rfl) | (rw [if_neg (by decide +kernel)]; exact ⟨rfl, rfl⟩))
    (fun os started H enc _ => lifted os started H enc)

/-- THE STATEMENT -/
theorem proved : Rows.FixedSumsSaid := over
#print axioms proved
end Go.Proofs.Ytoickcaccielkaa.fixedSums

