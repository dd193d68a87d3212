/-
  Several facts, one behind the other; no condition but bounds: A store of series: store.Of; the document's Get. No condition but bounds on the lengths. Series that come in, as a list. No condition.
-/
import Derived.Test.YthlkcoiaahpmoaaStoPlay
import Derived.Test.YthlkcoiaahpmoaaOpOpen
import Derived.ProofKit
import Derived.OpenShut
import Derived.Lib.SmallJoins
namespace Go.Proofs.Ythlkcoiaahpmoaa
open Go.RowKit

set_option maxHeartbeats 4000000 in
set_option maxRecDepth 100000 in
theorem rget1_any (A : Option Addr) (n c : Nat) (zs : List Lb) (nm : List UInt8) (w : World) (hn : n ≤ 1000000000) (hz : Row w A n 2 (sR lblC zs)) :
    Calls Try.prog 19 #[.slice A n c, .string (txt nm)] w fun e w' => e = .returned (.string (txt (getL zs nm))) ∧ Gr w w' := by
  have hl : zs.length = n := by have := hz.1; rw [sR_len lblC 2 lblC_len] at this; omega
  obtain ⟨R, hR⟩ : ∃ R, R = getL zs nm := ⟨_, rfl⟩
  rw [← hR]
  replace hz := Lib.hid hz
  replace hl := Lib.hid hl
  replace hR := Lib.hid hR
  go_enter Try.func19, Try.ntmps19
  go_wp2
  go_loopw [5] (fun iv wr => ∃ k : Nat, k ≤ n ∧ iv = .int .i64 k ∧ Hid (R = getL (zs.drop k) nm) ∧ Hid (Gr w wr)) (fun iv _ => n - (intOf iv).toNat)
  case atStart => exact ⟨0, Nat.zero_le _, rfl, by rw [List.drop_zero]; exact hR, Lib.hid (gr_refl _ _)⟩
  case round =>
    obtain ⟨k, hkn, rfl, hc, hg⟩ := hrel
    by_cases hlt : k < n
    · obtain ⟨x, B, o, hx, rfl, _, hcc⟩ := rowS_elem lblC_len (row_gr hz.out hg.out) (by decide) hlt
      obtain ⟨d0, d1⟩ := two_cells hcc
      have hkI : (k : Int) < (n : Int) := by omega
      have hk0 : (0 : Int) ≤ (k : Int) := by omega
      have hstep := getL_drop hx nm
      replace hx := Lib.hid hx
      clear hcc
      by_cases he : x.n = nm
      · have hf : R = x.v := by rw [hc.out, hstep, if_pos he]
        have hq : (x.n == nm) = true := by simp [he]
        replace hf := Lib.hid hf
        clear hstep he
        go_wp2
        go_ret
        exact ⟨by rw [hf.out]; rfl, hg.out⟩
      · have hf : R = getL (zs.drop (k + 1)) nm := by rw [hc.out, hstep, if_neg he]
        have hq : (x.n == nm) = false := by simp [he]
        replace hf := Lib.hid hf
        clear hstep he
        go_wp2
        go_roundw
        case rel => exact ⟨k + 1, by omega, by go_num, hf, hg⟩
        case measure => simp [intOf]; omega
    · have hkI : ((k : Int) < (n : Int)) = False := eq_false (by omega)
      have hf : R = [] := by rw [hc.out, List.drop_eq_nil_of_le (by rw [hl.out]; omega)]; rfl
      replace hf := Lib.hid hf
      clear hc
      go_wp2
      go_ret
      exact ⟨by rw [hf.out]; rfl, hg.out⟩
/-! ### What may be a store's series -/
def okS1 (s : Ser) : Prop := okSer s.l ∧ 0 < s.p.length ∧ rightB s.p = true
instance (s : Ser) : Decidable (okS1 s) := by unfold okS1; exact inferInstance
def prevOk (ss : List Ser) (k : Nat) (s : Ser) : Prop := k = 0 ∨ ∃ q, ss[k - 1]? = some q ∧ ltLs q.l s.l
/-- The first k of them may be. -/
def OkUpto (ss : List Ser) (k : Nat) : Prop := ∀ i s, i < k → ss[i]? = some s → okS1 s ∧ prevOk ss i s
def OkSs (ss : List Ser) : Prop := ss.length ≤ 40 ∧ OkUpto ss ss.length
theorem okUpto_zero (ss : List Ser) : OkUpto ss 0 := fun i s h => by omega
theorem okUpto_next {ss : List Ser} {k : Nat} {s : Ser} (h : OkUpto ss k) (hs : ss[k]? = some s) (h1 : okS1 s) (h2 : prevOk ss k s) : OkUpto ss (k + 1) := by
  intro i s' hi hs'
  rcases Nat.lt_or_ge i k with q | q
  · exact h i s' q hs'
  · have : i = k := by omega
    subst this
    rw [hs] at hs'
    have := Option.some.inj hs'
    subst this
    exact ⟨h1, h2⟩
theorem okSs_no {ss : List Ser} {k : Nat} {s : Ser} (hs : ss[k]? = some s) (h : ¬ (okS1 s ∧ prevOk ss k s)) : ¬ OkSs ss := fun q => h (q.2 k s (List.getElem?_eq_some_iff.1 hs).1 hs)
theorem okSs_inv {ss : List Ser} (h : OkSs ss) : InvS ss := by
  obtain ⟨h1, h2⟩ := h
  refine ⟨?_, fun s hs => ?_, h1⟩
  · unfold SortedS
    rw [List.pairwise_iff_getElem]
    intro i j hi hj hij
    induction j with
    | zero => omega
    | succ j ih =>
      have hpr := (h2 (j + 1) _ hj (List.getElem?_eq_getElem hj)).2
      rcases hpr with q | ⟨q, hq, hlt⟩
      · omega
      · rw [Nat.add_sub_cancel] at hq
        have hj2 : j < ss.length := by omega
        rw [List.getElem?_eq_getElem hj2] at hq
        have := Option.some.inj hq
        subst this
        rcases Nat.lt_or_ge i j with r | r
        · exact ltLs_trans (ih hj2 r) hlt
        · have : i = j := by omega
          subst this
          exact hlt
  · obtain ⟨i, hi⟩ := List.getElem?_of_mem hs
    obtain ⟨⟨q1, q2, q3⟩, _⟩ := h2 i s (List.getElem?_eq_some_iff.1 hi).1 hi
    exact ⟨q1, q2, (right_iff.1 q3).1, q3⟩
def OfPost (ss : List Ser) (w : World) (e : Ending) (w' : World) : Prop :=
  Gr w w' ∧ ((OkSs ss ∧ ∃ m : StoM, e = .returned (.tuple #[.pointer (some ⟨m.St, 0, none⟩), .int .i64 0]) ∧ StoAt w' w.heap.size m ss) ∨ (¬ OkSs ss ∧ e = .returned (.tuple #[.pointer none, .int .i64 1])))
set_option maxHeartbeats 16000000 in
set_option maxRecDepth 100000 in
theorem sof_any (A : Option Addr) (n c : Nat) (hs : List SHd) (ss : List Ser) (w : World) (hr : SersOf w A n hs ss) (hn : n ≤ 9223372036854775807) (hb : ∀ h ∈ hs, h.ln ≤ 1000000 ∧ h.pn ≤ 1000000 ∧ NilOk h) (hsh : ∀ s ∈ ss, ShortL s.l) : Calls Try.prog 25 #[.slice A n c] w (OfPost ss w) := by
  have hsl : ss.length = n := hr.1
  unfold OfPost
  by_cases h40 : 40 < n
  · have hno : ¬ OkSs ss := fun h => by have := h.1; omega
    have hI : (40 : Int) < (n : Int) := by omega
    replace hno := Lib.hid hno
    clear hr hb hsh hsl
    go_enter Try.func25, Try.ntmps25
    go_wp2
    go_ret2
    exact ⟨gr_refl _ _, .inr ⟨hno.out, rfl⟩⟩
  · have hI : ¬ (40 : Int) < (n : Int) := by omega
    have cC := fun W (g : Gr w W) => copies_any A n c hs ss W (sersOf_gr hr g) (by omega) hb
    unfold CopyPost at cC
    rw [hsl] at cC
    replace cC := Lib.hid cC
    replace hr := Lib.hid hr
    replace hb := Lib.hid hb
    replace hsh := Lib.hid hsh
    replace hsl := Lib.hid hsl
    go_enter Try.func25, Try.ntmps25
    go_wp2
    go_loopw [11] (fun iv wr => ∃ k : Nat, k ≤ n ∧ iv = .int .i64 k ∧ Hid (OkUpto ss k) ∧ Hid (Gr w wr)) (fun iv _ => n - (intOf iv).toNat)
    case atStart => exact ⟨0, Nat.zero_le _, rfl, Lib.hid (okUpto_zero _), Lib.hid (gr_refl _ _)⟩
    case round =>
      obtain ⟨k, hkn, rfl, hok, hg⟩ := hrel
      by_cases hlt : k < n
      · obtain ⟨x, s, B, o, hx, hsx, rfl, d0, d1, hrd, hxl, hxp⟩ := sersOf_at (sersOf_gr hr.out hg.out) hlt
        obtain ⟨hb1, hb2, hb3⟩ := hb.out x (List.mem_of_getElem? hx)
        have hkI : (k : Int) < (n : Int) := by omega
        have hk0 : (0 : Int) ≤ (k : Int) := by omega
        obtain ⟨W2, hW2⟩ : ∃ W2, W2 = wr.alloc (.cells #[.slice x.la x.ln x.lc, .slice x.pa x.pn x.pc] 55) := ⟨_, rfl⟩
        have g2 : Gr wr W2 := by rw [hW2]; exact gr_alloc _ _ _
        have e0 : W2.cell? ⟨wr.heap.size, 0, none⟩ = some (.slice x.la x.ln x.lc) := by rw [hW2, World.cell?_alloc_new]; rfl
        have e1 : W2.cell? ⟨wr.heap.size, 1, none⟩ = some (.slice x.pa x.pn x.pc) := by rw [hW2, World.cell?_alloc_new]; rfl
        have G2 := gr_trans hg.out g2
        have cR := fun W (g : Gr W2 W) => sright_any x.la x.ln x.lc s.l W (by omega) hb3.1 (row_gr hrd.1 (gr_trans g2 g)) (hsh.out s (List.mem_of_getElem? hsx))
        have cP := fun W (g : Gr W2 W) => winRight_any x.pa x.pn x.pc s.p W (by omega) (row_gr hrd.2 (gr_trans g2 g))
        obtain ⟨b1, hb1e⟩ : ∃ b, b = decide (okSer s.l) := ⟨_, rfl⟩
        obtain ⟨b2, hb2e⟩ : ∃ b, b = rightB s.p := ⟨_, rfl⟩
        rw [← hb1e] at cR
        rw [← hb2e] at cP
        have hprev : ∃ (z0 : Int) (yA : Option Addr) (yn yc : Nat), (0 < k → W2.cell? ⟨B, o + (k - 1) * 2, none⟩ = some (.slice yA yn yc) ∧ (prevOk ss k s ↔ z0 < 0) ∧ ∀ W, Gr W2 W → Calls Try.prog 45 #[.slice yA yn yc, .slice x.la x.ln x.lc] W fun e w' => e = .returned (.int .i64 z0) ∧ Gr W w') := by
          by_cases hk1 : 0 < k
          · obtain ⟨y, q, B', o', hy, hq, hA', f0, f1, hrdy, hyl, _⟩ := sersOf_at (sersOf_gr hr.out G2) (show k - 1 < n by omega)
            have e := Option.some.inj hA'
            injection e with e2 e3
            subst e2 e3
            have hby := hb.out y (List.mem_of_getElem? hy)
            refine ⟨cmpLs q.l s.l, y.la, y.ln, y.lc, fun _ => ⟨f0, ?_, fun W g => lcompare_any y.la x.la y.ln x.ln y.lc x.lc q.l s.l W (by omega) (by omega) (row_gr hrdy.1 g) (row_gr hrd.1 (gr_trans g2 g))⟩⟩
            constructor
            · rintro (r | ⟨q', hq', r⟩)
              · omega
              · rw [hq] at hq'
                have := Option.some.inj hq'
                subst this
                exact r
            · exact fun r => .inr ⟨q, hq, r⟩
          · exact ⟨0, none, 0, 0, fun h => absurd h hk1⟩
        obtain ⟨z0, yA, yn, yc, hprev⟩ := hprev
        have hyes : b1 = true → 0 < x.pn → b2 = true → (k = 0 ∨ z0 < 0) → OkUpto ss (k + 1) := fun q1 q2 q3 q4 => okUpto_next hok.out hsx ⟨of_decide_eq_true (hb1e.symm.trans q1), by omega, hb2e.symm.trans q3⟩ (by
          rcases q4 with r | r
          · exact .inl r
          · rcases Nat.eq_zero_or_pos k with h0 | h0
            · exact .inl h0
            · exact (hprev h0).2.1.2 r)
        have hnot : (b1 = false ∨ x.pn = 0 ∨ b2 = false ∨ (0 < k ∧ 0 ≤ z0)) → ¬ OkSs ss := fun q => okSs_no hsx (by
          rintro ⟨⟨r1, r2, r3⟩, r4⟩
          rcases q with q | q | q | ⟨q1, q2⟩
          · rw [hb1e, decide_eq_true r1] at q; cases q
          · omega
          · rw [hb2e, r3] at q; cases q
          · have := (hprev q1).2.1.1 r4
            omega)
        have hcmp : 0 < k → W2.cell? ⟨B, o + (k - 1) * 2, none⟩ = some (.slice yA yn yc) := fun h => (hprev h).1
        have cM : 0 < k → ∀ W, Gr W2 W → Calls Try.prog 45 #[.slice yA yn yc, .slice x.la x.ln x.lc] W fun e w' => e = .returned (.int .i64 z0) ∧ Gr W w' := fun h => (hprev h).2.2
        replace cR := Lib.hid cR
        replace cP := Lib.hid cP
        replace hyes := Lib.hid hyes
        replace hnot := Lib.hid hnot
        replace G2 := Lib.hid G2
        replace hW2 := Lib.hid hW2
        clear hprev hb1e hb2e hx hsx hrd hxl hxp hb1 hb2 hb3 hok
        go_upto_region 6 with fail
        rw [← hW2.out]
        clear d0 d1 hW2 g2
        cases b1 with
        | false =>
          have hno := Lib.hid (hnot.out (.inl rfl))
          clear cM hcmp hyes hnot
          refine wp_region_quiet_gr (by kernel_rfl) (by kernel_rfl) ?_
          have E0 := cell_to (w := W2) e0
          have E1 := cell_to (w := W2) e1
          repeat (go_big_quiet_step (first | (go_at_call 28; exact calls_gr (cR.out _ (by exact Grown.gr _))) | (go_at_call 44; exact calls_gr (cP.out _ (by exact Grown.gr _))) | (go_at_call 45; exact calls_gr (cN.out _ (by exact Grown.gr _)))))
          refine wpQuiet_nil ?_
          intro w2 hw2
          obtain ⟨⟨wP, gP⟩, rfl⟩ := hw2
          have Gf := Lib.hid (gr_trans G2.out gP)
          go_wp2
          go_ret2
          exact ⟨Gf.out, .inr ⟨hno.out, rfl⟩⟩
        | true =>
          by_cases hp0 : x.pn = 0
          · have hno := Lib.hid (hnot.out (.inr (.inl hp0)))
            have hp0I : ((x.pn : Int) == 0) = true := eqT (by omega)
            replace hp0 := Lib.hid hp0
            clear cM hcmp hyes hnot
            refine wp_region_quiet_gr (by kernel_rfl) (by kernel_rfl) ?_
            have E0 := cell_to (w := W2) e0
            have E1 := cell_to (w := W2) e1
            repeat (go_big_quiet_step (first | (go_at_call 28; exact calls_gr (cR.out _ (by exact Grown.gr _))) | (go_at_call 44; exact calls_gr (cP.out _ (by exact Grown.gr _))) | (go_at_call 45; exact calls_gr (cN.out _ (by exact Grown.gr _)))))
            refine wpQuiet_nil ?_
            intro w2 hw2
            obtain ⟨⟨wP, gP⟩, rfl⟩ := hw2
            have Gf := Lib.hid (gr_trans G2.out gP)
            go_wp2
            go_ret2
            exact ⟨Gf.out, .inr ⟨hno.out, rfl⟩⟩
          · have hp0I : ((x.pn : Int) == 0) = false := eqF (by omega)
            have hp1 : 0 < x.pn := by omega
            replace hp0 := Lib.hid hp0
            cases b2 with
            | false =>
              have hno := Lib.hid (hnot.out (.inr (.inr (.inl rfl))))
              clear cM hcmp hyes hnot
              refine wp_region_quiet_gr (by kernel_rfl) (by kernel_rfl) ?_
              have E0 := cell_to (w := W2) e0
              have E1 := cell_to (w := W2) e1
              repeat (go_big_quiet_step (first | (go_at_call 28; exact calls_gr (cR.out _ (by exact Grown.gr _))) | (go_at_call 44; exact calls_gr (cP.out _ (by exact Grown.gr _))) | (go_at_call 45; exact calls_gr (cN.out _ (by exact Grown.gr _)))))
              refine wpQuiet_nil ?_
              intro w2 hw2
              obtain ⟨⟨wP, gP⟩, rfl⟩ := hw2
              have Gf := Lib.hid (gr_trans G2.out gP)
              go_wp2
              go_ret2
              exact ⟨Gf.out, .inr ⟨hno.out, rfl⟩⟩
            | true =>
              by_cases hk1 : 0 < k
              · have hkd : decide ((0 : Int) < (k : Int)) = true := decide_eq_true (by omega)
                have hkd2 : decide (0 < k) = true := decide_eq_true hk1
                have y0 : (0 : Int) ≤ (k : Int) - 1 := by omega
                have y0' : (1 : Int) ≤ (k : Int) := by omega
                have y1 : (k : Int) - 1 < (n : Int) := by omega
                have y2 : ((k : Int) - 1).toNat = k - 1 := by omega
                have y3 : IntKind.i64.wrap ((k : Int) - 1) = (k : Int) - 1 := IntWalk.i64_in _ (by omega)
                have hcm := hcmp hk1
                have cN := Lib.hid (cM hk1)
                have HC := cell_to (w := W2) hcm
                clear cM hcmp hcm
                by_cases hz : z0 < 0
                · have hok2 := Lib.hid (hyes.out rfl hp1 rfl (.inr hz))
                  have hzd : decide (0 ≤ z0) = false := decide_eq_false (by omega)
                  clear hyes hnot
                  refine wp_region_quiet_gr (by kernel_rfl) (by kernel_rfl) ?_
                  have E0 := cell_to (w := W2) e0
                  have E1 := cell_to (w := W2) e1
                  repeat (go_big_quiet_step (first | (go_at_call 28; exact calls_gr (cR.out _ (by exact Grown.gr _))) | (go_at_call 44; exact calls_gr (cP.out _ (by exact Grown.gr _))) | (go_at_call 45; exact calls_gr (cN.out _ (by exact Grown.gr _)))))
                  refine wpQuiet_nil ?_
                  intro w2 hw2
                  obtain ⟨⟨wP, gP⟩, rfl⟩ := hw2
                  have Gf := Lib.hid (gr_trans G2.out gP)
                  go_wp2
                  go_roundw
                  case rel => exact ⟨k + 1, by omega, by go_num, hok2, Gf⟩
                  case measure => simp [intOf]; omega
                · have hno := Lib.hid (hnot.out (.inr (.inr (.inr ⟨hk1, by omega⟩))))
                  have hzd : decide (0 ≤ z0) = true := decide_eq_true (by omega)
                  clear hyes hnot
                  refine wp_region_quiet_gr (by kernel_rfl) (by kernel_rfl) ?_
                  have E0 := cell_to (w := W2) e0
                  have E1 := cell_to (w := W2) e1
                  repeat (go_big_quiet_step (first | (go_at_call 28; exact calls_gr (cR.out _ (by exact Grown.gr _))) | (go_at_call 44; exact calls_gr (cP.out _ (by exact Grown.gr _))) | (go_at_call 45; exact calls_gr (cN.out _ (by exact Grown.gr _)))))
                  refine wpQuiet_nil ?_
                  intro w2 hw2
                  obtain ⟨⟨wP, gP⟩, rfl⟩ := hw2
                  have Gf := Lib.hid (gr_trans G2.out gP)
                  go_wp2
                  go_ret2
                  exact ⟨Gf.out, .inr ⟨hno.out, rfl⟩⟩
              · have hkd : decide ((0 : Int) < (k : Int)) = false := decide_eq_false (by omega)
                have hkd2 : decide (0 < k) = false := decide_eq_false hk1
                have hok2 := Lib.hid (hyes.out rfl hp1 rfl (.inl (by omega)))
                clear cM hcmp hyes hnot
                refine wp_region_quiet_gr (by kernel_rfl) (by kernel_rfl) ?_
                have E0 := cell_to (w := W2) e0
                have E1 := cell_to (w := W2) e1
                repeat (go_big_quiet_step (first | (go_at_call 28; exact calls_gr (cR.out _ (by exact Grown.gr _))) | (go_at_call 44; exact calls_gr (cP.out _ (by exact Grown.gr _))) | (go_at_call 45; exact calls_gr (cN.out _ (by exact Grown.gr _)))))
                refine wpQuiet_nil ?_
                intro w2 hw2
                obtain ⟨⟨wP, gP⟩, rfl⟩ := hw2
                have Gf := Lib.hid (gr_trans G2.out gP)
                go_wp2
                go_roundw
                case rel => exact ⟨k + 1, by omega, by go_num, hok2, Gf⟩
                case measure => simp [intOf]; omega
      · have hkI : ((k : Int) < (n : Int)) = False := eq_false (by omega)
        obtain rfl : k = n := by omega
        have hoks : OkSs ss := ⟨by rw [hsl.out]; omega, by rw [hsl.out]; exact hok.out⟩
        replace hoks := Lib.hid hoks
        go_wp2_with fail
        refine (cC.out _ hg.out).mono ?_
        rintro e w1 ⟨A', c', hs', rfl, hF, g⟩
        have hb := blk_new w1 (.cells #[.slice A' k c'] 31)
        have hF2 := sersIn_base (sersIn_gr hF (gr_alloc w1 (.cells #[.slice A' k c'] 31) none)) hg.out.size
        have hst := sersIn_st hF2 hb
        have G3 := gr_trans (gr_trans hg.out g) (gr_alloc w1 (.cells #[.slice A' k c'] 31) none)
        replace hst := Lib.hid hst
        replace G3 := Lib.hid G3
        clear hb hF2 hF g
        go_wp2
        go_ret2
        exact ⟨G3.out, .inl ⟨hoks.out, ⟨w1.heap.size, A', c', hs'⟩, rfl, hst.out⟩⟩
end Go.Proofs.Ythlkcoiaahpmoaa
namespace Go.Proofs.Ythlkcoiaahpmoaa
open Go.RowKit Go.ChangeShapes Go.WideShapes Go.ChangeAt Go.Deep

set_option maxRecDepth 100000
def IsPtz (w : World) (a : Option Addr) (len cap : Nat) (zs : List (Int × Int)) : Prop := Row w a len 2 (sR pc zs) ∧ len ≤ cap ∧ cap ≤ 9223372036854775807 ∧ (a = none → cap = 0)
structure SerIs (w : World) (h : SHd) (s : Ser) : Prop where
  l : IsLbls w h.la h.ln h.lc s.l
  p : IsPtz w h.pa h.pn h.pc s.p
def IsSers (w : World) (a : Option Addr) (len cap : Nat) (ss : List Ser) : Prop :=
  ss.length = len ∧ len ≤ cap ∧ cap ≤ 9223372036854775807 ∧ ∃ hs : List SHd, hs.length = len ∧ Row w a len 2 (sR shC hs) ∧ ∀ (i : Nat) h s, hs[i]? = some h → ss[i]? = some s → SerIs w h s
section
variable {H : Type} {enc : TypeId × Value → H} {W : World} {base : Nat} {hd : Bool}
theorem ptz_cell {n : Nat} {cs : List Value} {y : DataW H × List MemPlace} (h : DataW.trod enc Try.prog W base (fun _ => true) hd n 69 cs = some y) : ∃ x : Int × Int, cs = pc x := by
  obtain ⟨y0, y1, n1, _, hl, h0, h1⟩ := trod_struct2 Try.underlying69 h
  obtain ⟨t, e0, _, _⟩ := DataW.trod_int Try.underlying3 h0
  obtain ⟨v, e1, _, _⟩ := DataW.trod_int Try.underlying3 h1
  have c3 : Try.prog.cellsOf 3 = 1 := by kernel_rfl
  have c4 : Try.prog.cellsOf 69 = 2 := by kernel_rfl
  rw [c4] at hl
  simp only [c3] at e0 e1
  refine ⟨(t, v), ?_⟩
  match cs, hl with
  | [b0, b1], _ =>
    simp at e0 e1
    subst e0 e1
    rfl
theorem ptz_cells {fuel : Nat} {cs0 : List Value} {y : DataW H × List MemPlace} (hf : DataW.trod enc Try.prog W base (fun _ => true) hd fuel 53 cs0 = some y) : ∃ a len cap zs, cs0 = [.slice a len cap] ∧ IsPtz W a len cap zs := by
  have c32 : Try.prog.cellsOf 69 = 2 := by kernel_rfl
  rcases open_slice Try.underlying53 hf with ⟨hcs, _⟩ | ⟨ad, l, c, m, n, D, Pl, hcs, _, hl, hm, hmm, _, hi⟩
  · exact ⟨none, 0, 0, [], hcs, row_nil _ _ _, Nat.le_refl _, by omega, fun _ => rfl⟩
  · have hml : m = c := by simpa using hmm
    have hP : ∀ i, i < l → ∃ x : Int × Int, ∃ B o, some ad = some ⟨B, o, none⟩ ∧ B < W.heap.size ∧ ∀ j, j < 2 → W.cell? ⟨B, o + i * 2 + j, none⟩ = (pc x)[j]? := by
      intro i hil
      obtain ⟨cs, hc, ht⟩ := hi i (by omega)
      rw [c32] at hc
      obtain ⟨x, rfl⟩ := ptz_cell ht
      obtain ⟨_, _, hat⟩ := World.cells?_some hc
      obtain ⟨cs0, hc0, ht0⟩ := hi 0 (by omega)
      rw [c32] at hc0
      obtain ⟨x0, rfl⟩ := ptz_cell ht0
      obtain ⟨_, _, hat0⟩ := World.cells?_some hc0
      have h00 := hat0 0 (by decide)
      obtain ⟨B, o, rfl, hb, hadd⟩ := addr_plain (a := ad) (v := .int .i64 x0.1) (by
        have := h00
        simp only [Nat.zero_mul] at this
        show W.cell? ad = (pc x0)[0]?
        simpa [Addr.add] using this)
      refine ⟨x, B, o, rfl, hb, fun j hj => ?_⟩
      have h1 := hat j hj
      rw [Go.Deep.add_add, hadd] at h1
      rw [← h1, Nat.add_assoc]
    obtain ⟨zs, h1, h2⟩ := list_of hP
    exact ⟨some ad, l, c, zs, hcs, rowS_mk pc_len (by decide) h1 h2, by omega, by unfold maxLen at hm; omega, fun e => by cases e⟩
theorem ser_cells {n : Nat} {cs : List Value} {y : DataW H × List MemPlace} (h : DataW.trod enc Try.prog W base (fun _ => true) hd n 55 cs = some y) : ∃ (k : SHd) (r : Ser), cs = shC k ∧ SerIs W k r := by
  obtain ⟨y0, y1, n1, _, hl, h0, h1⟩ := trod_struct2 Try.underlying55 h
  obtain ⟨a, len, cap, zs, e0, hls⟩ := lbls_cells h0
  obtain ⟨b, n2, c2, ps, e1, hps⟩ := ptz_cells h1
  have cb : Try.prog.cellsOf 34 = 1 := by kernel_rfl
  have c9 : Try.prog.cellsOf 53 = 1 := by kernel_rfl
  have c4 : Try.prog.cellsOf 55 = 2 := by kernel_rfl
  rw [c4] at hl
  simp only [cb, c9] at e0 e1
  refine ⟨⟨a, len, cap, b, n2, c2⟩, ⟨zs, ps⟩, ?_, hls, hps⟩
  match cs, hl with
  | [b0, b1], _ =>
    simp at e0 e1
    subst e0 e1
    rfl
theorem sers_open {a : Option Addr} {len cap : Nat} {d : DataW H} {p : List MemPlace} (h : DataW.Trod enc Try.prog W base (fun _ => true) hd 29 (.slice a len cap) d p) : ∃ ss, IsSers W a len cap ss := by
  obtain ⟨fuel, hf⟩ := h
  have c24 : Try.prog.cellsOf 55 = 2 := by kernel_rfl
  rcases open_slice Try.underlying29 hf with ⟨hcs, _⟩ | ⟨ad, l, c, m, n, D, Pl, hcs, _, hl, hm, hmm, _, hi⟩
  · simp [Value.cells] at hcs
    obtain ⟨rfl, rfl, rfl⟩ := hcs
    exact ⟨[], rfl, Nat.le_refl _, by omega, [], rfl, row_nil _ _ _, fun i h s hh => by simp at hh⟩
  · simp [Value.cells] at hcs
    obtain ⟨rfl, rfl, rfl⟩ := hcs
    have hml : m = cap := by simpa using hmm
    have hP : ∀ i, i < len → ∃ x : SHd × Ser, SerIs W x.1 x.2 ∧ ∃ B o, some ad = some ⟨B, o, none⟩ ∧ B < W.heap.size ∧ ∀ j, j < 2 → W.cell? ⟨B, o + i * 2 + j, none⟩ = (shC x.1)[j]? := by
      intro i hil
      obtain ⟨cs, hc, ht⟩ := hi i (by omega)
      rw [c24] at hc
      obtain ⟨k, r, rfl, hkr⟩ := ser_cells ht
      obtain ⟨_, _, hat⟩ := World.cells?_some hc
      obtain ⟨cs0, hc0, ht0⟩ := hi 0 (by omega)
      rw [c24] at hc0
      obtain ⟨k0, r0, rfl, _⟩ := ser_cells ht0
      obtain ⟨_, _, hat0⟩ := World.cells?_some hc0
      have h00 := hat0 0 (by decide)
      obtain ⟨B, o, rfl, hb, hadd⟩ := addr_plain (a := ad) (v := .slice k0.la k0.ln k0.lc) (by
        have := h00
        simp only [Nat.zero_mul] at this
        show W.cell? ad = (shC k0)[0]?
        simpa [Addr.add] using this)
      refine ⟨(k, r), hkr, B, o, rfl, hb, fun j hj => ?_⟩
      have h1 := hat j hj
      rw [Go.Deep.add_add, hadd] at h1
      rw [← h1, Nat.add_assoc]
    obtain ⟨zs, h1, h2⟩ := list_of hP
    refine ⟨zs.map (·.2), by rw [List.length_map]; exact h1, by omega, by unfold maxLen at hm; omega, zs.map (·.1), by rw [List.length_map]; exact h1, rowS_mk shC_len (by decide) (by rw [List.length_map]; exact h1) (fun i x hx => ?_), fun i x r hx hr => ?_⟩
    · rw [List.getElem?_map] at hx
      cases hz : zs[i]? with
      | none => simp [hz] at hx
      | some z => simp [hz] at hx; subst hx; exact (h2 i z hz).2
    · rw [List.getElem?_map] at hx hr
      cases hz : zs[i]? with
      | none => simp [hz] at hr
      | some z => simp [hz] at hr hx; subst hx hr; exact (h2 i z hz).1
end
/-- What is light of the first k. -/
def LiteUpto (hs : List SHd) (ss : List Ser) (k : Nat) : Prop := ∀ (i : Nat) h s, i < k → hs[i]? = some h → ss[i]? = some s → LightL s.l ∧ h.pn ≤ 60
theorem lite_next {hs : List SHd} {ss : List Ser} {k : Nat} {h : SHd} {s : Ser} (q : LiteUpto hs ss k) (h1 : hs[k]? = some h) (h2 : ss[k]? = some s) (h3 : LightL s.l) (h4 : h.pn ≤ 60) : LiteUpto hs ss (k + 1) := by
  intro i h' s' hi e1 e2
  rcases Nat.lt_or_ge i k with r | r
  · exact q i h' s' r e1 e2
  · have : i = k := by omega
    subst this
    rw [h1] at e1
    rw [h2] at e2
    rw [← Option.some.inj e1, ← Option.some.inj e2]
    exact ⟨h3, h4⟩
theorem isSers_of {w : World} {a : Option Addr} {len cap : Nat} {ss : List Ser} (h : IsSers w a len cap ss) : ∃ hs, SersOf w a len hs ss ∧ ∀ (i : Nat) h s, hs[i]? = some h → ss[i]? = some s → h.ln ≤ 9223372036854775807 ∧ h.pn ≤ 9223372036854775807 ∧ NilOk h := by
  obtain ⟨h1, h2, h3, hs, h4, h5, h6⟩ := h
  refine ⟨hs, ⟨h1, h4, h5, fun i h s e1 e2 => ⟨(h6 i h s e1 e2).l.1, (h6 i h s e1 e2).p.1⟩⟩, fun i h s e1 e2 => ?_⟩
  obtain ⟨⟨_, q1, q2, _, q3⟩, ⟨_, r1, r2, r3⟩⟩ := h6 i h s e1 e2
  exact ⟨by omega, by omega, fun e => by have := q3 e; omega, fun e => by have := r3 e; omega⟩
def IfB (b : Bool) (p : Prop) : Prop := b = true ↔ p
theorem ifB_yes {p : Prop} (h : p) : IfB true p := ⟨fun _ => h, fun _ => rfl⟩
theorem ifB_no {p : Prop} (h : ¬ p) : IfB false p := ⟨(fun e => by cases e), fun e => absurd e h⟩
end Go.Proofs.Ythlkcoiaahpmoaa
