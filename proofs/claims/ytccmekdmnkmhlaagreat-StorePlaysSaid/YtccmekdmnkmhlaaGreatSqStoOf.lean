/-
  A store of series: store.Of; the document's Get. No condition but bounds on the lengths.
-/
import Derived.Test.YtccmekdmnkmhlaaGreatAJX
namespace Go.Proofs.YtccmekdmnkmhlaaGreat
open Go.RowKit

set_option maxHeartbeats 4000000 in
set_option maxRecDepth 100000 in
theorem rget1_any (A : Option Addr) (n c : Nat) (zs : List Lb) (nm : List UInt8) (w : World) (hn : n ≤ 1000000000) (hz : Row w A n 2 (sR lblC zs)) :
    Calls Tryz.prog 30 #[.slice A n c, .string (txt nm)] w fun e w' => e = .returned (.string (txt (getL zs nm))) ∧ Gr w w' := by
  have hl : zs.length = n := by have := hz.1; rw [sR_len lblC 2 lblC_len] at this; omega
  obtain ⟨R, hR⟩ : ∃ R, R = getL zs nm := ⟨_, rfl⟩
  rw [← hR]
  replace hz := Lib.hid hz
  replace hl := Lib.hid hl
  replace hR := Lib.hid hR
  go_enter Tryz.func30, Tryz.ntmps30
  go_wp2
  go_loopw [5] (fun iv wr => ∃ k : Nat, k ≤ n ∧ iv = .int .i64 k ∧ Hid (R = getL (zs.drop k) nm) ∧ Hid (Gr w wr)) (fun iv _ => n - (intOf iv).toNat)
  case atStart => exact ⟨0, Nat.zero_le _, rfl, by rw [List.drop_zero]; exact hR, Lib.hid (gr_refl _ _)⟩
  case round =>
    obtain ⟨k, hkn, rfl, hc, hg⟩ := hrel
    by_cases hlt : k < n
    · obtain ⟨x, B, o, hx, rfl, _, hcc⟩ := rowS_elem lblC_len (row_gr hz.out hg.out) (by decide) hlt
      obtain ⟨d0, d1⟩ := two_cells hcc
      have hkI : (k : Int) < (n : Int) := by omega
      have hk0 : (0 : Int) ≤ (k : Int) := by omega
      have hstep := getL_drop hx nm
      replace hx := Lib.hid hx
      clear hcc
      by_cases he : x.n = nm
      · have hf : R = x.v := by rw [hc.out, hstep, if_pos he]
        have hq : (x.n == nm) = true := by simp [he]
        replace hf := Lib.hid hf
        clear hstep he
        go_wp2
        go_ret
        exact ⟨by rw [hf.out]; rfl, hg.out⟩
      · have hf : R = getL (zs.drop (k + 1)) nm := by rw [hc.out, hstep, if_neg he]
        have hq : (x.n == nm) = false := by simp [he]
        replace hf := Lib.hid hf
        clear hstep he
        go_wp2
        go_roundw
        case rel => exact ⟨k + 1, by omega, by go_num, hf, hg⟩
        case measure => simp [intOf]; omega
    · have hkI : ((k : Int) < (n : Int)) = False := eq_false (by omega)
      have hf : R = [] := by rw [hc.out, List.drop_eq_nil_of_le (by rw [hl.out]; omega)]; rfl
      replace hf := Lib.hid hf
      clear hc
      go_wp2
      go_ret
      exact ⟨by rw [hf.out]; rfl, hg.out⟩
/-! ### What may be a store's series -/
def okS1 (s : Ser) : Prop := okSer s.l ∧ 0 < s.p.length ∧ rightB s.p = true
instance (s : Ser) : Decidable (okS1 s) := by unfold okS1; exact inferInstance
def prevOk (ss : List Ser) (k : Nat) (s : Ser) : Prop := k = 0 ∨ ∃ q, ss[k - 1]? = some q ∧ ltLs q.l s.l
/-- The first k of them may be. -/
def OkUpto (ss : List Ser) (k : Nat) : Prop := ∀ i s, i < k → ss[i]? = some s → okS1 s ∧ prevOk ss i s
def OkSs (ss : List Ser) : Prop := ss.length ≤ 40 ∧ OkUpto ss ss.length
theorem okUpto_zero (ss : List Ser) : OkUpto ss 0 := fun i s h => by omega
theorem okUpto_next {ss : List Ser} {k : Nat} {s : Ser} (h : OkUpto ss k) (hs : ss[k]? = some s) (h1 : okS1 s) (h2 : prevOk ss k s) : OkUpto ss (k + 1) := by
  intro i s' hi hs'
  rcases Nat.lt_or_ge i k with q | q
  · exact h i s' q hs'
  · have : i = k := by omega
    subst this
    rw [hs] at hs'
    have := Option.some.inj hs'
    subst this
    exact ⟨h1, h2⟩
theorem okSs_no {ss : List Ser} {k : Nat} {s : Ser} (hs : ss[k]? = some s) (h : ¬ (okS1 s ∧ prevOk ss k s)) : ¬ OkSs ss := fun q => h (q.2 k s (List.getElem?_eq_some_iff.1 hs).1 hs)
theorem okSs_inv {ss : List Ser} (h : OkSs ss) : InvS ss := by
  obtain ⟨h1, h2⟩ := h
  refine ⟨?_, fun s hs => ?_, h1⟩
  · unfold SortedS
    rw [List.pairwise_iff_getElem]
    intro i j hi hj hij
    induction j with
    | zero => omega
    | succ j ih =>
      have hpr := (h2 (j + 1) _ hj (List.getElem?_eq_getElem hj)).2
      rcases hpr with q | ⟨q, hq, hlt⟩
      · omega
      · rw [Nat.add_sub_cancel] at hq
        have hj2 : j < ss.length := by omega
        rw [List.getElem?_eq_getElem hj2] at hq
        have := Option.some.inj hq
        subst this
        rcases Nat.lt_or_ge i j with r | r
        · exact ltLs_trans (ih hj2 r) hlt
        · have : i = j := by omega
          subst this
          exact hlt
  · obtain ⟨i, hi⟩ := List.getElem?_of_mem hs
    obtain ⟨⟨q1, q2, q3⟩, _⟩ := h2 i s (List.getElem?_eq_some_iff.1 hi).1 hi
    exact ⟨q1, q2, (right_iff.1 q3).1, q3⟩
def OfPost (ss : List Ser) (w : World) (e : Ending) (w' : World) : Prop :=
  Gr w w' ∧ ((OkSs ss ∧ ∃ m : StoM, e = .returned (.tuple #[.pointer (some ⟨m.St, 0, none⟩), .int .i64 0]) ∧ StoAt w' w.heap.size m ss) ∨ (¬ OkSs ss ∧ e = .returned (.tuple #[.pointer none, .int .i64 1])))
set_option maxHeartbeats 16000000 in
set_option maxRecDepth 100000 in
theorem sof_any (A : Option Addr) (n c : Nat) (hs : List SHd) (ss : List Ser) (w : World) (hr : SersOf w A n hs ss) (hn : n ≤ 9223372036854775807) (hb : ∀ h ∈ hs, h.ln ≤ 1000000 ∧ h.pn ≤ 1000000 ∧ NilOk h) (hsh : ∀ s ∈ ss, ShortL s.l) : Calls Tryz.prog 18 #[.slice A n c] w (OfPost ss w) := by
  have hsl : ss.length = n := hr.1
  unfold OfPost
  by_cases h40 : 40 < n
  · have hno : ¬ OkSs ss := fun h => by have := h.1; omega
    have hI : (40 : Int) < (n : Int) := by omega
    replace hno := Lib.hid hno
    clear hr hb hsh hsl
    go_enter Tryz.func18, Tryz.ntmps18
    go_wp2
    go_ret2
    exact ⟨gr_refl _ _, .inr ⟨hno.out, rfl⟩⟩
  · have hI : ¬ (40 : Int) < (n : Int) := by omega
    have cC := fun W (g : Gr w W) => copies_any A n c hs ss W (sersOf_gr hr g) (by omega) hb
    unfold CopyPost at cC
    rw [hsl] at cC
    replace cC := Lib.hid cC
    replace hr := Lib.hid hr
    replace hb := Lib.hid hb
    replace hsh := Lib.hid hsh
    replace hsl := Lib.hid hsl
    go_enter Tryz.func18, Tryz.ntmps18
    go_wp2
    go_loopw [11] (fun iv wr => ∃ k : Nat, k ≤ n ∧ iv = .int .i64 k ∧ Hid (OkUpto ss k) ∧ Hid (Gr w wr)) (fun iv _ => n - (intOf iv).toNat)
    case atStart => exact ⟨0, Nat.zero_le _, rfl, Lib.hid (okUpto_zero _), Lib.hid (gr_refl _ _)⟩
    case round =>
      obtain ⟨k, hkn, rfl, hok, hg⟩ := hrel
      by_cases hlt : k < n
      · obtain ⟨x, s, B, o, hx, hsx, rfl, d0, d1, hrd, hxl, hxp⟩ := sersOf_at (sersOf_gr hr.out hg.out) hlt
        obtain ⟨hb1, hb2, hb3⟩ := hb.out x (List.mem_of_getElem? hx)
        have hkI : (k : Int) < (n : Int) := by omega
        have hk0 : (0 : Int) ≤ (k : Int) := by omega
        obtain ⟨W2, hW2⟩ : ∃ W2, W2 = wr.alloc (.cells #[.slice x.la x.ln x.lc, .slice x.pa x.pn x.pc] 73) := ⟨_, rfl⟩
        have g2 : Gr wr W2 := by rw [hW2]; exact gr_alloc _ _ _
        have e0 : W2.cell? ⟨wr.heap.size, 0, none⟩ = some (.slice x.la x.ln x.lc) := by rw [hW2, World.cell?_alloc_new]; rfl
        have e1 : W2.cell? ⟨wr.heap.size, 1, none⟩ = some (.slice x.pa x.pn x.pc) := by rw [hW2, World.cell?_alloc_new]; rfl
        have G2 := gr_trans hg.out g2
        have cR := fun W (g : Gr W2 W) => sright_any x.la x.ln x.lc s.l W (by omega) hb3.1 (row_gr hrd.1 (gr_trans g2 g)) (hsh.out s (List.mem_of_getElem? hsx))
        have cP := fun W (g : Gr W2 W) => winRight_any x.pa x.pn x.pc s.p W (by omega) (row_gr hrd.2 (gr_trans g2 g))
        obtain ⟨b1, hb1e⟩ : ∃ b, b = decide (okSer s.l) := ⟨_, rfl⟩
        obtain ⟨b2, hb2e⟩ : ∃ b, b = rightB s.p := ⟨_, rfl⟩
        rw [← hb1e] at cR
        rw [← hb2e] at cP
        have hprev : ∃ (z0 : Int) (yA : Option Addr) (yn yc : Nat), (0 < k → W2.cell? ⟨B, o + (k - 1) * 2, none⟩ = some (.slice yA yn yc) ∧ (prevOk ss k s ↔ z0 < 0) ∧ ∀ W, Gr W2 W → Calls Tryz.prog 41 #[.slice yA yn yc, .slice x.la x.ln x.lc] W fun e w' => e = .returned (.int .i64 z0) ∧ Gr W w') := by
          by_cases hk1 : 0 < k
          · obtain ⟨y, q, B', o', hy, hq, hA', f0, f1, hrdy, hyl, _⟩ := sersOf_at (sersOf_gr hr.out G2) (show k - 1 < n by omega)
            have e := Option.some.inj hA'
            injection e with e2 e3
            subst e2 e3
            have hby := hb.out y (List.mem_of_getElem? hy)
            refine ⟨cmpLs q.l s.l, y.la, y.ln, y.lc, fun _ => ⟨f0, ?_, fun W g => lcompare_any y.la x.la y.ln x.ln y.lc x.lc q.l s.l W (by omega) (by omega) (row_gr hrdy.1 g) (row_gr hrd.1 (gr_trans g2 g))⟩⟩
            constructor
            · rintro (r | ⟨q', hq', r⟩)
              · omega
              · rw [hq] at hq'
                have := Option.some.inj hq'
                subst this
                exact r
            · exact fun r => .inr ⟨q, hq, r⟩
          · exact ⟨0, none, 0, 0, fun h => absurd h hk1⟩
        obtain ⟨z0, yA, yn, yc, hprev⟩ := hprev
        have hyes : b1 = true → 0 < x.pn → b2 = true → (k = 0 ∨ z0 < 0) → OkUpto ss (k + 1) := fun q1 q2 q3 q4 => okUpto_next hok.out hsx ⟨of_decide_eq_true (hb1e.symm.trans q1), by omega, hb2e.symm.trans q3⟩ (by
          rcases q4 with r | r
          · exact .inl r
          · rcases Nat.eq_zero_or_pos k with h0 | h0
            · exact .inl h0
            · exact (hprev h0).2.1.2 r)
        have hnot : (b1 = false ∨ x.pn = 0 ∨ b2 = false ∨ (0 < k ∧ 0 ≤ z0)) → ¬ OkSs ss := fun q => okSs_no hsx (by
          rintro ⟨⟨r1, r2, r3⟩, r4⟩
          rcases q with q | q | q | ⟨q1, q2⟩
          · rw [hb1e, decide_eq_true r1] at q; cases q
          · omega
          · rw [hb2e, r3] at q; cases q
          · have := (hprev q1).2.1.1 r4
            omega)
        have hcmp : 0 < k → W2.cell? ⟨B, o + (k - 1) * 2, none⟩ = some (.slice yA yn yc) := fun h => (hprev h).1
        have cM : 0 < k → ∀ W, Gr W2 W → Calls Tryz.prog 41 #[.slice yA yn yc, .slice x.la x.ln x.lc] W fun e w' => e = .returned (.int .i64 z0) ∧ Gr W w' := fun h => (hprev h).2.2
        replace cR := Lib.hid cR
        replace cP := Lib.hid cP
        replace hyes := Lib.hid hyes
        replace hnot := Lib.hid hnot
        replace G2 := Lib.hid G2
        replace hW2 := Lib.hid hW2
        clear hprev hb1e hb2e hx hsx hrd hxl hxp hb1 hb2 hb3 hok
        go_upto_region 6 with fail
        rw [← hW2.out]
        clear d0 d1 hW2 g2
        cases b1 with
        | false =>
          have hno := Lib.hid (hnot.out (.inl rfl))
          clear cM hcmp hyes hnot
          refine wp_region_quiet_gr (by kernel_rfl) (by kernel_rfl) ?_
          have E0 := cell_to (w := W2) e0
          have E1 := cell_to (w := W2) e1
          repeat (go_big_quiet_step (first | (go_at_call 22; exact calls_gr (cR.out _ (by exact Grown.gr _))) | (go_at_call 40; exact calls_gr (cP.out _ (by exact Grown.gr _))) | (go_at_call 41; exact calls_gr (cN.out _ (by exact Grown.gr _)))))
          refine wpQuiet_nil ?_
          intro w2 hw2
          obtain ⟨⟨wP, gP⟩, rfl⟩ := hw2
          have Gf := Lib.hid (gr_trans G2.out gP)
          go_wp2
          go_ret2
          exact ⟨Gf.out, .inr ⟨hno.out, rfl⟩⟩
        | true =>
          by_cases hp0 : x.pn = 0
          · have hno := Lib.hid (hnot.out (.inr (.inl hp0)))
            have hp0I : ((x.pn : Int) == 0) = true := eqT (by omega)
            replace hp0 := Lib.hid hp0
            clear cM hcmp hyes hnot
            refine wp_region_quiet_gr (by kernel_rfl) (by kernel_rfl) ?_
            have E0 := cell_to (w := W2) e0
            have E1 := cell_to (w := W2) e1
            repeat (go_big_quiet_step (first | (go_at_call 22; exact calls_gr (cR.out _ (by exact Grown.gr _))) | (go_at_call 40; exact calls_gr (cP.out _ (by exact Grown.gr _))) | (go_at_call 41; exact calls_gr (cN.out _ (by exact Grown.gr _)))))
            refine wpQuiet_nil ?_
            intro w2 hw2
            obtain ⟨⟨wP, gP⟩, rfl⟩ := hw2
            have Gf := Lib.hid (gr_trans G2.out gP)
            go_wp2
            go_ret2
            exact ⟨Gf.out, .inr ⟨hno.out, rfl⟩⟩
          · have hp0I : ((x.pn : Int) == 0) = false := eqF (by omega)
            have hp1 : 0 < x.pn := by omega
            replace hp0 := Lib.hid hp0
            cases b2 with
            | false =>
              have hno := Lib.hid (hnot.out (.inr (.inr (.inl rfl))))
              clear cM hcmp hyes hnot
              refine wp_region_quiet_gr (by kernel_rfl) (by kernel_rfl) ?_
              have E0 := cell_to (w := W2) e0
              have E1 := cell_to (w := W2) e1
              repeat (go_big_quiet_step (first | (go_at_call 22; exact calls_gr (cR.out _ (by exact Grown.gr _))) | (go_at_call 40; exact calls_gr (cP.out _ (by exact Grown.gr _))) | (go_at_call 41; exact calls_gr (cN.out _ (by exact Grown.gr _)))))
              refine wpQuiet_nil ?_
              intro w2 hw2
              obtain ⟨⟨wP, gP⟩, rfl⟩ := hw2
              have Gf := Lib.hid (gr_trans G2.out gP)
              go_wp2
              go_ret2
              exact ⟨Gf.out, .inr ⟨hno.out, rfl⟩⟩
            | true =>
              by_cases hk1 : 0 < k
              · have hkd : decide ((0 : Int) < (k : Int)) = true := decide_eq_true (by omega)
                have hkd2 : decide (0 < k) = true := decide_eq_true hk1
                have y0 : (0 : Int) ≤ (k : Int) - 1 := by omega
                have y0' : (1 : Int) ≤ (k : Int) := by omega
                have y1 : (k : Int) - 1 < (n : Int) := by omega
                have y2 : ((k : Int) - 1).toNat = k - 1 := by omega
                have y3 : IntKind.i64.wrap ((k : Int) - 1) = (k : Int) - 1 := IntWalk.i64_in _ (by omega)
                have hcm := hcmp hk1
                have cN := Lib.hid (cM hk1)
                have HC := cell_to (w := W2) hcm
                clear cM hcmp hcm
                by_cases hz : z0 < 0
                · have hok2 := Lib.hid (hyes.out rfl hp1 rfl (.inr hz))
                  have hzd : decide (0 ≤ z0) = false := decide_eq_false (by omega)
                  clear hyes hnot
                  refine wp_region_quiet_gr (by kernel_rfl) (by kernel_rfl) ?_
                  have E0 := cell_to (w := W2) e0
                  have E1 := cell_to (w := W2) e1
                  repeat (go_big_quiet_step (first | (go_at_call 22; exact calls_gr (cR.out _ (by exact Grown.gr _))) | (go_at_call 40; exact calls_gr (cP.out _ (by exact Grown.gr _))) | (go_at_call 41; exact calls_gr (cN.out _ (by exact Grown.gr _)))))
                  refine wpQuiet_nil ?_
                  intro w2 hw2
                  obtain ⟨⟨wP, gP⟩, rfl⟩ := hw2
                  have Gf := Lib.hid (gr_trans G2.out gP)
                  go_wp2
                  go_roundw
                  case rel => exact ⟨k + 1, by omega, by go_num, hok2, Gf⟩
                  case measure => simp [intOf]; omega
                · have hno := Lib.hid (hnot.out (.inr (.inr (.inr ⟨hk1, by omega⟩))))
                  have hzd : decide (0 ≤ z0) = true := decide_eq_true (by omega)
                  clear hyes hnot
                  refine wp_region_quiet_gr (by kernel_rfl) (by kernel_rfl) ?_
                  have E0 := cell_to (w := W2) e0
                  have E1 := cell_to (w := W2) e1
                  repeat (go_big_quiet_step (first | (go_at_call 22; exact calls_gr (cR.out _ (by exact Grown.gr _))) | (go_at_call 40; exact calls_gr (cP.out _ (by exact Grown.gr _))) | (go_at_call 41; exact calls_gr (cN.out _ (by exact Grown.gr _)))))
                  refine wpQuiet_nil ?_
                  intro w2 hw2
                  obtain ⟨⟨wP, gP⟩, rfl⟩ := hw2
                  have Gf := Lib.hid (gr_trans G2.out gP)
                  go_wp2
                  go_ret2
                  exact ⟨Gf.out, .inr ⟨hno.out, rfl⟩⟩
              · have hkd : decide ((0 : Int) < (k : Int)) = false := decide_eq_false (by omega)
                have hkd2 : decide (0 < k) = false := decide_eq_false hk1
                have hok2 := Lib.hid (hyes.out rfl hp1 rfl (.inl (by omega)))
                clear cM hcmp hyes hnot
                refine wp_region_quiet_gr (by kernel_rfl) (by kernel_rfl) ?_
                have E0 := cell_to (w := W2) e0
                have E1 := cell_to (w := W2) e1
                repeat (go_big_quiet_step (first | (go_at_call 22; exact calls_gr (cR.out _ (by exact Grown.gr _))) | (go_at_call 40; exact calls_gr (cP.out _ (by exact Grown.gr _))) | (go_at_call 41; exact calls_gr (cN.out _ (by exact Grown.gr _)))))
                refine wpQuiet_nil ?_
                intro w2 hw2
                obtain ⟨⟨wP, gP⟩, rfl⟩ := hw2
                have Gf := Lib.hid (gr_trans G2.out gP)
                go_wp2
                go_roundw
                case rel => exact ⟨k + 1, by omega, by go_num, hok2, Gf⟩
                case measure => simp [intOf]; omega
      · have hkI : ((k : Int) < (n : Int)) = False := eq_false (by omega)
        obtain rfl : k = n := by omega
        have hoks : OkSs ss := ⟨by rw [hsl.out]; omega, by rw [hsl.out]; exact hok.out⟩
        replace hoks := Lib.hid hoks
        go_wp2_with fail
        refine (cC.out _ hg.out).mono ?_
        rintro e w1 ⟨A', c', hs', rfl, hF, g⟩
        have hb := blk_new w1 (.cells #[.slice A' k c'] 31)
        have hF2 := sersIn_base (sersIn_gr hF (gr_alloc w1 (.cells #[.slice A' k c'] 31) none)) hg.out.size
        have hst := sersIn_st hF2 hb
        have G3 := gr_trans (gr_trans hg.out g) (gr_alloc w1 (.cells #[.slice A' k c'] 31) none)
        replace hst := Lib.hid hst
        replace G3 := Lib.hid G3
        clear hb hF2 hF g
        go_wp2
        go_ret2
        exact ⟨G3.out, .inl ⟨hoks.out, ⟨w1.heap.size, A', c', hs'⟩, rfl, hst.out⟩⟩
end Go.Proofs.YtccmekdmnkmhlaaGreat
