/-
  label.Tidy and label.Right. No condition but bounds on the lengths.
-/
import Derived.Test.YtccmekdmnkmhlaaGreatLabelTidy
import Derived.Test.YtccmekdmnkmhlaaGreatLabelCmp
import Derived.Test.YtccmekdmnkmhlaaGreatQuietGr
namespace Go.Proofs.YtccmekdmnkmhlaaGreat
open Go.RowKit

/-- Names and values that a machine can hold. -/
def ShortL (zs : List Lb) : Prop := ∀ x ∈ zs, x.n.length ≤ 1000000000 ∧ x.v.length ≤ 1000000000
/-- Labels that may be brought into order. -/
def okTidy (zs : List Lb) : Prop := zs.length ≤ 8 ∧ (∀ x ∈ zs, okLb x) ∧ ∃ zs' : List Lb, zs'.Perm zs ∧ Rising zs'
def TidyPost (n : Nat) (zs : List Lb) (w : World) (e : Ending) (w' : World) : Prop :=
  ((∃ v zs', e = .returned (.tuple #[v, .int .i64 0]) ∧ zs'.Perm zs ∧ Rising zs' ∧ okTidy zs ∧ w'.ownsRow w.heap.size 58 2 v n (sR lblC zs')) ∨ (e = .returned (.tuple #[.slice none 0 0, .int .i64 1]) ∧ ¬ okTidy zs)) ∧ Gr w w'
/-- As far as they have been looked at, they may be. -/
def OkTo (zs : List Lb) (k : Nat) : Prop := (∀ x ∈ zs.take k, okLb x) ∧ ∀ (i : Nat) a b, i + 1 < k → zs[i]? = some a → zs[i + 1]? = some b → a.n ≠ b.n
theorem okTo_next {zs : List Lb} {k : Nat} (h : OkTo zs k) {x : Lb} (hx : zs[k]? = some x) (h1 : okLb x) (h2 : ∀ p, 0 < k → zs[k - 1]? = some p → p.n ≠ x.n) : OkTo zs (k + 1) := by
  obtain ⟨h3, h4⟩ := h
  refine ⟨fun y hy => ?_, fun i a b hi ha hb => ?_⟩
  · obtain ⟨hk, hxk⟩ := List.getElem?_eq_some_iff.1 hx
    rw [List.take_succ_eq_append_getElem hk, hxk] at hy
    rcases List.mem_append.1 hy with hy | hy
    · exact h3 y hy
    · rw [List.mem_singleton.1 hy]; exact h1
  · by_cases hik : i + 1 < k
    · exact h4 i a b hik ha hb
    · have : i + 1 = k := by omega
      subst this
      rw [hx] at hb
      obtain rfl := Option.some.inj hb
      exact h2 a (by omega) (by rw [Nat.add_sub_cancel]; exact ha)
theorem okTo_end {zs : List Lb} (hs : Srt zs) (h : OkTo zs zs.length) : (∀ x ∈ zs, okLb x) ∧ Rising zs := by
  obtain ⟨h1, h2⟩ := h
  rw [List.take_length] at h1
  refine ⟨h1, srt_rising hs fun i a b ha hb => h2 i a b (List.getElem?_eq_some_iff.1 hb).1 ha hb⟩
theorem not_tidy_bad {zs z1 : List Lb} (hp : z1.Perm zs) {x : Lb} (hx : x ∈ z1) (h : ¬ okLb x) : ¬ okTidy zs := fun k => h (k.2.1 x (hp.mem_iff.1 hx))
theorem not_tidy_twice {zs z1 : List Lb} (hp : z1.Perm zs) (hs : Srt z1) {k : Nat} {p x : Lb} (h0 : 0 < k) (hpx : z1[k - 1]? = some p) (hx : z1[k]? = some x) (h : p.n = x.n) : ¬ okTidy zs := by
  rintro ⟨_, _, z2, h1, h2⟩
  obtain rfl := srt_unique (hp.trans h1.symm) hs (rising_srt h2)
  have h3 := (rising_iff _).1 h2 (k - 1) p x hpx (by rw [Nat.sub_add_cancel h0]; exact hx)
  rw [h] at h3
  exact ltT_irr _ h3
set_option maxHeartbeats 16000000 in
set_option maxRecDepth 100000 in
theorem tidy_any (A : Option Addr) (n c : Nat) (zs : List Lb) (w : World) (hn : n ≤ 1000000000) (hA : A = none → n = 0 ∧ c = 0) (hz : Row w A n 2 (sR lblC zs)) (hsh : ShortL zs) :
    Calls Tryz.prog 116 #[.slice A n c] w (TidyPost n zs w) := by
  have hl : zs.length = n := by have := hz.1; rw [sR_len lblC 2 lblC_len] at this; omega
  by_cases h8 : n ≤ 8
  · have h8i : ((8 : Int) < (n : Int)) = False := eq_false (by omega)
    have hcl := lclone_any A n c zs w hn hA hz
    replace hcl := Lib.hid hcl
    clear hz hA
    replace hl := Lib.hid hl
    go_enter Tryz.func116, Tryz.ntmps116
    go_wp2_with fail
    refine hcl.out.mono ?_
    rintro e w1 ⟨v1, rfl, ho1, g1⟩
    obtain ⟨A1, c1, rfl, hc1, hc2⟩ := own_openS ho1
    have hso := lsort_any A1 n c1 w.heap.size zs w1 (by omega) ho1
    replace hso := Lib.hid hso
    replace g1 := Lib.hid g1
    clear ho1 hcl
    go_wp2_with fail
    refine hso.out.mono ?_
    rintro e w2 ⟨rfl, z1, hp, hs, ho, hg⟩
    have g2 : Gr w w2 := gr_of_below (below_gr (gr_below g1.out) hg g1.out.size (fun k hk => (ho.lt k hk).1)) (Nat.le_refl _)
    have hl1 : z1.length = n := by rw [hp.length_eq]; exact hl.out
    have hsh1 : ShortL z1 := fun x hx => hsh x (hp.mem_iff.1 hx)
    replace hp := Lib.hid hp
    replace hs := Lib.hid hs
    replace ho := Lib.hid ho
    replace g2 := Lib.hid g2
    replace hl1 := Lib.hid hl1
    replace hsh1 := Lib.hid hsh1
    clear hso hg hsh
    go_wp2
    go_loopw [16] (fun iv wr => ∃ k : Nat, k ≤ n ∧ iv = .int .i64 k ∧ Hid (OkTo z1 k) ∧ Hid (Gr w2 wr)) (fun iv _ => n - (intOf iv).toNat)
    case atStart => exact ⟨0, Nat.zero_le _, rfl, ⟨by simp, by intros; omega⟩, gr_refl _ _⟩
    case round =>
      obtain ⟨k, hk, rfl, hok, hgr⟩ := hrel
      by_cases hlt : k < n
      · have hki : (k : Int) < (n : Int) := by omega
        have hk0 : (0 : Int) ≤ (k : Int) := by omega
        have hrow : Row wr A1 n 2 (sR lblC z1) := row_gr (row_own ho.out) hgr.out
        obtain ⟨x, gA, oA, hx, rfl, _, ha⟩ := rowS_elem lblC_len hrow (by decide) hlt
        obtain ⟨a0, a1⟩ := two_cells ha
        have hxm := List.mem_of_getElem? hx
        obtain ⟨hx1, hx2⟩ := hsh1.out x hxm
        have hnm : ∀ W, Calls Tryz.prog 120 #[.string (txt x.n)] W fun e w' => e = .returned (.bool (isName x.n)) ∧ Gr W w' := fun W => name_any x.n W (by omega)
        have hbad := fun h => not_tidy_bad hp.out hxm (x := x) h
        replace hbad := Lib.hid hbad
        clear ha
        replace hrow := Lib.hid hrow
        by_cases hn1 : isName x.n = true
        · rw [hn1] at hnm
          replace hnm := Lib.hid hnm
          by_cases hv : x.v = []
          · have hv2 : x.v.isEmpty = true := by rw [hv]; rfl
            have hno := hbad.out (fun q => by have := q.2.1; rw [hv] at this; simp at this)
            replace hno := Lib.hid hno
            replace hv := Lib.hid hv
            clear hok hbad
            go_upto_region 8 with fail
            obtain ⟨W1, hW1⟩ : ∃ W1, W1 = wr.alloc (.cells #[.string (txt x.n), .string (txt x.v)] 58) := ⟨_, rfl⟩
            rw [← hW1]
            have gW : Gr wr W1 := by rw [hW1]; exact gr_alloc _ _ _
            have s0 : ∀ p : Grown W1, p.wd.cell? ⟨wr.heap.size, 0, none⟩ = some (.string (txt x.n)) := fun p => cell_to (by rw [hW1, World.cell?_alloc_new]; rfl) p
            have s1 : ∀ p : Grown W1, p.wd.cell? ⟨wr.heap.size, 1, none⟩ = some (.string (txt x.v)) := fun p => cell_to (by rw [hW1, World.cell?_alloc_new]; rfl) p
            replace gW := Lib.hid gW
            clear hW1 a0 a1
            refine wp_region_quiet_gr (by kernel_rfl) (by kernel_rfl) ?_
            repeat (go_big_quiet_step ((go_at_call 120; exact calls_gr (hnm.out _))))
            refine wpQuiet_nil ?_
            intro _ hw'
            obtain ⟨⟨wP, gP⟩, hw''⟩ := hw'
            subst hw''
            go_wp2
            go_ret2
            exact ⟨.inr ⟨rfl, hno.out⟩, gr_trans g2.out (gr_trans hgr.out (gr_trans gW.out gP))⟩
          · have hv2 : x.v.isEmpty = false := by rw [List.isEmpty_eq_false_iff]; exact hv
            have hvl : 1 ≤ x.v.length := Nat.pos_of_ne_zero (fun q => hv (List.eq_nil_of_length_eq_zero q))
            replace hv := Lib.hid hv
            by_cases hv60 : 60 < x.v.length
            · have hvi : (60 : Int) < (x.v.length : Int) := by omega
              have hno := hbad.out (fun q => by have := q.2.2; omega)
              replace hno := Lib.hid hno
              clear hok hbad
              go_upto_region 8 with fail
              obtain ⟨W1, hW1⟩ : ∃ W1, W1 = wr.alloc (.cells #[.string (txt x.n), .string (txt x.v)] 58) := ⟨_, rfl⟩
              rw [← hW1]
              have gW : Gr wr W1 := by rw [hW1]; exact gr_alloc _ _ _
              have s0 : ∀ p : Grown W1, p.wd.cell? ⟨wr.heap.size, 0, none⟩ = some (.string (txt x.n)) := fun p => cell_to (by rw [hW1, World.cell?_alloc_new]; rfl) p
              have s1 : ∀ p : Grown W1, p.wd.cell? ⟨wr.heap.size, 1, none⟩ = some (.string (txt x.v)) := fun p => cell_to (by rw [hW1, World.cell?_alloc_new]; rfl) p
              replace gW := Lib.hid gW
              clear hW1 a0 a1
              refine wp_region_quiet_gr (by kernel_rfl) (by kernel_rfl) ?_
              repeat (go_big_quiet_step ((go_at_call 120; exact calls_gr (hnm.out _))))
              refine wpQuiet_nil ?_
              intro _ hw'
              obtain ⟨⟨wP, gP⟩, hw''⟩ := hw'
              subst hw''
              go_wp2
              go_ret2
              exact ⟨.inr ⟨rfl, hno.out⟩, gr_trans g2.out (gr_trans hgr.out (gr_trans gW.out gP))⟩
            · have hvi : ((60 : Int) < (x.v.length : Int)) = False := eq_false (by omega)
              have hgood : okLb x := ⟨hn1, hvl, by omega⟩
              clear hbad
              by_cases hk1 : k = 0
              · have hk1i : ((0 : Int) < (k : Int)) = False := eq_false (by omega)
                have hk1n : (0 < k) = False := eq_false (by omega)
                have hnext := okTo_next hok.out hx hgood (fun p h0 => absurd h0 (by omega))
                replace hnext := Lib.hid hnext
                replace hk1 := Lib.hid hk1
                clear hok
                go_upto_region 8 with fail
                obtain ⟨W1, hW1⟩ : ∃ W1, W1 = wr.alloc (.cells #[.string (txt x.n), .string (txt x.v)] 58) := ⟨_, rfl⟩
                rw [← hW1]
                have gW : Gr wr W1 := by rw [hW1]; exact gr_alloc _ _ _
                have s0 : ∀ p : Grown W1, p.wd.cell? ⟨wr.heap.size, 0, none⟩ = some (.string (txt x.n)) := fun p => cell_to (by rw [hW1, World.cell?_alloc_new]; rfl) p
                have s1 : ∀ p : Grown W1, p.wd.cell? ⟨wr.heap.size, 1, none⟩ = some (.string (txt x.v)) := fun p => cell_to (by rw [hW1, World.cell?_alloc_new]; rfl) p
                replace gW := Lib.hid gW
                clear hW1 a0 a1
                refine wp_region_quiet_gr (by kernel_rfl) (by kernel_rfl) ?_
                repeat (go_big_quiet_step ((go_at_call 120; exact calls_gr (hnm.out _))))
                refine wpQuiet_nil ?_
                intro _ hw'
                obtain ⟨⟨wP, gP⟩, hw''⟩ := hw'
                subst hw''
                go_wp2
                go_roundw
                case rel => exact ⟨k + 1, by omega, by go_num, hnext.out, gr_trans hgr.out (gr_trans gW.out gP)⟩
                case measure => simp [intOf]; omega
              · obtain ⟨p, gB, oB, hpx, hpe, _, hpc⟩ := rowS_elem lblC_len hrow.out (by decide) (show k - 1 < n by omega)
                injection hpe with hpe
                injection hpe with hpe1 hpe2
                subst hpe1 hpe2
                have p0 := (two_cells hpc).1
                have q1 : (0 : Int) < (k : Int) := by omega
                have q1n : 0 < k := by omega
                have q2 : (k : Int) - 1 < (n : Int) := by omega
                have q3 : (0 : Int) ≤ (k : Int) - 1 := by omega
                have q4 : ((k : Int) - 1).toNat = k - 1 := by omega
                have q5 : IntKind.i64.wrap ((k : Int) - 1) = (k : Int) - 1 := IntWalk.i64_in _ (by omega)
                clear hpc
                by_cases hpn : p.n = x.n
                · have hp2 : (p.n == x.n) = true := by rw [hpn]; exact beq_self_eq_true _
                  have hno := not_tidy_twice hp.out hs.out (show 0 < k by omega) hpx hx hpn
                  replace hno := Lib.hid hno
                  replace hpn := Lib.hid hpn
                  clear hok
                  go_upto_region 8 with fail
                  obtain ⟨W1, hW1⟩ : ∃ W1, W1 = wr.alloc (.cells #[.string (txt x.n), .string (txt x.v)] 58) := ⟨_, rfl⟩
                  rw [← hW1]
                  have gW : Gr wr W1 := by rw [hW1]; exact gr_alloc _ _ _
                  have s0 : ∀ p : Grown W1, p.wd.cell? ⟨wr.heap.size, 0, none⟩ = some (.string (txt x.n)) := fun p => cell_to (by rw [hW1, World.cell?_alloc_new]; rfl) p
                  have s1 : ∀ p : Grown W1, p.wd.cell? ⟨wr.heap.size, 1, none⟩ = some (.string (txt x.v)) := fun p => cell_to (by rw [hW1, World.cell?_alloc_new]; rfl) p
                  have s2 : ∀ q : Grown W1, q.wd.cell? ⟨gA, oA + (k - 1) * 2, none⟩ = some (.string (txt p.n)) := fun q => cell_to (gr_cell gW p0) q
                  replace gW := Lib.hid gW
                  clear hW1 a0 a1 p0
                  refine wp_region_quiet_gr (by kernel_rfl) (by kernel_rfl) ?_
                  repeat (go_big_quiet_step ((go_at_call 120; exact calls_gr (hnm.out _))))
                  refine wpQuiet_nil ?_
                  intro _ hw'
                  obtain ⟨⟨wP, gP⟩, hw''⟩ := hw'
                  subst hw''
                  go_wp2
                  go_ret2
                  exact ⟨.inr ⟨rfl, hno.out⟩, gr_trans g2.out (gr_trans hgr.out (gr_trans gW.out gP))⟩
                · have hp2 : (p.n == x.n) = false := beq_eq_false_iff_ne.2 hpn
                  have hnext := okTo_next hok.out hx hgood (fun p' _ hp' => by rw [hpx] at hp'; obtain rfl := Option.some.inj hp'; exact hpn)
                  replace hnext := Lib.hid hnext
                  replace hpn := Lib.hid hpn
                  clear hok
                  go_upto_region 8 with fail
                  obtain ⟨W1, hW1⟩ : ∃ W1, W1 = wr.alloc (.cells #[.string (txt x.n), .string (txt x.v)] 58) := ⟨_, rfl⟩
                  rw [← hW1]
                  have gW : Gr wr W1 := by rw [hW1]; exact gr_alloc _ _ _
                  have s0 : ∀ p : Grown W1, p.wd.cell? ⟨wr.heap.size, 0, none⟩ = some (.string (txt x.n)) := fun p => cell_to (by rw [hW1, World.cell?_alloc_new]; rfl) p
                  have s1 : ∀ p : Grown W1, p.wd.cell? ⟨wr.heap.size, 1, none⟩ = some (.string (txt x.v)) := fun p => cell_to (by rw [hW1, World.cell?_alloc_new]; rfl) p
                  have s2 : ∀ q : Grown W1, q.wd.cell? ⟨gA, oA + (k - 1) * 2, none⟩ = some (.string (txt p.n)) := fun q => cell_to (gr_cell gW p0) q
                  replace gW := Lib.hid gW
                  clear hW1 a0 a1 p0
                  refine wp_region_quiet_gr (by kernel_rfl) (by kernel_rfl) ?_
                  repeat (go_big_quiet_step ((go_at_call 120; exact calls_gr (hnm.out _))))
                  refine wpQuiet_nil ?_
                  intro _ hw'
                  obtain ⟨⟨wP, gP⟩, hw''⟩ := hw'
                  subst hw''
                  go_wp2
                  go_roundw
                  case rel => exact ⟨k + 1, by omega, by go_num, hnext.out, gr_trans hgr.out (gr_trans gW.out gP)⟩
                  case measure => simp [intOf]; omega
        · have hn0 : isName x.n = false := by simpa using hn1
          rw [hn0] at hnm
          replace hnm := Lib.hid hnm
          have hno := hbad.out (fun q => hn1 q.1)
          replace hno := Lib.hid hno
          clear hok hbad
          go_upto_region 8 with fail
          obtain ⟨W1, hW1⟩ : ∃ W1, W1 = wr.alloc (.cells #[.string (txt x.n), .string (txt x.v)] 58) := ⟨_, rfl⟩
          rw [← hW1]
          have gW : Gr wr W1 := by rw [hW1]; exact gr_alloc _ _ _
          have s0 : ∀ p : Grown W1, p.wd.cell? ⟨wr.heap.size, 0, none⟩ = some (.string (txt x.n)) := fun p => cell_to (by rw [hW1, World.cell?_alloc_new]; rfl) p
          have s1 : ∀ p : Grown W1, p.wd.cell? ⟨wr.heap.size, 1, none⟩ = some (.string (txt x.v)) := fun p => cell_to (by rw [hW1, World.cell?_alloc_new]; rfl) p
          replace gW := Lib.hid gW
          clear hW1 a0 a1
          refine wp_region_quiet_gr (by kernel_rfl) (by kernel_rfl) ?_
          repeat (go_big_quiet_step ((go_at_call 120; exact calls_gr (hnm.out _))))
          refine wpQuiet_nil ?_
          intro _ hw'
          obtain ⟨⟨wP, gP⟩, hw''⟩ := hw'
          subst hw''
          go_wp2
          go_ret2
          exact ⟨.inr ⟨rfl, hno.out⟩, gr_trans g2.out (gr_trans hgr.out (gr_trans gW.out gP))⟩
      · obtain rfl : k = n := by omega
        have hfin := okTo_end hs.out (by rw [hl1.out]; exact hok.out)
        have htd : okTidy zs := ⟨by rw [hl.out]; exact h8, fun x hx => hfin.1 x (hp.out.mem_iff.2 hx), z1, hp.out, hfin.2⟩
        replace htd := Lib.hid htd
        replace hfin := Lib.hid hfin
        clear hok
        go_wp2
        go_ret2
        exact ⟨.inl ⟨_, z1, rfl, hp.out, hfin.out.2, htd.out, ho.out.kept hgr.out (Classical.em _)⟩, gr_trans g2.out hgr.out⟩
  · have h8i : (8 : Int) < (n : Int) := by omega
    have hnt : ¬ okTidy zs := fun k => by have := k.1; omega
    replace hnt := Lib.hid hnt
    clear hz hA
    go_enter Tryz.func116, Tryz.ntmps116
    go_wp2
    go_ret2
    exact ⟨.inr ⟨rfl, hnt.out⟩, gr_refl _ _⟩
theorem okLbs_iff {zs z1 : List Lb} (hp : z1.Perm zs) (hr : Rising z1) (ht : okTidy zs) : okLbs zs ↔ z1 = zs := by
  constructor
  · rintro ⟨_, _, h3⟩
    exact srt_unique hp (rising_srt hr) (rising_srt h3)
  · rintro rfl
    exact ⟨ht.1, ht.2.1, hr⟩
theorem okLbs_tidy {zs : List Lb} (h : okLbs zs) : okTidy zs := ⟨h.1, h.2.1, zs, List.Perm.refl _, h.2.2⟩
set_option maxHeartbeats 4000000 in
set_option maxRecDepth 100000 in
theorem lright_any (A : Option Addr) (n c : Nat) (zs : List Lb) (w : World) (hn : n ≤ 1000000000) (hA : A = none → n = 0 ∧ c = 0) (hz : Row w A n 2 (sR lblC zs)) (hsh : ShortL zs) :
    Calls Tryz.prog 83 #[.slice A n c] w fun e w' => e = .returned (.bool (decide (okLbs zs))) ∧ Gr w w' := by
  have htd := tidy_any A n c zs w hn hA hz hsh
  replace htd := Lib.hid htd
  replace hz := Lib.hid hz
  clear hsh
  obtain ⟨R, hR⟩ : ∃ R, R = decide (okLbs zs) := ⟨_, rfl⟩
  rw [← hR]
  replace hR := Lib.hid hR
  go_enter Tryz.func83, Tryz.ntmps83
  go_wp2_with fail
  refine htd.out.mono ?_
  rintro e w1 ⟨⟨v, z1, rfl, hp, hr, hok, ho⟩ | ⟨rfl, hno⟩, g1⟩
  · obtain ⟨A1, c1, rfl, hc1, hc2⟩ := own_openS ho
    have hsm := lsame_any A1 A n n c1 c z1 zs w1 hn hn (row_own ho) (row_gr hz.out g1)
    have hb : decide (z1 = zs) = R := by rw [hR.out]; exact decide_eq_decide.2 (okLbs_iff hp hr hok).symm
    rw [hb] at hsm
    replace hsm := Lib.hid hsm
    replace g1 := Lib.hid g1
    clear hb hp hr hok ho
    go_wp2_with fail
    refine hsm.out.mono ?_
    rintro e w3 ⟨rfl, g3⟩
    go_wp2
    go_ret
    exact ⟨rfl, gr_trans g1.out g3⟩
  · have hb : R = false := by rw [hR.out]; exact decide_eq_false (fun k => hno (okLbs_tidy k))
    replace hb := Lib.hid hb
    clear hno
    go_wp2
    go_ret
    exact ⟨by rw [hb.out]; rfl, g1⟩
end Go.Proofs.YtccmekdmnkmhlaaGreat
