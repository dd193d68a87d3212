/-
  build, of alternatives, and of every tree. No condition but that it has few parts.
-/
import Derived.Test.YthlkcoiaahpmoaaPatBuild3
namespace Go.Proofs.Ythlkcoiaahpmoaa
open Go.RowKit
variable {lo : Nat}

set_option maxRecDepth 100000 in
theorem fld_any1 (A : Option Addr) (n c : Nat) (W : World) : (Instr.field 135 (.agg #[.slice A n c]) 0).run Try.prog W = .ok (.slice A n c) W := by
  first
    | kernel_rfl
    | rfl
    | simp [Instr.field, Sem.run_bind, run_underlying Try.underlying135, Result.andThen, go_sem]
set_option maxHeartbeats 8000000 in
set_option maxRecDepth 100000 in
theorem build_alt (p : Nat) (text : ByteArray) (first : Int) (vA : Option Addr) (vc m : Nat) (vs : List Value) (x0 : T) (xs : List T) (hm : vs.length = m + 1) (ih : ∀ (i : Nat) v x, vs[i]? = some v → (x0 :: xs)[i]? = some x → BldC lo p text first v x)
    (zs : List (Stp × Lst)) (A : Option Addr) (c : Nat) (th : Nat) (w : World) (h : BldAt lo w p text zs A c first)
    (hr : Row w vA (m + 1) 1 vs) (hP : ∀ B o, vA = some ⟨B, o, none⟩ → vs ≠ [] → lo ≤ B ∧ B < p) (hl : m = xs.length) (hvc : m + 1 ≤ vc) (hx : ∀ (i : Nat) v x, vs[i]? = some v → (x0 :: xs)[i]? = some x → Tv (fun k => lo ≤ k ∧ k < p) w v x) (hsz : zs.length + (tsize x0 + 1 + tsum xs) ≤ 100000) :
    Calls Try.prog 75 #[.pointer (some ⟨p, 0, none⟩), .iface 135 (.agg #[.slice vA (m + 1) vc]), .int .i64 th] w (BldPost lo p text first zs th (xs.foldl .altS (.alt1 x0)) w) := by
  have hp := lt_of_blk h.pb
  have hxl := tsum_len xs
  obtain ⟨W0, hW0⟩ : ∃ W0, W0 = ((w.alloc Z1).alloc Z2).alloc Z3 := ⟨_, rfl⟩
  have g0 : Gr w W0 := by rw [hW0]; exact gr_trans (gr_trans (gr_alloc _ _ _) (gr_alloc _ _ _)) (gr_alloc _ _ _)
  have f0 : BFr p w W0 := bfr_gr (Nat.le_of_lt hp) g0
  have h0 := bld_gr h g0
  have t1 := ta_any1' (.agg #[.slice vA (m + 1) vc])
  have t2 := ta_any2 (.agg #[.slice vA (m + 1) vc])
  have t3 := ta_any3 (.agg #[.slice vA (m + 1) vc])
  have t4 := ta_any4 (.agg #[.slice vA (m + 1) vc])
  have t5 := fld_any1 vA (m + 1) vc
  have hnb : m ≤ 100000 := by omega
  obtain ⟨v0, hv0⟩ : ∃ v, vs[0]? = some v := ⟨_, List.getElem?_eq_getElem (by omega)⟩
  have hr0 := row_same (P := fun k => k < p) hr f0.size f0.low (fun B o e ne => (hP B o e ne).2)
  obtain ⟨B, o, rfl, hB, hc0⟩ := hr0.2 0 v0 hv0
  rw [Nat.add_zero] at hc0
  have hB0 := ih 0 v0 x0 hv0 rfl zs A c th W0 h0 (tv_same f0.size (fun k hk => f0.low k hk.2) (hx 0 v0 x0 hv0 rfl)) (by omega)
  have hm0 : (0 : Int) < (m : Int) + 1 := by omega
  have hm1 : (1 : Int) ≤ (m : Int) + 1 := by omega
  have hvc1 : (1 : Int) ≤ (vc : Int) := by omega
  have hvc2 : (m : Int) + 1 ≤ (vc : Int) := by omega
  replace hm := Lib.hid hm
  replace hl := Lib.hid hl
  replace h := Lib.hid h
  replace h0 := Lib.hid h0
  replace f0 := Lib.hid f0
  replace g0 := Lib.hid g0
  replace hr := Lib.hid hr
  replace hr0 := Lib.hid hr0
  replace hP := Lib.hid hP
  replace hx := Lib.hid hx
  replace ih := Lib.hid ih
  replace hB0 := Lib.hid hB0
  replace hv0 := Lib.hid hv0
  go_enter Try.func75, Try.ntmps75
  go_upto_region 15 with fail
  rw [← hW0]
  replace hW0 := Lib.hid hW0
  go_wp2_with fail
  refine hB0.out.mono ?_
  rintro e W1 ⟨a0, zs1, A1, c1, rfl, h1, f1, hl1, hs1, hpre1, hfr1⟩
  replace h1 := Lib.hid h1
  replace f1 := Lib.hid f1
  replace hpre1 := Lib.hid hpre1
  replace hfr1 := Lib.hid hfr1
  clear t1 t2 t3 t4
  go_wp2
  all_goals
    go_loopw [15, 79] (fun av kv wr => ∃ (k at' : Nat) (zs' : List (Stp × Lst)) (A' : Option Addr) (c' : Nat), k ≤ m ∧ kv = .int .i64 k ∧ av = .int .i64 at' ∧ Hid (BldAt lo wr p text zs' A' c' first) ∧ Hid (BFr p W0 wr) ∧ zs.length ≤ zs'.length ∧ zs'.length ≤ zs.length + (tsize x0 + 1 + tsum (xs.take k)) ∧ Hid (∀ i, i < zs.length → zs'[i]? = zs[i]?) ∧ Hid (Frag (zs'.map (·.1)) zs.length zs'.length ((xs.take k).foldl .altS (.alt1 x0)) at' th)) (fun _ k _ => m - (intOf k).toNat)
    case atStart => exact ⟨0, a0, zs1, A1, c1, Nat.zero_le _, rfl, rfl, h1, f1, hl1, by omega, hpre1, hfr1⟩
    case round =>
      obtain ⟨k, at', zs', A', c', hk, rfl, rfl, h2, f2, hl2, hs2, hpre2, hfr2⟩ := hrel
      by_cases hlt : k < m
      · have hki : (k : Int) < (m : Int) := by omega
        have hk0 : (0 : Int) ≤ (k : Int) := by omega
        try (exfalso; omega)
        all_goals
          obtain ⟨v, hv⟩ : ∃ v, vs[k + 1]? = some v := ⟨_, List.getElem?_eq_getElem (by rw [hm.out]; omega)⟩
          obtain ⟨x, hxk⟩ : ∃ x, xs[k]? = some x := ⟨_, List.getElem?_eq_getElem (by rw [← hl.out]; exact hlt)⟩
          have hxk1 : (x0 :: xs)[k + 1]? = some x := by simpa using hxk
          have hrw := row_same (P := fun k => k < p) hr.out (Nat.le_trans f0.out.size f2.out.size) (fun q hq => (f2.out.low q hq).trans (f0.out.low q hq)) (fun B o e ne => (hP.out B o e ne).2)
          obtain ⟨B', o', e', hB', hc⟩ := hrw.2 (k + 1) v hv
          have e2 := Option.some.inj e'
          injection e2 with e3 e4
          subst e3 e4
          have hc2 : wr.cell? ⟨B, o + 1 + k, none⟩ = some v := by rw [show o + 1 + k = o + (k + 1) by omega]; exact hc
          have htv := tv_same (Nat.le_trans f0.out.size f2.out.size) (fun q hq => (f2.out.low q hq.2).trans (f0.out.low q hq.2)) (hx.out (k + 1) v x hv hxk1)
          have hts := tsum_take hxk
          have htl := tsum_take_le xs (k + 1)
          have hBk := ih.out (k + 1) v x hv hxk1 zs' A' c' th wr h2.out htv (by omega)
          have hd : xs.take (k + 1) = xs.take k ++ [x] := by
            obtain ⟨q1, q2⟩ := List.getElem?_eq_some_iff.1 hxk
            rw [List.take_succ_eq_append_getElem q1, q2]
          replace hBk := Lib.hid hBk
          replace hv := Lib.hid hv
          replace hxk := Lib.hid hxk
          replace hxk1 := Lib.hid hxk1
          replace hd := Lib.hid hd
          replace hrw := Lib.hid hrw
          replace htv := Lib.hid htv
          replace hts := Lib.hid hts
          clear hc e'
          go_wp2_with fail
          refine hBk.out.mono ?_
          rintro e w2 ⟨b, zs3, A3, c3, rfl, h3, f3, hl3, hs3, hpre3, hfr3⟩
          have hts2 := hts.out
          have hadd := add_any p text zs3 A3 c3 first (⟨⟨false, false, []⟩, false, (at' : Int), (b : Int)⟩, ⟨none, 0, 0⟩) w2 (by omega) h3 (none_it _ _ _ _ _)
          unfold aggV at hadd
          simp only at hadd
          replace hadd := Lib.hid hadd
          replace h3 := Lib.hid h3
          replace f3 := Lib.hid f3
          replace hpre3 := Lib.hid hpre3
          replace hfr3 := Lib.hid hfr3
          go_wp2_with fail
          refine hadd.out.mono ?_
          rintro e w3 ⟨rfl, A4, c4, h4, f4⟩
          go_wp2
          go_roundw
          case rel => exact ⟨k + 1, zs3.length, _, A4, c4, by omega, by go_num, rfl, Lib.hid h4, Lib.hid (bfr_trans f2.out (bfr_trans f3.out f4)), by simp; omega, by rw [hts2]; simp; omega, Lib.hid (fun i hi => by rw [snoc_get i (by omega), hpre3.out i (by omega)]; exact hpre2.out i hi), Lib.hid (by
            rw [hd.out, List.foldl_append]
            refine ⟨by omega, by simp, at', b, _, snoc_last _ _, frag_mono (Nat.le_refl _) (by simp; omega) (fun i _ hi => map_get ((snoc_get i (by omega)).trans (hpre3.out i hi))) _ _ _ hfr2.out, frag_mono hl2 (by simp) (fun i _ hi => map_get (snoc_get i hi)) _ _ _ hfr3.out⟩)⟩
          case measure => simp [intOf]; omega
      · obtain rfl : k = m := by omega
        have e0 : xs.take k = xs := List.take_of_length_le (by rw [← hl.out]; exact Nat.le_refl _)
        have hfr := hfr2.out
        rw [e0] at hfr hs2
        have hs3 : zs'.length ≤ zs.length + tsize (xs.foldl .altS (.alt1 x0)) := by rw [tsize_alt]; simp only [tsize]; omega
        replace hfr := Lib.hid hfr
        replace e0 := Lib.hid e0
        go_wp2
        go_ret
        exact ⟨at', zs', A', c', rfl, h2.out, bfr_trans f0.out f2.out, hl2, hs3, hpre2.out, hfr.out⟩
theorem tsize_pos (x : T) : 1 ≤ tsize x := by cases x <;> simp [tsize] <;> omega
/-- build, of every tree. -/
theorem build_any (p : Nat) (text : ByteArray) (first : Int) : ∀ (n : Nat) (x : T) (v : Value), tsize x ≤ n → BldC lo p text first v x := by
  intro n
  induction n with
  | zero => intro x v hn; have := tsize_pos x; omega
  | succ n ih =>
    intro x v hn zs A c th w h ht hsz
    cases ht with
    | one hr hP hni => exact build_one p text first _ _ _ zs A c th w h hr hP hni (by simp only [tsize] at hsz; omega)
    | @row A' c' vs xs hr hP hl hc hx =>
      rw [tsize_row] at hn hsz
      simp only [tsize] at hn hsz
      exact build_row p text first A' c' vs xs (fun i v x hv hx' => ih x v (by have := tsum_mem hx'; omega)) zs A c th w h hr hP hl hx (by omega)
    | @alt A' c' vs x0 xs hr hP hl hc hx =>
      rw [tsize_alt] at hn hsz
      simp only [tsize] at hn hsz
      rw [hl] at hr hc ⊢
      refine build_alt p text first A' c' xs.length vs x0 xs hl (fun i v x hv hx' => ih x v ?_) zs A c th w h hr hP rfl hc hx (by omega)
      cases i with
      | zero =>
        obtain rfl : x0 = x := by simpa using hx'
        omega
      | succ i =>
        have := tsum_mem (xs := xs) (k := i) (by simpa using hx')
        omega
    | @rep v x nn ag hv =>
      obtain ⟨vt, vu, rfl⟩ := tv_one hv
      simp only [tsize] at hn hsz
      exact build_rep p text first vt vu x nn ag (ih x _ (by omega)) zs A c th w h hv (by omega)
end Go.Proofs.Ythlkcoiaahpmoaa
