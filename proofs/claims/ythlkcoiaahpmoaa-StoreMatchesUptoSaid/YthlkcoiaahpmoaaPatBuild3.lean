/-
  What build makes of a pattern's tree: a part of the machine that takes just what the tree means. No condition but that it has few parts.
-/
import Derived.Test.YthlkcoiaahpmoaaPatBuild2
namespace Go.Proofs.Ythlkcoiaahpmoaa
open Go.RowKit
variable {lo : Nat}

theorem ta_one (u : Value) (W : World) : (Instr.typeAssert (.iface 137 u) 20 137 true).run Try.prog W = .ok (.tuple #[u, .bool true]) W := by
  simp [Instr.typeAssert, Sem.run_bind, run_underlying Try.underlying137, Result.andThen]
theorem ta_row1 (u : Value) (W : World) : (Instr.typeAssert (.iface 139 u) 20 137 true).run Try.prog W = .ok (.tuple #[.agg #[.bool false, .bool false, .slice none 0 0], .bool false]) W := by
  simp [Instr.typeAssert, Sem.run_bind, run_underlying Try.underlying137, Try.zeroValue137, Result.andThen]
theorem ta_row2 (u : Value) (W : World) : (Instr.typeAssert (.iface 139 u) 20 139 true).run Try.prog W = .ok (.tuple #[u, .bool true]) W := by
  simp [Instr.typeAssert, Sem.run_bind, run_underlying Try.underlying139, Result.andThen]
theorem ta_rep1 (u : Value) (W : World) : (Instr.typeAssert (.iface 142 u) 20 137 true).run Try.prog W = .ok (.tuple #[.agg #[.bool false, .bool false, .slice none 0 0], .bool false]) W := by
  simp [Instr.typeAssert, Sem.run_bind, run_underlying Try.underlying137, Try.zeroValue137, Result.andThen]
theorem ta_rep2 (u : Value) (W : World) : (Instr.typeAssert (.iface 142 u) 20 139 true).run Try.prog W = .ok (.tuple #[.agg #[.slice none 0 0], .bool false]) W := by
  simp [Instr.typeAssert, Sem.run_bind, run_underlying Try.underlying139, Try.zeroValue139, Result.andThen]
theorem ta_rep3 (u : Value) (W : World) : (Instr.typeAssert (.iface 142 u) 20 142 true).run Try.prog W = .ok (.tuple #[u, .bool true]) W := by
  simp [Instr.typeAssert, Sem.run_bind, run_underlying Try.underlying142, Result.andThen]
theorem ta_any1' (u : Value) (W : World) : (Instr.typeAssert (.iface 135 u) 20 137 true).run Try.prog W = .ok (.tuple #[.agg #[.bool false, .bool false, .slice none 0 0], .bool false]) W := by
  simp [Instr.typeAssert, Sem.run_bind, run_underlying Try.underlying137, Try.zeroValue137, Result.andThen]
theorem ta_any2 (u : Value) (W : World) : (Instr.typeAssert (.iface 135 u) 20 139 true).run Try.prog W = .ok (.tuple #[.agg #[.slice none 0 0], .bool false]) W := by
  simp [Instr.typeAssert, Sem.run_bind, run_underlying Try.underlying139, Try.zeroValue139, Result.andThen]
theorem ta_any3 (u : Value) (W : World) : (Instr.typeAssert (.iface 135 u) 20 142 true).run Try.prog W = .ok (.tuple #[.agg #[.nilIface, .bool false, .bool false], .bool false]) W := by
  simp [Instr.typeAssert, Sem.run_bind, run_underlying Try.underlying142, Try.zeroValue142, Result.andThen]
theorem ta_any4 (u : Value) (W : World) : (Instr.typeAssert (.iface 135 u) 20 135 false).run Try.prog W = .ok u W := by
  simp [Instr.typeAssert, Sem.run_bind, run_underlying Try.underlying135, Result.andThen]
abbrev Z1 : Obj := .cells #[.bool false, .bool false, .slice none 0 0] 137
abbrev Z2 : Obj := .cells #[.slice none 0 0] 139
abbrev Z3 : Obj := .cells #[.nilIface, .bool false, .bool false] 142
set_option maxHeartbeats 4000000 in
set_option maxRecDepth 100000 in
theorem build_one (p : Nat) (text : ByteArray) (first : Int) (s : PSet) (iA : Option Addr) (iC : Nat) (zs : List (Stp × Lst)) (A : Option Addr) (c : Nat) (th : Nat) (w : World) (h : BldAt lo w p text zs A c first)
    (hr : Row w iA s.items.length 2 (ics s.items)) (hP : ∀ B o, iA = some ⟨B, o, none⟩ → s.items ≠ [] → lo ≤ B ∧ B < p) (hni : s.items.length ≤ 1000000) (hsz : zs.length + 1 ≤ 100000) :
    Calls Try.prog 75 #[.pointer (some ⟨p, 0, none⟩), .iface 137 (setV s iA s.items.length iC), .int .i64 th] w (BldPost lo p text first zs th (.one s) w) := by
  have hp := lt_of_blk h.pb
  obtain ⟨W0, hW0⟩ : ∃ W0, W0 = w.alloc (.cells #[.bool s.all, .bool s.neg, .slice iA s.items.length iC] 137) := ⟨_, rfl⟩
  have g0 : Gr w W0 := by rw [hW0]; exact gr_alloc _ _ _
  have hb0 : W0.heap[w.heap.size]? = some (.cells #[.bool s.all, .bool s.neg, .slice iA s.items.length iC] 137 (0, 0)) := by rw [hW0]; exact blk_new _ _
  have f0 : BFr p w W0 := bfr_gr (Nat.le_of_lt hp) g0
  have h0 := bld_gr h g0
  have hadd := add_any p text zs A c first (⟨s, true, (th : Int), 0⟩, ⟨iA, s.items.length, iC⟩) W0 (by omega) h0 (it_same ⟨rfl, hr, hP, hni⟩ f0.size f0.low)
  unfold aggV at hadd
  simp only at hadd
  have k0 : W0.cell? ⟨w.heap.size, 0, none⟩ = some (.bool s.all) := blk_cell hb0 rfl
  have k1 : W0.cell? ⟨w.heap.size, 1, none⟩ = some (.bool s.neg) := blk_cell hb0 rfl
  have k2 : W0.cell? ⟨w.heap.size, 2, none⟩ = some (.slice iA s.items.length iC) := blk_cell hb0 rfl
  have ta := ta_one (.agg #[.bool s.all, .bool s.neg, .slice iA s.items.length iC])
  replace hadd := Lib.hid hadd
  replace h := Lib.hid h
  replace h0 := Lib.hid h0
  replace f0 := Lib.hid f0
  replace g0 := Lib.hid g0
  replace hb0 := Lib.hid hb0
  unfold setV
  go_enter Try.func75, Try.ntmps75
  go_upto_region 2 with fail
  rw [← hW0]
  replace hW0 := Lib.hid hW0
  go_wp2_with fail
  refine hadd.out.mono ?_
  rintro e w2 ⟨rfl, A2, c2, h2, f2⟩
  go_wp2
  go_ret
  refine ⟨zs.length, _, A2, c2, rfl, h2, bfr_trans f0.out f2, by simp, by simp [tsize], snoc_get, ?_⟩
  exact ⟨Nat.le_refl _, by simp, 0, snoc_last _ _⟩
set_option maxHeartbeats 4000000 in
set_option maxRecDepth 100000 in
theorem build_rep (p : Nat) (text : ByteArray) (first : Int) (vt : TypeId) (vu : Value) (x : T) (nn ag : Bool) (ih : BldC lo p text first (.iface vt vu) x)
    (zs : List (Stp × Lst)) (A : Option Addr) (c : Nat) (th : Nat) (w : World) (h : BldAt lo w p text zs A c first) (ht : Tv (fun k => lo ≤ k ∧ k < p) w (.iface vt vu) x) (hsz : zs.length + tsize x + 2 ≤ 100000) :
    Calls Try.prog 75 #[.pointer (some ⟨p, 0, none⟩), .iface 142 (.agg #[.iface vt vu, .bool nn, .bool ag]), .int .i64 th] w (BldPost lo p text first zs th (.rep x nn ag) w) := by
  have hp := lt_of_blk h.pb
  obtain ⟨W0, hW0⟩ : ∃ W0, W0 = ((w.alloc Z1).alloc Z2).alloc (.cells #[.iface vt vu, .bool nn, .bool ag] 142) := ⟨_, rfl⟩
  have g0 : Gr w W0 := by rw [hW0]; exact gr_trans (gr_trans (gr_alloc _ _ _) (gr_alloc _ _ _)) (gr_alloc _ _ _)
  have hb0 : W0.heap[w.heap.size + 1 + 1]? = some (.cells #[.iface vt vu, .bool nn, .bool ag] 142 (0, 0)) := by
    rw [hW0]
    have := blk_new ((w.alloc Z1).alloc Z2) (.cells #[.iface vt vu, .bool nn, .bool ag] 142)
    have e : ((w.alloc Z1).alloc Z2).heap.size = w.heap.size + 1 + 1 := by simp
    rw [e] at this
    exact this
  have f0 : BFr p w W0 := bfr_gr (Nat.le_of_lt hp) g0
  have h0 := bld_gr h g0
  have hag := again_any p text first vt vu x nn ag ih zs A c th W0 h0 (tv_same f0.size (fun k hk => f0.low k hk.2) ht) hsz
  have k0 : W0.cell? ⟨w.heap.size + 1 + 1, 0, none⟩ = some (.iface vt vu) := blk_cell hb0 rfl
  have k1 : W0.cell? ⟨w.heap.size + 1 + 1, 1, none⟩ = some (.bool nn) := blk_cell hb0 rfl
  have k2 : W0.cell? ⟨w.heap.size + 1 + 1, 2, none⟩ = some (.bool ag) := blk_cell hb0 rfl
  have t1 := ta_rep1 (.agg #[.iface vt vu, .bool nn, .bool ag])
  have t2 := ta_rep2 (.agg #[.iface vt vu, .bool nn, .bool ag])
  have t3 := ta_rep3 (.agg #[.iface vt vu, .bool nn, .bool ag])
  replace hag := Lib.hid hag
  replace h := Lib.hid h
  replace h0 := Lib.hid h0
  replace f0 := Lib.hid f0
  replace g0 := Lib.hid g0
  replace hb0 := Lib.hid hb0
  replace ht := Lib.hid ht
  replace ih := Lib.hid ih
  go_enter Try.func75, Try.ntmps75
  go_upto_region 13 with fail
  rw [← hW0]
  replace hW0 := Lib.hid hW0
  go_wp2_with fail
  refine hag.out.mono ?_
  rintro e w2 ⟨a, zs2, A2, c2, rfl, h2, f2, hl2, hs2, hpre2, hfr2⟩
  go_wp2
  go_ret
  exact ⟨a, zs2, A2, c2, rfl, h2, bfr_trans f0.out f2, hl2, hs2, hpre2, hfr2⟩
theorem tsum_len (xs : List T) : xs.length ≤ tsum xs := by
  induction xs with
  | nil => simp
  | cons x xs ih => rw [tsum_cons, List.length_cons]; omega
set_option maxHeartbeats 8000000 in
set_option maxRecDepth 100000 in
theorem build_row (p : Nat) (text : ByteArray) (first : Int) (vA : Option Addr) (vc : Nat) (vs : List Value) (xs : List T) (ih : ∀ (i : Nat) v x, vs[i]? = some v → xs[i]? = some x → BldC lo p text first v x)
    (zs : List (Stp × Lst)) (A : Option Addr) (c : Nat) (th : Nat) (w : World) (h : BldAt lo w p text zs A c first)
    (hr : Row w vA vs.length 1 vs) (hP : ∀ B o, vA = some ⟨B, o, none⟩ → vs ≠ [] → lo ≤ B ∧ B < p) (hl : vs.length = xs.length) (hx : ∀ (i : Nat) v x, vs[i]? = some v → xs[i]? = some x → Tv (fun k => lo ≤ k ∧ k < p) w v x) (hsz : zs.length + tsum xs + 1 ≤ 100000) :
    Calls Try.prog 75 #[.pointer (some ⟨p, 0, none⟩), .iface 139 (.agg #[.slice vA vs.length vc]), .int .i64 th] w (BldPost lo p text first zs th (xs.foldl .rowS .row0) w) := by
  have hp := lt_of_blk h.pb
  have hxl := tsum_len xs
  obtain ⟨W0, hW0⟩ : ∃ W0, W0 = (w.alloc Z1).alloc (.cells #[.slice vA vs.length vc] 139) := ⟨_, rfl⟩
  have g0 : Gr w W0 := by rw [hW0]; exact gr_trans (gr_alloc _ _ _) (gr_alloc _ _ _)
  have hb0 : W0.heap[w.heap.size + 1]? = some (.cells #[.slice vA vs.length vc] 139 (0, 0)) := by
    rw [hW0]
    have := blk_new (w.alloc Z1) (.cells #[.slice vA vs.length vc] 139)
    have e : (w.alloc Z1).heap.size = w.heap.size + 1 := by simp
    rw [e] at this
    exact this
  have f0 : BFr p w W0 := bfr_gr (Nat.le_of_lt hp) g0
  have h0 := bld_gr h g0
  have k0 : W0.cell? ⟨w.heap.size + 1, 0, none⟩ = some (.slice vA vs.length vc) := blk_cell hb0 rfl
  have t1 := ta_row1 (.agg #[.slice vA vs.length vc])
  have t2 := ta_row2 (.agg #[.slice vA vs.length vc])
  obtain ⟨n, hn⟩ : ∃ n, n = vs.length := ⟨_, rfl⟩
  rw [← hn] at hW0 hb0 k0 t1 t2 hr hl ⊢
  have hnb : n ≤ 100000 := by omega
  replace hn := Lib.hid hn
  replace hl := Lib.hid hl
  replace h := Lib.hid h
  replace h0 := Lib.hid h0
  replace f0 := Lib.hid f0
  replace g0 := Lib.hid g0
  replace hb0 := Lib.hid hb0
  replace hr := Lib.hid hr
  replace hP := Lib.hid hP
  replace hx := Lib.hid hx
  replace ih := Lib.hid ih
  go_enter Try.func75, Try.ntmps75
  go_upto_region 5 with fail
  rw [← hW0]
  replace hW0 := Lib.hid hW0
  go_wp2
  go_loopw [2, 39] (fun tv kv wr => ∃ (k th' : Nat) (zs' : List (Stp × Lst)) (A' : Option Addr) (c' : Nat), k ≤ n ∧ kv = .int .i64 k ∧ tv = .int .i64 th' ∧ Hid (BldAt lo wr p text zs' A' c' first) ∧ Hid (BFr p W0 wr) ∧ zs.length ≤ zs'.length ∧ zs'.length ≤ zs.length + tsum (xs.drop (n - k)) ∧ Hid (∀ i, i < zs.length → zs'[i]? = zs[i]?) ∧ Hid (FragL (zs'.map (·.1)) zs.length zs'.length (xs.drop (n - k)) th' th)) (fun _ k _ => n - (intOf k).toNat)
  case atStart =>
    have e : xs.drop n = [] := List.drop_of_length_le (by rw [hl.out]; exact Nat.le_refl _)
    exact ⟨0, th, zs, A, c, Nat.zero_le _, rfl, rfl, h0, Lib.hid (bfr_refl _ _), Nat.le_refl _, by omega, Lib.hid (fun _ _ => rfl), Lib.hid (by rw [Nat.sub_zero, e]; rfl)⟩
  case round =>
    obtain ⟨k, th', zs', A', c', hk, rfl, rfl, h1, f1, hl1, hs1, hpre, hfl⟩ := hrel
    have hb1 := f1.out.typed _ _ _ _ hb0.out (by decide) (by omega)
    have kK : wr.cell? ⟨w.heap.size + 1, 0, none⟩ = some (.slice vA n vc) := blk_cell hb1 rfl
    by_cases hlt : k < n
    · obtain ⟨j, hj⟩ : ∃ j, j = n - 1 - k := ⟨_, rfl⟩
      have hjn : j < n := by omega
      have hki : (k : Int) < (n : Int) := by omega
      have hji : (n : Int) - 1 - (k : Int) = (j : Int) := by omega
      have hji0 : (0 : Int) ≤ (j : Int) := by omega
      have hji1 : (j : Int) < (n : Int) := by omega
      obtain ⟨v, hv⟩ : ∃ v, vs[j]? = some v := ⟨_, List.getElem?_eq_getElem (by rw [← hn.out]; exact hjn)⟩
      obtain ⟨x, hxj⟩ : ∃ x, xs[j]? = some x := ⟨_, List.getElem?_eq_getElem (by rw [← hl.out]; exact hjn)⟩
      have hrw := row_same (P := fun k => k < p) hr.out (Nat.le_trans f0.out.size f1.out.size) (fun q hq => (f1.out.low q hq).trans (f0.out.low q hq)) (fun B o e ne => (hP.out B o e ne).2)
      obtain ⟨B, o, rfl, hB, hc⟩ := hrw.2 j v hv
      have htv := tv_same (Nat.le_trans f0.out.size f1.out.size) (fun q hq => (f1.out.low q hq.2).trans (f0.out.low q hq.2)) (hx.out j v x hv hxj)
      have hts := tsum_drop hxj
      have e1 : j + 1 = n - k := by omega
      rw [e1] at hts
      have htl := tsum_drop_le xs j
      have hB := ih.out j v x hv hxj zs' A' c' th' wr h1.out htv (by omega)
      have hd : xs.drop j = x :: xs.drop (n - k) := by
        obtain ⟨q1, q2⟩ := List.getElem?_eq_some_iff.1 hxj
        rw [List.drop_eq_getElem_cons q1, q2, e1]
      replace hB := Lib.hid hB
      replace hv := Lib.hid hv
      replace hxj := Lib.hid hxj
      replace hd := Lib.hid hd
      replace hj := Lib.hid hj
      replace hrw := Lib.hid hrw
      replace htv := Lib.hid htv
      replace hb1 := Lib.hid hb1
      replace e1 := Lib.hid e1
      replace hts := Lib.hid hts
      go_wp2_with fail
      refine hB.out.mono ?_
      rintro e w2 ⟨a, zs2, A2, c2, rfl, h2, f2, hl2, hs2, hpre2, hfr2⟩
      have e2 : n - (k + 1) = j := by have := hj.out; omega
      have hts2 := hts.out
      go_wp2
      go_roundw
      case rel => exact ⟨k + 1, a, zs2, A2, c2, by omega, by go_num, rfl, Lib.hid h2, Lib.hid (bfr_trans f1.out f2), by omega, by rw [e2]; omega, Lib.hid (fun i hi => (hpre2 i (by omega)).trans (hpre.out i hi)), Lib.hid (by
        rw [e2, hd.out]
        exact ⟨th', frag_mono hl1 (Nat.le_refl _) (fun _ _ _ => rfl) _ _ _ hfr2, fragL_mono (Nat.le_refl _) hl2 (fun i _ hi => map_get (hpre2 i hi)) _ _ _ hfl.out⟩)⟩
      case measure => simp [intOf]; omega
    · obtain rfl : k = n := by omega
      have e0 : xs.drop (k - k) = xs := by rw [Nat.sub_self]; rfl
      have hfr := fragL_row xs .row0 th' th' th rfl (by have := hfl.out; rwa [e0] at this)
      have hs2 : zs'.length ≤ zs.length + tsize (xs.foldl .rowS .row0) := by rw [tsize_row]; rw [e0] at hs1; simp only [tsize]; omega
      replace hfr := Lib.hid hfr
      replace hb1 := Lib.hid hb1
      replace e0 := Lib.hid e0
      go_wp2
      go_ret
      exact ⟨th', zs', A', c', rfl, h1.out, bfr_trans f0.out f1.out, hl1, hs2, hpre.out, hfr.out⟩
end Go.Proofs.Ythlkcoiaahpmoaa
