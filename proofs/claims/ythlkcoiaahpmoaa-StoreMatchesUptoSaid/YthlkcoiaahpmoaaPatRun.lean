/-
  What a pattern's begin, on, Whole and Begins answer. No condition but that the pattern lies in memory as Compile lays it.
-/
import Derived.Test.YthlkcoiaahpmoaaPatReach
namespace Go.Proofs.Ythlkcoiaahpmoaa
open Go.RowKit
variable {lo : Nat}

theorem infoBool : (Try.prog.info? 4).map (fun i => (i.zero, i.size, i.bytes)) = some (some (.bool false), 1, 1) := by kernel_rfl
def MarkPost (zs : List (Stp × Lst)) (first : Nat) (u : List Int) (w : World) (e : Ending) (w' : World) : Prop :=
  ∃ (I cap : Nat) (bs : List Bool), e = .returned (.slice (some ⟨I, 0, none⟩) zs.length cap) ∧ w.heap.size ≤ I ∧ BoolAt w' I bs ∧ bs.length = zs.length ∧ Gr w w' ∧ ∀ q : Nat, bs[q]? = some true ↔ Path (zs.map (·.1)) first u q
/-- A row of marks, newly made: none is set. -/
theorem made_bools {w w' : World} {n : Nat} (_hn : 0 < n) (h : w'.ownsRow w.heap.size 4 1 (.slice (some ⟨w.heap.size, 0, none⟩) n n) n (madeCells (Value.bool false).cells (n * 1)).toList) : BoolAt w' w.heap.size (List.replicate n false) := by
  have e : (madeCells (Value.bool false).cells (n * 1)).toList = List.replicate n (.bool false) := by
    rw [Nat.mul_one]
    exact toList_madeCells_one (.bool false) n
  rw [e] at h
  rcases h.2 with ⟨hv, _⟩ | ⟨g, cap, cur, hv, _, hg, _, _, hcs, htake⟩
  · cases hv
  · injection hv with h1 h2 h3
    have h4 := Option.some.inj h1
    injection h4 with h5
    subst h5 h3
    have hall : cur.toList = List.replicate n (.bool false) := by
      rw [← htake, List.take_of_length_le]
      rw [Array.length_toList, hcs]
      exact Nat.le_refl _
    unfold BoolAt
    rw [hg]
    congr 2
    rw [List.map_replicate, ← hall]
set_option maxHeartbeats 4000000 in
set_option maxRecDepth 100000 in
theorem begin_any (p : Nat) (text : ByteArray) (zs : List (Stp × Lst)) (A : Option Addr) (c first : Nat) (x : T) (hm : Mach (zs.map (·.1)) first x) (hzl : zs.length ≤ 1000) (w : World) (h : BldAt lo w p text zs A c (first : Int)) :
    Calls Try.prog 64 #[.pointer (some ⟨p, 0, none⟩)] w (MarkPost zs first [] w) := by
  obtain ⟨ii, hi, hz0, hz1, hz2⟩ := info_parts infoBool
  have k1 : w.cell? ⟨p, 1, none⟩ = some (.slice A zs.length c) := blk_cell h.pb rfl
  have hp := lt_of_blk h.pb
  have hz : 0 < zs.length := by have := mach_in hm; rw [List.length_map] at this; omega
  have hR := fun I cap hpI => reach_any (lo := lo) p text zs A c first x hm hzl I cap hpI
  have hrf : Rch (zs.map (·.1)) first first := ⟨[], path_refl _ _⟩
  obtain ⟨n, hn⟩ : ∃ n, n = zs.length := ⟨_, rfl⟩
  unfold MarkPost
  rw [← hn] at k1 hz hzl ⊢
  replace hR := Lib.hid hR
  replace h := Lib.hid h
  replace hm := Lib.hid hm
  replace hrf := Lib.hid hrf
  replace hn := Lib.hid hn
  go_enter Try.func64, Try.ntmps64
  go_wp2_with (at_make; refine wpList_make_full _ rfl _ _ 112 rfl w.heap.size 4 ii (.bool false) 1 Try.underlying112 hi hz0 hz1 .i64 .i64 n n n rfl rfl rfl rfl ?b2 ?b3 (Nat.le_refl _) ?_; rotate_right; intro W1 hown1 hg1; have hb1 := made_bools hz hown1; have h1 := bld_gr h.out hg1; have k2 : W1.cell? ⟨p, 2, none⟩ = some (.int .i64 first) := blk_cell h1.pb rfl; replace hown1 := Lib.hid hown1; replace hb1 := Lib.hid hb1; replace h1 := Lib.hid h1; replace hg1 := Lib.hid hg1)
  case b2 => first | omega | (rw [hz2]; omega)
  case b3 => unfold maxLen; omega
  have hc := hR.out w.heap.size n hp (left (List.replicate n false)) (List.replicate n false) (first : Int) W1 (Nat.le_refl _) h1.out hb1.out (by rw [List.length_replicate]; exact hn.out) (fun a e => by
    have : first = a := by omega
    subst this
    exact hrf.out)
  rw [← hn.out] at hc
  replace hc := Lib.hid hc
  refine hc.out.mono ?_
  rintro e W2 ⟨rfl, bs, hb2, g2, r2⟩
  have hfin : ∀ q : Nat, bs[q]? = some true ↔ Path (zs.map (·.1)) first [] q := fun q => by
    rw [reach_iff (shut_none _ _) r2]
    constructor
    · rintro (h | ⟨a, e, k⟩)
      · exact absurd h rep_no
      · have : first = a := by omega
        subst this
        exact k
    · exact fun k => .inr ⟨first, rfl, k⟩
  have hlen : bs.length = n := by rw [r2.len, List.length_replicate]
  have gg : Gr w W2 := gr_out hg1.out g2 (Nat.le_refl _)
  replace hfin := Lib.hid hfin
  replace hb2 := Lib.hid hb2
  replace r2 := Lib.hid r2
  replace g2 := Lib.hid g2
  replace hlen := Lib.hid hlen
  go_wp2
  go_ret
  exact ⟨w.heap.size, n, bs, rfl, Nat.le_refl _, hb2.out, hlen.out, gg, hfin.out⟩
/-- What 'on' has marked when it has looked at k places. -/
def OnIs (F : List Stp) (r : Int) (bs1 : List Bool) (k : Nat) (bs2 : List Bool) : Prop := ∀ q : Nat, bs2[q]? = some true ↔ ∃ (j : Nat) (s : Stp) (m : Nat), j < k ∧ bs1[j]? = some true ∧ F[j]? = some s ∧ s.rune = true ∧ s.s.has r = true ∧ s.a = (m : Int) ∧ Path F m [] q
theorem on_skip {F : List Stp} {r : Int} {bs1 bs2 : List Bool} {k : Nat} (h : OnIs F r bs1 k bs2) (hno : ∀ s, bs1[k]? = some true → F[k]? = some s → s.rune = true → s.s.has r = true → False) : OnIs F r bs1 (k + 1) bs2 := fun q => by
  rw [h q]
  constructor
  · rintro ⟨j, s, m, hj, h1⟩
    exact ⟨j, s, m, by omega, h1⟩
  · rintro ⟨j, s, m, hj, h1, h2, h3, h4, h5⟩
    rcases Nat.lt_or_ge j k with hjk | hjk
    · exact ⟨j, s, m, hjk, h1, h2, h3, h4, h5⟩
    · obtain rfl : j = k := by omega
      exact (hno s h1 h2 h3 h4).elim
theorem on_hit {F : List Stp} {r : Int} {bs1 bs2 bs3 : List Bool} {k : Nat} {s : Stp} (h : OnIs F r bs1 k bs2) (h1 : bs1[k]? = some true) (h2 : F[k]? = some s) (h3 : s.rune = true) (h4 : s.s.has r = true) (hs : Shut F bs2) (hr : ReachS F bs2 bs3 s.a) : OnIs F r bs1 (k + 1) bs3 := fun q => by
  rw [reach_iff hs hr, h q]
  constructor
  · rintro (⟨j, s', m, hj, k1⟩ | ⟨a, e, k1⟩)
    · exact ⟨j, s', m, by omega, k1⟩
    · exact ⟨k, s, a, by omega, h1, h2, h3, h4, e, k1⟩
  · rintro ⟨j, s', m, hj, k1, k2, k3, k4, k5, k6⟩
    rcases Nat.lt_or_ge j k with hjk | hjk
    · exact .inl ⟨j, s', m, hjk, k1, k2, k3, k4, k5, k6⟩
    · obtain rfl : j = k := by omega
      rw [h2] at k2
      obtain rfl := Option.some.inj k2
      exact .inr ⟨m, k5, k6⟩
theorem on_path {F : List Stp} {first : Nat} {u : List Int} {r : Int} {bs1 bs2 : List Bool} {n : Nat} (h : OnIs F r bs1 n bs2) (hn : bs1.length = n) (h1 : ∀ q : Nat, bs1[q]? = some true ↔ Path F first u q) (q : Nat) : bs2[q]? = some true ↔ Path F first (u ++ [r]) q := by
  rw [h q, path_snoc]
  constructor
  · rintro ⟨j, s, m, hj, k1, k2, k3, k4, k5, k6⟩
    exact ⟨j, s, m, (h1 j).1 k1, k2, k3, k4, k5, k6⟩
  · rintro ⟨j, s, m, k1, k2⟩
    have k3 := (h1 j).2 k1
    exact ⟨j, s, m, by have := (List.getElem?_eq_some_iff.1 k3).1; omega, k3, k2⟩
set_option maxHeartbeats 8000000 in
set_option maxRecDepth 100000 in
theorem on_any (p : Nat) (text : ByteArray) (zs : List (Stp × Lst)) (A : Option Addr) (c first : Nat) (x : T) (hm : Mach (zs.map (·.1)) first x) (hzl : zs.length ≤ 1000) (u : List Int) (r : Int) (I1 cap1 : Nat) (bs1 : List Bool) (w : World) (h : BldAt lo w p text zs A c (first : Int)) (hb1 : BoolAt w I1 bs1) (hbl : bs1.length = zs.length) (hset : ∀ q : Nat, bs1[q]? = some true ↔ Path (zs.map (·.1)) first u q) :
    Calls Try.prog 65 #[.pointer (some ⟨p, 0, none⟩), .slice (some ⟨I1, 0, none⟩) zs.length cap1, .int .i32 r] w (MarkPost zs first (u ++ [r]) w) := by
  obtain ⟨ii, hi, hz0, hz1, hz2⟩ := info_parts infoBool
  have k1 : w.cell? ⟨p, 1, none⟩ = some (.slice A zs.length c) := blk_cell h.pb rfl
  have hp := lt_of_blk h.pb
  have hI1 : I1 < w.heap.size := lt_of_blk hb1
  have hz : 0 < zs.length := by have := mach_in hm; rw [List.length_map] at this; omega
  have hR := reach_any (lo := lo) p text zs A c first x hm hzl w.heap.size
  obtain ⟨n, hn⟩ : ∃ n, n = zs.length := ⟨_, rfl⟩
  unfold MarkPost
  rw [← hn] at k1 hz hzl hbl hR ⊢
  replace hR := Lib.hid hR
  replace h := Lib.hid h
  replace hm := Lib.hid hm
  replace hb1 := Lib.hid hb1
  replace hn := Lib.hid hn
  replace hset := Lib.hid hset
  replace hbl := Lib.hid hbl
  go_enter Try.func65, Try.ntmps65
  go_wp2_with (at_make; refine wpList_make_full _ rfl _ _ 112 rfl w.heap.size 4 ii (.bool false) 1 Try.underlying112 hi hz0 hz1 .i64 .i64 n n n rfl rfl rfl rfl ?b2 ?b3 (Nat.le_refl _) ?_; rotate_right; intro W1 hown1 hg1; have hb2 := made_bools hz hown1; have h1 := bld_gr h.out hg1; have hbI := gr_blk hg1 hb1.out (by simp); replace hown1 := Lib.hid hown1; replace hb2 := Lib.hid hb2; replace h1 := Lib.hid h1; replace hg1 := Lib.hid hg1; replace hbI := Lib.hid hbI)
  case b2 => first | omega | (rw [hz2]; omega)
  case b3 => unfold maxLen; omega
  go_loopw [19] (fun kv wr => ∃ (k : Nat) (bs2 : List Bool), k ≤ n ∧ kv = .int .i64 k ∧ Hid (BoolAt wr w.heap.size bs2) ∧ Hid (bs2.length = n) ∧ Hid (W1.grownBy wr (some w.heap.size)) ∧ Hid (Shut (zs.map (·.1)) bs2) ∧ Hid (OnIs (zs.map (·.1)) r bs1 k bs2)) (fun k _ => n - (intOf k).toNat)
  case atStart => exact ⟨0, _, Nat.zero_le _, rfl, hb2, Lib.hid (List.length_replicate), Lib.hid (gr_refl _ _), Lib.hid (shut_none _ _), Lib.hid (fun q => ⟨fun h => absurd h rep_no, fun ⟨j, _, _, hj, _⟩ => by omega⟩)⟩
  case round =>
    obtain ⟨k, bs2, hk, rfl, hm2, hl2, hg, hsh, hon⟩ := hrel
    have hw := bld_mark h1.out hb2.out hp hg.out
    have hbw : BoolAt wr I1 bs1 := gr_blk hg.out hbI.out (fun e => by have := Option.some.inj e; omega)
    by_cases hlt : k < n
    · obtain ⟨b, hbk⟩ : ∃ b, bs1[k]? = some b := ⟨_, List.getElem?_eq_getElem (by rw [hbl.out]; exact hlt)⟩
      obtain ⟨z, hzk⟩ : ∃ z, zs[k]? = some z := ⟨_, List.getElem?_eq_getElem (by rw [← hn.out]; exact hlt)⟩
      have hzF : (zs.map (·.1))[k]? = some z.1 := by rw [List.getElem?_map, hzk]; rfl
      have kb := bool_cell hbw hbk
      obtain ⟨g, rfl, s0, s1, s2, s3, s4, s5⟩ := step_cells hw hzk
      have kp : wr.cell? ⟨p, 1, none⟩ = some (.slice (some ⟨g, 0, none⟩) n c) := by rw [hn.out]; exact blk_cell hw.pb rfl
      obtain ⟨hzn, hzr, _, hzi⟩ := hw.it z (List.mem_of_getElem? hzk)
      have hzr0 := hzr
      rw [hzn] at s2 hzr
      have hki : (k : Int) < (n : Int) := by omega
      have hk0 : (0 : Int) ≤ (k : Int) := by omega
      obtain ⟨W2, hW2⟩ : ∃ W2, W2 = wr.alloc (.cells #[.bool z.1.s.all, .bool z.1.s.neg, .slice z.2.A z.1.s.items.length z.2.c, .bool z.1.rune, .int .i64 z.1.a, .int .i64 z.1.b] 127) := ⟨_, rfl⟩
      have g2 : Gr wr W2 := by rw [hW2]; exact gr_alloc _ _ _
      have hS : W2.heap[wr.heap.size]? = some (.cells #[.bool z.1.s.all, .bool z.1.s.neg, .slice z.2.A z.1.s.items.length z.2.c, .bool z.1.rune, .int .i64 z.1.a, .int .i64 z.1.b] 127 (0, 0)) := by rw [hW2]; exact blk_new _ _
      have q0 : W2.cell? ⟨wr.heap.size, 0, none⟩ = some (.bool z.1.s.all) := blk_cell hS rfl
      have q1 : W2.cell? ⟨wr.heap.size, 1, none⟩ = some (.bool z.1.s.neg) := blk_cell hS rfl
      have q2 : W2.cell? ⟨wr.heap.size, 2, none⟩ = some (.slice z.2.A z.1.s.items.length z.2.c) := blk_cell hS rfl
      have q3 : W2.cell? ⟨wr.heap.size, 3, none⟩ = some (.bool z.1.rune) := blk_cell hS rfl
      have hskip : ∀ W', Gr wr W' → (∀ s, bs1[k]? = some true → (zs.map (·.1))[k]? = some s → s.rune = true → s.s.has r = true → False) → Hid (BoolAt W' w.heap.size bs2) ∧ Hid (W1.grownBy W' (some w.heap.size)) ∧ Hid (OnIs (zs.map (·.1)) r bs1 (k + 1) bs2) := fun W' gW hno => ⟨Lib.hid (gr_blk gW hm2.out (by simp)), Lib.hid (gr_trans hg.out (gr_more _ gW)), Lib.hid (on_skip hon.out hno)⟩
      have hmono : ∀ a b : Nat, n - (a + 1) < n - a ↔ a < n := fun a b => by omega
      replace hskip := Lib.hid hskip
      replace hw := Lib.hid hw
      replace hbw := Lib.hid hbw
      replace hzr := Lib.hid hzr
      replace hzr0 := Lib.hid hzr0
      replace hzn := Lib.hid hzn
      replace hS := Lib.hid hS
      replace g2 := Lib.hid g2
      clear hmono
      cases b with
      | false =>
        have hk2 := hskip.out W2 g2.out (fun s e => by rw [hbk] at e; cases e)
        replace hbk := Lib.hid hbk
        replace hzk := Lib.hid hzk
        replace hzF := Lib.hid hzF
        replace hk2 := Lib.hid hk2
        clear hskip q0 q1 q2 q3
        have hS2 := hzn.out
        rw [← hzn.out] at hW2 s2
        replace hzn := Lib.hid hzn.out
        clear hS2
        go_upto_region 6 with fail
        rw [← hW2]
        replace hW2 := Lib.hid hW2
        go_wp2
        go_roundw
        case rel => exact ⟨k + 1, bs2, by omega, by go_num, hk2.out.1, hl2, hk2.out.2.1, hsh, hk2.out.2.2⟩
        case measure => simp [intOf]; omega
      | true =>
        cases hru : z.1.rune with
        | false =>
          have hk2 := hskip.out W2 g2.out (fun s _ e h3 _ => by
            rw [hzF] at e
            obtain rfl := Option.some.inj e
            rw [hru] at h3
            cases h3)
          rw [hru] at hW2 s3 q3
          replace hru := Lib.hid hru
          replace hbk := Lib.hid hbk
          replace hzk := Lib.hid hzk
          replace hzF := Lib.hid hzF
          replace hk2 := Lib.hid hk2
          clear hskip
          go_upto_region 6 with fail
          rw [← hW2]
          replace hW2 := Lib.hid hW2
          go_wp2
          go_roundw
          case rel => exact ⟨k + 1, bs2, by omega, by go_num, hk2.out.1, hl2, hk2.out.2.1, hsh, hk2.out.2.2⟩
          case measure => simp [intOf]; omega
        | true =>
          have hhas := has_any z.1.s z.2.A z.2.c r W2 (row_gr hzr.out g2.out) hzi
          rw [hru] at hW2 s3 q3
          cases hh : z.1.s.has r with
          | false =>
            rw [hh] at hhas
            have hk2 := fun W' gW => hskip.out W' gW (fun s _ e _ h4 => by
              rw [hzF] at e
              obtain rfl := Option.some.inj e
              rw [hh] at h4
              cases h4)
            replace hru := Lib.hid hru
            replace hbk := Lib.hid hbk
            replace hzk := Lib.hid hzk
            replace hzF := Lib.hid hzF
            replace hk2 := Lib.hid hk2
            replace hhas := Lib.hid hhas
            replace hh := Lib.hid hh
            clear hskip
            go_upto_region 6 with fail
            rw [← hW2]
            replace hW2 := Lib.hid hW2
            go_wp2_with fail
            refine hhas.out.mono ?_
            rintro e W3 ⟨rfl, g3⟩
            have hk3 := hk2.out W3 (gr_trans g2.out g3)
            replace hk3 := Lib.hid hk3
            go_wp2
            go_roundw
            case rel => exact ⟨k + 1, bs2, by omega, by go_num, hk3.out.1, hl2, hk3.out.2.1, hsh, hk3.out.2.2⟩
            case measure => simp [intOf]; omega
          | true =>
            rw [hh] at hhas
            have hrk : ∀ a : Nat, z.1.a = (a : Int) → Rch (zs.map (·.1)) first a := fun a e => ⟨u ++ [r], path_trans ((hset.out k).1 hbk) (path_rune hzF hru hh e (path_refl _ _))⟩
            have hhit := fun bs3 hr3 => on_hit (bs3 := bs3) hon.out hbk hzF hru hh hsh.out hr3
            replace hhit := Lib.hid hhit
            replace hrk := Lib.hid hrk
            replace hru := Lib.hid hru
            replace hbk := Lib.hid hbk
            replace hzk := Lib.hid hzk
            replace hzF := Lib.hid hzF
            replace hhas := Lib.hid hhas
            replace hh := Lib.hid hh
            clear hskip
            go_upto_region 6 with fail
            rw [← hW2]
            replace hW2 := Lib.hid hW2
            go_wp2_with fail
            refine hhas.out.mono ?_
            rintro e W3 ⟨rfl, g3⟩
            have g13 := gr_trans g2.out g3
            have h3 := bld_gr hw.out g13
            have hm3 : BoolAt W3 w.heap.size bs2 := gr_blk g13 hm2.out (by simp)
            have q4 : W3.cell? ⟨wr.heap.size, 4, none⟩ = some (.int .i64 z.1.a) := blk_cell (gr_blk g3 hS.out (by simp)) rfl
            have hc := hR.out n hp (left bs2) bs2 z.1.a W3 (Nat.le_refl _) h3 hm3 hl2.out hrk.out
            replace hc := Lib.hid hc
            replace h3 := Lib.hid h3
            replace hm3 := Lib.hid hm3
            replace g3 := Lib.hid g3
            replace g13 := Lib.hid g13
            go_wp2_with fail
            refine hc.out.mono ?_
            rintro e W4 ⟨rfl, bs3, hm4, g4, r4⟩
            have hon4 := hhit.out bs3 r4
            have hsh4 := reach_shut hsh.out r4
            have hl4 : bs3.length = n := by rw [r4.len]; exact hl2.out
            have hg4 : W1.grownBy W4 (some w.heap.size) := gr_trans hg.out (gr_trans (gr_more _ g13.out) g4)
            replace hon4 := Lib.hid hon4
            replace hsh4 := Lib.hid hsh4
            replace hl4 := Lib.hid hl4
            replace hg4 := Lib.hid hg4
            replace hm4 := Lib.hid hm4
            replace g4 := Lib.hid g4
            replace r4 := Lib.hid r4
            go_wp2
            go_roundw
            case rel => exact ⟨k + 1, bs3, by omega, by go_num, hm4, hl4, hg4, hsh4, hon4⟩
            case measure => simp [intOf]; omega
    · obtain rfl : k = n := by omega
      have hfin := on_path hon.out hbl.out hset.out
      have gg : Gr w wr := gr_out hg1.out hg.out (Nat.le_refl _)
      replace hfin := Lib.hid hfin
      replace hw := Lib.hid hw
      replace hbw := Lib.hid hbw
      go_wp2
      go_ret
      exact ⟨w.heap.size, k, bs2, rfl, Nat.le_refl _, hm2.out, hl2.out, gg, hfin.out⟩
end Go.Proofs.Ythlkcoiaahpmoaa
