/-
  The document's pattern: one part more, the rune that comes. No condition but bounds.
-/
import Derived.Test.YtccmekdmnkmhlaaGreatSqRefPatA
import Derived.Deep.CutBlock
import Derived.Deep.RegionLaw
namespace Go.Proofs.YtccmekdmnkmhlaaGreat
open Go.RowKit

theorem infoPart : (Tryz.prog.info? 194).map (fun i => (i.zero, i.size, i.bytes)) = some (some (.agg #[.int .i64 0, .int .i32 0, .slice none 0 0, .slice none 0 0, .bool false, .int .i64 0, .int .i64 0, .int .i64 0, .bool false]), 9, 104) := by kernel_rfl
section
variable {X : Nat} {pA : Option Addr} {pc : Nat} {L : Rs}
theorem nine_new (w : World) (z : Prt) (e : TypeId) : ∀ j u, (prtC z)[j]? = some u → (w.alloc (.cells (prtC z).toArray e)).cell? ((⟨w.heap.size, 0, none⟩ : Addr).add j) = some u := by
  intro j u hj
  rw [add_plain, Nat.zero_add, World.cell?_alloc_new]
  simpa using hj
theorem rpush {w W2 W3 : World} {ps : List Prt} {A : Option Addr} {n c i g cap : Nat} {bad : Bool} {z : Prt} (hn : ps.length = n) (hg : Gr w W2) (h : PtAt X pA pc L W2 ps (.slice A n c) i bad)
    (hown : W3.ownsRow (X + 1) 194 9 (.slice (some ⟨g, 0, none⟩) (n + 1) cap) (n + 1) (sR prtC ps ++ prtC z)) (hat : ((Value.slice A n c).ownBlock = some g ∧ W2.grownBy W3 (some g)) ∨ (g = W2.heap.size ∧ Gr W2 W3)) :
    W3.heap[X]? = some (.cells #[.slice A n c, .int .i64 0, .slice pA L.length pc, .int .i64 i, .bool bad] 170 (0, 0)) ∧
    PtAt X pA pc L (W3.setCell ⟨X, 0, none⟩ (.slice (some ⟨g, 0, none⟩) (n + 1) cap)) (ps ++ [z]) (.slice (some ⟨g, 0, none⟩) (n + 1) cap) i bad ∧ Adv X (.slice A n c) (.slice (some ⟨g, 0, none⟩) (n + 1) cap) w (W3.setCell ⟨X, 0, none⟩ (.slice (some ⟨g, 0, none⟩) (n + 1) cap)) := by
  subst hn
  have hXW := rp_lt h
  have hgX : X + 1 ≤ g := (hown.lt g rfl).1
  have g3 : W3.grownBy (W3.setCell ⟨X, 0, none⟩ (.slice (some ⟨g, 0, none⟩) (ps.length + 1) cap)) (some X) := gr_set W3 ⟨X, 0, none⟩ _
  have hX3 : W3.heap[X]? = some (.cells #[.slice A ps.length c, .int .i64 0, .slice pA L.length pc, .int .i64 i, .bool bad] 170 (0, 0)) := by
    rcases hat with ⟨e, g1⟩ | ⟨_, g1⟩
    · exact gr_blk g1 h.blk (fun e2 => by have := Option.some.inj e2; omega)
    · exact gr_blk g1 h.blk (by simp)
  have hr3 : Row W3 pA L.length 1 (L.map (.int .i32)) := by
    rcases hat with ⟨e, g1⟩ | ⟨_, g1⟩
    · exact row_keep h.row g1 (fun a ha e2 => by have := h.low a ha; have := Option.some.inj e2; omega)
    · exact row_gr h.row g1
  have hl : (ps ++ [z]).length = ps.length + 1 := by simp
  refine ⟨hX3, ⟨blk_set hX3 0 _, row_keep hr3 g3 (fun a ha e2 => by have := h.low a ha; have := Option.some.inj e2; omega), h.low, ?_, h.ok⟩, ?_, fun k hk hlt => ?_⟩
  · rw [hl, sR_append, sR_one]
    exact hown.kept g3 (.inr fun e => by have : g = X := Option.some.inj e; omega)
  · have a1 : GrS (fun k => k = X ∨ (Value.slice A ps.length c).ownBlock = some k) w W3 := by
      rcases hat with ⟨e, g1⟩ | ⟨_, g1⟩
      · exact grs_then (grs_gr _ hg) g1 (fun k hk _ => .inr (by rw [e, ← hk]))
      · exact grs_gr _ (gr_trans hg g1)
    exact grs_then a1 g3 (fun k hk _ => .inl (Option.some.inj hk).symm)
  · have hkg : g = k := Option.some.inj hk
    subst hkg
    rcases hat with ⟨e, _⟩ | ⟨e, _⟩
    · exact e
    · have := hg.size
      omega
end
set_option maxHeartbeats 4000000 in
set_option maxRecDepth 100000 in
theorem radd_any (X : Nat) (pA : Option Addr) (pc : Nat) (L : Rs) (ps : List Prt) (v : Value) (i : Nat) (bad : Bool) (z : Prt) (w : World) (hn : ps.length ≤ 100000000) (h : PtAt X pA pc L w ps v i bad) :
    Calls Tryz.prog 139 #[.pointer (some ⟨X, 0, none⟩), prtV z] w fun e w' => e = .returned (.int .i64 ps.length) ∧ ∃ v', PtAt X pA pc L w' (ps ++ [z]) v' i bad ∧ Adv X v v' w w' := by
  obtain ⟨ii, hi, hz0, hz1, hz2⟩ := info_parts infoPart
  obtain ⟨A, c, rfl, -, -⟩ := own_openS h.own
  have hp := rp_lt h
  obtain ⟨n, hnn⟩ : ∃ n, n = ps.length := ⟨_, rfl⟩
  rw [← hnn] at h hn ⊢
  obtain ⟨W0, hW0⟩ : ∃ W0, W0 = w.alloc (.cells (prtC z).toArray 194) := ⟨_, rfl⟩
  have hb0 : W0.heap[w.heap.size]? = some (.cells (prtC z).toArray 194 (0, 0)) := by rw [hW0]; exact blk_new _ _
  have g0 : Gr w W0 := by rw [hW0]; exact gr_alloc _ _ _
  have h1 := rp_gr (rp_gr h g0) (gr_drew W0 none)
  have h2 := rp_gr h1 (gr_alloc W0.drew (.cells (prtC z).toArray 194) none)
  have hb1 := gr_blk (gr_drew W0 none) hb0 (by simp)
  have s0 : w.heap.size < W0.heap.size := lt_of_blk hb0
  have six := nine_new W0.drew z 194
  have hsz : (prtC z).length = 9 := rfl
  have hones := prt_ones z
  have hsc : (prtC z).toArray = #[.int .i64 z.k, .int .i32 z.r, .slice z.lA z.ln z.lc, .slice z.hA z.hn z.hc, .bool z.no, .int .i64 z.a, .int .i64 z.b, .int .i64 z.least, .bool z.once] := rfl
  have kp1 : W0.drew.cell? ⟨X, 0, none⟩ = some (.slice A n c) := blk_cell h1.blk rfl
  have kp2 : (W0.drew.alloc (.cells (prtC z).toArray 194)).cell? ⟨X, 0, none⟩ = some (.slice A n c) := blk_cell h2.blk rfl
  have kp3 : (W0.alloc (.cells (prtC z).toArray 194)).cell? ⟨X, 0, none⟩ = some (.slice A n c) := blk_cell (rp_gr (rp_gr h g0) (gr_alloc W0 (.cells (prtC z).toArray 194) none)).blk rfl
  have ks1 : ∀ (j : Nat) u, (prtC z)[j]? = some u → W0.drew.cell? ⟨w.heap.size, j, none⟩ = some u := fun j u hj => blk_cell hb1 (by simpa using hj)
  have ka := ks1 0 _ rfl
  have kb := ks1 1 _ rfl
  have kc := ks1 2 _ rfl
  have kd := ks1 3 _ rfl
  have ke := ks1 4 _ rfl
  have kf := ks1 5 _ rfl
  have kg := ks1 6 _ rfl
  have kh := ks1 7 _ rfl
  have ki := ks1 8 _ rfl
  have hgw : Gr w (W0.drew.alloc (.cells (prtC z).toArray 194)) := gr_trans (gr_trans g0 (gr_drew _ _)) (gr_alloc _ _ _)
  have hbase : X + 1 ≤ (W0.drew.alloc (.cells (prtC z).toArray 194)).heap.size := Nat.lt_of_lt_of_le hp hgw.size
  rw [hsc] at hW0 kp2 kp3 h2 hgw hbase
  replace six := Lib.hid six
  replace h1 := Lib.hid h1
  replace h2 := Lib.hid h2
  replace hb1 := Lib.hid hb1
  replace hb0 := Lib.hid hb0
  replace g0 := Lib.hid g0
  replace h := Lib.hid h
  replace hones := Lib.hid hones
  replace hsz := Lib.hid hsz
  replace hgw := Lib.hid hgw
  replace hbase := Lib.hid hbase
  replace hnn := Lib.hid hnn
  replace s0 := Lib.hid s0
  replace hp := Lib.hid hp
  clear ks1 hsc
  unfold prtV
  go_enter Tryz.func139, Tryz.ntmps139
  go_wp2_with fail
  rw [← hW0]
  replace hW0 := Lib.hid hW0
  go_region_law (first
    | (refine step_append_strong (o := ⟨some 12, _, _, _, _, _⟩) (by rfl) _ _ 168 (by rfl) (X + 1) 194 ii (.agg #[.int .i64 0, .int .i32 0, .slice none 0 0, .slice none 0 0, .bool false, .int .i64 0, .int .i64 0, .int .i64 0, .bool false]) 9 104 Tryz.underlying168 hi hz0 hz1 hz2 (by decide) (by decide) (.slice A n c) n (sR prtC ps) (by rfl) (by have ho := h2.out.own; rwa [← hnn.out] at ho) ⟨W0.heap.size, 0, none⟩ 1 1 (prtC z) (by rfl) (by rfl) six.out hones.out (by omega) (n + 1) (by rfl) (by unfold maxLen; omega) (by omega) hbase.out ?_
       intro g cap W3 hown3 hat3
       have hpush := rpush (z := z) hnn.out.symm hgw.out h2.out hown3 hat3
       have k3 : W3.cell? ⟨X, 0, none⟩ = some (.slice A n c) := blk_cell hpush.1 rfl
       have f3 : W3.frozen? ⟨X, 0, none⟩ = false := blk_free hpush.1 0
       replace hpush := Lib.hid hpush
       replace hown3 := Lib.hid hown3
       replace hat3 := Lib.hid hat3))
  all_goals
    obtain ⟨W4, hW4⟩ : ∃ W4, W4 = W3.setCell ⟨X, 0, none⟩ (.slice (some ⟨g, 0, none⟩) (n + 1) cap) := ⟨_, rfl⟩
    have hp4 := hpush.out
    rw [← hW4] at hp4
    have k4 : W4.cell? ⟨X, 0, none⟩ = some (.slice (some ⟨g, 0, none⟩) (n + 1) cap) := blk_cell hp4.2.1.blk rfl
    replace hp4 := Lib.hid hp4
    rw [← hW4]
    replace hW4 := Lib.hid hW4
    go_wp2
    go_ret
    exact ⟨by first | rfl | (congr 2; omega), _, hp4.out.2.1, hp4.out.2.2⟩
/-- The place is set. -/
theorem rp_iz {X : Nat} {pA : Option Addr} {pc : Nat} {L : Rs} {w : World} {ps : List Prt} {v : Value} {i : Nat} {bad : Bool} (h : PtAt X pA pc L w ps v i bad) (j : Nat) (z : Int) (hz : z = (j : Int)) : PtAt X pA pc L (w.setCell ⟨X, 3, none⟩ (.int .i64 z)) ps v j bad ∧ GrB X w (w.setCell ⟨X, 3, none⟩ (.int .i64 z)) := by
  subst hz
  exact rp_i h j
/-- What the place is, for the loops. -/
def rpMeas (X : Nat) (w : World) : Nat := match w.cell? ⟨X, 3, none⟩ with | some (.int _ z) => z.toNat | _ => 0
theorem rp_meas {X : Nat} {pA : Option Addr} {pc : Nat} {L : Rs} {w : World} {ps : List Prt} {v : Value} {i : Nat} {bad : Bool} (h : PtAt X pA pc L w ps v i bad) : rpMeas X w = i := by
  unfold rpMeas
  rw [(rp_cells h).2.2.1]
  simp
set_option maxHeartbeats 1000000 in
theorem rnext_any (X : Nat) (pA : Option Addr) (pc : Nat) (L : Rs) (ps : List Prt) (v : Value) (i : Nat) (bad : Bool) (w : World) (h : PtAt X pA pc L w ps v i bad) (hL : L.length ≤ 100000000) :
    Calls Tryz.prog 138 #[.pointer (some ⟨X, 0, none⟩)] w fun e w' => e = .returned (.int .i32 (nxR (L.drop i))) ∧ Gr w w' := by
  obtain ⟨k0, k2, k3, k4, f0, f3, f4⟩ := rp_cells h
  obtain ⟨n, hn⟩ : ∃ n, n = L.length := ⟨_, rfl⟩
  by_cases hi : i < L.length
  · obtain ⟨x, B, o, hx, rfl, hc⟩ := row_elem h.row hi
    have hd : nxR (L.drop i) = x := by
      obtain ⟨h1, h2⟩ := List.getElem?_eq_some_iff.1 hx
      rw [List.drop_eq_getElem_cons h1, h2]
      rfl
    rw [hd]
    have hL2 := hL
    clear hL
    rw [← hn] at hi hL2 k2
    have hlt : (i : Int) < (n : Int) := by omega
    have h0 : (0 : Int) ≤ (i : Int) := by omega
    clear hd hx f0 f3 f4 k0 k4
    replace h := Lib.hid h
    replace hn := Lib.hid hn
    go_enter Tryz.func138, Tryz.ntmps138
    go_wp2
    go_quiet (fail)
    have k3 := gr_cell (gr_drewN w nq none) k3
    have k2 := gr_cell (gr_drewN w nq none) k2
    have hc := gr_cell (gr_drewN w nq none) hc
    go_wp2
    go_quiet (fail)
    go_wp2
    go_ret
    exact ⟨rfl, gr_trans (gr_drewN _ _ _) (gr_drewN _ _ _)⟩
  · have hd : nxR (L.drop i) = -1 := by rw [List.drop_eq_nil_of_le (by omega)]; rfl
    rw [hd]
    have hL2 := hL
    clear hL
    rw [← hn] at hi hL2 k2
    have hlt : ((i : Int) < (n : Int)) = False := eq_false (by omega)
    clear hd f0 f3 f4 k0 k4
    replace h := Lib.hid h
    replace hn := Lib.hid hn
    go_enter Tryz.func138, Tryz.ntmps138
    go_wp2
    go_quiet (fail)
    go_wp2
    go_ret
    exact ⟨rfl, gr_drewN _ _ _⟩
end Go.Proofs.YtccmekdmnkmhlaaGreat
