/-
  What build and again make of a pattern's tree. No condition but that it has few parts.
-/
import Derived.Test.YthlkcoiaahpmoaaPatBuild
namespace Go.Proofs.Ythlkcoiaahpmoaa
open Go.RowKit
variable {lo : Nat}

def BldPost (lo : Nat) (p : Nat) (text : ByteArray) (first : Int) (zs : List (Stp × Lst)) (th : Nat) (x : T) (w : World) (e : Ending) (w' : World) : Prop :=
  ∃ (at' : Nat) (zs' : List (Stp × Lst)) (A' : Option Addr) (c' : Nat), e = .returned (.int .i64 at') ∧ BldAt lo w' p text zs' A' c' first ∧ BFr p w w' ∧ zs.length ≤ zs'.length ∧ zs'.length ≤ zs.length + tsize x ∧ (∀ i, i < zs.length → zs'[i]? = zs[i]?) ∧ Frag (zs'.map (·.1)) zs.length zs'.length x at' th
def BldC (lo : Nat) (p : Nat) (text : ByteArray) (first : Int) (v : Value) (x : T) : Prop :=
  ∀ (zs : List (Stp × Lst)) (A : Option Addr) (c : Nat) (th : Nat) (w : World), BldAt lo w p text zs A c first → Tv (fun k => lo ≤ k ∧ k < p) w v x → zs.length + tsize x ≤ 100000 →
    Calls Try.prog 75 #[.pointer (some ⟨p, 0, none⟩), v, .int .i64 th] w (BldPost lo p text first zs th x w)
theorem map_get {zs zs' : List (Stp × Lst)} {i : Nat} (h : zs'[i]? = zs[i]?) : (zs'.map (·.1))[i]? = (zs.map (·.1))[i]? := by rw [List.getElem?_map, List.getElem?_map, h]
theorem snoc_get {zs : List (Stp × Lst)} {z : Stp × Lst} : ∀ i, i < zs.length → (zs ++ [z])[i]? = zs[i]? := fun _ hi => List.getElem?_append_left hi
theorem snoc_last (zs : List (Stp × Lst)) (z : Stp × Lst) : ((zs ++ [z]).map (·.1))[zs.length]? = some z.1 := by simp
theorem none_it (w : World) (p : Nat) (r : Bool) (a b : Int) : ItOk lo w p (⟨⟨false, false, []⟩, r, a, b⟩, ⟨none, 0, 0⟩) := ⟨rfl, row_zero _ _ _, (fun B o e => by cases e), by simp⟩
/-- A step's next place is set. -/
theorem bld_set {w : World} {p : Nat} {text : ByteArray} {zs : List (Stp × Lst)} {A : Option Addr} {c : Nat} {first : Int} (h : BldAt lo w p text zs A c first) {k : Nat} {z : Stp × Lst} (hk : zs[k]? = some z) (a : Int) :
    ∃ g, A = some ⟨g, 0, none⟩ ∧ w.cell? ⟨g, k * 6 + 4, none⟩ = some (.int .i64 z.1.a) ∧ w.frozen? ⟨g, k * 6 + 4, none⟩ = false ∧ BldAt lo (w.setCell ⟨g, k * 6 + 4, none⟩ (.int .i64 a)) p text (zs.set k ({ z.1 with a := a }, z.2)) A c first ∧ BFr p w (w.setCell ⟨g, k * 6 + 4, none⟩ (.int .i64 a)) := by
  have hkl := (List.getElem?_eq_some_iff.1 hk).1
  obtain ⟨g, cap, hv, hb, hlt⟩ := h.own.form (by omega)
  injection hv with h1 h2 h3
  subst h1 h3
  have hcell : w.cell? ⟨g, k * 6 + 4, none⟩ = some (.int .i64 z.1.a) := by
    rw [h.own.cellAt (k * 6 + 4) (by omega), scs_get hk 4 (by omega)]
    rfl
  obtain ⟨s1, s2⟩ := h.own.stored (k * 6 + 4) (.int .i64 a)
  have hf := h.own.frozenAt (k * 6 + 4)
  have hbf : BFr p w (w.setCell ⟨g, k * 6 + 4, none⟩ (.int .i64 a)) := bfr_step (Nat.le_of_lt (lt_of_blk h.pb)) h.own rfl hb s2
  refine ⟨g, rfl, hcell, hf, ⟨?_, ?_, fun y hy => ?_⟩, hbf⟩
  · rw [List.length_set]
    exact gr_blk s2 h.pb (fun e => by have := Option.some.inj e; omega)
  · rw [List.length_set, ← scs_set hk]
    exact s1
  · obtain ⟨i, hi⟩ := List.mem_iff_getElem?.1 hy
    rw [List.getElem?_set] at hi
    split at hi
    · first
        | (have := Option.some.inj hi
           subst this
           exact it_same (h.it z (List.mem_of_getElem? hk)) hbf.size hbf.low)
        | (split at hi
           · have := Option.some.inj hi
             subst this
             exact it_same (h.it z (List.mem_of_getElem? hk)) hbf.size hbf.low
           · cases hi)
    · exact it_same (h.it y (List.mem_of_getElem? hi)) hbf.size hbf.low
set_option maxHeartbeats 4000000 in
set_option maxRecDepth 100000 in
theorem again_any (p : Nat) (text : ByteArray) (first : Int) (vt : TypeId) (vu : Value) (x : T) (nn ag : Bool) (ih : BldC lo p text first (.iface vt vu) x)
    (zs : List (Stp × Lst)) (A : Option Addr) (c : Nat) (th : Nat) (w : World) (h : BldAt lo w p text zs A c first) (ht : Tv (fun k => lo ≤ k ∧ k < p) w (.iface vt vu) x) (hsz : zs.length + tsize x + 2 ≤ 100000) :
    Calls Try.prog 84 #[.pointer (some ⟨p, 0, none⟩), .agg #[.iface vt vu, .bool nn, .bool ag], .int .i64 th] w (BldPost lo p text first zs th (.rep x nn ag) w) := by
  have hp := lt_of_blk h.pb
  obtain ⟨W0, hW0⟩ : ∃ W0, W0 = w.alloc (.cells #[.iface vt vu, .bool nn, .bool ag] 142) := ⟨_, rfl⟩
  have hb0 : W0.heap[w.heap.size]? = some (.cells #[.iface vt vu, .bool nn, .bool ag] 142 (0, 0)) := by rw [hW0]; exact blk_new _ _
  have g0 : Gr w W0 := by rw [hW0]; exact gr_alloc _ _ _
  have f0 : BFr p w W0 := bfr_gr (Nat.le_of_lt hp) g0
  have h0 := bld_gr h g0
  have t0 := tv_same f0.size (fun k hk => f0.low k hk.2) ht
  have k0 : W0.cell? ⟨w.heap.size, 0, none⟩ = some (.iface vt vu) := blk_cell hb0 rfl
  have k1 : W0.cell? ⟨w.heap.size, 1, none⟩ = some (.bool nn) := blk_cell hb0 rfl
  have k2 : W0.cell? ⟨w.heap.size, 2, none⟩ = some (.bool ag) := blk_cell hb0 rfl
  cases ag with
  | false =>
    have hB := ih zs A c th W0 h0 t0 (by omega)
    replace hB := Lib.hid hB
    replace h := Lib.hid h
    replace h0 := Lib.hid h0
    replace ht := Lib.hid ht
    replace t0 := Lib.hid t0
    replace f0 := Lib.hid f0
    replace g0 := Lib.hid g0
    replace ih := Lib.hid ih
    go_enter Try.func84, Try.ntmps84
    go_upto_region 1 with fail
    rw [← hW0]
    replace hW0 := Lib.hid hW0
    go_wp2_with fail
    refine hB.out.mono ?_
    rintro e w1 ⟨a, zs1, A1, c1, rfl, h1, f1, hl1, hs1, hpre, hfr⟩
    have hadd := add_any p text zs1 A1 c1 first (⟨⟨false, false, []⟩, false, (a : Int), (th : Int)⟩, ⟨none, 0, 0⟩) w1 (by omega) h1 (none_it _ _ _ _ _)
    unfold aggV at hadd
    simp only at hadd
    replace hadd := Lib.hid hadd
    replace h1 := Lib.hid h1
    replace hpre := Lib.hid hpre
    go_wp2_with fail
    refine hadd.out.mono ?_
    rintro e w2 ⟨rfl, A2, c2, h2, f2⟩
    go_wp2
    go_ret
    refine ⟨zs1.length, _, A2, c2, rfl, h2, bfr_trans f0.out (bfr_trans f1 f2), by simp; omega, by simp [tsize]; omega, fun i hi => by rw [snoc_get i (by omega)]; exact hpre.out i hi, ?_⟩
    unfold Frag
    simp only [Bool.false_eq_true, if_false]
    refine ⟨hl1, by simp, a, _, snoc_last _ _, frag_mono (Nat.le_refl _) (by simp) (fun i _ hi => map_get (snoc_get i hi)) _ _ _ hfr⟩
  | true =>
    have hadd := add_any p text zs A c first (⟨⟨false, false, []⟩, false, (th : Int), (th : Int)⟩, ⟨none, 0, 0⟩) W0 (by omega) h0 (none_it _ _ _ _ _)
    unfold aggV at hadd
    simp only at hadd
    replace hadd := Lib.hid hadd
    replace h := Lib.hid h
    replace h0 := Lib.hid h0
    replace ht := Lib.hid ht
    replace t0 := Lib.hid t0
    replace f0 := Lib.hid f0
    replace g0 := Lib.hid g0
    replace ih := Lib.hid ih
    go_enter Try.func84, Try.ntmps84
    go_upto_region 1 with fail
    rw [← hW0]
    replace hW0 := Lib.hid hW0
    go_wp2_with fail
    refine hadd.out.mono ?_
    rintro e w1 ⟨rfl, A1, c1, h1, f1⟩
    have hb1 := f1.typed _ _ _ _ hb0 (by decide) (by omega)
    have t1 := tv_same f1.size (fun k hk => f1.low k hk.2) t0.out
    have hB := ih.out (zs ++ [(⟨⟨false, false, []⟩, false, (th : Int), (th : Int)⟩, ⟨none, 0, 0⟩)]) A1 c1 zs.length w1 h1 t1 (by simp; omega)
    have k01 : w1.cell? ⟨w.heap.size, 0, none⟩ = some (.iface vt vu) := blk_cell hb1 rfl
    replace hB := Lib.hid hB
    replace h1 := Lib.hid h1
    replace t1 := Lib.hid t1
    clear k0 k1 k2
    go_wp2_with fail
    refine hB.out.mono ?_
    rintro e w2 ⟨a, zs2, A2, c2, rfl, h2, f2, hl2, hs2, hpre2, hfr2⟩
    have hlz : (zs ++ [((⟨⟨false, false, []⟩, false, (th : Int), (th : Int)⟩ : Stp), (⟨none, 0, 0⟩ : Lst))]).length = zs.length + 1 := by simp
    rw [hlz] at hl2 hs2 hfr2 hpre2
    have hz2 : zs2[zs.length]? = some ((⟨⟨false, false, []⟩, false, (th : Int), (th : Int)⟩ : Stp), (⟨none, 0, 0⟩ : Lst)) := by rw [hpre2 _ (by omega)]; simp
    obtain ⟨g, rfl, kc, kf, hset, fset⟩ := bld_set h2 hz2 (a : Int)
    have hb2 := f2.typed _ _ _ _ hb1 (by decide) (by omega)
    have hb3 := fset.typed _ _ _ _ hb2 (by decide) (by omega)
    have kp2 : w2.cell? ⟨p, 1, none⟩ = some (.slice (some ⟨g, 0, none⟩) zs2.length c2) := blk_cell h2.pb rfl
    obtain ⟨W3, hW3⟩ : ∃ W3, W3 = w2.setCell ⟨g, zs.length * 6 + 4, none⟩ (.int .i64 (a : Int)) := ⟨_, rfl⟩
    rw [← hW3] at hset fset hb3
    have k13 : W3.cell? ⟨w.heap.size, 1, none⟩ = some (.bool nn) := blk_cell hb3 rfl
    have hnn : (zs.length : Int) < (zs2.length : Int) := by omega
    have hn0 : (0 : Int) ≤ (zs.length : Int) := by omega
    have fin : Frag ((zs2.set zs.length ({ (⟨⟨false, false, []⟩, false, (th : Int), (th : Int)⟩ : Stp) with a := (a : Int) }, ⟨none, 0, 0⟩)).map (·.1)) zs.length zs2.length x a zs.length := frag_mono (by omega) (Nat.le_refl _) (fun i hi _ => map_get (by rw [List.getElem?_set_ne (by omega)])) _ _ _ hfr2
    have hturn : ((zs2.set zs.length ({ (⟨⟨false, false, []⟩, false, (th : Int), (th : Int)⟩ : Stp) with a := (a : Int) }, ⟨none, 0, 0⟩)).map (·.1))[zs.length]? = some (⟨⟨false, false, []⟩, false, (a : Int), (th : Int)⟩ : Stp) := by
      rw [List.getElem?_map, List.getElem?_set_self (by omega)]
      rfl
    have hpre3 : ∀ i, i < zs.length → (zs2.set zs.length ({ (⟨⟨false, false, []⟩, false, (th : Int), (th : Int)⟩ : Stp) with a := (a : Int) }, (⟨none, 0, 0⟩ : Lst)))[i]? = zs[i]? := fun i hi => by
      rw [List.getElem?_set_ne (by omega), hpre2 i (by omega), snoc_get i hi]
    have hpost : ∀ at' : Nat, at' = (if nn then zs.length else a) → BldPost lo p text first zs th (.rep x nn true) w (.returned (.int .i64 at')) W3 := fun at' hat => by
      refine ⟨at', _, _, c2, rfl, hset, bfr_trans f0.out (bfr_trans f1 (bfr_trans f2 fset)), by simp; omega, by simp [tsize]; omega, hpre3, ?_⟩
      unfold Frag
      simp only [if_true]
      refine ⟨zs.length, a, _, Nat.le_refl _, by simp; omega, hturn, ?_, hat⟩
      simp only [List.length_set]
      exact fin
    replace hpost := Lib.hid hpost
    replace fin := Lib.hid fin
    replace hturn := Lib.hid hturn
    replace hpre3 := Lib.hid hpre3
    replace hpre2 := Lib.hid hpre2
    replace hz2 := Lib.hid hz2
    replace hset := Lib.hid hset
    replace fset := Lib.hid fset
    replace h2 := Lib.hid h2
    replace hlz := Lib.hid hlz
    go_upto_region 5 with fail
    go_cut [4, 7, 8] (fun s4 s7 s8 wx => s4 = .pointer (some ⟨w.heap.size, 0, none⟩) ∧ s7 = .int .i64 zs.length ∧ s8 = .int .i64 a ∧ W3 = wx)
    case first =>
      replace hW3 := Lib.hid hW3
      go_wp2
      go_meet
      exact ⟨rfl, rfl, rfl, hW3.out⟩
    case rest =>
    obtain ⟨rfl, rfl, rfl, rfl⟩ := hcut
    replace hW3 := Lib.hid hW3
    clear kc kf kp2 k01
    cases nn with
    | true =>
      go_wp2
      go_ret
      exact hpost.out _ rfl
    | false =>
      go_wp2
      go_ret
      exact hpost.out _ rfl
end Go.Proofs.Ythlkcoiaahpmoaa
