/-
  What a set's has and a pattern's reach do. No condition but that the pattern lies in memory as Compile lays it.
-/
import Derived.Test.YthlkcoiaahpmoaaPatComp
import Derived.Test.YthlkcoiaahpmoaaPatMath6
namespace Go.Proofs.Ythlkcoiaahpmoaa
open Go.RowKit
variable {lo : Nat}

set_option maxHeartbeats 4000000 in
set_option maxRecDepth 100000 in
theorem has_any (s : PSet) (A : Option Addr) (c : Nat) (r : Int) (w : World) (hr : Row w A s.items.length 2 (ics s.items)) (hn : s.items.length ≤ 1000000) :
    Calls Try.prog 77 #[.agg #[.bool s.all, .bool s.neg, .slice A s.items.length c], .int .i32 r] w fun e w' => e = .returned (.bool (s.has r)) ∧ Gr w w' := by
  obtain ⟨W0, hW0⟩ : ∃ W0, W0 = w.alloc (.cells #[.bool s.all, .bool s.neg, .slice A s.items.length c] 125) := ⟨_, rfl⟩
  have g0 : Gr w W0 := by rw [hW0]; exact gr_alloc _ _ _
  have hb0 : W0.heap[w.heap.size]? = some (.cells #[.bool s.all, .bool s.neg, .slice A s.items.length c] 125 (0, 0)) := by rw [hW0]; exact blk_new _ _
  have k2 : W0.cell? ⟨w.heap.size, 2, none⟩ = some (.slice A s.items.length c) := blk_cell hb0 rfl
  obtain ⟨n, hnn⟩ : ∃ n, n = s.items.length := ⟨_, rfl⟩
  rw [← hnn] at hW0 hb0 k2 hr hn ⊢
  replace hnn := Lib.hid hnn
  replace g0 := Lib.hid g0
  replace hb0 := Lib.hid hb0
  replace hr := Lib.hid hr
  go_enter Try.func77, Try.ntmps77
  go_upto_region 1 with fail
  rw [← hW0]
  replace hW0 := Lib.hid hW0
  go_wp2
  go_loopw [10] (fun kv wr => ∃ k : Nat, k ≤ n ∧ kv = .int .i64 k ∧ Hid (∀ (j : Nat) x, j < k → s.items[j]? = some x → ¬ (x.1 ≤ r ∧ r ≤ x.2)) ∧ Hid (Gr W0 wr)) (fun k _ => n - (intOf k).toNat)
  case atStart => exact ⟨0, Nat.zero_le _, rfl, Lib.hid (fun j x hj => by omega), Lib.hid (gr_refl _ _)⟩
  case round =>
    obtain ⟨k, hk, rfl, hno, hg⟩ := hrel
    have hb1 := gr_blk hg.out hb0.out (by simp)
    by_cases hlt : k < n
    · obtain ⟨x, hx⟩ : ∃ x, s.items[k]? = some x := ⟨_, List.getElem?_eq_getElem (by rw [← hnn.out]; exact hlt)⟩
      obtain ⟨g1, g2⟩ := ics_get hx
      have hrw := row_gr hr.out (gr_trans g0.out hg.out)
      obtain ⟨B, o, rfl, hB, c1⟩ := hrw.2 _ _ g1
      obtain ⟨B', o', e', hB', c2⟩ := hrw.2 _ _ g2
      have e2 := Option.some.inj e'
      injection e2 with e3 e4
      subst e3 e4
      rw [← Nat.add_assoc] at c2
      have hki : (k : Int) < (n : Int) := by omega
      have hk0 : (0 : Int) ≤ (k : Int) := by omega
      have hx2 := blk_new wr (.cells #[.int .i32 x.1, .int .i32 x.2] 145)
      obtain ⟨W2, hW2⟩ : ∃ W2, W2 = wr.alloc (.cells #[.int .i32 x.1, .int .i32 x.2] 145) := ⟨_, rfl⟩
      have gW : Gr wr W2 := by rw [hW2]; exact gr_alloc _ _ _
      have hb2 := gr_blk gW hb1 (by simp)
      rw [← hW2] at hx2
      have kx0 : W2.cell? ⟨wr.heap.size, 0, none⟩ = some (.int .i32 x.1) := blk_cell hx2 rfl
      have kx1 : W2.cell? ⟨wr.heap.size, 1, none⟩ = some (.int .i32 x.2) := blk_cell hx2 rfl
      have kb1 : W2.cell? ⟨w.heap.size, 1, none⟩ = some (.bool s.neg) := blk_cell hb2 rfl
      replace hx := Lib.hid hx
      replace hrw := Lib.hid hrw
      replace hb1 := Lib.hid hb1
      replace hb2 := Lib.hid hb2
      replace hx2 := Lib.hid hx2
      replace gW := Lib.hid gW
      clear e' g1 g2
      go_upto_region 4 with fail
      rw [← hW2]
      replace hW2 := Lib.hid hW2
      by_cases h1 : x.1 ≤ r
      · by_cases h2 : r ≤ x.2
        · have hv := has_in hx.out h1 h2
          replace hv := Lib.hid hv
          go_wp2
          go_ret
          exact ⟨by rw [hv.out]; rfl, gr_trans g0.out (gr_trans hg.out gW.out)⟩
        · go_wp2
          go_roundw
          case rel => exact ⟨k + 1, by omega, by go_num, Lib.hid (fun j y hj hy => by
            rcases Nat.lt_or_ge j k with h | h
            · exact hno.out j y h hy
            · obtain rfl : j = k := by omega
              rw [hx.out] at hy
              obtain rfl := Option.some.inj hy
              exact fun h => h2 h.2), Lib.hid (gr_trans hg.out gW.out)⟩
          case measure => simp [intOf]; omega
      · go_wp2
        go_roundw
        case rel => exact ⟨k + 1, by omega, by go_num, Lib.hid (fun j y hj hy => by
          rcases Nat.lt_or_ge j k with h | h
          · exact hno.out j y h hy
          · obtain rfl : j = k := by omega
            rw [hx.out] at hy
            obtain rfl := Option.some.inj hy
            exact fun h => h1 h.1), Lib.hid (gr_trans hg.out gW.out)⟩
        case measure => simp [intOf]; omega
    · obtain rfl : k = n := by omega
      have hv := has_out (s := s) (r := r) (fun j x hj => hno.out j x (by have := (List.getElem?_eq_some_iff.1 hj).1; have := hnn.out; omega) hj)
      have kb0 : wr.cell? ⟨w.heap.size, 0, none⟩ = some (.bool s.all) := blk_cell hb1 rfl
      have kb1 : wr.cell? ⟨w.heap.size, 1, none⟩ = some (.bool s.neg) := blk_cell hb1 rfl
      replace hb1 := Lib.hid hb1
      cases hall : s.all with
      | true =>
        rw [hall] at hv kb0
        replace hv := Lib.hid hv
        replace hall := Lib.hid hall
        go_wp2
        go_ret
        exact ⟨by rw [hv.out]; rfl, gr_trans g0.out hg.out⟩
      | false =>
        rw [hall] at hv kb0
        replace hv := Lib.hid hv
        replace hall := Lib.hid hall
        go_wp2
        go_ret
        exact ⟨by rw [hv.out]; rfl, gr_trans g0.out hg.out⟩

/-! ### Marks -/
def BoolAt (w : World) (I : Nat) (bs : List Bool) : Prop := w.heap[I]? = some (.cells (bs.map Value.bool).toArray 4 (0, 0))
theorem bool_cell {w : World} {I : Nat} {bs : List Bool} (h : BoolAt w I bs) {k : Nat} {b : Bool} (hk : bs[k]? = some b) : w.cell? ⟨I, k, none⟩ = some (.bool b) := blk_cell h (by simp [hk])
theorem bool_set {w : World} {I : Nat} {bs : List Bool} (h : BoolAt w I bs) (k : Nat) (b : Bool) : BoolAt (w.setCell ⟨I, k, none⟩ (.bool b)) I (bs.set k b) := by
  have := blk_set h k (.bool b)
  unfold BoolAt
  rw [this]
  congr 2
  simp [List.map_set]
theorem bld_mark {w w' : World} {p I : Nat} {text : ByteArray} {zs : List (Stp × Lst)} {A : Option Addr} {c : Nat} {first : Int} {bs : List Bool} (h : BldAt lo w p text zs A c first) (hI : BoolAt w I bs) (hpI : p < I) (g : w.grownBy w' (some I)) : BldAt lo w' p text zs A c first :=
  ⟨gr_blk g h.pb (fun e => by have := Option.some.inj e; omega), h.own.kept g (.inr (own_not_blk h.own hI (by decide))), fun z hz => it_same (h.it z hz) g.size (fun k hk => g.block k (Nat.lt_trans hk (lt_of_blk h.pb)) (fun e => by have := Option.some.inj e; omega))⟩
/-- A step, as one lies in memory. -/
theorem step_cells {w : World} {p : Nat} {text : ByteArray} {zs : List (Stp × Lst)} {A : Option Addr} {c : Nat} {first : Int} (h : BldAt lo w p text zs A c first) {k : Nat} {z : Stp × Lst} (hk : zs[k]? = some z) :
    ∃ g, A = some ⟨g, 0, none⟩ ∧ w.cell? ⟨g, k * 6, none⟩ = some (.bool z.1.s.all) ∧ w.cell? ⟨g, k * 6 + 1, none⟩ = some (.bool z.1.s.neg) ∧ w.cell? ⟨g, k * 6 + 2, none⟩ = some (.slice z.2.A z.2.n z.2.c) ∧ w.cell? ⟨g, k * 6 + 3, none⟩ = some (.bool z.1.rune) ∧ w.cell? ⟨g, k * 6 + 4, none⟩ = some (.int .i64 z.1.a) ∧ w.cell? ⟨g, k * 6 + 5, none⟩ = some (.int .i64 z.1.b) := by
  have hkl := (List.getElem?_eq_some_iff.1 hk).1
  obtain ⟨g, cap, hv, hb, hlt⟩ := h.own.form (by omega)
  injection hv with h1 h2 h3
  subst h1 h3
  have hc : ∀ j u, j < 6 → (sc z)[j]? = some u → w.cell? ⟨g, k * 6 + j, none⟩ = some u := fun j u hj hu => by
    rw [h.own.cellAt (k * 6 + j) (by omega), scs_get hk j hj]
    exact hu
  exact ⟨g, rfl, hc 0 _ (by omega) rfl, hc 1 _ (by omega) rfl, hc 2 _ (by omega) rfl, hc 3 _ (by omega) rfl, hc 4 _ (by omega) rfl, hc 5 _ (by omega) rfl⟩
def RchPost (F : List Stp) (I : Nat) (bs : List Bool) (at' : Int) (w : World) (e : Ending) (w' : World) : Prop := e = .returned (.tuple #[]) ∧ ∃ bs', BoolAt w' I bs' ∧ w.grownBy w' (some I) ∧ ReachS F bs bs' at'
set_option maxHeartbeats 8000000 in
set_option maxRecDepth 100000 in
theorem reach_any (p : Nat) (text : ByteArray) (zs : List (Stp × Lst)) (A : Option Addr) (c : Nat) (first : Nat) (x : T) (hm : Mach (zs.map (·.1)) first x) (_hzl : zs.length ≤ 1000) (I cap : Nat) (hpI : p < I) : ∀ (n : Nat) (bs : List Bool) (at' : Int) (w : World), left bs ≤ n → BldAt lo w p text zs A c (first : Int) → BoolAt w I bs → bs.length = zs.length → (∀ a : Nat, at' = (a : Int) → Rch (zs.map (·.1)) first a) →
    Calls Try.prog 76 #[.pointer (some ⟨p, 0, none⟩), .int .i64 at', .slice (some ⟨I, 0, none⟩) zs.length cap] w (RchPost (zs.map (·.1)) I bs at' w) := by
  intro n
  induction n with
  | zero =>
    intro bs at' w hn h hb hbl hr
    by_cases hneg : at' < 0
    · have hfin : RchPost (zs.map (·.1)) I bs at' w (.returned (.tuple #[])) w := ⟨rfl, bs, hb, gr_refl _ _, reach_neg _ _ hneg⟩
      replace hfin := Lib.hid hfin
      clear hm hr hb h
      go_enter Try.func76, Try.ntmps76
      go_wp2
      go_returns
      exact hfin.out
    · obtain ⟨a, rfl⟩ : ∃ a : Nat, at' = a := ⟨at'.toNat, by omega⟩
      have hal := mach_reach hm (hr a rfl)
      rw [List.length_map] at hal
      obtain ⟨b, hba⟩ : ∃ b, bs[a]? = some b := ⟨_, List.getElem?_eq_getElem (by omega)⟩
      have hbt : b = true := by
        cases b with
        | true => rfl
        | false =>
          exfalso
          have := left_set hba
          omega
      subst hbt
      have hc := bool_cell hb hba
      have hfin : RchPost (zs.map (·.1)) I bs (a : Int) w (.returned (.tuple #[])) w := ⟨rfl, bs, hb, gr_refl _ _, reach_old _ _ hba⟩
      have hai : (a : Int) < (zs.length : Int) := by omega
      have ha0 : (0 : Int) ≤ (a : Int) := by omega
      replace hfin := Lib.hid hfin
      clear hm hr hb h hba hneg
      go_enter Try.func76, Try.ntmps76
      go_wp2
      go_returns
      exact hfin.out
  | succ n ih =>
    intro bs at' w hn h hb hbl hr
    by_cases hneg : at' < 0
    · have hfin : RchPost (zs.map (·.1)) I bs at' w (.returned (.tuple #[])) w := ⟨rfl, bs, hb, gr_refl _ _, reach_neg _ _ hneg⟩
      replace hfin := Lib.hid hfin
      clear hm hr hb h ih
      go_enter Try.func76, Try.ntmps76
      go_wp2
      go_returns
      exact hfin.out
    · obtain ⟨a, rfl⟩ : ∃ a : Nat, at' = a := ⟨at'.toNat, by omega⟩
      have hra := hr a rfl
      have hal := mach_reach hm hra
      rw [List.length_map] at hal
      obtain ⟨b, hba⟩ : ∃ b, bs[a]? = some b := ⟨_, List.getElem?_eq_getElem (by omega)⟩
      have hc := bool_cell hb hba
      have hai : (a : Int) < (zs.length : Int) := by omega
      have ha0 : (0 : Int) ≤ (a : Int) := by omega
      cases b with
      | true =>
        have hfin : RchPost (zs.map (·.1)) I bs (a : Int) w (.returned (.tuple #[])) w := ⟨rfl, bs, hb, gr_refl _ _, reach_old _ _ hba⟩
        replace hfin := Lib.hid hfin
        clear hm hr hra hb h hba hneg ih
        go_enter Try.func76, Try.ntmps76
        go_wp2
        go_returns
        exact hfin.out
      | false =>
        have fI : w.frozen? ⟨I, a, none⟩ = false := blk_free hb a
        have hls := left_set hba
        obtain ⟨W1, hW1⟩ : ∃ W1, W1 = w.setCell ⟨I, a, none⟩ (.bool true) := ⟨_, rfl⟩
        have gs : w.grownBy W1 (some I) := by rw [hW1]; exact gr_set w ⟨I, a, none⟩ _
        have hb1 : BoolAt W1 I (bs.set a true) := by rw [hW1]; exact bool_set hb a true
        have h1 := bld_mark h hb hpI gs
        obtain ⟨z, hz⟩ : ∃ z, zs[a]? = some z := ⟨_, List.getElem?_eq_getElem hal⟩
        have hzF : (zs.map (·.1))[a]? = some z.1 := by rw [List.getElem?_map, hz]; rfl
        obtain ⟨g, rfl, s0, s1, s2, s3, s4, s5⟩ := step_cells h1 hz
        have kp : W1.cell? ⟨p, 1, none⟩ = some (.slice (some ⟨g, 0, none⟩) zs.length c) := blk_cell h1.pb rfl
        obtain ⟨W2, hW2⟩ : ∃ W2, W2 = W1.alloc (.cells #[.bool z.1.s.all, .bool z.1.s.neg, .slice z.2.A z.2.n z.2.c, .bool z.1.rune, .int .i64 z.1.a, .int .i64 z.1.b] 127) := ⟨_, rfl⟩
        have g2 : Gr W1 W2 := by rw [hW2]; exact gr_alloc _ _ _
        have hS : W2.heap[W1.heap.size]? = some (.cells #[.bool z.1.s.all, .bool z.1.s.neg, .slice z.2.A z.2.n z.2.c, .bool z.1.rune, .int .i64 z.1.a, .int .i64 z.1.b] 127 (0, 0)) := by rw [hW2]; exact blk_new _ _
        have h2 := bld_gr h1 g2
        have hb2 : BoolAt W2 I (bs.set a true) := gr_blk g2 hb1 (by simp)
        have k3 : W2.cell? ⟨W1.heap.size, 3, none⟩ = some (.bool z.1.rune) := blk_cell hS rfl
        have k4 : W2.cell? ⟨W1.heap.size, 4, none⟩ = some (.int .i64 z.1.a) := blk_cell hS rfl
        have hbl2 : (bs.set a true).length = zs.length := by rw [List.length_set]; exact hbl
        have gw2 : w.grownBy W2 (some I) := gr_trans gs (gr_more _ g2)
        have hIS : I ≠ W1.heap.size := fun e => by have := lt_of_blk hb1; omega
        have hab : bs.length > a := by omega
        cases hru : z.1.rune with
        | true =>
          rw [hru] at k3
          have hfin : RchPost (zs.map (·.1)) I bs (a : Int) w (.returned (.tuple #[])) W2 := ⟨rfl, _, hb2, gw2, reach_rune hab hzF hru⟩
          replace hfin := Lib.hid hfin
          rw [hru] at hW2 s3
          replace hru := Lib.hid hru
          replace hz := Lib.hid hz
          replace hzF := Lib.hid hzF
          replace h := Lib.hid h
          replace h1 := Lib.hid h1
          replace h2 := Lib.hid h2
          replace hb := Lib.hid hb
          replace hb1 := Lib.hid hb1
          replace hb2 := Lib.hid hb2
          replace hS := Lib.hid hS
          replace gs := Lib.hid gs
          replace g2 := Lib.hid g2
          replace gw2 := Lib.hid gw2
          replace hba := Lib.hid hba
          replace hbl := Lib.hid hbl
          replace hbl2 := Lib.hid hbl2
          replace hls := Lib.hid hls
          clear hm hr hra hneg ih
          go_enter Try.func76, Try.ntmps76
          go_upto_region 2 with fail
          rw [← hW1]
          replace hW1 := Lib.hid hW1
          go_upto_region 3 with fail
          rw [← hW2]
          replace hW2 := Lib.hid hW2
          go_wp2
          go_returns
          exact hfin.out
        | false =>
          rw [hru] at k3
          have hc1 := ih (bs.set a true) z.1.a W2 (by omega) h2 hb2 hbl2 (fun q e => rch_eps hra hzF hru (.inl e))
          have hrb : ∀ q : Nat, z.1.b = (q : Int) → Rch (zs.map (·.1)) first q := fun q e => rch_eps hra hzF hru (.inr e)
          have hcomb := fun bs2 bs3 => reach_eps (bs2 := bs2) (bs3 := bs3) hab hzF hru
          rw [hru] at hW2 s3
          have hk2 : left (bs.set a true) ≤ n := by omega
          replace hc1 := Lib.hid hc1
          replace hrb := Lib.hid hrb
          replace hcomb := Lib.hid hcomb
          replace hru := Lib.hid hru
          replace hz := Lib.hid hz
          replace hzF := Lib.hid hzF
          replace h := Lib.hid h
          replace h1 := Lib.hid h1
          replace h2 := Lib.hid h2
          replace hb := Lib.hid hb
          replace hb1 := Lib.hid hb1
          replace hb2 := Lib.hid hb2
          replace hS := Lib.hid hS
          replace gs := Lib.hid gs
          replace g2 := Lib.hid g2
          replace gw2 := Lib.hid gw2
          replace hba := Lib.hid hba
          replace hbl := Lib.hid hbl
          replace hbl2 := Lib.hid hbl2
          replace hls := Lib.hid hls
          replace ih := Lib.hid ih
          replace hIS := Lib.hid hIS
          clear hm hr hra hneg
          go_enter Try.func76, Try.ntmps76
          go_upto_region 2 with fail
          rw [← hW1]
          replace hW1 := Lib.hid hW1
          go_upto_region 3 with fail
          rw [← hW2]
          replace hW2 := Lib.hid hW2
          go_wp2_with fail
          refine hc1.out.mono ?_
          rintro e W3 ⟨rfl, bs2, hb3, g3, r3⟩
          have h3 := bld_mark h2.out hb2.out hpI g3
          have hS3 := gr_blk g3 hS.out (fun e => hIS.out (Option.some.inj e).symm)
          have k5 : W3.cell? ⟨W1.heap.size, 5, none⟩ = some (.int .i64 z.1.b) := blk_cell hS3 rfl
          have hc2 := ih.out bs2 z.1.b W3 (by have := left_mono r3; omega) h3 hb3 (by rw [r3.len]; exact hbl2.out) hrb.out
          replace hc2 := Lib.hid hc2
          replace h3 := Lib.hid h3
          replace hb3 := Lib.hid hb3
          replace hS3 := Lib.hid hS3
          replace g3 := Lib.hid g3
          replace r3 := Lib.hid r3
          clear k3 k4
          go_wp2_with fail
          refine hc2.out.mono ?_
          rintro e W4 ⟨rfl, bs3, hb4, g4, r4⟩
          have hfin : RchPost (zs.map (·.1)) I bs (a : Int) w (.returned (.tuple #[])) W4 := ⟨rfl, bs3, hb4, gr_trans gw2.out (gr_trans g3.out g4), hcomb.out bs2 bs3 r3.out r4⟩
          replace hfin := Lib.hid hfin
          replace hb4 := Lib.hid hb4
          replace g4 := Lib.hid g4
          replace r4 := Lib.hid r4
          go_wp2
          go_returns
          exact hfin.out
end Go.Proofs.Ythlkcoiaahpmoaa
