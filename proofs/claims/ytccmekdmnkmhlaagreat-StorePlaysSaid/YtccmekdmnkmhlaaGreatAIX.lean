/-
  Several facts, one behind the other; no condition but bounds (soft): What a set's has and a pattern's reach do. No condition but that the pattern lies in memory as Compile lays it. What a pattern's begin, on, Whole and Begins answer. No condition but that the pattern lies in memory as Compile lays it. What a pattern's Whole, Begins and Text answer. No condition but that the pattern lies in memory as Compile lays it, and a bound on the text. Runes of texts of small bytes. No condition. What the laws on patterns share: Compile of what is a pattern; the document's Spell. No condition but bounds.
-/
import Derived.Test.YtccmekdmnkmhlaaGreatAHX
import Derived.Test.YtccmekdmnkmhlaaGreatAEX
namespace Go.Proofs.YtccmekdmnkmhlaaGreat
open Go.RowKit
variable {lo : Nat}

set_option maxHeartbeats 4000000 in
set_option maxRecDepth 100000 in
theorem has_any (s : PSet) (A : Option Addr) (c : Nat) (r : Int) (w : World) (hr : Row w A s.items.length 2 (ics s.items)) (hn : s.items.length ≤ 1000000) :
    Calls Tryz.prog 141 #[.agg #[.bool s.all, .bool s.neg, .slice A s.items.length c], .int .i32 r] w fun e w' => e = .returned (.bool (s.has r)) ∧ Gr w w' := by
  obtain ⟨W0, hW0⟩ : ∃ W0, W0 = w.alloc (.cells #[.bool s.all, .bool s.neg, .slice A s.items.length c] 187) := ⟨_, rfl⟩
  have g0 : Gr w W0 := by rw [hW0]; exact gr_alloc _ _ _
  have hb0 : W0.heap[w.heap.size]? = some (.cells #[.bool s.all, .bool s.neg, .slice A s.items.length c] 187 (0, 0)) := by rw [hW0]; exact blk_new _ _
  have k2 : W0.cell? ⟨w.heap.size, 2, none⟩ = some (.slice A s.items.length c) := blk_cell hb0 rfl
  obtain ⟨n, hnn⟩ : ∃ n, n = s.items.length := ⟨_, rfl⟩
  rw [← hnn] at hW0 hb0 k2 hr hn ⊢
  replace hnn := Lib.hid hnn
  replace g0 := Lib.hid g0
  replace hb0 := Lib.hid hb0
  replace hr := Lib.hid hr
  go_enter Tryz.func141, Tryz.ntmps141
  go_upto_region 1 with fail
  rw [← hW0]
  replace hW0 := Lib.hid hW0
  go_wp2
  go_loopw [10] (fun kv wr => ∃ k : Nat, k ≤ n ∧ kv = .int .i64 k ∧ Hid (∀ (j : Nat) x, j < k → s.items[j]? = some x → ¬ (x.1 ≤ r ∧ r ≤ x.2)) ∧ Hid (Gr W0 wr)) (fun k _ => n - (intOf k).toNat)
  case atStart => exact ⟨0, Nat.zero_le _, rfl, Lib.hid (fun j x hj => by omega), Lib.hid (gr_refl _ _)⟩
  case round =>
    obtain ⟨k, hk, rfl, hno, hg⟩ := hrel
    have hb1 := gr_blk hg.out hb0.out (by simp)
    by_cases hlt : k < n
    · obtain ⟨x, hx⟩ : ∃ x, s.items[k]? = some x := ⟨_, List.getElem?_eq_getElem (by rw [← hnn.out]; exact hlt)⟩
      obtain ⟨g1, g2⟩ := ics_get hx
      have hrw := row_gr hr.out (gr_trans g0.out hg.out)
      obtain ⟨B, o, rfl, hB, c1⟩ := hrw.2 _ _ g1
      obtain ⟨B', o', e', hB', c2⟩ := hrw.2 _ _ g2
      have e2 := Option.some.inj e'
      injection e2 with e3 e4
      subst e3 e4
      rw [← Nat.add_assoc] at c2
      have hki : (k : Int) < (n : Int) := by omega
      have hk0 : (0 : Int) ≤ (k : Int) := by omega
      have hx2 := blk_new wr (.cells #[.int .i32 x.1, .int .i32 x.2] 212)
      obtain ⟨W2, hW2⟩ : ∃ W2, W2 = wr.alloc (.cells #[.int .i32 x.1, .int .i32 x.2] 212) := ⟨_, rfl⟩
      have gW : Gr wr W2 := by rw [hW2]; exact gr_alloc _ _ _
      have hb2 := gr_blk gW hb1 (by simp)
      rw [← hW2] at hx2
      have kx0 : W2.cell? ⟨wr.heap.size, 0, none⟩ = some (.int .i32 x.1) := blk_cell hx2 rfl
      have kx1 : W2.cell? ⟨wr.heap.size, 1, none⟩ = some (.int .i32 x.2) := blk_cell hx2 rfl
      have kb1 : W2.cell? ⟨w.heap.size, 1, none⟩ = some (.bool s.neg) := blk_cell hb2 rfl
      replace hx := Lib.hid hx
      replace hrw := Lib.hid hrw
      replace hb1 := Lib.hid hb1
      replace hb2 := Lib.hid hb2
      replace hx2 := Lib.hid hx2
      replace gW := Lib.hid gW
      clear e' g1 g2
      go_upto_region 4 with fail
      rw [← hW2]
      replace hW2 := Lib.hid hW2
      by_cases h1 : x.1 ≤ r
      · by_cases h2 : r ≤ x.2
        · have hv := has_in hx.out h1 h2
          replace hv := Lib.hid hv
          go_wp2
          go_ret
          exact ⟨by rw [hv.out]; rfl, gr_trans g0.out (gr_trans hg.out gW.out)⟩
        · go_wp2
          go_roundw
          case rel => exact ⟨k + 1, by omega, by go_num, Lib.hid (fun j y hj hy => by
            rcases Nat.lt_or_ge j k with h | h
            · exact hno.out j y h hy
            · obtain rfl : j = k := by omega
              rw [hx.out] at hy
              obtain rfl := Option.some.inj hy
              exact fun h => h2 h.2), Lib.hid (gr_trans hg.out gW.out)⟩
          case measure => simp [intOf]; omega
      · go_wp2
        go_roundw
        case rel => exact ⟨k + 1, by omega, by go_num, Lib.hid (fun j y hj hy => by
          rcases Nat.lt_or_ge j k with h | h
          · exact hno.out j y h hy
          · obtain rfl : j = k := by omega
            rw [hx.out] at hy
            obtain rfl := Option.some.inj hy
            exact fun h => h1 h.1), Lib.hid (gr_trans hg.out gW.out)⟩
        case measure => simp [intOf]; omega
    · obtain rfl : k = n := by omega
      have hv := has_out (s := s) (r := r) (fun j x hj => hno.out j x (by have := (List.getElem?_eq_some_iff.1 hj).1; have := hnn.out; omega) hj)
      have kb0 : wr.cell? ⟨w.heap.size, 0, none⟩ = some (.bool s.all) := blk_cell hb1 rfl
      have kb1 : wr.cell? ⟨w.heap.size, 1, none⟩ = some (.bool s.neg) := blk_cell hb1 rfl
      replace hb1 := Lib.hid hb1
      cases hall : s.all with
      | true =>
        rw [hall] at hv kb0
        replace hv := Lib.hid hv
        replace hall := Lib.hid hall
        go_wp2
        go_ret
        exact ⟨by rw [hv.out]; rfl, gr_trans g0.out hg.out⟩
      | false =>
        rw [hall] at hv kb0
        replace hv := Lib.hid hv
        replace hall := Lib.hid hall
        go_wp2
        go_ret
        exact ⟨by rw [hv.out]; rfl, gr_trans g0.out hg.out⟩

/-! ### Marks -/
def BoolAt (w : World) (I : Nat) (bs : List Bool) : Prop := w.heap[I]? = some (.cells (bs.map Value.bool).toArray 4 (0, 0))
theorem bool_cell {w : World} {I : Nat} {bs : List Bool} (h : BoolAt w I bs) {k : Nat} {b : Bool} (hk : bs[k]? = some b) : w.cell? ⟨I, k, none⟩ = some (.bool b) := blk_cell h (by simp [hk])
theorem bool_set {w : World} {I : Nat} {bs : List Bool} (h : BoolAt w I bs) (k : Nat) (b : Bool) : BoolAt (w.setCell ⟨I, k, none⟩ (.bool b)) I (bs.set k b) := by
  have := blk_set h k (.bool b)
  unfold BoolAt
  rw [this]
  congr 2
  simp [List.map_set]
theorem bld_mark {w w' : World} {p I : Nat} {text : ByteArray} {zs : List (Stp × Lst)} {A : Option Addr} {c : Nat} {first : Int} {bs : List Bool} (h : BldAt lo w p text zs A c first) (hI : BoolAt w I bs) (hpI : p < I) (g : w.grownBy w' (some I)) : BldAt lo w' p text zs A c first :=
  ⟨gr_blk g h.pb (fun e => by have := Option.some.inj e; omega), h.own.kept g (.inr (own_not_blk h.own hI (by decide))), fun z hz => it_same (h.it z hz) g.size (fun k hk => g.block k (Nat.lt_trans hk (lt_of_blk h.pb)) (fun e => by have := Option.some.inj e; omega))⟩
/-- A step, as one lies in memory. -/
theorem step_cells {w : World} {p : Nat} {text : ByteArray} {zs : List (Stp × Lst)} {A : Option Addr} {c : Nat} {first : Int} (h : BldAt lo w p text zs A c first) {k : Nat} {z : Stp × Lst} (hk : zs[k]? = some z) :
    ∃ g, A = some ⟨g, 0, none⟩ ∧ w.cell? ⟨g, k * 6, none⟩ = some (.bool z.1.s.all) ∧ w.cell? ⟨g, k * 6 + 1, none⟩ = some (.bool z.1.s.neg) ∧ w.cell? ⟨g, k * 6 + 2, none⟩ = some (.slice z.2.A z.2.n z.2.c) ∧ w.cell? ⟨g, k * 6 + 3, none⟩ = some (.bool z.1.rune) ∧ w.cell? ⟨g, k * 6 + 4, none⟩ = some (.int .i64 z.1.a) ∧ w.cell? ⟨g, k * 6 + 5, none⟩ = some (.int .i64 z.1.b) := by
  have hkl := (List.getElem?_eq_some_iff.1 hk).1
  obtain ⟨g, cap, hv, hb, hlt⟩ := h.own.form (by omega)
  injection hv with h1 h2 h3
  subst h1 h3
  have hc : ∀ j u, j < 6 → (sc z)[j]? = some u → w.cell? ⟨g, k * 6 + j, none⟩ = some u := fun j u hj hu => by
    rw [h.own.cellAt (k * 6 + j) (by omega), scs_get hk j hj]
    exact hu
  exact ⟨g, rfl, hc 0 _ (by omega) rfl, hc 1 _ (by omega) rfl, hc 2 _ (by omega) rfl, hc 3 _ (by omega) rfl, hc 4 _ (by omega) rfl, hc 5 _ (by omega) rfl⟩
def RchPost (F : List Stp) (I : Nat) (bs : List Bool) (at' : Int) (w : World) (e : Ending) (w' : World) : Prop := e = .returned (.tuple #[]) ∧ ∃ bs', BoolAt w' I bs' ∧ w.grownBy w' (some I) ∧ ReachS F bs bs' at'
set_option maxHeartbeats 8000000 in
set_option maxRecDepth 100000 in
theorem reach_any (p : Nat) (text : ByteArray) (zs : List (Stp × Lst)) (A : Option Addr) (c : Nat) (first : Nat) (x : T) (hm : Mach (zs.map (·.1)) first x) (_hzl : zs.length ≤ 1000) (I cap : Nat) (hpI : p < I) : ∀ (n : Nat) (bs : List Bool) (at' : Int) (w : World), left bs ≤ n → BldAt lo w p text zs A c (first : Int) → BoolAt w I bs → bs.length = zs.length → (∀ a : Nat, at' = (a : Int) → Rch (zs.map (·.1)) first a) →
    Calls Tryz.prog 140 #[.pointer (some ⟨p, 0, none⟩), .int .i64 at', .slice (some ⟨I, 0, none⟩) zs.length cap] w (RchPost (zs.map (·.1)) I bs at' w) := by
  intro n
  induction n with
  | zero =>
    intro bs at' w hn h hb hbl hr
    by_cases hneg : at' < 0
    · have hfin : RchPost (zs.map (·.1)) I bs at' w (.returned (.tuple #[])) w := ⟨rfl, bs, hb, gr_refl _ _, reach_neg _ _ hneg⟩
      replace hfin := Lib.hid hfin
      clear hm hr hb h
      go_enter Tryz.func140, Tryz.ntmps140
      go_wp2
      go_returns
      exact hfin.out
    · obtain ⟨a, rfl⟩ : ∃ a : Nat, at' = a := ⟨at'.toNat, by omega⟩
      have hal := mach_reach hm (hr a rfl)
      rw [List.length_map] at hal
      obtain ⟨b, hba⟩ : ∃ b, bs[a]? = some b := ⟨_, List.getElem?_eq_getElem (by omega)⟩
      have hbt : b = true := by
        cases b with
        | true => rfl
        | false =>
          exfalso
          have := left_set hba
          omega
      subst hbt
      have hc := bool_cell hb hba
      have hfin : RchPost (zs.map (·.1)) I bs (a : Int) w (.returned (.tuple #[])) w := ⟨rfl, bs, hb, gr_refl _ _, reach_old _ _ hba⟩
      have hai : (a : Int) < (zs.length : Int) := by omega
      have ha0 : (0 : Int) ≤ (a : Int) := by omega
      replace hfin := Lib.hid hfin
      clear hm hr hb h hba hneg
      go_enter Tryz.func140, Tryz.ntmps140
      go_wp2
      go_returns
      exact hfin.out
  | succ n ih =>
    intro bs at' w hn h hb hbl hr
    by_cases hneg : at' < 0
    · have hfin : RchPost (zs.map (·.1)) I bs at' w (.returned (.tuple #[])) w := ⟨rfl, bs, hb, gr_refl _ _, reach_neg _ _ hneg⟩
      replace hfin := Lib.hid hfin
      clear hm hr hb h ih
      go_enter Tryz.func140, Tryz.ntmps140
      go_wp2
      go_returns
      exact hfin.out
    · obtain ⟨a, rfl⟩ : ∃ a : Nat, at' = a := ⟨at'.toNat, by omega⟩
      have hra := hr a rfl
      have hal := mach_reach hm hra
      rw [List.length_map] at hal
      obtain ⟨b, hba⟩ : ∃ b, bs[a]? = some b := ⟨_, List.getElem?_eq_getElem (by omega)⟩
      have hc := bool_cell hb hba
      have hai : (a : Int) < (zs.length : Int) := by omega
      have ha0 : (0 : Int) ≤ (a : Int) := by omega
      cases b with
      | true =>
        have hfin : RchPost (zs.map (·.1)) I bs (a : Int) w (.returned (.tuple #[])) w := ⟨rfl, bs, hb, gr_refl _ _, reach_old _ _ hba⟩
        replace hfin := Lib.hid hfin
        clear hm hr hra hb h hba hneg ih
        go_enter Tryz.func140, Tryz.ntmps140
        go_wp2
        go_returns
        exact hfin.out
      | false =>
        have fI : w.frozen? ⟨I, a, none⟩ = false := blk_free hb a
        have hls := left_set hba
        obtain ⟨W1, hW1⟩ : ∃ W1, W1 = w.setCell ⟨I, a, none⟩ (.bool true) := ⟨_, rfl⟩
        have gs : w.grownBy W1 (some I) := by rw [hW1]; exact gr_set w ⟨I, a, none⟩ _
        have hb1 : BoolAt W1 I (bs.set a true) := by rw [hW1]; exact bool_set hb a true
        have h1 := bld_mark h hb hpI gs
        obtain ⟨z, hz⟩ : ∃ z, zs[a]? = some z := ⟨_, List.getElem?_eq_getElem hal⟩
        have hzF : (zs.map (·.1))[a]? = some z.1 := by rw [List.getElem?_map, hz]; rfl
        obtain ⟨g, rfl, s0, s1, s2, s3, s4, s5⟩ := step_cells h1 hz
        have kp : W1.cell? ⟨p, 1, none⟩ = some (.slice (some ⟨g, 0, none⟩) zs.length c) := blk_cell h1.pb rfl
        obtain ⟨W2, hW2⟩ : ∃ W2, W2 = W1.alloc (.cells #[.bool z.1.s.all, .bool z.1.s.neg, .slice z.2.A z.2.n z.2.c, .bool z.1.rune, .int .i64 z.1.a, .int .i64 z.1.b] 189) := ⟨_, rfl⟩
        have g2 : Gr W1 W2 := by rw [hW2]; exact gr_alloc _ _ _
        have hS : W2.heap[W1.heap.size]? = some (.cells #[.bool z.1.s.all, .bool z.1.s.neg, .slice z.2.A z.2.n z.2.c, .bool z.1.rune, .int .i64 z.1.a, .int .i64 z.1.b] 189 (0, 0)) := by rw [hW2]; exact blk_new _ _
        have h2 := bld_gr h1 g2
        have hb2 : BoolAt W2 I (bs.set a true) := gr_blk g2 hb1 (by simp)
        have k3 : W2.cell? ⟨W1.heap.size, 3, none⟩ = some (.bool z.1.rune) := blk_cell hS rfl
        have k4 : W2.cell? ⟨W1.heap.size, 4, none⟩ = some (.int .i64 z.1.a) := blk_cell hS rfl
        have hbl2 : (bs.set a true).length = zs.length := by rw [List.length_set]; exact hbl
        have gw2 : w.grownBy W2 (some I) := gr_trans gs (gr_more _ g2)
        have hIS : I ≠ W1.heap.size := fun e => by have := lt_of_blk hb1; omega
        have hab : bs.length > a := by omega
        cases hru : z.1.rune with
        | true =>
          rw [hru] at k3
          have hfin : RchPost (zs.map (·.1)) I bs (a : Int) w (.returned (.tuple #[])) W2 := ⟨rfl, _, hb2, gw2, reach_rune hab hzF hru⟩
          replace hfin := Lib.hid hfin
          rw [hru] at hW2 s3
          replace hru := Lib.hid hru
          replace hz := Lib.hid hz
          replace hzF := Lib.hid hzF
          replace h := Lib.hid h
          replace h1 := Lib.hid h1
          replace h2 := Lib.hid h2
          replace hb := Lib.hid hb
          replace hb1 := Lib.hid hb1
          replace hb2 := Lib.hid hb2
          replace hS := Lib.hid hS
          replace gs := Lib.hid gs
          replace g2 := Lib.hid g2
          replace gw2 := Lib.hid gw2
          replace hba := Lib.hid hba
          replace hbl := Lib.hid hbl
          replace hbl2 := Lib.hid hbl2
          replace hls := Lib.hid hls
          clear hm hr hra hneg ih
          go_enter Tryz.func140, Tryz.ntmps140
          go_upto_region 2 with fail
          rw [← hW1]
          replace hW1 := Lib.hid hW1
          go_upto_region 3 with fail
          rw [← hW2]
          replace hW2 := Lib.hid hW2
          go_wp2
          go_returns
          exact hfin.out
        | false =>
          rw [hru] at k3
          have hc1 := ih (bs.set a true) z.1.a W2 (by omega) h2 hb2 hbl2 (fun q e => rch_eps hra hzF hru (.inl e))
          have hrb : ∀ q : Nat, z.1.b = (q : Int) → Rch (zs.map (·.1)) first q := fun q e => rch_eps hra hzF hru (.inr e)
          have hcomb := fun bs2 bs3 => reach_eps (bs2 := bs2) (bs3 := bs3) hab hzF hru
          rw [hru] at hW2 s3
          have hk2 : left (bs.set a true) ≤ n := by omega
          replace hc1 := Lib.hid hc1
          replace hrb := Lib.hid hrb
          replace hcomb := Lib.hid hcomb
          replace hru := Lib.hid hru
          replace hz := Lib.hid hz
          replace hzF := Lib.hid hzF
          replace h := Lib.hid h
          replace h1 := Lib.hid h1
          replace h2 := Lib.hid h2
          replace hb := Lib.hid hb
          replace hb1 := Lib.hid hb1
          replace hb2 := Lib.hid hb2
          replace hS := Lib.hid hS
          replace gs := Lib.hid gs
          replace g2 := Lib.hid g2
          replace gw2 := Lib.hid gw2
          replace hba := Lib.hid hba
          replace hbl := Lib.hid hbl
          replace hbl2 := Lib.hid hbl2
          replace hls := Lib.hid hls
          replace ih := Lib.hid ih
          replace hIS := Lib.hid hIS
          clear hm hr hra hneg
          go_enter Tryz.func140, Tryz.ntmps140
          go_upto_region 2 with fail
          rw [← hW1]
          replace hW1 := Lib.hid hW1
          go_upto_region 3 with fail
          rw [← hW2]
          replace hW2 := Lib.hid hW2
          go_wp2_with fail
          refine hc1.out.mono ?_
          rintro e W3 ⟨rfl, bs2, hb3, g3, r3⟩
          have h3 := bld_mark h2.out hb2.out hpI g3
          have hS3 := gr_blk g3 hS.out (fun e => hIS.out (Option.some.inj e).symm)
          have k5 : W3.cell? ⟨W1.heap.size, 5, none⟩ = some (.int .i64 z.1.b) := blk_cell hS3 rfl
          have hc2 := ih.out bs2 z.1.b W3 (by have := left_mono r3; omega) h3 hb3 (by rw [r3.len]; exact hbl2.out) hrb.out
          replace hc2 := Lib.hid hc2
          replace h3 := Lib.hid h3
          replace hb3 := Lib.hid hb3
          replace hS3 := Lib.hid hS3
          replace g3 := Lib.hid g3
          replace r3 := Lib.hid r3
          clear k3 k4
          go_wp2_with fail
          refine hc2.out.mono ?_
          rintro e W4 ⟨rfl, bs3, hb4, g4, r4⟩
          have hfin : RchPost (zs.map (·.1)) I bs (a : Int) w (.returned (.tuple #[])) W4 := ⟨rfl, bs3, hb4, gr_trans gw2.out (gr_trans g3.out g4), hcomb.out bs2 bs3 r3.out r4⟩
          replace hfin := Lib.hid hfin
          replace hb4 := Lib.hid hb4
          replace g4 := Lib.hid g4
          replace r4 := Lib.hid r4
          go_wp2
          go_returns
          exact hfin.out
end Go.Proofs.YtccmekdmnkmhlaaGreat
namespace Go.Proofs.YtccmekdmnkmhlaaGreat
open Go.RowKit
variable {lo : Nat}

theorem infoBool : (Tryz.prog.info? 4).map (fun i => (i.zero, i.size, i.bytes)) = some (some (.bool false), 1, 1) := by kernel_rfl
def MarkPost (zs : List (Stp × Lst)) (first : Nat) (u : List Int) (w : World) (e : Ending) (w' : World) : Prop :=
  ∃ (I cap : Nat) (bs : List Bool), e = .returned (.slice (some ⟨I, 0, none⟩) zs.length cap) ∧ w.heap.size ≤ I ∧ BoolAt w' I bs ∧ bs.length = zs.length ∧ Gr w w' ∧ ∀ q : Nat, bs[q]? = some true ↔ Path (zs.map (·.1)) first u q
/-- A row of marks, newly made: none is set. -/
theorem made_bools {w w' : World} {n : Nat} (_hn : 0 < n) (h : w'.ownsRow w.heap.size 4 1 (.slice (some ⟨w.heap.size, 0, none⟩) n n) n (madeCells (Value.bool false).cells (n * 1)).toList) : BoolAt w' w.heap.size (List.replicate n false) := by
  have e : (madeCells (Value.bool false).cells (n * 1)).toList = List.replicate n (.bool false) := by
    rw [Nat.mul_one]
    exact toList_madeCells_one (.bool false) n
  rw [e] at h
  rcases h.2 with ⟨hv, _⟩ | ⟨g, cap, cur, hv, _, hg, _, _, hcs, htake⟩
  · cases hv
  · injection hv with h1 h2 h3
    have h4 := Option.some.inj h1
    injection h4 with h5
    subst h5 h3
    have hall : cur.toList = List.replicate n (.bool false) := by
      rw [← htake, List.take_of_length_le]
      rw [Array.length_toList, hcs]
      exact Nat.le_refl _
    unfold BoolAt
    rw [hg]
    congr 2
    rw [List.map_replicate, ← hall]
set_option maxHeartbeats 4000000 in
set_option maxRecDepth 100000 in
theorem begin_any (p : Nat) (text : ByteArray) (zs : List (Stp × Lst)) (A : Option Addr) (c first : Nat) (x : T) (hm : Mach (zs.map (·.1)) first x) (hzl : zs.length ≤ 1000) (w : World) (h : BldAt lo w p text zs A c (first : Int)) :
    Calls Tryz.prog 124 #[.pointer (some ⟨p, 0, none⟩)] w (MarkPost zs first [] w) := by
  obtain ⟨ii, hi, hz0, hz1, hz2⟩ := info_parts infoBool
  have k1 : w.cell? ⟨p, 1, none⟩ = some (.slice A zs.length c) := blk_cell h.pb rfl
  have hp := lt_of_blk h.pb
  have hz : 0 < zs.length := by have := mach_in hm; rw [List.length_map] at this; omega
  have hR := fun I cap hpI => reach_any (lo := lo) p text zs A c first x hm hzl I cap hpI
  have hrf : Rch (zs.map (·.1)) first first := ⟨[], path_refl _ _⟩
  obtain ⟨n, hn⟩ : ∃ n, n = zs.length := ⟨_, rfl⟩
  unfold MarkPost
  rw [← hn] at k1 hz hzl ⊢
  replace hR := Lib.hid hR
  replace h := Lib.hid h
  replace hm := Lib.hid hm
  replace hrf := Lib.hid hrf
  replace hn := Lib.hid hn
  go_enter Tryz.func124, Tryz.ntmps124
  go_wp2_with (at_make; refine wpList_make_full _ rfl _ _ 129 rfl w.heap.size 4 ii (.bool false) 1 Tryz.underlying129 hi hz0 hz1 .i64 .i64 n n n rfl rfl rfl rfl ?b2 ?b3 (Nat.le_refl _) ?_; rotate_right; intro W1 hown1 hg1; have hb1 := made_bools hz hown1; have h1 := bld_gr h.out hg1; have k2 : W1.cell? ⟨p, 2, none⟩ = some (.int .i64 first) := blk_cell h1.pb rfl; replace hown1 := Lib.hid hown1; replace hb1 := Lib.hid hb1; replace h1 := Lib.hid h1; replace hg1 := Lib.hid hg1)
  case b2 => first | omega | (rw [hz2]; omega)
  case b3 => unfold maxLen; omega
  have hc := hR.out w.heap.size n hp (left (List.replicate n false)) (List.replicate n false) (first : Int) W1 (Nat.le_refl _) h1.out hb1.out (by rw [List.length_replicate]; exact hn.out) (fun a e => by
    have : first = a := by omega
    subst this
    exact hrf.out)
  rw [← hn.out] at hc
  replace hc := Lib.hid hc
  refine hc.out.mono ?_
  rintro e W2 ⟨rfl, bs, hb2, g2, r2⟩
  have hfin : ∀ q : Nat, bs[q]? = some true ↔ Path (zs.map (·.1)) first [] q := fun q => by
    rw [reach_iff (shut_none _ _) r2]
    constructor
    · rintro (h | ⟨a, e, k⟩)
      · exact absurd h rep_no
      · have : first = a := by omega
        subst this
        exact k
    · exact fun k => .inr ⟨first, rfl, k⟩
  have hlen : bs.length = n := by rw [r2.len, List.length_replicate]
  have gg : Gr w W2 := gr_out hg1.out g2 (Nat.le_refl _)
  replace hfin := Lib.hid hfin
  replace hb2 := Lib.hid hb2
  replace r2 := Lib.hid r2
  replace g2 := Lib.hid g2
  replace hlen := Lib.hid hlen
  go_wp2
  go_ret
  exact ⟨w.heap.size, n, bs, rfl, Nat.le_refl _, hb2.out, hlen.out, gg, hfin.out⟩
/-- What 'on' has marked when it has looked at k places. -/
def OnIs (F : List Stp) (r : Int) (bs1 : List Bool) (k : Nat) (bs2 : List Bool) : Prop := ∀ q : Nat, bs2[q]? = some true ↔ ∃ (j : Nat) (s : Stp) (m : Nat), j < k ∧ bs1[j]? = some true ∧ F[j]? = some s ∧ s.rune = true ∧ s.s.has r = true ∧ s.a = (m : Int) ∧ Path F m [] q
theorem on_skip {F : List Stp} {r : Int} {bs1 bs2 : List Bool} {k : Nat} (h : OnIs F r bs1 k bs2) (hno : ∀ s, bs1[k]? = some true → F[k]? = some s → s.rune = true → s.s.has r = true → False) : OnIs F r bs1 (k + 1) bs2 := fun q => by
  rw [h q]
  constructor
  · rintro ⟨j, s, m, hj, h1⟩
    exact ⟨j, s, m, by omega, h1⟩
  · rintro ⟨j, s, m, hj, h1, h2, h3, h4, h5⟩
    rcases Nat.lt_or_ge j k with hjk | hjk
    · exact ⟨j, s, m, hjk, h1, h2, h3, h4, h5⟩
    · obtain rfl : j = k := by omega
      exact (hno s h1 h2 h3 h4).elim
theorem on_hit {F : List Stp} {r : Int} {bs1 bs2 bs3 : List Bool} {k : Nat} {s : Stp} (h : OnIs F r bs1 k bs2) (h1 : bs1[k]? = some true) (h2 : F[k]? = some s) (h3 : s.rune = true) (h4 : s.s.has r = true) (hs : Shut F bs2) (hr : ReachS F bs2 bs3 s.a) : OnIs F r bs1 (k + 1) bs3 := fun q => by
  rw [reach_iff hs hr, h q]
  constructor
  · rintro (⟨j, s', m, hj, k1⟩ | ⟨a, e, k1⟩)
    · exact ⟨j, s', m, by omega, k1⟩
    · exact ⟨k, s, a, by omega, h1, h2, h3, h4, e, k1⟩
  · rintro ⟨j, s', m, hj, k1, k2, k3, k4, k5, k6⟩
    rcases Nat.lt_or_ge j k with hjk | hjk
    · exact .inl ⟨j, s', m, hjk, k1, k2, k3, k4, k5, k6⟩
    · obtain rfl : j = k := by omega
      rw [h2] at k2
      obtain rfl := Option.some.inj k2
      exact .inr ⟨m, k5, k6⟩
theorem on_path {F : List Stp} {first : Nat} {u : List Int} {r : Int} {bs1 bs2 : List Bool} {n : Nat} (h : OnIs F r bs1 n bs2) (hn : bs1.length = n) (h1 : ∀ q : Nat, bs1[q]? = some true ↔ Path F first u q) (q : Nat) : bs2[q]? = some true ↔ Path F first (u ++ [r]) q := by
  rw [h q, path_snoc]
  constructor
  · rintro ⟨j, s, m, hj, k1, k2, k3, k4, k5, k6⟩
    exact ⟨j, s, m, (h1 j).1 k1, k2, k3, k4, k5, k6⟩
  · rintro ⟨j, s, m, k1, k2⟩
    have k3 := (h1 j).2 k1
    exact ⟨j, s, m, by have := (List.getElem?_eq_some_iff.1 k3).1; omega, k3, k2⟩
set_option maxHeartbeats 8000000 in
set_option maxRecDepth 100000 in
theorem on_any (p : Nat) (text : ByteArray) (zs : List (Stp × Lst)) (A : Option Addr) (c first : Nat) (x : T) (hm : Mach (zs.map (·.1)) first x) (hzl : zs.length ≤ 1000) (u : List Int) (r : Int) (I1 cap1 : Nat) (bs1 : List Bool) (w : World) (h : BldAt lo w p text zs A c (first : Int)) (hb1 : BoolAt w I1 bs1) (hbl : bs1.length = zs.length) (hset : ∀ q : Nat, bs1[q]? = some true ↔ Path (zs.map (·.1)) first u q) :
    Calls Tryz.prog 125 #[.pointer (some ⟨p, 0, none⟩), .slice (some ⟨I1, 0, none⟩) zs.length cap1, .int .i32 r] w (MarkPost zs first (u ++ [r]) w) := by
  obtain ⟨ii, hi, hz0, hz1, hz2⟩ := info_parts infoBool
  have k1 : w.cell? ⟨p, 1, none⟩ = some (.slice A zs.length c) := blk_cell h.pb rfl
  have hp := lt_of_blk h.pb
  have hI1 : I1 < w.heap.size := lt_of_blk hb1
  have hz : 0 < zs.length := by have := mach_in hm; rw [List.length_map] at this; omega
  have hR := reach_any (lo := lo) p text zs A c first x hm hzl w.heap.size
  obtain ⟨n, hn⟩ : ∃ n, n = zs.length := ⟨_, rfl⟩
  unfold MarkPost
  rw [← hn] at k1 hz hzl hbl hR ⊢
  replace hR := Lib.hid hR
  replace h := Lib.hid h
  replace hm := Lib.hid hm
  replace hb1 := Lib.hid hb1
  replace hn := Lib.hid hn
  replace hset := Lib.hid hset
  replace hbl := Lib.hid hbl
  go_enter Tryz.func125, Tryz.ntmps125
  go_wp2_with (at_make; refine wpList_make_full _ rfl _ _ 129 rfl w.heap.size 4 ii (.bool false) 1 Tryz.underlying129 hi hz0 hz1 .i64 .i64 n n n rfl rfl rfl rfl ?b2 ?b3 (Nat.le_refl _) ?_; rotate_right; intro W1 hown1 hg1; have hb2 := made_bools hz hown1; have h1 := bld_gr h.out hg1; have hbI := gr_blk hg1 hb1.out (by simp); replace hown1 := Lib.hid hown1; replace hb2 := Lib.hid hb2; replace h1 := Lib.hid h1; replace hg1 := Lib.hid hg1; replace hbI := Lib.hid hbI)
  case b2 => first | omega | (rw [hz2]; omega)
  case b3 => unfold maxLen; omega
  go_loopw [19] (fun kv wr => ∃ (k : Nat) (bs2 : List Bool), k ≤ n ∧ kv = .int .i64 k ∧ Hid (BoolAt wr w.heap.size bs2) ∧ Hid (bs2.length = n) ∧ Hid (W1.grownBy wr (some w.heap.size)) ∧ Hid (Shut (zs.map (·.1)) bs2) ∧ Hid (OnIs (zs.map (·.1)) r bs1 k bs2)) (fun k _ => n - (intOf k).toNat)
  case atStart => exact ⟨0, _, Nat.zero_le _, rfl, hb2, Lib.hid (List.length_replicate), Lib.hid (gr_refl _ _), Lib.hid (shut_none _ _), Lib.hid (fun q => ⟨fun h => absurd h rep_no, fun ⟨j, _, _, hj, _⟩ => by omega⟩)⟩
  case round =>
    obtain ⟨k, bs2, hk, rfl, hm2, hl2, hg, hsh, hon⟩ := hrel
    have hw := bld_mark h1.out hb2.out hp hg.out
    have hbw : BoolAt wr I1 bs1 := gr_blk hg.out hbI.out (fun e => by have := Option.some.inj e; omega)
    by_cases hlt : k < n
    · obtain ⟨b, hbk⟩ : ∃ b, bs1[k]? = some b := ⟨_, List.getElem?_eq_getElem (by rw [hbl.out]; exact hlt)⟩
      obtain ⟨z, hzk⟩ : ∃ z, zs[k]? = some z := ⟨_, List.getElem?_eq_getElem (by rw [← hn.out]; exact hlt)⟩
      have hzF : (zs.map (·.1))[k]? = some z.1 := by rw [List.getElem?_map, hzk]; rfl
      have kb := bool_cell hbw hbk
      obtain ⟨g, rfl, s0, s1, s2, s3, s4, s5⟩ := step_cells hw hzk
      have kp : wr.cell? ⟨p, 1, none⟩ = some (.slice (some ⟨g, 0, none⟩) n c) := by rw [hn.out]; exact blk_cell hw.pb rfl
      obtain ⟨hzn, hzr, _, hzi⟩ := hw.it z (List.mem_of_getElem? hzk)
      have hzr0 := hzr
      rw [hzn] at s2 hzr
      have hki : (k : Int) < (n : Int) := by omega
      have hk0 : (0 : Int) ≤ (k : Int) := by omega
      obtain ⟨W2, hW2⟩ : ∃ W2, W2 = wr.alloc (.cells #[.bool z.1.s.all, .bool z.1.s.neg, .slice z.2.A z.1.s.items.length z.2.c, .bool z.1.rune, .int .i64 z.1.a, .int .i64 z.1.b] 189) := ⟨_, rfl⟩
      have g2 : Gr wr W2 := by rw [hW2]; exact gr_alloc _ _ _
      have hS : W2.heap[wr.heap.size]? = some (.cells #[.bool z.1.s.all, .bool z.1.s.neg, .slice z.2.A z.1.s.items.length z.2.c, .bool z.1.rune, .int .i64 z.1.a, .int .i64 z.1.b] 189 (0, 0)) := by rw [hW2]; exact blk_new _ _
      have q0 : W2.cell? ⟨wr.heap.size, 0, none⟩ = some (.bool z.1.s.all) := blk_cell hS rfl
      have q1 : W2.cell? ⟨wr.heap.size, 1, none⟩ = some (.bool z.1.s.neg) := blk_cell hS rfl
      have q2 : W2.cell? ⟨wr.heap.size, 2, none⟩ = some (.slice z.2.A z.1.s.items.length z.2.c) := blk_cell hS rfl
      have q3 : W2.cell? ⟨wr.heap.size, 3, none⟩ = some (.bool z.1.rune) := blk_cell hS rfl
      have hskip : ∀ W', Gr wr W' → (∀ s, bs1[k]? = some true → (zs.map (·.1))[k]? = some s → s.rune = true → s.s.has r = true → False) → Hid (BoolAt W' w.heap.size bs2) ∧ Hid (W1.grownBy W' (some w.heap.size)) ∧ Hid (OnIs (zs.map (·.1)) r bs1 (k + 1) bs2) := fun W' gW hno => ⟨Lib.hid (gr_blk gW hm2.out (by simp)), Lib.hid (gr_trans hg.out (gr_more _ gW)), Lib.hid (on_skip hon.out hno)⟩
      have hmono : ∀ a b : Nat, n - (a + 1) < n - a ↔ a < n := fun a b => by omega
      replace hskip := Lib.hid hskip
      replace hw := Lib.hid hw
      replace hbw := Lib.hid hbw
      replace hzr := Lib.hid hzr
      replace hzr0 := Lib.hid hzr0
      replace hzn := Lib.hid hzn
      replace hS := Lib.hid hS
      replace g2 := Lib.hid g2
      clear hmono
      cases b with
      | false =>
        have hk2 := hskip.out W2 g2.out (fun s e => by rw [hbk] at e; cases e)
        replace hbk := Lib.hid hbk
        replace hzk := Lib.hid hzk
        replace hzF := Lib.hid hzF
        replace hk2 := Lib.hid hk2
        clear hskip q0 q1 q2 q3
        have hS2 := hzn.out
        rw [← hzn.out] at hW2 s2
        replace hzn := Lib.hid hzn.out
        clear hS2
        go_upto_region 6 with fail
        rw [← hW2]
        replace hW2 := Lib.hid hW2
        go_wp2
        go_roundw
        case rel => exact ⟨k + 1, bs2, by omega, by go_num, hk2.out.1, hl2, hk2.out.2.1, hsh, hk2.out.2.2⟩
        case measure => simp [intOf]; omega
      | true =>
        cases hru : z.1.rune with
        | false =>
          have hk2 := hskip.out W2 g2.out (fun s _ e h3 _ => by
            rw [hzF] at e
            obtain rfl := Option.some.inj e
            rw [hru] at h3
            cases h3)
          rw [hru] at hW2 s3 q3
          replace hru := Lib.hid hru
          replace hbk := Lib.hid hbk
          replace hzk := Lib.hid hzk
          replace hzF := Lib.hid hzF
          replace hk2 := Lib.hid hk2
          clear hskip
          go_upto_region 6 with fail
          rw [← hW2]
          replace hW2 := Lib.hid hW2
          go_wp2
          go_roundw
          case rel => exact ⟨k + 1, bs2, by omega, by go_num, hk2.out.1, hl2, hk2.out.2.1, hsh, hk2.out.2.2⟩
          case measure => simp [intOf]; omega
        | true =>
          have hhas := has_any z.1.s z.2.A z.2.c r W2 (row_gr hzr.out g2.out) hzi
          rw [hru] at hW2 s3 q3
          cases hh : z.1.s.has r with
          | false =>
            rw [hh] at hhas
            have hk2 := fun W' gW => hskip.out W' gW (fun s _ e _ h4 => by
              rw [hzF] at e
              obtain rfl := Option.some.inj e
              rw [hh] at h4
              cases h4)
            replace hru := Lib.hid hru
            replace hbk := Lib.hid hbk
            replace hzk := Lib.hid hzk
            replace hzF := Lib.hid hzF
            replace hk2 := Lib.hid hk2
            replace hhas := Lib.hid hhas
            replace hh := Lib.hid hh
            clear hskip
            go_upto_region 6 with fail
            rw [← hW2]
            replace hW2 := Lib.hid hW2
            go_wp2_with fail
            refine hhas.out.mono ?_
            rintro e W3 ⟨rfl, g3⟩
            have hk3 := hk2.out W3 (gr_trans g2.out g3)
            replace hk3 := Lib.hid hk3
            go_wp2
            go_roundw
            case rel => exact ⟨k + 1, bs2, by omega, by go_num, hk3.out.1, hl2, hk3.out.2.1, hsh, hk3.out.2.2⟩
            case measure => simp [intOf]; omega
          | true =>
            rw [hh] at hhas
            have hrk : ∀ a : Nat, z.1.a = (a : Int) → Rch (zs.map (·.1)) first a := fun a e => ⟨u ++ [r], path_trans ((hset.out k).1 hbk) (path_rune hzF hru hh e (path_refl _ _))⟩
            have hhit := fun bs3 hr3 => on_hit (bs3 := bs3) hon.out hbk hzF hru hh hsh.out hr3
            replace hhit := Lib.hid hhit
            replace hrk := Lib.hid hrk
            replace hru := Lib.hid hru
            replace hbk := Lib.hid hbk
            replace hzk := Lib.hid hzk
            replace hzF := Lib.hid hzF
            replace hhas := Lib.hid hhas
            replace hh := Lib.hid hh
            clear hskip
            go_upto_region 6 with fail
            rw [← hW2]
            replace hW2 := Lib.hid hW2
            go_wp2_with fail
            refine hhas.out.mono ?_
            rintro e W3 ⟨rfl, g3⟩
            have g13 := gr_trans g2.out g3
            have h3 := bld_gr hw.out g13
            have hm3 : BoolAt W3 w.heap.size bs2 := gr_blk g13 hm2.out (by simp)
            have q4 : W3.cell? ⟨wr.heap.size, 4, none⟩ = some (.int .i64 z.1.a) := blk_cell (gr_blk g3 hS.out (by simp)) rfl
            have hc := hR.out n hp (left bs2) bs2 z.1.a W3 (Nat.le_refl _) h3 hm3 hl2.out hrk.out
            replace hc := Lib.hid hc
            replace h3 := Lib.hid h3
            replace hm3 := Lib.hid hm3
            replace g3 := Lib.hid g3
            replace g13 := Lib.hid g13
            go_wp2_with fail
            refine hc.out.mono ?_
            rintro e W4 ⟨rfl, bs3, hm4, g4, r4⟩
            have hon4 := hhit.out bs3 r4
            have hsh4 := reach_shut hsh.out r4
            have hl4 : bs3.length = n := by rw [r4.len]; exact hl2.out
            have hg4 : W1.grownBy W4 (some w.heap.size) := gr_trans hg.out (gr_trans (gr_more _ g13.out) g4)
            replace hon4 := Lib.hid hon4
            replace hsh4 := Lib.hid hsh4
            replace hl4 := Lib.hid hl4
            replace hg4 := Lib.hid hg4
            replace hm4 := Lib.hid hm4
            replace g4 := Lib.hid g4
            replace r4 := Lib.hid r4
            go_wp2
            go_roundw
            case rel => exact ⟨k + 1, bs3, by omega, by go_num, hm4, hl4, hg4, hsh4, hon4⟩
            case measure => simp [intOf]; omega
    · obtain rfl : k = n := by omega
      have hfin := on_path hon.out hbl.out hset.out
      have gg : Gr w wr := gr_out hg1.out hg.out (Nat.le_refl _)
      replace hfin := Lib.hid hfin
      replace hw := Lib.hid hw
      replace hbw := Lib.hid hbw
      go_wp2
      go_ret
      exact ⟨w.heap.size, k, bs2, rfl, Nat.le_refl _, hm2.out, hl2.out, gg, hfin.out⟩
end Go.Proofs.YtccmekdmnkmhlaaGreat
namespace Go.Proofs.YtccmekdmnkmhlaaGreat
open Go.RowKit

/-- A function that tells what patterns take. -/
def Holds (H : T → List Int → Bool) : Prop := ∀ x u, H x u = true ↔ Lang x u
theorem holds_ex : ∃ H, Holds H := ⟨fun x u => @decide (Lang x u) (Classical.propDecidable _), fun _ _ => @decide_eq_true_iff _ (Classical.propDecidable _)⟩
theorem holds_yes {H : T → List Int → Bool} (hH : Holds H) {x : T} {u : List Int} (h : Lang x u) : H x u = true := (hH x u).2 h
theorem holds_no {H : T → List Int → Bool} (hH : Holds H) {x : T} {u : List Int} (h : ¬ Lang x u) : H x u = false := by
  cases hh : H x u with
  | false => rfl
  | true => exact absurd ((hH x u).1 hh) h
theorem holds_eq {H : T → List Int → Bool} (hH : Holds H) {x y : T} {u v : List Int} (h : Lang x u ↔ Lang y v) : H x u = H y v := by
  cases hh : H y v with
  | true => exact holds_yes hH (h.2 ((hH y v).1 hh))
  | false => exact holds_no hH (fun k => by rw [holds_yes hH (h.1 k)] at hh; cases hh)
def rnsOf (done : List (Nat × List UInt8)) : List Int := done.map fun c => (c.1 : Int)
theorem rnsOf_snoc (done : List (Nat × List UInt8)) (r : Nat) (b : List UInt8) : rnsOf (done ++ [(r, b)]) = rnsOf done ++ [(r : Int)] := by simp [rnsOf]
theorem rnsOf_take {l : List UInt8} {done : List (Nat × List UInt8)} {p : Nat} (h : chunks l = done ++ chunks (l.drop p)) : rnsOf done = (runesOf l).take done.length ∧ done.length ≤ (runesOf l).length := by
  unfold rnsOf runesOf
  rw [h, List.map_append]
  constructor
  · rw [List.take_left' (by simp)]
  · simp
set_option maxHeartbeats 8000000 in
set_option maxRecDepth 100000 in
theorem whole_any (H : T → List Int → Bool) (hH : Holds H) (p : Nat) (l0 : List UInt8) (x : T) (l : List UInt8) (w : World) (hpat : PatAt w p l0 x) (_hl : l.length ≤ 1000000) :
    Calls Tryz.prog 95 #[.pointer (some ⟨p, 0, none⟩), .string (txt l)] w fun e w' => e = .returned (.bool (H x (runesOf l))) ∧ Gr w w' := by
  obtain ⟨zs, A, c, first, hb, hm, hzl, _⟩ := hpat
  have k1 : w.cell? ⟨p, 1, none⟩ = some (.slice A zs.length c) := blk_cell hb.pb rfl
  have hz : 0 < zs.length := by have := mach_in hm; rw [List.length_map] at this; omega
  have hzF : ((zs.length : Int) == 0) = false := eqF (by omega)
  have hB := begin_any (lo := 0) p (txt l0) zs A c first x hm hzl w hb
  have hO := fun u r I1 cap1 bs1 w => on_any (lo := 0) p (txt l0) zs A c first x hm hzl u r I1 cap1 bs1 w
  obtain ⟨n, hn⟩ : ∃ n, n = zs.length := ⟨_, rfl⟩
  unfold MarkPost at hB hO
  rw [← hn] at k1 hz hzF hB hO
  replace hO := Lib.hid hO
  replace hB := Lib.hid hB
  replace hb := Lib.hid hb
  replace hm := Lib.hid hm
  replace hn := Lib.hid hn
  go_enter Tryz.func95, Tryz.ntmps95
  go_wp2_with fail
  refine hB.out.mono ?_
  rintro e W1 ⟨I, cap, bs, rfl, hI, hb1, hl1, g1, hset⟩
  have it0 := it_new W1 (txt l)
  have bel0 := gr_below (it_new_gr W1 (txt l) none)
  have hb0 : BoolAt (W1.iter (txt l) 0) I bs := gr_blk (it_new_gr W1 (txt l) none) hb1 (by simp)
  replace it0 := Lib.hid it0
  replace bel0 := Lib.hid bel0
  replace hb0 := Lib.hid hb0
  replace hset := Lib.hid hset
  replace hl1 := Lib.hid hl1
  replace g1 := Lib.hid g1
  clear hb1 hI
  go_wp2
  go_loopw [5] (fun iv wr => ∃ (q : Nat) (done : List (Nat × List UInt8)) (I cap : Nat) (bs : List Bool), q ≤ l.length ∧ iv = .slice (some ⟨I, 0, none⟩) n cap ∧ Hid (chunks l = done ++ chunks (l.drop q)) ∧ Hid (It wr W1.heap.size (txt l) q) ∧ Hid (Below W1.heap.size W1 wr) ∧ Hid (BoolAt wr I bs) ∧ Hid (bs.length = n) ∧ Hid (∀ k : Nat, bs[k]? = some true ↔ Path (zs.map (·.1)) first (rnsOf done) k)) (fun _ wr => l.length - wr.iterPos W1.heap.size)
  case atStart => exact ⟨0, [], I, cap, bs, Nat.zero_le _, rfl, rfl, it0, bel0, hb0, hl1, hset⟩
  case round =>
    obtain ⟨q, done, I, cap, bs, hq, rfl, hch, hit, hbel, hbs, hbl, hst⟩ := hrel
    by_cases hlt : q < l.length
    · obtain ⟨r, k, b, hR⟩ := round_at hch.out hlt
      have hnx := fun ty => next_round (P := Tryz.prog) hR hit.out ty
      have hit2 := it_step hit.out (q + k)
      have hbel2 := below_gr hbel.out (it_gr wr W1.heap.size (txt l) (q + k)) hbel.out.size (by intro y hy; cases hy; exact Nat.le_refl _)
      have hIit : I ≠ W1.heap.size := fun e => by
        subst e
        have h1 := hbs.out
        have h2 := hit.out
        unfold BoolAt at h1
        unfold It at h2
        rw [h1] at h2
        simp at h2
      have hbs2 : BoolAt (itW wr W1.heap.size (txt l) (q + k)) I bs := gr_blk (it_gr wr W1.heap.size (txt l) (q + k)) hbs.out (fun e => hIit (Option.some.inj e))
      have hfit := hR.fits
      have hw1 := hR.width
      have hpos := it_pos hit.out
      generalize itW wr W1.heap.size (txt l) (q + k) = W2 at hnx hit2 hbel2 hbs2
      have hb2 := bld_gr (bld_gr hb.out g1.out) (gr_of_below hbel2 (Nat.le_refl _))
      have hc := hO.out (rnsOf done) (r : Int) I cap bs W2 hb2 hbs2 hbl.out hst.out
      replace hc := Lib.hid hc
      replace hpos := Lib.hid hpos
      replace hit2 := Lib.hid hit2
      replace hbel2 := Lib.hid hbel2
      replace hbs2 := Lib.hid hbs2
      replace hb2 := Lib.hid hb2
      replace hR := Lib.hid hR
      replace hIit := Lib.hid hIit
      clear hit hbel
      go_wp2_with fail
      refine hc.out.mono ?_
      rintro e W3 ⟨I', cap', bs', rfl, hI', hb3, hl3, g3, hst3⟩
      have hit3 := it_keep hit2.out g3 (by simp)
      have hbel3 := below_gr hbel2.out g3 hbel2.out.size (by simp)
      have hpos3 := it_pos hit3
      rw [← rnsOf_snoc done r b] at hst3
      replace hst3 := Lib.hid hst3
      replace hit3 := Lib.hid hit3
      replace hbel3 := Lib.hid hbel3
      replace hpos3 := Lib.hid hpos3
      replace hb3 := Lib.hid hb3
      replace hl3 := Lib.hid hl3
      replace g3 := Lib.hid g3
      go_wp2
      go_roundw
      case rel => exact ⟨q + k, done ++ [(r, b)], I', cap', bs', hfit, rfl, hR.out.next, hit3, hbel3, hb3, hl3, hst3⟩
      case measure => rw [hpos3.out, hpos.out]; omega
    · have hnx := fun ty => next_end (P := Tryz.prog) (by omega) hit.out ty
      have hd := chunks_done hch.out (by omega)
      have hru : rnsOf done = runesOf l := by rw [hd]; rfl
      have hs0 := hst.out 0
      rw [hru, mach_lang hm.out] at hs0
      obtain ⟨b0, hb0'⟩ : ∃ b0, bs[0]? = some b0 := ⟨_, List.getElem?_eq_getElem (by rw [hbl.out]; exact hz)⟩
      have hbv : b0 = H x (runesOf l) := by
        cases b0 with
        | true => exact (holds_yes hH (hs0.1 hb0')).symm
        | false => exact (holds_no hH (fun h => by rw [hs0.2 h] at hb0'; cases hb0')).symm
      have kc := bool_cell hbs.out hb0'
      have hz0 : (0 : Int) < (n : Int) := by omega
      have gg : Gr w wr := gr_trans g1.out (gr_of_below hbel.out (Nat.le_refl _))
      replace hbv := Lib.hid hbv
      replace hs0 := Lib.hid hs0
      replace hd := Lib.hid hd
      replace hru := Lib.hid hru
      replace hb0' := Lib.hid hb0'
      go_wp2
      go_ret
      exact ⟨by rw [← hbv.out]; rfl, gg⟩
/-- Begins, as far as d runes. -/
def BegUp (x : T) (rs : List Int) (d : Nat) (m : Int) : Prop := (m = -1 ∧ ∀ k, k ≤ d → ¬ Lang x (rs.take k)) ∨ ∃ k : Nat, m = k ∧ k ≤ d ∧ Lang x (rs.take k) ∧ ∀ j, k < j → j ≤ d → ¬ Lang x (rs.take j)
theorem begup_yes {x : T} {rs : List Int} {d : Nat} (h : Lang x (rs.take d)) : BegUp x rs d (d : Int) := .inr ⟨d, rfl, Nat.le_refl _, h, fun j h1 h2 => by omega⟩
theorem begup_no {x : T} {rs : List Int} {d : Nat} {m : Int} (h : BegUp x rs d m) (hn : ¬ Lang x (rs.take (d + 1))) : BegUp x rs (d + 1) m := by
  rcases h with ⟨rfl, h⟩ | ⟨k, rfl, h1, h2, h3⟩
  · refine .inl ⟨rfl, fun k hk => ?_⟩
    rcases Nat.lt_or_ge d k with h' | h'
    · obtain rfl : k = d + 1 := by omega
      exact hn
    · exact h k h'
  · refine .inr ⟨k, rfl, by omega, h2, fun j hj hj2 => ?_⟩
    rcases Nat.lt_or_ge d j with h' | h'
    · obtain rfl : j = d + 1 := by omega
      exact hn
    · exact h3 j hj h'
theorem begup_end {x : T} {rs : List Int} {m : Int} (h : BegUp x rs rs.length m) : BegIn x rs m := h
end Go.Proofs.YtccmekdmnkmhlaaGreat
namespace Go.Proofs.YtccmekdmnkmhlaaGreat
open Go.RowKit

theorem runes_ascii : ∀ (l : List UInt8), (∀ c ∈ l, c.toNat < 128) → runesOf l = l.map fun c => (c.toNat : Int) := by
  intro l
  induction l with
  | nil => intro _; rfl
  | cons c t ih =>
    intro h
    rw [runes_cons c (h c (by simp)), ih (fun d hd => h d (by simp [hd])), List.map_cons]
end Go.Proofs.YtccmekdmnkmhlaaGreat
namespace Go.Proofs.YtccmekdmnkmhlaaGreat
open Go.RowKit

theorem compile_ok (n : Nat) (hn : 123 ≤ n) (l : List UInt8) (x : T) (w : World) (hx : pAlt n (runesOf l) = some (x, [])) (hl : (runesOf l).length ≤ 40) (hll : l.length ≤ 1000000) :
    Calls Tryz.prog 121 #[.string (txt l)] w fun e w' => ∃ p, e = .returned (.tuple #[.pointer (some ⟨p, 0, none⟩), .int .i64 0]) ∧ PatAt w' p l x ∧ Gr w w' := by
  refine (compile_any n hn l w hll).mono ?_
  rintro e w' ⟨g, ⟨hb, _⟩ | ⟨_, hno, _⟩ | ⟨_, p, y, hy, _, rfl, hp⟩⟩
  · omega
  · exact absurd hx (hno x)
  · have : y = x := by
      have := hy.symm.trans hx
      simpa using this
    subst this
    exact ⟨p, rfl, hp, g⟩
/-- The document's Spell. -/
theorem refSpell_runes (l : List UInt8) (w : World) (hl : l.length ≤ 1000000) : Calls Tryz.prog 93 #[.string (txt l)] w fun e w' => ∃ A c, e = .returned (.slice A (runesOf l).length c) ∧ w'.ownsRow w.heap.size 21 1 (.slice A (runesOf l).length c) (runesOf l).length ((runesOf l).map (.int .i32)) ∧ Gr w w' := by
  have hrm : (chunks l).map runeV = (runesOf l).map (.int .i32) := by unfold runesOf; rw [List.map_map]; rfl
  refine (refSpell_any l w (by omega)).mono ?_
  rintro e w' ⟨v, rfl, ho, g⟩
  rw [hrm, ← runes_len] at ho
  obtain ⟨A, c, rfl, _, _⟩ := own_open ho
  exact ⟨A, c, rfl, ho, g⟩
theorem runes_dots (k : Nat) : runesOf (List.replicate k 46) = List.replicate k 46 := by
  rw [runes_ascii _ (fun c hc => by rw [List.eq_of_mem_replicate hc]; decide), List.map_replicate]
  rfl
theorem begin_dots (k : Nat) (rs : List Int) : BegIn (.alt1 ((List.replicate k (T.one dotS)).foldl T.rowS .row0)) rs (if k ≤ rs.length then (k : Int) else -1) := by
  split
  · rename_i h
    refine .inr ⟨k, rfl, h, (lang_dots k _).2 (by rw [List.length_take]; omega), fun j hj hj2 hh => ?_⟩
    have := (lang_dots k _).1 hh
    rw [List.length_take] at this
    omega
  · rename_i h
    refine .inl ⟨rfl, fun j hj hh => ?_⟩
    have := (lang_dots k _).1 hh
    rw [List.length_take] at this
    omega
end Go.Proofs.YtccmekdmnkmhlaaGreat
