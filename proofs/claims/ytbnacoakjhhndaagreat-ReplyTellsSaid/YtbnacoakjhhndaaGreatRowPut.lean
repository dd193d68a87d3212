/-
  row.Put: a row's bytes, or that it may not be. No condition but bounds on the lengths.
-/
import Derived.Test.YtbnacoakjhhndaaGreatLabelRight
import Derived.Test.YtbnacoakjhhndaaGreatRowMath
import Derived.Lib.AppendStr
namespace Go.Proofs.YtbnacoakjhhndaaGreat
open Go.RowKit

theorem infoByteR : (Tryz.prog.info? 5).map (fun i => (i.zero, i.size, i.bytes)) = some (some (.int .u8 0), 1, 1) := by kernel_rfl
theorem fright_two (a : Int) (w : World) : Calls Tryz.prog 77 #[.int .i64 a] w fun e w' => e = .returned (.bool (decide (-1000000000000 ≤ a) && decide (a ≤ 1000000000000))) ∧ w = w' := by
  go_enter Tryz.func77, Tryz.ntmps77
  go_wp2
  all_goals
    go_ret
    refine ⟨?_, rfl⟩
    apply congrArg (fun b => Ending.returned (Value.bool b))
    rw [Bool.eq_iff_iff]
    simp
    omega
theorem fright_any (a : Int) (w : World) : Calls Tryz.prog 77 #[.int .i64 a] w fun e w' => e = .returned (.bool (decide (okV a))) ∧ w = w' := by
  have h := fright_two a w
  rw [← Bool.decide_and] at h
  exact h
theorem be6_get (v j : Nat) (hj : j < 6) : (Crc.be 6 v).take (j + 1) = (Crc.be 6 v).take j ++ [UInt8.ofNat (v / 2 ^ (8 * (6 - 1 - j)))] := by
  have hl := Crc.be_length 6 v
  rw [List.take_succ_eq_append_getElem (by omega)]
  congr 2
  simp [Crc.be]
theorem byteV_modR (v n : Nat) : byteV (UInt8.ofNat (v / 2 ^ n)) = .int .u8 ((v : Int) / 2 ^ n % 256) := by
  unfold byteV
  rw [UInt8.toNat_ofNat']
  congr 1
theorem lbsL_take {zs : List Lb} {k : Nat} {x : Lb} (hx : zs[k]? = some x) : lbsL (zs.take (k + 1)) = lbsL (zs.take k) ++ lbL x := by
  obtain ⟨hk, hxk⟩ := List.getElem?_eq_some_iff.1 hx
  rw [List.take_succ_eq_append_getElem hk, hxk, lbsL_append]
  simp [lbsL]
theorem lbsL_take_le {zs : List Lb} (h : okLbs zs) (k : Nat) : (lbsL (zs.take k)).length ≤ 1456 := by
  have h1 := lbsL_le (l := zs.take k) (fun x hx => h.2.1 x (List.mem_of_mem_take hx))
  have h2 : (zs.take k).length ≤ 8 := Nat.le_trans (by rw [List.length_take]; exact Nat.min_le_right _ _) h.1
  omega
/-- A block of another kind is not the row's own. -/
theorem own_apart {w : World} {base size n b : Nat} {e t : TypeId} {v : Value} {xs : List Value} {cs : Array Value} (ho : w.ownsRow base e size v n xs) (hb : w.heap[b]? = some (.cells cs t (0, 0))) (ht : e ≠ t) : v.ownBlock ≠ some b := by
  intro eq
  rcases ho.2 with ⟨hv, _⟩ | ⟨g, cap, cur, hv, _, hg, _⟩
  · rw [hv] at eq; cases eq
  · rw [hv] at eq
    have : g = b := by simpa [Value.ownBlock] using eq
    subst this
    rw [hb] at hg
    injection hg with h1
    injection h1 with _ h2
    exact ht h2.symm
theorem fcellR {w : World} {b : Nat} {cs : Array Value} {t : TypeId} {fr : Nat × Nat} (h : w.heap[b]? = some (.cells cs t fr)) {j : Nat} {v : Value} (hj : cs[j]? = some v) : w.cell? ⟨b, j, none⟩ = some v := by
  unfold World.cell?
  rw [h]
  exact hj
def PutPost (r : Rw) (w : World) (e : Ending) (w' : World) : Prop :=
  e = .returned (if okR r then .tuple #[.string (txt (rowL r)), .int .i64 0] else .tuple #[.string ⟨#[]⟩, .int .i64 1]) ∧ Gr w w'
set_option maxHeartbeats 16000000 in
set_option maxRecDepth 100000 in
theorem put_any (A : Option Addr) (n c : Nat) (zs : List Lb) (v : Int) (w : World) (hn : n ≤ 1000000000) (hA : A = none → n = 0 ∧ c = 0) (hz : Row w A n 2 (sR lblC zs)) (hsh : ShortL zs) (hv : -9223372036854775808 ≤ v ∧ v ≤ 9223372036854775807) :
    Calls Tryz.prog 22 #[.agg #[.slice A n c, .int .i64 v]] w (PutPost ⟨zs, v⟩ w) := by
  obtain ⟨ii, hi, hz0, hz1, hzb⟩ := info_parts infoByteR
  obtain ⟨W1, hW1⟩ : ∃ W1, W1 = w.alloc (.cells #[.slice A n c, .int .i64 v] 34) := ⟨_, rfl⟩
  have g1 : Gr w W1 := by rw [hW1]; exact gr_alloc _ _ _
  have b0 : W1.cell? ⟨w.heap.size, 0, none⟩ = some (.slice A n c) := by rw [hW1, World.cell?_alloc_new]; rfl
  have b1 : W1.cell? ⟨w.heap.size, 1, none⟩ = some (.int .i64 v) := by rw [hW1, World.cell?_alloc_new]; rfl
  have hlr := lright_any A n c zs W1 hn hA (row_gr hz g1) hsh
  have hl : zs.length = n := by have := hz.1; rw [sR_len lblC 2 lblC_len] at this; omega
  have hz1r := row_gr hz g1
  clear hz hsh
  obtain ⟨P, hP⟩ : ∃ P : Value, P = (if okR ⟨zs, v⟩ then .tuple #[.string (txt (rowL ⟨zs, v⟩)), .int .i64 0] else .tuple #[.string ⟨#[]⟩, .int .i64 1]) := ⟨_, rfl⟩
  unfold PutPost
  rw [← hP]
  replace hP := Lib.hid hP
  replace hz1r := Lib.hid hz1r
  replace hl := Lib.hid hl
  replace g1 := Lib.hid g1
  go_enter Tryz.func22, Tryz.ntmps22
  by_cases hok : okLbs zs
  · rw [decide_eq_true hok] at hlr
    replace hlr := Lib.hid hlr
    have hfr := fun W => fright_any v W
    by_cases hvk : okV v
    · rw [decide_eq_true hvk] at hfr
      have hpe : P = .tuple #[.string (txt (rowL ⟨zs, v⟩)), .int .i64 0] := by rw [hP.out, if_pos ⟨hok, hvk⟩]
      obtain ⟨N, hN⟩ : ∃ N : Nat, (N : Int) = v + 1000000000000 := ⟨(v + 1000000000000).toNat, by have := hvk.1; omega⟩
      have hNb : N ≤ 2000000000000 := by have := hvk.2; omega
      have hrl : rowL ⟨zs, v⟩ = UInt8.ofNat n :: (lbsL zs ++ Crc.be 6 N) := by unfold rowL; simp only; rw [hl.out, ← hN]; rfl
      have hw1 : wrap64 (v + 1000000000000) = (N : Int) := by rw [hN]; unfold wrap64; have := hvk.1; have := hvk.2; omega
      have hw2 : IntKind.u64.wrap (N : Int) = (N : Int) := by simp [IntKind.wrap, IntKind.bits, IntKind.signed]; omega
      have h8 := hok.1
      rw [hl.out] at h8
      have hnb : (n : Int) % 256 = n := by omega
      have hnv : byteV (UInt8.ofNat n) = .int .u8 n := by unfold byteV; rw [ofNat_len n (by omega)]
      replace hfr := Lib.hid hfr
      replace hpe := Lib.hid hpe
      replace hrl := Lib.hid hrl
      replace hok := Lib.hid hok
      replace hvk := Lib.hid hvk
      replace hN := Lib.hid hN
      go_upto_region 1 with fail
      rw [← hW1]
      clear hW1
      go_wp2_with fail
      refine hlr.out.mono ?_
      rintro e w2 ⟨rfl, g2⟩
      have c0 := gr_cell g2 b0
      have c1 := gr_cell g2 b1
      have hz2 := row_gr hz1r.out g2
      have G2 := gr_trans g1.out g2
      replace hz2 := Lib.hid hz2
      replace G2 := Lib.hid G2
      clear b0 b1 hz1r g1 g2 hlr
      go_wp2_with fail
      refine (hfr.out _).mono ?_
      rintro e w3 ⟨rfl, rfl⟩
      go_upto_region 4 with fail
      obtain ⟨W3, hW3⟩ : ∃ W3, W3 = w2.alloc (.cells #[.int .u8 n] 5) := ⟨_, rfl⟩
      rw [← hW3]
      have g3 : Gr w2 W3 := by rw [hW3]; exact gr_alloc _ _ _
      have d0 := gr_cell g3 c0
      have ho3 : W3.ownsRow w2.heap.size 5 1 (.slice (some ⟨w2.heap.size, 0, none⟩) 1 1) 1 ([UInt8.ofNat n].map byteV) := by
        rw [hW3]
        refine ⟨rfl, .inr ⟨w2.heap.size, 1, #[.int .u8 n], rfl, Nat.le_refl _, blk_new w2 _, Nat.le_refl _, by decide, rfl, ?_⟩⟩
        show [Value.int .u8 n] = _
        rw [List.map_singleton, hnv]
      have hb3 : Below w2.heap.size w2 W3 := gr_below g3
      have hlt1 := World.block_lt_of_cell? _ _ c1
      clear c0 g3 hW3
      replace c1 := Lib.hid c1
      replace ho3 := Lib.hid ho3
      replace hb3 := Lib.hid hb3
      replace hnv := Lib.hid hnv
      go_wp2
      clear d0
      go_loopw [4, 27] (fun o iv wr => ∃ (k m : Nat), k ≤ n ∧ iv = .int .i64 k ∧ Hid (m = 1 + (lbsL (zs.take k)).length) ∧ Hid (wr.ownsRow w2.heap.size 5 1 o m ((UInt8.ofNat n :: lbsL (zs.take k)).map byteV)) ∧ Hid (Below w2.heap.size w2 wr)) (fun _ iv _ => n - (intOf iv).toNat)
      case atStart => exact ⟨0, 1, Nat.zero_le _, rfl, rfl, ho3.out, hb3.out⟩
      case round =>
        obtain ⟨k, m, hk, rfl, hm, ho, hb⟩ := hrel
        by_cases hlt : k < n
        · obtain ⟨x, gA, oA, hx, rfl, _, ha⟩ := rowS_elem lblC_len (row_below hz2.out hb.out) (by decide) hlt
          obtain ⟨a0, a1⟩ := two_cells ha
          have hki : (k : Int) < (n : Int) := by omega
          have hk0 : (0 : Int) ≤ (k : Int) := by omega
          have hxo := hok.out.2.1 x (List.mem_of_getElem? hx)
          have hxn := name_le hxo.1
          have hxv := hxo.2.2
          have hnx := lbsL_take hx
          have hmb : m ≤ 1457 := by rw [hm.out]; have := lbsL_take_le hok.out k; omega
          have e1 : (x.n.length : Int) % 256 = x.n.length := by omega
          have e2 : (x.v.length : Int) % 256 = x.v.length := by omega
          have w1 : byteV (UInt8.ofNat x.n.length) = .int .u8 x.n.length := by unfold byteV; rw [ofNat_len _ (by omega)]
          have w2b : byteV (UInt8.ofNat x.v.length) = .int .u8 x.v.length := by unfold byteV; rw [ofNat_len _ (by omega)]
          replace hnx := Lib.hid hnx
          replace hxo := Lib.hid hxo
          replace hx := Lib.hid hx
          clear ha
          go_upto_region 7 with fail
          obtain ⟨Wa, hWa⟩ : ∃ Wa, Wa = wr.alloc (.cells #[.string (txt x.n), .string (txt x.v)] 77) := ⟨_, rfl⟩
          rw [← hWa]
          have ga : Gr wr Wa := by rw [hWa]; exact gr_alloc _ _ _
          have hk0 : Wa.heap[wr.heap.size]? = some (.cells #[.string (txt x.n), .string (txt x.v)] 77 (0, 0)) := by rw [hWa]; exact blk_new wr _
          have ho0 := ho.out.kept ga (Classical.em _)
          have hb0 := below_gr hb.out ga hb.out.size (by simp)
          clear a0 a1 hWa
          replace ho0 := Lib.hid ho0
          replace hb0 := Lib.hid hb0
          replace hk0 := Lib.hid hk0
          have s0 : Wa.cell? ⟨wr.heap.size, 0, none⟩ = some (.string (txt x.n)) := fcellR hk0.out rfl
          go_upto_region 8 with (at_builtin; refine wpList_append_own (o := ⟨some 37, _, _, _, _, _⟩) _ rfl _ _ 62 rfl w2.heap.size 5 ii (.int .u8 0) 1 1 Tryz.underlying62 hi hz0 hz1 hzb rfl (by decide) u4 m _ rfl (ho0.out.alloc _) ⟨Wa.heap.size, 0, none⟩ 1 1 [.int .u8 x.n.length] rfl ?p10 ?p11 ?p12 ?p13 ?p14 ?p15 ?_; rotate_right; intro v1 Y1 ho1 hg1 _nl; clear _nl; have hb1 := hb0.out.trans (below_append ho0.out hg1 hb0.out.size); have hk1 := gr_blk hg1 (gr_blk (gr_alloc Wa _ none) hk0.out (by simp)) (fun e => own_apart ho0.out hk0.out (by decide) e.symm); clear hg1; replace ho1 := Lib.hid ho1; replace hb1 := Lib.hid hb1; replace hk1 := Lib.hid hk1; have sa1 : Y1.cell? ⟨wr.heap.size, 0, none⟩ = some (.string (txt x.n)) := fcellR hk1.out rfl; have sb1 : Y1.cell? ⟨wr.heap.size, 1, none⟩ = some (.string (txt x.v)) := fcellR hk1.out rfl)
          case p10 => rfl
          case p11 => exact cell_one_new _ _ _
          case p12 => simp [Value.oneCell']
          case p13 => unfold maxLen; (try simp only [txt_size]); omega
          case p14 => (try simp only [txt_size]); omega
          case p15 => simp; exact Nat.le_succ_of_le hb0.out.size
          go_upto_region 9 with (at_builtin; refine Lib.wpList_append_own_string (o := ⟨some 41, _, _, _, _, _⟩) _ rfl _ _ 62 9 rfl w2.heap.size 5 ii Tryz.underlying62 Tryz.underlying9 hi hz0 hz1 hzb v1 (m + 1) _ rfl ho1.out (txt x.n) rfl ?p20 ?p21 ?p22 ?_; rotate_right; intro v2 Y2 ho2 hg2 _nl; clear _nl; have hb2 := below_gr hb1.out hg2 hb1.out.size (fun k hk => (ho1.out.lt k hk).1); have hk2 := gr_blk hg2 hk1.out (fun e => own_apart ho1.out hk1.out (by decide) e.symm); clear hg2; replace ho2 := Lib.hid ho2; replace hb2 := Lib.hid hb2; replace hk2 := Lib.hid hk2; have sa2 : Y2.cell? ⟨wr.heap.size, 0, none⟩ = some (.string (txt x.n)) := fcellR hk2.out rfl; have sb2 : Y2.cell? ⟨wr.heap.size, 1, none⟩ = some (.string (txt x.v)) := fcellR hk2.out rfl)
          case p20 => unfold maxLen; simp only [txt_size]; omega
          case p21 => simp only [txt_size]; omega
          case p22 => exact hb1.out.size
          go_upto_region 10 with (at_builtin; refine wpList_append_own (o := ⟨some 48, _, _, _, _, _⟩) _ rfl _ _ 62 rfl w2.heap.size 5 ii (.int .u8 0) 1 1 Tryz.underlying62 hi hz0 hz1 hzb rfl (by decide) v2 (m + 1 + (txt x.n).size) _ rfl (ho2.out.alloc _) ⟨Y2.heap.size, 0, none⟩ 1 1 [.int .u8 x.v.length] rfl ?p30 ?p31 ?p32 ?p33 ?p34 ?p35 ?_; rotate_right; intro v3 Y3 ho3 hg3 _nl; clear _nl; have hb3 := hb2.out.trans (below_append ho2.out hg3 hb2.out.size); have hk3 := gr_blk hg3 (gr_blk (gr_alloc Y2 _ none) hk2.out (by simp)) (fun e => own_apart ho2.out hk2.out (by decide) e.symm); clear hg3; replace ho3 := Lib.hid ho3; replace hb3 := Lib.hid hb3; replace hk3 := Lib.hid hk3; have sa3 : Y3.cell? ⟨wr.heap.size, 0, none⟩ = some (.string (txt x.n)) := fcellR hk3.out rfl; have sb3 : Y3.cell? ⟨wr.heap.size, 1, none⟩ = some (.string (txt x.v)) := fcellR hk3.out rfl)
          case p30 => rfl
          case p31 => exact cell_one_new _ _ _
          case p32 => simp [Value.oneCell']
          case p33 => unfold maxLen; (try simp only [txt_size]); omega
          case p34 => (try simp only [txt_size]); omega
          case p35 => simp; exact Nat.le_succ_of_le hb2.out.size
          go_upto_region 11 with (at_builtin; refine Lib.wpList_append_own_string (o := ⟨some 52, _, _, _, _, _⟩) _ rfl _ _ 62 9 rfl w2.heap.size 5 ii Tryz.underlying62 Tryz.underlying9 hi hz0 hz1 hzb v3 (m + 1 + (txt x.n).size + 1) _ rfl ho3.out (txt x.v) rfl ?p40 ?p41 ?p42 ?_; rotate_right; intro v4 Y4 ho4 hg4 _nl; clear _nl; have hb4 := below_gr hb3.out hg4 hb3.out.size (fun k hk => (ho3.out.lt k hk).1); have hk4 := gr_blk hg4 hk3.out (fun e => own_apart ho3.out hk3.out (by decide) e.symm); clear hg4; replace ho4 := Lib.hid ho4; replace hb4 := Lib.hid hb4; replace hk4 := Lib.hid hk4; have sa4 : Y4.cell? ⟨wr.heap.size, 0, none⟩ = some (.string (txt x.n)) := fcellR hk4.out rfl; have sb4 : Y4.cell? ⟨wr.heap.size, 1, none⟩ = some (.string (txt x.v)) := fcellR hk4.out rfl)
          case p40 => unfold maxLen; simp only [txt_size]; omega
          case p41 => simp only [txt_size]; omega
          case p42 => exact hb3.out.size
          go_wp2
          go_roundw
          case rel => exact ⟨k + 1, m + 1 + x.n.length + 1 + x.v.length, by omega, by go_num, (by show _ = _; rw [hnx.out, List.length_append, lbL_len, hm.out]; omega), (by
            have h1 := ho4.out
            rw [txt_size, txt_size] at h1
            have h2 : (UInt8.ofNat n :: lbsL (zs.take (k + 1))).map byteV = (UInt8.ofNat n :: lbsL (zs.take k)).map byteV ++ [.int .u8 x.n.length] ++ Lib.strCells (txt x.n) ++ [.int .u8 x.v.length] ++ Lib.strCells (txt x.v) := by
              rw [hnx.out]
              have hs : ∀ l, Lib.strCells (txt l) = l.map byteV := fun _ => rfl
              simp only [lbL, lenT, List.map_cons, List.map_append, w1, w2b, hs]
              simp
            show Y4.ownsRow _ _ _ _ _ _
            rw [h2]
            exact h1), hb4.out⟩
          case measure => simp [intOf]; omega
        · obtain rfl : k = n := by omega
          have hfull : zs.take k = zs := List.take_of_length_le (by rw [hl.out]; exact Nat.le_refl _)
          have hmb : m ≤ 1457 := by rw [hm.out]; have := lbsL_take_le hok.out k; omega
          have ho2 := ho.out
          rw [hfull] at ho2
          have c1r : wr.cell? ⟨w.heap.size, 1, none⟩ = some (.int .i64 v) := (hb.out.cell hlt1).trans c1.out
          replace ho2 := Lib.hid ho2
          clear hm ho hfull
          go_wp2
          clear c1r hw1 hw2
          go_loopw [4, 58] (fun o iv wq => ∃ j : Nat, j ≤ 6 ∧ iv = .int .i64 j ∧ Hid (wq.ownsRow w2.heap.size 5 1 o (m + j) ((UInt8.ofNat k :: lbsL zs).map byteV ++ ((Crc.be 6 N).take j).map byteV)) ∧ Hid (Below w2.heap.size w2 wq)) (fun _ iv _ => 6 - (intOf iv).toNat)
          case atStart => exact ⟨0, Nat.zero_le _, rfl, by rw [List.take_zero, List.map_nil, List.append_nil]; exact ho2.out, hb.out⟩
          case round =>
            obtain ⟨j, hj, rfl, hoq, hbq⟩ := hrel
            by_cases hj6 : j < 6
            · have hs := hbq.out.size
              have hji : (j : Int) < 6 := by omega
              go_wp2_with (at_builtin; refine wpList_append_own _ rfl _ _ 62 rfl w2.heap.size 5 ii (.int .u8 0) 1 1 Tryz.underlying62 hi hz0 hz1 hzb rfl (by decide) u4 _ _ rfl (hoq.out.alloc _) ⟨wr.heap.size, 0, none⟩ 1 1 [byteV (UInt8.ofNat (N / 2 ^ (8 * (6 - 1 - j))))] rfl ?r0 ?r1 ?r2 ?r3 ?r4 ?r5 ?_; rotate_right; intro v' W4 hown4 hgrow _nl; clear _nl; have hb4 := below_append hoq.out hgrow hs; clear hgrow; replace hown4 := Lib.hid hown4)
              case r0 => rfl
              case r1 => rw [byteV_modR]; exact cell_one_new _ _ _
              case r2 => simp [byteV, Value.oneCell']
              case r3 => unfold maxLen; omega
              case r4 => omega
              case r5 => simp; omega
              go_roundw
              case rel => exact ⟨j + 1, by omega, by go_num, by rw [be6_get N j hj6, List.map_append, ← List.append_assoc]; exact hown4.out, hbq.out.trans hb4⟩
              case measure => simp [intOf]; omega
            · obtain rfl : j = 6 := by omega
              have hown' := hoq.out
              rw [List.take_of_length_le (by rw [Crc.be_length]; exact Nat.le_refl _), ← List.map_append] at hown'
              have hcv := run_string_own (P := Tryz.prog) wr 62 9 5 Tryz.underlying62 Tryz.underlying5 Tryz.underlying9 hown'
              rw [List.cons_append, ← hrl.out] at hcv
              clear hown'
              go_wp2
              go_ret2
              exact ⟨by rw [hpe.out]; rfl, gr_trans G2.out (gr_of_below hbq.out (Nat.le_refl _))⟩
    · rw [decide_eq_false hvk] at hfr
      have hpe : P = .tuple #[.string ⟨#[]⟩, .int .i64 1] := by rw [hP.out, if_neg (fun k => hvk k.2)]
      replace hfr := Lib.hid hfr
      replace hpe := Lib.hid hpe
      replace hok := Lib.hid hok
      replace hvk := Lib.hid hvk
      go_upto_region 1 with fail
      rw [← hW1]
      clear hW1
      go_wp2_with fail
      refine hlr.out.mono ?_
      rintro e w2 ⟨rfl, g2⟩
      have c0 := gr_cell g2 b0
      have c1 := gr_cell g2 b1
      clear b0 b1
      go_wp2_with fail
      refine (hfr.out _).mono ?_
      rintro e w3 ⟨rfl, rfl⟩
      go_wp2
      go_ret2
      exact ⟨by rw [hpe.out]; rfl, gr_trans g1.out g2⟩
  · rw [decide_eq_false hok] at hlr
    have hpe : P = .tuple #[.string ⟨#[]⟩, .int .i64 1] := by rw [hP.out, if_neg (fun k => hok k.1)]
    replace hlr := Lib.hid hlr
    replace hpe := Lib.hid hpe
    replace hok := Lib.hid hok
    go_upto_region 1 with fail
    rw [← hW1]
    clear hW1
    go_wp2_with fail
    refine hlr.out.mono ?_
    rintro e w2 ⟨rfl, g2⟩
    go_wp2
    go_ret2
    exact ⟨by rw [hpe.out]; rfl, gr_trans g1.out g2⟩
end Go.Proofs.YtbnacoakjhhndaaGreat
