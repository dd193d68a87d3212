/-
  Rot of a chest of one file: bits are turned. No condition but bounds.
-/
import Derived.Test.YtbkhopfoabdeiaaChestI
import Derived.Test.YtbkhopfoabdeiaaGuardMath
namespace Go.Proofs.Ytbkhopfoabdeiaa
open Go.RowKit Go.Maps Go.Sort

theorem bitsB_injC {a b : UInt8} (h : Crc.bitsB a = Crc.bitsB b) : a = b := by
  apply UInt8.toNat_inj.1
  have ha := UInt8.toNat_lt a
  have hb := UInt8.toNat_lt b
  have h1 : ∀ m, m < 8 → a.toNat / 2 ^ (7 - m) % 2 = b.toNat / 2 ^ (7 - m) % 2 := by
    intro m hm
    have h2 : (Crc.bitsB a)[m]? = (Crc.bitsB b)[m]? := by rw [h]
    unfold Crc.bitsB at h2
    rw [List.getElem?_map, List.getElem?_map, List.getElem?_range hm] at h2
    simpa using h2
  have e0 := h1 0 (by omega)
  have e1 := h1 1 (by omega)
  have e2 := h1 2 (by omega)
  have e3 := h1 3 (by omega)
  have e4 := h1 4 (by omega)
  have e5 := h1 5 (by omega)
  have e6 := h1 6 (by omega)
  have e7 := h1 7 (by omega)
  simp at e0 e1 e2 e3 e4 e5 e6 e7
  omega
theorem bitsL_injC : ∀ {l m : List UInt8}, Crc.bitsL l = Crc.bitsL m → l = m
  | [], [], _ => rfl
  | [], b :: m, h => by
    have := congrArg List.length h
    rw [Crc.bitsL_length, Crc.bitsL_length] at this
    simp at this
  | a :: l, [], h => by
    have := congrArg List.length h
    rw [Crc.bitsL_length, Crc.bitsL_length] at this
    simp at this
  | a :: l, b :: m, h => by
    have e : ∀ (x : UInt8) (y : List UInt8), Crc.bitsL (x :: y) = Crc.bitsB x ++ Crc.bitsL y := fun x y => by simp [Crc.bitsL]
    rw [e, e] at h
    have h1 := List.append_inj h (by rw [Crc.bitsB_length, Crc.bitsB_length])
    rw [bitsB_injC h1.1, bitsL_injC h1.2]
/-- The bit of a turn at a place. -/
def tb (t j : Nat) : Nat := t / 2 ^ (31 - j) % 2
/-- What has been turned of l by j rounds from the bit K on. -/
structure Trn (l l' : List UInt8) (K t j : Nat) : Prop where
  len : l'.length = l.length
  bit : ∀ p, (Crc.bitsL l')[p]? = if K ≤ p ∧ p < K + j ∧ tb t (p - K) = 1 then ((Crc.bitsL l)[p]?).map (fun b => 1 - b) else (Crc.bitsL l)[p]?
theorem trn_start (l : List UInt8) (K t : Nat) : Trn l l K t 0 := ⟨rfl, fun p => by rw [if_neg (by omega)]⟩
theorem trn_skip {l l' : List UInt8} {K t j : Nat} (h : Trn l l' K t j) (ht : tb t j = 0) : Trn l l' K t (j + 1) := ⟨h.len, fun p => by
  rw [h.bit p]
  by_cases hp : p = K + j
  · subst hp
    rw [if_neg (by omega), if_neg (by rw [Nat.add_sub_cancel_left]; omega)]
  · by_cases hc : K ≤ p ∧ p < K + j ∧ tb t (p - K) = 1
    · rw [if_pos hc, if_pos ⟨hc.1, by omega, hc.2.2⟩]
    · rw [if_neg hc, if_neg (fun h2 => hc ⟨h2.1, by omega, h2.2.2⟩)]⟩
theorem trn_flip {l l' : List UInt8} {K t j : Nat} (h : Trn l l' K t j) (ht : tb t j = 1) {x : UInt8} (hx : l'[(K + j) / 8]? = some x) : Trn l (l'.set ((K + j) / 8) (Crc.flipB x ((K + j) % 8))) K t (j + 1) := ⟨by rw [List.length_set]; exact h.len, fun p => by
  rw [Crc.bits_set l' (K + j) x hx]
  by_cases hp : p = K + j
  · subst hp
    rw [if_pos rfl, if_pos ⟨by omega, by omega, by rw [Nat.add_sub_cancel_left]; exact ht⟩]
    have h1 := h.bit (K + j)
    rw [if_neg (by omega)] at h1
    rw [← h1, Crc.bitsL_get, hx]
    rfl
  · rw [if_neg hp, h.bit p]
    by_cases hc : K ≤ p ∧ p < K + j ∧ tb t (p - K) = 1
    · rw [if_pos hc, if_pos ⟨hc.1, by omega, hc.2.2⟩]
    · rw [if_neg hc, if_neg (fun h2 => hc ⟨h2.1, by omega, h2.2.2⟩)]⟩
/-- Turned twice it is as it was. -/
theorem trn_twice {l l' l2 : List UInt8} {K t j : Nat} (h : Trn l l' K t j) (h2 : Trn l' l2 K t j) : l2 = l := by
  apply bitsL_injC
  apply List.ext_getElem?
  intro p
  rw [h2.bit p, h.bit p]
  by_cases hc : K ≤ p ∧ p < K + j ∧ tb t (p - K) = 1
  · rw [if_pos hc, if_pos hc]
    cases hb : (Crc.bitsL l)[p]? with
    | none => rfl
    | some b =>
      have := Crc.bitsL_lt l b (List.mem_of_getElem? hb)
      simp only [Option.map_some, Option.some.injEq]
      omega
  · rw [if_neg hc, if_neg hc]
/-- Which bits are other ones. -/
theorem trn_diff {l l' : List UInt8} {K t j i : Nat} (h : Trn l l' K t j) {x y : UInt8} (hx : l[i / 8]? = some x) (hy : l'[i / 8]? = some y) :
    (y.toNat / 2 ^ (7 - i % 8) % 2 + x.toNat / 2 ^ (7 - i % 8) % 2) % 2 = if K ≤ i ∧ i < K + j ∧ tb t (i - K) = 1 then 1 else 0 := by
  have h1 := h.bit i
  rw [Crc.bitsL_get, Crc.bitsL_get, hx, hy] at h1
  simp only [Option.map_some] at h1
  by_cases hc : K ≤ i ∧ i < K + j ∧ tb t (i - K) = 1
  · rw [if_pos hc] at h1 ⊢
    have := Option.some.inj h1
    omega
  · rw [if_neg hc] at h1 ⊢
    have := Option.some.inj h1
    omega
theorem xor_one (x : UInt8) (r : Nat) (hr : r < 8) : bits .xor .u8 (x.toNat : Int) (2 ^ (7 - r)) = ((Crc.flipB x r).toNat : Int) := by
  rw [← Crc.flip_walk8]
  congr 1
  have : r = 0 ∨ r = 1 ∨ r = 2 ∨ r = 3 ∨ r = 4 ∨ r = 5 ∨ r = 6 ∨ r = 7 := by omega
  rcases this with rfl | rfl | rfl | rfl | rfl | rfl | rfl | rfl <;> rfl
theorem and1C (n : Nat) : bits .and .u32 (n % 4294967296 : Nat) 1 = ((n % 2 : Nat) : Int) := by
  have h := u32_and_nat (n % 4294967296) 1 (by omega) (by decide)
  rw [show ((1 : Nat) : Int) = 1 from rfl] at h
  rw [h, nat_mask1]
  congr 1
  omega
theorem and_tb (t j : Nat) (ht : t < 4294967296) : bits .and .u32 ((t : Int) / 2 ^ (31 - j)) 1 = ((tb t j : Nat) : Int) := by
  have h1 : t / 2 ^ (31 - j) < 4294967296 := Nat.lt_of_le_of_lt (Nat.div_le_self _ _) ht
  have h2 := and1C (t / 2 ^ (31 - j))
  rw [Nat.mod_eq_of_lt h1] at h2
  unfold tb
  rw [← h2]
  congr 1
theorem ch_else {w wi w' : World} {C M b : Nat} {q dd : Int} {fs : Fs} {off : Bool} (h : ChIs w wi C M q fs off dd) (g : GrB b wi w') (hw : w.heap.size ≤ b) (hC : b ≠ C) (hM : b ≠ M) : ChIs w w' C M q fs off dd :=
  ⟨gr_overC h.gr g hw, gr_blk g h.blk (by simp; omega), mapF_grB h.map g hM, h.le⟩
theorem grS_new {S : Nat → Prop} {b : Nat} {w V V' : World} (h : GrS S w V) (k : GrB b V V') (hb : w.heap.size ≤ b) : GrS S w V' :=
  ⟨by rw [k.os, h.os], by rw [k.tape, h.tape], by rw [k.output, h.output], Nat.le_trans h.size k.size, fun i hi hn => by rw [k.block i (Nat.lt_of_lt_of_le hi h.size) (by simp; omega), h.block i hi hn]⟩
theorem xor_none (x : UInt8) : bits .xor .u8 (x.toNat : Int) 0 = (x.toNat : Int) := by
  have h := u8_xor_nat x.toNat 0 (UInt8.toNat_lt x) (by omega)
  simpa using h
theorem pow8 {r : Nat} (hr : r < 8) : ((2 : Int) ^ (7 - r)) % 256 = 2 ^ (7 - r) := by
  have : r = 0 ∨ r = 1 ∨ r = 2 ∨ r = 3 ∨ r = 4 ∨ r = 5 ∨ r = 6 ∨ r = 7 := by omega
  rcases this with rfl | rfl | rfl | rfl | rfl | rfl | rfl | rfl <;> rfl
set_option maxHeartbeats 8000000 in
set_option maxRecDepth 100000 in
theorem rot_any {w wi : World} {C M : Nat} {q dd fx : Int} {l fb : List UInt8} (h : ChIs w wi C M q [(l, ⟨fb, fx⟩)] false dd) (hll : l.length ≤ 1000000) (hfl : fb.length ≤ 1000) (K t : Nat) (hK : K < 8 * fb.length) (ht : t < 4294967296) :
    Calls Try.prog 20 #[.pointer (some ⟨C, 0, none⟩), .string (txt l), .int .i64 K, .int .u32 t] wi fun e w' => e = .returned (.bool true) ∧ (∃ s, Trn fb s K t (min 32 (8 * fb.length - K)) ∧ ChIs w w' C M q [(l, ⟨s, fx⟩)] false dd) ∧ GrS (TnC C M) wi w' := by
  have cN := none_any C M q dd false _ h.blk
  have hlk := look2 h.map l hll
  rw [get_one] at hlk
  simp only [Option.getD_some, Option.isSome_some] at hlk
  unfold flV at hlk
  simp only at hlk
  have c1 := (chb_cells h.blk).2.1
  have hm8 : IntKind.i64.wrap (8 * (fb.length : Int)) = 8 * (fb.length : Int) := IntWalk.i64_in _ (by omega)
  have hb1 : ¬ (8 * (fb.length : Int) ≤ (K : Int)) := by omega
  have hb0 : ¬ ((K : Int) < 0) := by omega
  have hsb : IntKind.i64.wrap (8 * (fb.length : Int) - (K : Int)) = ((8 * fb.length - K : Nat) : Int) := by rw [IntWalk.i64_in _ (by omega)]; omega
  obtain ⟨N, hN⟩ : ∃ N, N = min 32 (8 * fb.length - K) := ⟨_, rfl⟩
  have hNI : min (32 : Int) ((8 * fb.length - K : Nat) : Int) = (N : Int) := by omega
  rw [← hN]
  have hwi0 : w.heap.size ≤ wi.heap.size := h.gr.size
  replace cN := Lib.hid cN
  replace h := Lib.hid h
  go_enter Try.func20, Try.ntmps20
  go_wp2_with fail
  refine cN.out.mono ?_
  rintro e w' ⟨rfl, rfl⟩
  go_upto_region 6 with fail
  have g1 : Gr wi (wi.alloc (.cells #[.string (txt fb), .int .i64 fx] 47)) := gr_alloc _ _ _
  have a1 : (wi.alloc (.cells #[.string (txt fb), .int .i64 fx] 47)).heap[wi.heap.size]? = some (.cells #[.string (txt fb), .int .i64 fx] 47 (0, 0)) := blk_new wi _
  have h1 := ch_gr h.out g1
  generalize wi.alloc (.cells #[.string (txt fb), .int .i64 fx] 47) = W1 at *
  have hcv := run_to_bytes (P := Try.prog) 9 33 5 (txt fb) Try.underlying9 Try.underlying33 Try.underlying5 W1
  have hg2 := bW_gr 5 W1 (txt fb)
  have hbt := bW_bts 5 W1 (txt fb)
  obtain ⟨b, hb⟩ : ∃ b, b = W1.heap.size := ⟨_, rfl⟩
  rw [← hb, txt_size] at hcv
  rw [← hb, txt_data] at hbt
  have c0 : W1.cell? ⟨wi.heap.size, 0, none⟩ = some (.string (txt fb)) := fcellC a1 rfl
  have a2 := gr_blk hg2 a1 (by simp)
  have hwi := hwi0
  have hFb : wi.heap.size < b := by rw [hb]; exact lt_of_blk a1
  have h2 := ch_gr h1 hg2
  have gs2 := grS_step (S := TnC C M) (tnC_gr g1) (tnC_gr hg2)
  have hb2 : W1.heap.size ≤ b := by omega
  have hCb : C < b := by rw [hb]; exact lt_of_blk h1.blk
  have hMb : M < b := by rw [hb]; exact World.ownsMap.lt h1.map
  generalize bW 5 W1 (txt fb) = W3 at *
  generalize bC 5 W1 (txt fb) = cc at *
  obtain ⟨F, hFe⟩ : ∃ F, F = wi.heap.size := ⟨_, rfl⟩
  have hFi2 : wi.heap.size ≤ F := by omega
  rw [← hFe] at a2 hFb c0 ⊢
  have hwi : w.heap.size ≤ wi.heap.size := hwi0
  have d0 : W3.cell? ⟨F, 0, none⟩ = some (.string (txt fb)) := fcellC a2 rfl
  replace h2 := Lib.hid h2
  replace gs2 := Lib.hid gs2
  replace a2 := Lib.hid a2
  replace hb := Lib.hid hb
  replace hbt := Lib.hid hbt
  replace hFb := Lib.hid hFb
  replace hCb := Lib.hid hCb
  replace hMb := Lib.hid hMb
  replace hN := Lib.hid hN
  replace hwi := Lib.hid hwi
  replace hFi2 := Lib.hid hFi2
  replace hFe := Lib.hid hFe
  clear hwi0
  clear g1 a1 h1 hg2 h hlk hb2 cN
  go_upto_region 7 with fail
  clear hcv c0
  go_wp2_with fail

  go_loopw [49] (fun iv wr => ∃ (j : Nat) (l' : List UInt8), j ≤ N ∧ iv = .int .i64 j ∧ Hid (Bts 5 wr b l') ∧ Hid (Trn fb l' K t j) ∧ Hid (GrB b W3 wr)) (fun iv _ => N - (intOf iv).toNat)
  case atStart => exact ⟨0, fb, Nat.zero_le _, rfl, hbt, Lib.hid (trn_start _ _ _), Lib.hid (gr_refl _ _)⟩
  case round =>
    obtain ⟨j, l', hj, rfl, hbj, htr, hg⟩ := hrel
    by_cases hlt : j < N
    · have hj31 : j ≤ 31 := by have := hN.out; omega
      have hKj : K + j < 8 * fb.length := by have := hN.out; omega
      have hl' := htr.out.len
      obtain ⟨x, hx⟩ : ∃ x, l'[(K + j) / 8]? = some x := ⟨_, List.getElem?_eq_getElem (by omega)⟩
      have hc := bts_cell hbj.out hx
      have hf := bts_free hbj.out (j := (K + j) / 8) (by omega)
      unfold byteV at hc
      have hji : (j : Int) < (N : Int) := by omega
      have hj0 : (0 : Int) ≤ (j : Int) := by omega
      have hq0 : IntKind.i64.wrap ((K : Int) + (j : Int)) = (K : Int) + (j : Int) := IntWalk.i64_in _ (by omega)
      have hq1 : (((K : Int) + (j : Int)) / 8).toNat = (K + j) / 8 := by omega
      have hq2 : (((K : Int) + (j : Int)) % 8).toNat = (K + j) % 8 := by omega
      replace hx := Lib.hid hx
      replace hl' := Lib.hid hl'
      replace hKj := Lib.hid hKj
      have hand := and_tb t j ht
      have htb : tb t j = 0 ∨ tb t j = 1 := by unfold tb; omega
      rcases htb with htb | htb
      · rw [htb] at hand
        have hxx := xor_none x
        have hset : l'.set ((K + j) / 8) x = l' := by
          obtain ⟨h1, h2⟩ := List.getElem?_eq_some_iff.1 hx.out
          rw [← h2]
          exact List.set_getElem_self h1
        have hbs := bts_set hbj.out ((K + j) / 8) x
        rw [hset] at hbs
        have hgs : GrB b W3 (wr.setCell ⟨b, (K + j) / 8, none⟩ (byteV x)) := gr_trans hg.out (gr_set wr ⟨b, (K + j) / 8, none⟩ _)
        replace htb := Lib.hid htb
        replace hbs := Lib.hid hbs
        replace hgs := Lib.hid hgs
        clear hset
        go_wp2_with fail
        go_roundw
        case rel => exact ⟨j + 1, l', by omega, by go_num, hbs, Lib.hid (trn_skip htr.out htb.out), hgs⟩
        case measure => simp [intOf]; omega
      · rw [htb] at hand
        have hxx : bits .xor .u8 (x.toNat : Int) (2 ^ (7 - (K + j) % 8) % 256) = ((Crc.flipB x ((K + j) % 8)).toNat : Int) := by
          rw [pow8 (by omega)]
          exact xor_one x _ (by omega)
        have hbs := bts_set hbj.out ((K + j) / 8) (Crc.flipB x ((K + j) % 8))
        have hgs : GrB b W3 (wr.setCell ⟨b, (K + j) / 8, none⟩ (byteV (Crc.flipB x ((K + j) % 8)))) := gr_trans hg.out (gr_set wr ⟨b, (K + j) / 8, none⟩ _)
        replace htb := Lib.hid htb
        replace hbs := Lib.hid hbs
        replace hgs := Lib.hid hgs
        go_wp2_with fail
        go_roundw
        case rel => exact ⟨j + 1, _, by omega, by go_num, hbs, Lib.hid (trn_flip htr.out htb.out hx.out), hgs⟩
        case measure => simp [intOf]; omega
    · obtain rfl : j = N := by omega
      have hlen := htr.out.len
      have hcv2 := run_of_bytes (P := Try.prog) 33 9 5 Try.underlying33 Try.underlying5 Try.underlying9 hbj.out cc fb.length hlen.symm
      have h4 := ch_else h2.out hg.out (Nat.le_trans hwi.out (Nat.le_trans hFi2.out (Nat.le_of_lt hFb.out))) (fun e => by have := hCb.out; omega) (fun e => by have := hMb.out; omega)
      have gs4 := grS_new gs2.out hg.out (Nat.le_of_lt (Nat.lt_of_le_of_lt hFi2.out hFb.out))
      have a4 : wr.heap[F]? = some (.cells #[.string (txt fb), .int .i64 fx] 47 (0, 0)) := gr_blk hg.out a2.out (by have := hFb.out; simp; omega)
      have e0 : wr.cell? ⟨F, 0, none⟩ = some (.string (txt fb)) := fcellC a4 rfl
      have f0 : wr.frozen? ⟨F, 0, none⟩ = false := fzeroC a4 0
      obtain ⟨W5, hW5⟩ : ∃ W5, W5 = wr.setCell ⟨F, 0, none⟩ (.string (txt l')) := ⟨_, rfl⟩
      have g5 : GrB F wr W5 := by rw [hW5]; exact gr_set wr ⟨F, 0, none⟩ _
      have a5 : W5.heap[F]? = some (.cells #[.string (txt l'), .int .i64 fx] 47 (0, 0)) := by rw [hW5]; exact blk_set a4 0 _
      have hFC : F ≠ C := by
        intro e
        have h1 := h4.blk
        unfold ChB at h1
        rw [← e, a4] at h1
        injection h1 with h1
        injection h1 with _ h2
        exact absurd h2 (by decide)
      have hFM : F ≠ M := by
        intro e
        obtain ⟨es, clock, hbm, _⟩ := h4.map
        rw [← e, a4] at hbm
        cases hbm
      have h5 := ch_else h4 g5 (Nat.le_trans hwi.out hFi2.out) hFC hFM
      have gs5 := grS_new gs4 g5 hFi2.out
      have c5 := (chb_cells h5.blk).2.1
      have x0 : W5.cell? ⟨F, 0, none⟩ = some (.string (txt l')) := fcellC a5 rfl
      have x1 : W5.cell? ⟨F, 1, none⟩ = some (.int .i64 fx) := fcellC a5 rfl
      obtain ⟨W6, hrun, hm6, g6⟩ := store1 (mapF_gr h5.map (gr_drew W5 none)) l ⟨l', fx⟩ hll (by simp)
      unfold flV at hrun
      simp only at hrun
      rw [put_one] at hm6
      have h6 := ch_map (ch_gr h5 (gr_drew W5 none)) g6 hm6
      have gs6 := grS_step (grS_step gs5 (tnC_gr (gr_drew W5 none))) (tnC_M g6)
      replace h6 := Lib.hid h6
      replace gs6 := Lib.hid gs6
      clear h4 gs4 a4 a5 h5 gs5 g5 hFC hFM hm6 g6 c1
      go_upto_region 15 with fail
      rw [← hW5]
      clear hW5 e0 f0 hcv2
      go_region
      go_wp2
      go_ret
      exact ⟨rfl, ⟨l', htr.out, h6.out⟩, gs6.out⟩
set_option maxHeartbeats 8000000 in
set_option maxRecDepth 100000 in
theorem rot_none {w wi : World} {C M : Nat} {q dd : Int} {fs : Fs} (h : ChIs w wi C M q fs false dd) (l : List UInt8) (hll : l.length ≤ 1000000) (hno : getF fs l = none) (K : Int) (t : Int) :
    Calls Try.prog 20 #[.pointer (some ⟨C, 0, none⟩), .string (txt l), .int .i64 K, .int .u32 t] wi fun e w' => e = .returned (.bool false) ∧ Gr wi w' := by
  have cN := none_any C M q dd false _ h.blk
  have hlk := look2 h.map l hll
  rw [hno] at hlk
  simp only [Option.getD_none, Option.isSome_none] at hlk
  unfold flV at hlk
  simp only at hlk
  have c1 := (chb_cells h.blk).2.1
  replace cN := Lib.hid cN
  clear h hno
  go_enter Try.func20, Try.ntmps20
  go_wp2_with fail
  refine cN.out.mono ?_
  rintro e w' ⟨rfl, rfl⟩
  go_wp2
  go_ret
  exact ⟨rfl, gr_alloc _ _ _⟩
set_option maxHeartbeats 8000000 in
set_option maxRecDepth 100000 in
theorem rot_out {w wi : World} {C M : Nat} {q dd fx : Int} {l fb : List UInt8} (h : ChIs w wi C M q [(l, ⟨fb, fx⟩)] false dd) (hll : l.length ≤ 1000000) (hfl : fb.length ≤ 1000) (t : Int) :
    Calls Try.prog 20 #[.pointer (some ⟨C, 0, none⟩), .string (txt l), .int .i64 (8 * (fb.length : Int)), .int .u32 t] wi fun e w' => e = .returned (.bool false) ∧ Gr wi w' := by
  have cN := none_any C M q dd false _ h.blk
  have hlk := look2 h.map l hll
  rw [get_one] at hlk
  simp only [Option.getD_some, Option.isSome_some] at hlk
  unfold flV at hlk
  simp only at hlk
  have c1 := (chb_cells h.blk).2.1
  have hm8 : IntKind.i64.wrap (8 * (fb.length : Int)) = 8 * (fb.length : Int) := IntWalk.i64_in _ (by omega)
  obtain ⟨K, hK⟩ : ∃ K : Int, K = 8 * (fb.length : Int) := ⟨_, rfl⟩
  have hK0 : ¬ K < 0 := by omega
  have hK1 : 8 * (fb.length : Int) ≤ K := by omega
  rw [← hK]
  replace hK := Lib.hid hK
  replace cN := Lib.hid cN
  clear h
  go_enter Try.func20, Try.ntmps20
  go_wp2_with fail
  refine cN.out.mono ?_
  rintro e w' ⟨rfl, rfl⟩
  go_wp2
  go_ret
  exact ⟨rfl, gr_alloc _ _ _⟩
end Go.Proofs.Ytbkhopfoabdeiaa
