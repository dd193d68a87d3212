/-
  Several facts, one behind the other; no condition but bounds (soft): The marks that the book gives its lists: their bytes. No condition but bounds. The book's lists of kind Labels (several cells an element): the marks, whether all is as it was, marks put, lists grown, looked at. No condition but bounds. Lists of Labels that are lent with a mark behind them, and whether they stay. No condition but bounds.
-/
import Derived.Test.YtccmekdmnkmhlaaGreatProg
import Derived.Test.YtccmekdmnkmhlaaGreatBookMath
import Derived.Test.YtccmekdmnkmhlaaGreatBookRow
import Derived.Deep.MidRow
import Derived.Test.YtccmekdmnkmhlaaGreatAppendRow
import Derived.Deep.RegionLaw
import Derived.Test.YtccmekdmnkmhlaaGreatAJX
namespace Go.Proofs.YtccmekdmnkmhlaaGreat
open Go.RowKit
def nm (i k : Nat) : List UInt8 := [109, UInt8.ofNat (65 + i % 26), UInt8.ofNat (65 + i / 26 % 26), UInt8.ofNat (48 + k % 10), UInt8.ofNat (48 + k / 10 % 10), UInt8.ofNat (48 + k / 100 % 10)]
theorem nm_cells (i k : Nat) : #[Value.int .u8 109, .int .u8 (65 + (i : Int) % 26), .int .u8 (65 + (i : Int) / 26 % 26), .int .u8 (48 + (k : Int) % 10), .int .u8 (48 + (k : Int) / 10 % 10), .int .u8 (48 + (k : Int) / 100 % 10)] = ((nm i k).map byteV).toArray := by
  have h : ∀ (n : Nat) (z : Int), n < 256 → z = n → Value.int .u8 z = byteV (UInt8.ofNat n) := by
    rintro n z hn rfl
    have : (UInt8.ofNat n).toNat = n := by simp; omega
    unfold byteV
    rw [this]
  rw [h (65 + i % 26) (65 + (i : Int) % 26) (by omega) (by omega), h (65 + i / 26 % 26) (65 + (i : Int) / 26 % 26) (by omega) (by omega), h (48 + k % 10) (48 + (k : Int) % 10) (by omega) (by omega), h (48 + k / 10 % 10) (48 + (k : Int) / 10 % 10) (by omega) (by omega), h (48 + k / 100 % 10) (48 + (k : Int) / 100 % 10) (by omega) (by omega)]
  rfl
theorem nm_conv (W : World) (i k : Nat) : (convert 197 9 (.slice (some ⟨W.heap.size, 0, none⟩) 6 6)).run Tryz.prog (W.alloc (.cells ((nm i k).map byteV).toArray 5)) = .ok (.string (txt (nm i k))) (W.alloc (.cells ((nm i k).map byteV).toArray 5)) := by
  refine run_string_cells (P := Tryz.prog) _ 197 9 5 Tryz.underlying197 Tryz.underlying5 Tryz.underlying9 ⟨W.heap.size, 0, none⟩ (nm i k) 6 (fun j b hb => ?_)
  rw [add_plain, Nat.zero_add, World.cell?_alloc_new]
  simp [hb]
set_option maxHeartbeats 1000000 in
set_option maxRecDepth 100000 in
theorem bname_any (i k : Nat) (w : World) (hi : i < 1000) (hk : k < 200000) : Calls Tryz.prog 129 #[.int .i64 i, .int .i64 k] w fun e w' => e = .returned (.string (txt (nm i k))) ∧ Gr w w' := by
  have hcv := nm_conv w i k
  rw [← nm_cells] at hcv
  go_enter Tryz.func129, Tryz.ntmps129
  go_wp2
  go_ret
  exact ⟨rfl, gr_alloc _ _ _⟩
end Go.Proofs.YtccmekdmnkmhlaaGreat
namespace Go.Proofs.YtccmekdmnkmhlaaGreat.BkL
open Go.RowKit

def bkC (x : Lb) : List Value := lblC x
def bkM (i k : Nat) : Lb := ⟨nm i k, []⟩
theorem bkC_len (x : Lb) : (bkC x).length = 2 := rfl
def bkR (zs : List Lb) : List Value := sR bkC zs
theorem bkR_len (zs : List Lb) : (bkR zs).length = zs.length * 2 := sR_len bkC 2 bkC_len zs
theorem bkR_append (a b : List Lb) : bkR (a ++ b) = bkR a ++ bkR b := sR_append bkC a b
theorem bkR_take (a : List Lb) (k : Nat) : bkR (a.take k) = (bkR a).take (k * 2) := sR_take bkC 2 bkC_len a k
theorem bkC_ones (x : Lb) : ∀ u ∈ bkC x, u.oneCell' = true := by
  intro u hu
  simp only [bkC, lblC, List.mem_cons, List.not_mem_nil, or_false] at hu
  rcases hu with rfl | rfl <;> rfl
theorem bkR_ones (l : List Lb) : ∀ u ∈ bkR l, u.oneCell' = true := by
  intro u hu
  obtain ⟨x, _, hx⟩ := List.mem_flatMap.1 hu
  exact bkC_ones x u hx
/-- The marks of list i, from fr on, n of them. -/
def marks (i fr n : Nat) : List Lb := (List.range n).map fun j => bkM i (fr + j)
theorem marks_len (i fr n : Nat) : (marks i fr n).length = n := by simp [marks]
theorem marks_succ (i fr n : Nat) : marks i fr (n + 1) = marks i fr n ++ [bkM i (fr + n)] := by unfold marks; rw [List.range_succ, List.map_append]; rfl
theorem marks_more (i n m : Nat) : marks i 0 n ++ marks i n m = marks i 0 (n + m) := by
  induction m with
  | zero => simp [marks]
  | succ m ih => rw [marks_succ, ← List.append_assoc, ih, ← Nat.add_assoc, marks_succ, Nat.zero_add]
theorem marks_take (i n k : Nat) (h : k ≤ n) : (marks i 0 n).take k = marks i 0 k := by
  unfold marks
  rw [← List.map_take, List.take_range, Nat.min_eq_left h]
theorem marks_at (i n k : Nat) (h : k < n) : (marks i 0 n)[k]? = some (bkM i k) := by
  unfold marks
  rw [List.getElem?_map, List.getElem?_range h, Option.map_some, Nat.zero_add]
theorem infoE : (Tryz.prog.info? 58).map (fun i => (i.zero, i.size, i.bytes)) = some (some (.agg #[.string ⟨#[]⟩, .string ⟨#[]⟩]), 2, 32) := by kernel_rfl
theorem infoS : (Tryz.prog.info? 58).map (·.size) = some 2 := by kernel_rfl
theorem infoL : (Tryz.prog.info? 46).map (fun i => (i.zero, i.size, i.bytes)) = some (some (.slice none 0 0), 1, 24) := by kernel_rfl

/-! ### marks -/
def MarkPost (i fr n : Nat) (w : World) (e : Ending) (w' : World) : Prop := ∃ v, e = .returned v ∧ w'.ownsRow w.heap.size 58 2 v n (bkR (marks i fr n)) ∧ Gr w w'
set_option maxHeartbeats 2000000 in
set_option maxRecDepth 100000 in
theorem mark_any (i fr n : Nat) (w : World) (hi : i < 1000) (hf : fr + n ≤ 150000) : Calls Tryz.prog 111 #[.int .i64 i, .int .i64 fr, .int .i64 n] w (MarkPost i fr n w) := by
  obtain ⟨ii, hii, hz0, hz1, hz2⟩ := info_parts infoE
  go_enter Tryz.func111, Tryz.ntmps111
  go_wp2
  go_loopw [7, 8] (fun ov iv wr => ∃ t q : Nat, t ≤ n ∧ q = fr + t ∧ iv = .int .i64 q ∧ Hid (wr.ownsRow w.heap.size 58 2 ov t (bkR (marks i fr t))) ∧ Hid (Below w.heap.size w wr)) (fun _ iv _ => fr + n - (intOf iv).toNat)
  case atStart => exact ⟨0, fr, Nat.zero_le _, rfl, rfl, World.ownsRow_nil _ _ _ _, Below.refl _ _⟩
  case round =>
    obtain ⟨t, q, ht, hq, rfl, hown, hbel⟩ := hrel
    by_cases hlt : t < n
    · have hqi : (q : Int) < (fr : Int) + (n : Int) := by omega
      have hnx := marks_succ i fr t
      rw [← hq] at hnx
      replace hnx := Lib.hid hnx
      have hqb : q < 150000 := by omega
      replace hq := Lib.hid hq
      have hf2 : fr + n ≤ 150000 := hf
      go_wp2_with fail
      refine (bname_any i q _ hi (by omega)).mono ?_
      obtain ⟨X, hX0⟩ : ∃ X, X = txt (nm i q) := ⟨_, rfl⟩
      rw [← hX0]
      have hX : Hid (bkC (bkM i q) = [.string X, .string ⟨#[]⟩]) := by rw [hX0]; exact Lib.hid rfl
      clear hX0
      rintro e W1 ⟨rfl, g1⟩
      have hown1 : W1.ownsRow w.heap.size 58 2 u7 t (bkR (marks i fr t)) := hown.out.kept g1 (by cases u7.ownBlock <;> simp)
      have hbel1 := below_gr hbel.out g1 hbel.out.size (by simp)
      have hs1 := hbel1.size
      go_wp2_with (at_builtin; refine wpList_append_own _ rfl _ _ 46 rfl w.heap.size 58 ii (.agg #[.string ⟨#[]⟩, .string ⟨#[]⟩]) 2 32 Tryz.underlying46 hii hz0 hz1 hz2 rfl (by decide) u7 _ _ rfl (hown1.alloc _) ⟨W1.heap.size, 0, none⟩ 1 1 [.string X, .string ⟨#[]⟩] rfl rfl ?c1 ?c2 ?c3 ?c4 ?c5 ?_; rotate_right; intro v' W4 hown4 hgrow _nl; clear _nl; have hb4 := hbel1.trans (below_append hown1 hgrow hs1); clear hgrow; replace hown4 := Lib.hid hown4; replace hb4 := Lib.hid hb4)
      case c1 =>
        intro j u hj
        have hjl := (List.getElem?_eq_some_iff.1 hj).1
        simp only [List.length_cons, List.length_nil] at hjl
        rw [add_plain, Nat.zero_add, World.cell?_alloc_new]
        simpa using hj
      case c2 => intro u hu; rw [← hX.out] at hu; exact bkC_ones _ u hu
      case c3 => unfold maxLen; omega
      case c4 => omega
      case c5 => simp; omega
      go_roundw
      case rel => exact ⟨t + 1, q + 1, by omega, by have := hq.out; omega, by go_num, by rw [hnx.out, bkR_append, show bkR [bkM i q] = bkC (bkM i q) from sR_one bkC _, hX.out]; exact hown4.out, hb4.out⟩
      case measure => have := hq.out; simp [intOf]; omega
    · have hqi : ((q : Int) < (fr : Int) + (n : Int)) = False := by simp; omega
      obtain rfl : t = n := by omega
      replace hq := Lib.hid hq
      have ho := hown.out
      replace ho := Lib.hid ho
      go_wp2
      go_ret
      exact ⟨_, rfl, ho.out, gr_of_below hbel.out (Nat.le_refl _)⟩
theorem mark_row (i fr n : Nat) (w : World) (hi : i < 1000) (hf : fr + n ≤ 150000) : Calls Tryz.prog 111 #[.int .i64 i, .int .i64 fr, .int .i64 n] w fun e w' => ∃ A c, e = .returned (.slice A n c) ∧ Row w' A n 2 (bkR (marks i fr n)) ∧ Gr w w' :=
  (mark_any i fr n w hi hf).mono (by
    rintro e w' ⟨v, rfl, hown, g⟩
    obtain ⟨A, c, rfl, _, _⟩ := own_openS hown
    exact ⟨A, c, rfl, row_own hown, g⟩)
theorem same_yes (A B : Option Addr) (n ca cb : Nat) (zs : List Lb) (w : World) (hn : n ≤ 200000) (hx : Row w A n 2 (bkR zs)) (hy : Row w B n 2 (bkR zs)) :
    Calls Tryz.prog 33 #[.slice A n ca, .slice B n cb] w fun e w' => e = .returned (.bool true) ∧ Gr w w' :=
  (sameLabels_any A B n n ca cb zs zs w (by omega) (by omega) hx hy).mono fun e w' h => ⟨h.1.trans (by simp), h.2⟩

/-! ### Is all as it was? -/
set_option maxHeartbeats 2000000 in
set_option maxRecDepth 100000 in
theorem still_any (K : Nat) (T V : Lst) (ls cs : List Lst) (w : World) (hk : ls.length ≤ 250) (hT : T.n = ls.length) (hV : V.n = ls.length) (hcs : cs.length = ls.length)
    (c0 : w.cell? ⟨K, 6, none⟩ = some T.v) (c1 : w.cell? ⟨K, 7, none⟩ = some V.v) (hrT : Row w T.A ls.length 1 (ls.map Lst.v)) (hrV : Row w V.A ls.length 1 (cs.map Lst.v))
    (hp : ∀ (i : Nat) (l c : Lst), ls[i]? = some l → cs[i]? = some c → c.n = l.n ∧ l.n ≤ 100000 ∧ ∃ zs : List Lb, Row w l.A l.n 2 (bkR zs) ∧ Row w c.A l.n 2 (bkR zs)) :
    Calls Tryz.prog 46 #[.pointer (some ⟨K, 0, none⟩)] w fun e w' => e = .returned (.bool true) ∧ Gr w w' := by
  obtain ⟨TA, Tn, Tc⟩ := T
  obtain ⟨VA, Vn, Vc⟩ := V
  simp only at hT hV c0 c1 hrT hrV
  subst hT hV
  generalize hN : ls.length = N at *
  replace hN := Lib.hid hN
  replace hcs := Lib.hid hcs
  replace hrT := Lib.hid hrT
  replace hrV := Lib.hid hrV
  replace hp := Lib.hid hp
  simp only [Lst.v] at c0 c1
  go_enter Tryz.func46, Tryz.ntmps46
  go_wp2
  go_loopw [3] (fun i wr => ∃ k : Nat, k ≤ N ∧ i = .int .i64 k ∧ Hid (Gr w wr)) (fun i _ => N - (intOf i).toNat)
  case atStart => exact ⟨0, Nat.zero_le _, rfl, gr_refl _ _⟩
  case round =>
    obtain ⟨k, hk2, rfl, hg⟩ := hrel
    have d0 := gr_cell hg.out c0
    have d1 := gr_cell hg.out c1
    clear c0 c1
    by_cases hlt : k < N
    · obtain ⟨⟨lA, ln, lc⟩, B, o, hl, rfl, hcl⟩ := row_elem hrT.out hlt
      obtain ⟨⟨cA, cn, cc⟩, B2, o2, hc, rfl, hcc⟩ := row_elem hrV.out hlt
      obtain ⟨e1, e2, zs, hr1, hr2⟩ := hp.out k _ _ hl hc
      simp only at e1 e2 hr1 hr2
      subst e1
      have hcl' := gr_cell hg.out hcl
      have hcc' := gr_cell hg.out hcc
      simp only [Lst.v] at hcl' hcc'
      have hs := same_yes lA cA cn lc cc zs wr.drew (by omega) (row_gr (row_gr hr1 hg.out) (gr_drew _ _)) (row_gr (row_gr hr2 hg.out) (gr_drew _ _))
      have hki : (k : Int) < (N : Int) := by omega
      have hk0 : (0 : Int) ≤ (k : Int) := by omega
      clear hcl hcc hr1 hr2 hl hc
      replace hs := Lib.hid hs
      have s4 : ∀ w', Gr wr w' → (Gr wr w' ∧ w'.cell? ⟨K, 6, none⟩ = some (.slice (some ⟨B, o, none⟩) N Tc) ∧ w'.cell? ⟨K, 7, none⟩ = some (.slice (some ⟨B2, o2, none⟩) N Vc) ∧ w'.cell? ⟨B, o + k, none⟩ = some (.slice lA cn lc) ∧ w'.cell? ⟨B2, o2 + k, none⟩ = some (.slice cA cn cc)) := fun w' g => ⟨g, gr_cell g d0, gr_cell g d1, gr_cell g hcl', gr_cell g hcc'⟩
      replace s4 := Lib.hid s4
      go_wp2_with fail
      go_region_held3 (fun w' => Gr wr w' ∧ w'.cell? ⟨K, 6, none⟩ = some (.slice (some ⟨B, o, none⟩) N Tc) ∧ w'.cell? ⟨K, 7, none⟩ = some (.slice (some ⟨B2, o2, none⟩) N Vc) ∧ w'.cell? ⟨B, o + k, none⟩ = some (.slice lA cn lc) ∧ w'.cell? ⟨B2, o2 + k, none⟩ = some (.slice cA cn cc)) (first | assumption | exact s4.out _ (gr_drew _ _) | exact s4.out _ (gr_trans (gr_drew _ _) hg4)) (first | (go_at_call 33; refine hs.out.mono ?_; rintro e w' ⟨rfl, hg4⟩))
      go_wp2
      go_roundw
      case rel => exact ⟨k + 1, by omega, by go_num, gr_trans hg.out (gr_trans (gr_drew _ _) hg4)⟩
      case measure => simp [intOf]; omega
    · obtain rfl : k = N := by omega
      go_wp2
      go_ret
      exact ⟨rfl, hg.out⟩

/-! ### Marks are put -/
def PutInv (w : World) (ls : List Lst) (i k : Nat) (wr : World) : Prop :=
  GrS (InL ls) w wr ∧ ∀ (j : Nat) (l : Lst), ls[j]? = some l → ∃ zs : List Lb, wr.ownsRow 0 58 2 l.v l.n (bkR zs) ∧ (j < i → zs = marks j 0 l.n) ∧ (j = i → zs.take k = marks j 0 k)
theorem put_start {w : World} {ls : List Lst} (h : ∀ (j : Nat) (l : Lst), ls[j]? = some l → ∃ zs : List Lb, w.ownsRow 0 58 2 l.v l.n (bkR zs)) : PutInv w ls 0 0 w :=
  ⟨grs_refl _ _, fun j l hl => by obtain ⟨zs, hz⟩ := h j l hl; exact ⟨zs, hz, fun h => by omega, fun _ => by simp [marks]⟩⟩
theorem put_gr {w wr w2 : World} {ls : List Lst} {i k : Nat} (h : PutInv w ls i k wr) (g : Gr wr w2) : PutInv w ls i k w2 :=
  ⟨grs_trans h.1 (grs_gr _ g), fun j l hl => by
    obtain ⟨zs, hz, h1, h2⟩ := h.2 j l hl
    exact ⟨zs, hz.kept g (by cases l.v.ownBlock <;> simp), h1, h2⟩⟩
theorem put_step {w wr : World} {ls : List Lst} {i k : Nat} {l : Lst} (h : PutInv w ls i k wr) (hp : Parted ls) (hl : ls[i]? = some l) (hk : k < l.n) :
    ∃ g, l.A = some ⟨g, 0, none⟩ ∧ (∀ j, wr.frozen? ⟨g, j, none⟩ = false) ∧ (∀ j, j < 2 → (wr.cell? ⟨g, k * 2 + j, none⟩).isSome = true) ∧ PutInv w ls i (k + 1) (wr.setCells g (k * 2) (bkC (bkM i k))) := by
  obtain ⟨zs, hz, h1, h2⟩ := h.2 i l hl
  obtain ⟨g, hA, hf, hlt, hc, hset⟩ := own_setS bkC_len hz (by decide) hk (bkM i k)
  have hlen : zs.length = l.n := by have := hz.1; rw [bkR_len] at this; omega
  have hb : l.v.ownBlock = some g := own_blk hA
  refine ⟨g, hA, hf, hc, ?_, ?_⟩
  · exact grs_then h.1 (gr_setCells _ _ _ _) (fun k' hk' _ => by cases hk'; exact in_of hl hb)
  · intro j l' hl'
    by_cases hji : j = i
    · subst hji
      obtain rfl : l' = l := by rw [hl] at hl'; exact (Option.some.inj hl').symm
      refine ⟨zs.set k (bkM j k), hset, fun h => by omega, fun _ => ?_⟩
      have h3 := h2 rfl
      rw [marks_succ, Nat.zero_add, ← h3]
      rw [List.take_succ_eq_append_getElem (by simp; omega)]
      simp [List.take_set_of_le]
    · obtain ⟨zs', hz', h1', h2'⟩ := h.2 j l' hl'
      refine ⟨zs', own_other hp hl hl' (fun e => hji e.symm) hz' (by rw [hb]; exact gr_setCells _ _ _ _), h1', fun h => absurd h hji⟩
theorem put_next {w wr : World} {ls : List Lst} {i : Nat} {l : Lst} (h : PutInv w ls i l.n wr) (hl : ls[i]? = some l) : PutInv w ls (i + 1) 0 wr :=
  ⟨h.1, fun j l' hl' => by
    obtain ⟨zs, hz, h1, h2⟩ := h.2 j l' hl'
    refine ⟨zs, hz, fun hj => ?_, fun _ => by simp [marks]⟩
    rcases Nat.lt_or_ge j i with hji | hji
    · exact h1 hji
    · obtain rfl : j = i := by omega
      obtain rfl : l' = l := by rw [hl] at hl'; exact (Option.some.inj hl').symm
      have h3 := h2 rfl
      have hlen : zs.length = l'.n := by have := hz.1; rw [bkR_len] at this; omega
      rwa [List.take_of_length_le (by omega)] at h3⟩
def PutPost (ls : List Lst) (w : World) (e : Ending) (w' : World) : Prop :=
  e = .returned (.tuple #[]) ∧ GrS (InL ls) w w' ∧ ∀ (j : Nat) (l : Lst), ls[j]? = some l → w'.ownsRow 0 58 2 l.v l.n (bkR (marks j 0 l.n))
set_option maxHeartbeats 4000000 in
set_option maxRecDepth 100000 in
theorem put_any (K : Nat) (T : Lst) (ls : List Lst) (w : World) (hk : ls.length ≤ 250) (hT : T.n = ls.length)
    (c0 : w.cell? ⟨K, 6, none⟩ = some T.v) (hrT : Row w T.A ls.length 1 (ls.map Lst.v)) (hKn : ¬ InL ls K) (hTn : ∀ a, T.A = some a → ¬ InL ls a.block) (hp : Parted ls)
    (hown : ∀ (j : Nat) (l : Lst), ls[j]? = some l → l.n ≤ 100000 ∧ ∃ zs : List Lb, w.ownsRow 0 58 2 l.v l.n (bkR zs)) :
    Calls Tryz.prog 58 #[.pointer (some ⟨K, 0, none⟩)] w (PutPost ls w) := by
  obtain ⟨TA, Tn, Tc⟩ := T
  simp only at hT c0 hrT hTn
  subst hT
  have hst : PutInv w ls 0 0 w := put_start fun j l hl => (hown j l hl).2
  have hin : ∀ k, InL ls k → k < w.heap.size := by
    rintro k ⟨l, hm, hb⟩
    obtain ⟨j, hj⟩ := List.getElem?_of_mem hm
    obtain ⟨_, zs, hz⟩ := hown j l hj
    exact (hz.lt k hb).2
  have hsm : ∀ (j : Nat) (l : Lst), ls[j]? = some l → l.n ≤ 100000 := fun j l hl => (hown j l hl).1
  clear hown
  generalize hN : ls.length = N at *
  replace hN := Lib.hid hN
  replace hrT := Lib.hid hrT
  replace hp := Lib.hid hp
  replace hst := Lib.hid hst
  replace hin := Lib.hid hin
  replace hsm := Lib.hid hsm
  replace hTn := Lib.hid hTn
  replace hKn := Lib.hid hKn
  simp only [Lst.v] at c0
  go_enter Tryz.func58, Tryz.ntmps58
  go_wp2
  go_loopw [2] (fun i wr => ∃ k : Nat, k ≤ N ∧ i = .int .i64 k ∧ Hid (PutInv w ls k 0 wr)) (fun i _ => N - (intOf i).toNat)
  case atStart => exact ⟨0, Nat.zero_le _, rfl, hst.out⟩
  case round =>
    obtain ⟨k, hk2, rfl, hinv⟩ := hrel
    have d0 := cell_grs hinv.out.1 c0 hKn.out
    clear c0
    by_cases hlt : k < N
    · obtain ⟨⟨lA, ln, lc⟩, B, o, hl, hTA, hcl⟩ := row_elem (row_grs hrT.out hinv.out.1 hTn.out) hlt
      have hBn : ¬ InL ls B := hTn.out ⟨B, o, none⟩ hTA
      subst hTA
      have hln : ln ≤ 100000 := hsm.out k _ hl
      have hki : (k : Int) < (N : Int) := by omega
      have hk0 : (0 : Int) ≤ (k : Int) := by omega
      have hm0 : ∀ w, Calls Tryz.prog 111 #[.int .i64 k, .int .i64 0, .int .i64 ln] w (MarkPost k 0 ln w) := fun w => mark_any k 0 ln w (by omega) (by omega)
      simp only [Lst.v] at hcl
      replace hBn := Lib.hid hBn
      go_wp2_with fail
      refine (hm0 _).mono ?_
      rintro e W1 ⟨mv, rfl, hmo, g1⟩
      obtain ⟨mA, mc, rfl, _, _⟩ := own_openS hmo
      have hmr := row_own hmo
      have hmb : ∀ a, mA = some a → ¬ InL ls a.block := by
        rintro a rfl hI
        have h1 := hin.out _ hI
        have h2 := (hmo.lt a.block rfl).1
        have h3 := hinv.out.1.size
        omega
      have hinv1 := put_gr hinv.out g1
      have d0' := gr_cell g1 d0
      have hcl' := gr_cell g1 hcl
      clear d0 hcl hm0 hmo hinv
      replace hmr := Lib.hid hmr
      replace hmb := Lib.hid hmb
      replace hinv1 := Lib.hid hinv1
      replace hl := Lib.hid hl
      go_wp2
      go_loopw [4] (fun j W => ∃ q : Nat, q ≤ ln ∧ j = .int .i64 q ∧ Hid (PutInv w ls k q W) ∧ Hid (GrS (InL ls) W1 W)) (fun j _ => ln - (intOf j).toNat)
      case atStart => exact ⟨0, Nat.zero_le _, rfl, hinv1.out, grs_refl _ _⟩
      case round =>
        obtain ⟨q, hq, rfl, hiv, hgs⟩ := hrel
        by_cases hq2 : q < ln
        · obtain ⟨x, mB, mo, hx, rfl, _, hcm⟩ := rowS_elem bkC_len (row_grs hmr.out hgs.out hmb.out) (by decide) hq2
          have hx2 : x = bkM k q := by rw [marks_at _ _ _ hq2] at hx; exact (Option.some.inj hx).symm
          subst hx2
          obtain ⟨g, hA, hf, hold, hst2⟩ := put_step hiv.out hp.out hl.out hq2
          simp only at hA
          subst hA
          have d0'' := cell_grs hgs.out d0' hKn.out
          have hcl'' := cell_grs hgs.out hcl' hBn.out
          obtain ⟨X, hX⟩ : ∃ X : ByteArray, bkC (bkM k q) = [.string X, .string ⟨#[]⟩] := ⟨_, rfl⟩
          rw [hX] at hcm hst2
          replace hX := Lib.hid hX
          have hst3 := Lib.hid hst2
          clear hst2 hx d0' hcl'
          have hqi : (q : Int) < (ln : Int) := by omega
          have hq0 : (0 : Int) ≤ (q : Int) := by omega
          have hgS : InL ls g := in_of hl.out rfl
          replace hgS := Lib.hid hgS
          have hth : wr.there g (q * 2) 2 := fun j hj => ⟨hold j hj, hf _⟩
          have hcm0 : wr.cell? ⟨mB, mo + q * 2, none⟩ = some (.string X) := hcm 0 (by decide)
          have hcm1 : wr.cell? ⟨mB, mo + q * 2 + 1, none⟩ = some (.string ⟨#[]⟩) := hcm 1 (by decide)
          obtain ⟨old0, hold0⟩ := Option.isSome_iff_exists.1 (show (wr.cell? ⟨g, q * 2, none⟩).isSome = true from (World.there_setCells hth g (q * 2) [] 0 (by decide)).1)
          have hfr0 : wr.frozen? ⟨g, q * 2, none⟩ = false := (World.there_setCells hth g (q * 2) [] 0 (by decide)).2
          obtain ⟨old1, hold1⟩ := Option.isSome_iff_exists.1 (show ((wr.setCell ⟨g, q * 2, none⟩ (.string X)).cell? ⟨g, q * 2 + 1, none⟩).isSome = true from (World.there_setCells hth g (q * 2) [.string X] 1 (by decide)).1)
          have hfr1 : (wr.setCell ⟨g, q * 2, none⟩ (.string X)).frozen? ⟨g, q * 2 + 1, none⟩ = false := (World.there_setCells hth g (q * 2) [.string X] 1 (by decide)).2
          clear hf hold hcm hth
          go_wp2_with fail
          go_region
          all_goals
            go_wp2
            go_roundw
            case rel => exact ⟨q + 1, by omega, by go_num, put_gr hst3.out (gr_drew _ _), grs_then (grs_then hgs.out (gr_setCells wr g (q * 2) [.string X, .string ⟨#[]⟩]) (fun k' hk' _ => by cases hk'; exact hgS.out)) (gr_drew (wr.setCells g (q * 2) [.string X, .string ⟨#[]⟩]) none) (by simp)⟩
            case measure => simp [intOf]; omega
        · obtain rfl : q = ln := by omega
          go_wp2
          go_roundw
          case rel => exact ⟨k + 1, by omega, by go_num, put_next hiv.out hl.out⟩
          case measure => simp [intOf]; omega
    · obtain rfl : k = N := by omega
      go_wp2
      go_end0
      refine ⟨rfl, hinv.out.1, fun j l hl => ?_⟩
      obtain ⟨zs, hz, h1, _⟩ := hinv.out.2 j l hl
      have hj : j < k := by have := (List.getElem?_eq_some_iff.1 hl).1; rw [hN.out] at this; exact this
      rw [← h1 hj]
      exact hz

/-! ### Lists are grown -/
def GIn (wr : World) (l : Lst) (i : Nat) (m : Lst) (t : Nat) (W : World) : Prop :=
  m.n = l.n + t ∧ GrS (fun k => l.v.ownBlock = some k) wr W ∧ W.ownsRow 0 58 2 m.v m.n (bkR (marks i 0 m.n)) ∧ Row W l.A l.n 2 (bkR (marks i 0 l.n)) ∧ (m.v.ownBlock = l.v.ownBlock ∨ ∀ k, m.v.ownBlock = some k → wr.heap.size ≤ k) ∧ (∀ k, l.v.ownBlock = some k → k < wr.heap.size) ∧ (∀ a, l.A = some a → a = ⟨a.block, 0, none⟩)
theorem gin_start {wr : World} {l : Lst} {i : Nat} (h : wr.ownsRow 0 58 2 l.v l.n (bkR (marks i 0 l.n))) : GIn wr l i l 0 wr :=
  ⟨rfl, grs_refl _ _, h, own_row h rfl, .inl rfl, fun k hk => (h.lt k hk).2, own_at0 h⟩
theorem gin_append {wr W W1 W2 : World} {l m : Lst} {i t g cap s N : Nat} (h : GIn wr l i m t W) (g1 : Gr W W1) (hN : m.n + s = N)
    (hown : W2.ownsRow 0 58 2 (.slice (some ⟨g, 0, none⟩) N cap) N (bkR (marks i 0 m.n) ++ bkR (marks i m.n s))) (hat : (m.v.ownBlock = some g ∧ W1.grownBy W2 (some g)) ∨ (g = W1.heap.size ∧ Gr W1 W2)) :
    GIn wr l i ⟨some ⟨g, 0, none⟩, N, cap⟩ (t + s) W2 := by
  obtain ⟨h1, h2, h3, h4, h5, h6, h7⟩ := h
  subst hN
  rw [← bkR_append, marks_more] at hown
  have hS1 : GrS (fun k => l.v.ownBlock = some k) wr W1 := grs_trans h2 (grs_gr _ g1)
  have hr1 : Row W1 l.A l.n 2 (bkR (marks i 0 l.n)) := row_gr h4 g1
  refine ⟨by show m.n + s = _; omega, ?_, hown, ?_, ?_, h6, h7⟩
  · rcases hat with ⟨e, hg⟩ | ⟨_, hg⟩
    · refine grs_then hS1 hg fun k hk hlt => ?_
      cases hk
      rcases h5 with h5 | h5
      · rw [← h5]; exact e
      · have := h5 _ e; omega
    · exact grs_trans hS1 (grs_gr _ hg)
  · rcases hat with ⟨e, hg⟩ | ⟨_, hg⟩
    · by_cases hb : l.v.ownBlock = some g
      · have hA : ∀ a, l.A = some a → a = ⟨g, 0, none⟩ := fun a ha => by
          have h8 := own_blk ha
          rw [hb] at h8
          have h9 := Option.some.inj h8
          rw [h7 a ha, ← h9]
        refine ⟨by rw [bkR_len, marks_len], fun j u hj => ?_⟩
        obtain ⟨B, o, e2, hBlt, _⟩ := hr1.2 j u hj
        have h8 := hA _ e2
        injection h8 with h9 h10
        subst h9 h10
        refine ⟨B, 0, e2, Nat.lt_of_lt_of_le hBlt hg.size, ?_⟩
        have hjl : j < l.n * 2 := by have := (List.getElem?_eq_some_iff.1 hj).1; rw [bkR_len, marks_len] at this; exact this
        have h11 := hown.cellAt j (by omega)
        rw [Nat.zero_add, h11]
        rw [← marks_take i (m.n + s) l.n (by omega), bkR_take, List.getElem?_take, if_pos hjl] at hj
        exact hj
      · exact row_keep hr1 hg fun a ha e2 => hb ((own_blk ha).trans e2)
    · exact row_gr hr1 hg
  · rcases hat with ⟨e, hg⟩ | ⟨e, hg⟩
    · rcases h5 with h5 | h5
      · exact .inl (by rw [← h5, e]; rfl)
      · exact .inr fun k hk => by
          have : g = k := by simpa [Value.ownBlock] using hk
          rw [← this]; exact h5 _ e
    · exact .inr fun k hk => by
        have : g = k := by simpa [Value.ownBlock] using hk
        rw [← this, e]; exact hS1.size
def GrowInv (w : World) (ls gs : List Lst) (wr : World) : Prop :=
  GrS (InL ls) w wr ∧ (∀ (j : Nat) (l : Lst), ls[j]? = some l → Row wr l.A l.n 2 (bkR (marks j 0 l.n)) ∧ (gs.length ≤ j → wr.ownsRow 0 58 2 l.v l.n (bkR (marks j 0 l.n)))) ∧
  (∀ (j : Nat) (l g : Lst), ls[j]? = some l → gs[j]? = some g → g.n = l.n + 72 ∧ wr.ownsRow 0 58 2 g.v g.n (bkR (marks j 0 g.n)) ∧ (g.v.ownBlock = l.v.ownBlock ∨ ∀ k, g.v.ownBlock = some k → w.heap.size ≤ k))
theorem grow_next {w wr W W1 W3 : World} {ls gs : List Lst} {l m : Lst} {ov : Value} {n : Nat} {os : List Value} (h : GrowInv w ls gs wr) (hp : Parted ls) (hin : ∀ k, InL ls k → k < w.heap.size) (hl : ls[gs.length]? = some l)
    (hg : GIn wr l gs.length m 72 W) (hov : W.ownsRow w.heap.size 46 1 ov n os) (g1 : Gr W W1) (g3 : W1.grownBy W3 ov.ownBlock) : GrowInv w ls (gs ++ [m]) W3 := by
  obtain ⟨h1, h2, h3⟩ := h
  obtain ⟨e1, e2, e3, e4, e5, e6, e7⟩ := hg
  have hovb : ∀ k, ov.ownBlock = some k → w.heap.size ≤ k := fun k hk => (hov.lt k hk).1
  have keepA : ∀ {A : Option Addr} {N : Nat} {xs : List Value}, (∀ a, A = some a → InL ls a.block) → Row W A N 2 xs → Row W3 A N 2 xs := fun hA hr => row_keep (row_gr hr g1) g3 fun a ha e => by
    have := hin _ (hA a ha)
    have := hovb _ e.symm
    omega
  have keepO : ∀ {v : Value} {N : Nat} {xs : List Value}, W.ownsRow 0 58 2 v N xs → W3.ownsRow 0 58 2 v N xs := fun ho => (ho.kept g1 (by rename_i v _ _; cases v.ownBlock <;> simp)).kept g3 (own_types ho hov (by decide))
  have ne : ∀ (j : Nat) (l' : Lst), ls[j]? = some l' → j ≠ gs.length → ∀ k, l.v.ownBlock = some k → l'.v.ownBlock ≠ some k := fun j l' hj hne k hk e => hne (hp j gs.length l' l k hj hl e hk)
  refine ⟨?_, fun j l' hj => ⟨?_, fun hge => ?_⟩, fun j l' g hj hgj => ?_⟩
  · have h4 : GrS (InL ls) w W := grs_trans h1 (grs_sub e2 fun k _ hk => in_of hl hk)
    refine grs_then (grs_trans h4 (grs_gr _ g1)) g3 fun k hk hlt => ?_
    have := hovb k hk
    omega
  · by_cases hji : j = gs.length
    · subst hji
      obtain rfl : l' = l := by rw [hl] at hj; exact (Option.some.inj hj).symm
      exact keepA (fun a ha => in_of hl (own_blk ha)) e4
    · exact keepA (fun a ha => in_of hj (own_blk ha)) (row_grs (h2 j l' hj).1 e2 fun a ha e => ne j l' hj hji _ e (own_blk ha))
  · rw [List.length_append] at hge
    simp at hge
    exact keepO (grs_own ((h2 j l' hj).2 (by omega)) e2 fun k hk => ne j l' hj (by omega) k hk)
  · by_cases hji : j < gs.length
    · rw [List.getElem?_append_left hji] at hgj
      obtain ⟨q1, q2, q3⟩ := h3 j l' g hj hgj
      refine ⟨q1, keepO (grs_own q2 e2 fun k hk e => ?_), q3⟩
      rcases q3 with q3 | q3
      · exact ne j l' hj (by omega) k hk (by rw [← q3]; exact e)
      · have := q3 k e
        have := hin k (in_of hl hk)
        omega
    · have hlt := (List.getElem?_eq_some_iff.1 hgj).1
      simp at hlt
      obtain rfl : j = gs.length := by omega
      obtain rfl : l' = l := by rw [hl] at hj; exact (Option.some.inj hj).symm
      obtain rfl : g = m := by simpa using hgj.symm
      refine ⟨e1, keepO e3, ?_⟩
      rcases e5 with e5 | e5
      · exact .inl e5
      · exact .inr fun k hk => Nat.le_trans h1.size (e5 k hk)
def GrowPost (ls : List Lst) (w : World) (e : Ending) (w' : World) : Prop :=
  ∃ (A : Option Addr) (c : Nat) (gs : List Lst), e = .returned (.slice A ls.length c) ∧ gs.length = ls.length ∧ Row w' A ls.length 1 (gs.map Lst.v) ∧
    (∀ (j : Nat) (l g : Lst), ls[j]? = some l → gs[j]? = some g → g.n = l.n + 72 ∧ Row w' g.A g.n 2 (bkR (marks j 0 g.n))) ∧ (∀ (j : Nat) (l : Lst), ls[j]? = some l → Row w' l.A l.n 2 (bkR (marks j 0 l.n))) ∧ GrS (InL ls) w w'
set_option maxHeartbeats 8000000 in
set_option maxRecDepth 100000 in
theorem grow_any (K : Nat) (T : Lst) (ls : List Lst) (w : World) (hk : ls.length ≤ 250) (hT : T.n = ls.length)
    (c0 : w.cell? ⟨K, 6, none⟩ = some T.v) (hrT : Row w T.A ls.length 1 (ls.map Lst.v)) (hKn : ¬ InL ls K) (hTn : ∀ a, T.A = some a → ¬ InL ls a.block) (hp : Parted ls)
    (hown : ∀ (j : Nat) (l : Lst), ls[j]? = some l → l.n ≤ 100000 ∧ w.ownsRow 0 58 2 l.v l.n (bkR (marks j 0 l.n))) :
    Calls Tryz.prog 66 #[.pointer (some ⟨K, 0, none⟩)] w (GrowPost ls w) := by
  obtain ⟨ii, hii, hz0, hz1, hz2⟩ := info_parts infoE
  obtain ⟨jj, hjj, jz0, jz1, jz2⟩ := info_parts infoL
  obtain ⟨TA, Tn, Tc⟩ := T
  simp only at hT c0 hrT hTn
  subst hT
  have hst : GrowInv w ls [] w := ⟨grs_refl _ _, fun j l hl => ⟨own_row (hown j l hl).2 rfl, fun _ => (hown j l hl).2⟩, fun j l g hl hg => by simp at hg⟩
  have hin : ∀ k, InL ls k → k < w.heap.size := by
    rintro k ⟨l, hm, hb⟩
    obtain ⟨j, hj⟩ := List.getElem?_of_mem hm
    exact ((hown j l hj).2.lt k hb).2
  have hsm : ∀ (j : Nat) (l : Lst), ls[j]? = some l → l.n ≤ 100000 := fun j l hl => (hown j l hl).1
  clear hown
  generalize hN : ls.length = N at *
  replace hN := Lib.hid hN
  replace hrT := Lib.hid hrT
  replace hp := Lib.hid hp
  replace hst := Lib.hid hst
  replace hin := Lib.hid hin
  replace hsm := Lib.hid hsm
  replace hTn := Lib.hid hTn
  replace hKn := Lib.hid hKn
  simp only [Lst.v] at c0
  go_enter Tryz.func66, Tryz.ntmps66
  go_wp2
  go_loopw [3, 4] (fun ov iv wr => ∃ (gs : List Lst) (k : Nat), k ≤ N ∧ Hid (gs.length = k) ∧ iv = .int .i64 k ∧ Hid (wr.ownsRow w.heap.size 46 1 ov k (gs.map Lst.v)) ∧ Hid (GrowInv w ls gs wr)) (fun _ i _ => N - (intOf i).toNat)
  case atStart => exact ⟨[], 0, Nat.zero_le _, rfl, rfl, World.ownsRow_nil _ _ _ _, hst.out⟩
  case round =>
    obtain ⟨gs, k, hk2, hgs, rfl, hov, hinv⟩ := hrel
    obtain ⟨oA, oc, rfl, _, _⟩ := own_open hov.out
    have d0 := cell_grs hinv.out.1 c0 hKn.out
    clear c0
    by_cases hlt : k < N
    · obtain ⟨l, B, o, hl, hTA, hcl⟩ := row_elem (row_grs hrT.out hinv.out.1 hTn.out) hlt
      subst hTA
      have hln : l.n ≤ 100000 := hsm.out k _ hl
      have hki : (k : Int) < (N : Int) := by omega
      have hk0 : (0 : Int) ≤ (k : Int) := by omega
      have hg0 : GIn wr l k l 0 wr := gin_start ((hinv.out.2.1 k l hl).2 (by rw [hgs.out]; exact Nat.le_refl _))
      have hm1 : ∀ (n : Nat) w, n ≤ 100100 → Calls Tryz.prog 111 #[.int .i64 k, .int .i64 n, .int .i64 1] w (MarkPost k n 1 w) := fun n w hn => mark_any k n 1 w (by omega) (by omega)
      have hm60 : ∀ (n : Nat) w, n ≤ 100100 → Calls Tryz.prog 111 #[.int .i64 k, .int .i64 n, .int .i64 60] w (MarkPost k n 60 w) := fun n w hn => mark_any k n 60 w (by omega) (by omega)
      simp only [Lst.v] at hcl
      replace hl := Lib.hid hl
      replace hg0 := Lib.hid hg0
      go_wp2
      obtain ⟨w0, rfl⟩ : ∃ w0 : World, w0 = wr := ⟨_, rfl⟩
      go_loopw [5, 6] (fun lv nv W => ∃ (m : Lst) (t : Nat), t ≤ 12 ∧ nv = .int .i64 t ∧ lv = .slice m.A m.n m.c ∧ Hid (GIn w0 l k m t W)) (fun _ nv _ => 12 - (intOf nv).toNat)
      case atStart => exact ⟨l, 0, Nat.zero_le _, rfl, rfl, hg0.out⟩
      case round =>
        obtain ⟨m, t, ht, rfl, rfl, hgi⟩ := hrel
        have hmn : m.n ≤ 100100 := by have := hgi.out.1; omega
        by_cases ht2 : t < 12
        · have hti : (t : Int) < 12 := by omega
          go_wp2_with fail
          refine (hm1 m.n _ hmn).mono ?_
          rintro e W1 ⟨mv, rfl, hmo, g1⟩
          obtain ⟨gb, mcap, rfl, _, _⟩ := hmo.form (by omega)
          have hmo1 := hgi.out.2.2.1.kept g1 (by cases m.v.ownBlock <;> simp)
          have hmr := row_own hmo
          have hnews : ∀ j u, (bkR (marks k m.n 1))[j]? = some u → W1.cell? ((⟨gb, 0, none⟩ : Addr).add j) = some u := fun j u hu => by
            obtain ⟨B', o', e', _, hc'⟩ := hmr.2 j u hu
            have e2 := Option.some.inj e'
            injection e2 with e3 e4
            subst e3 e4
            rw [add_plain]; exact hc'
          clear hmo hmr
          replace g1 := Lib.hid g1
          replace hmo1 := Lib.hid hmo1
          replace hnews := Lib.hid hnews
          go_wp2_with (at_builtin; refine wpList_append_strong _ rfl _ _ 46 rfl 0 58 ii (.agg #[.string ⟨#[]⟩, .string ⟨#[]⟩]) 2 32 Tryz.underlying46 hii hz0 hz1 hz2 rfl (by decide) (.slice m.A m.n m.c) m.n _ rfl hmo1.out ⟨gb, 0, none⟩ 1 mcap (bkR (marks k m.n 1)) rfl (by rw [bkR_len, marks_len]) hnews.out (bkR_ones _) (by omega) (m.n + 1) rfl ?c3 ?c4 (Nat.zero_le _) ?_; rotate_right; intro g cap W3 hown3 hat3; replace hown3 := Lib.hid hown3; replace hat3 := Lib.hid hat3)
          case c3 => unfold maxLen; omega
          case c4 => omega
          go_roundw
          case rel => exact ⟨⟨some ⟨g, 0, none⟩, m.n + 1, cap⟩, t + 1, by omega, by go_num, rfl, gin_append hgi.out g1.out rfl hown3.out hat3.out⟩
          case measure => simp [intOf]; omega
        · obtain rfl : t = 12 := by omega
          go_wp2_with fail
          refine (hm60 m.n _ hmn).mono ?_
          rintro e W1 ⟨mv, rfl, hmo, g1⟩
          obtain ⟨gb, mcap, rfl, _, _⟩ := hmo.form (by omega)
          have hmo1 := hgi.out.2.2.1.kept g1 (by cases m.v.ownBlock <;> simp)
          have hmr := row_own hmo
          have hnews : ∀ j u, (bkR (marks k m.n 60))[j]? = some u → W1.cell? ((⟨gb, 0, none⟩ : Addr).add j) = some u := fun j u hu => by
            obtain ⟨B', o', e', _, hc'⟩ := hmr.2 j u hu
            have e2 := Option.some.inj e'
            injection e2 with e3 e4
            subst e3 e4
            rw [add_plain]; exact hc'
          clear hmo hmr
          replace g1 := Lib.hid g1
          replace hmo1 := Lib.hid hmo1
          replace hnews := Lib.hid hnews
          go_wp2_with (at_builtin; first
            | (refine wpList_append_strong (o := ⟨some 39, _, _, _, _, _⟩) _ rfl _ _ 46 rfl 0 58 ii (.agg #[.string ⟨#[]⟩, .string ⟨#[]⟩]) 2 32 Tryz.underlying46 hii hz0 hz1 hz2 rfl (by decide) (.slice m.A m.n m.c) m.n _ rfl hmo1.out ⟨gb, 0, none⟩ 60 mcap (bkR (marks k m.n 60)) rfl (by rw [bkR_len, marks_len]) hnews.out (bkR_ones _) (by omega) (m.n + 60) rfl (by unfold maxLen; omega) (by omega) (Nat.zero_le _) ?_
               intro g cap W3 hown3 hat3
               have hgi2 : GIn w0 l k ⟨some ⟨g, 0, none⟩, m.n + 60, cap⟩ 72 W3 := gin_append hgi.out g1.out rfl hown3 hat3
               have hov3 : W3.ownsRow w.heap.size 46 1 (.slice oA k oc) k (gs.map Lst.v) := grs_own hov.out hgi2.2.1 fun k' hk' e' => by
                 have h1 := hin.out k' (in_of hl.out hk')
                 have h2 := (hov.out.lt k' e').1
                 omega
               have hws : w.heap.size ≤ W3.heap.size := Nat.le_trans hinv.out.1.size hgi2.2.1.size
               replace hgi2 := Lib.hid hgi2
               replace hov3 := Lib.hid hov3
               clear hown3 hat3)
            | (refine wpList_append_own (o := ⟨some 41, _, _, _, _, _⟩) _ rfl _ _ 37 rfl w.heap.size 46 jj (.slice none 0 0) 1 24 Tryz.underlying37 hjj jz0 jz1 jz2 rfl (by decide) (.slice oA k oc) k _ rfl (hov3.out.alloc _) ⟨W3.heap.size, 0, none⟩ 1 1 [.slice (some ⟨g, 0, none⟩) (m.n + 60) cap] rfl rfl (cell_one_new _ _ _) (by simp [Value.oneCell']) (by unfold maxLen; omega) (by omega) (by simp; omega) ?_
               intro v' W4 hown4 hgrow _nl
               clear _nl
               replace hown4 := Lib.hid hown4
               replace hgrow := Lib.hid hgrow))
          have hln2 : ls[gs.length]? = some l := by rw [hgs.out]; exact hl.out
          have hgi3 : GIn w0 l gs.length ⟨some ⟨g, 0, none⟩, m.n + 60, cap⟩ 72 W3 := by rw [hgs.out]; exact hgi2.out
          have hnext := grow_next hinv.out hp.out hin.out hln2 hgi3 hov3.out (gr_alloc W3 (.cells #[.slice (some ⟨g, 0, none⟩) (m.n + 60) cap] 46) none) hgrow.out
          replace hnext := Lib.hid hnext
          clear hgi3 hln2
          go_wp2
          go_roundw
          case rel => exact ⟨gs ++ [(⟨some ⟨g, 0, none⟩, m.n + 60, cap⟩ : Lst)], k + 1, by omega, by rw [List.length_append, hgs.out]; exact Lib.hid rfl, by go_num, by rw [List.map_append]; exact hown4.out, hnext⟩
          case measure => simp [intOf]; omega
    · obtain rfl : k = N := by omega
      have hro := row_own hov.out
      replace hro := Lib.hid hro
      go_wp2
      go_ret
      refine ⟨oA, oc, gs, by rw [hN.out]; rfl, by rw [hN.out]; exact hgs.out, by rw [hN.out]; exact hro.out, fun j l g hl hg => ?_, fun j l hl => (hinv.out.2.1 j l hl).1, hinv.out.1⟩
      obtain ⟨q1, q2, _⟩ := hinv.out.2.2 j l g hl hg
      exact ⟨q1, own_row q2 rfl⟩

/-! ### Do all have their marks? -/
set_option maxHeartbeats 2000000 in
set_option maxRecDepth 100000 in
theorem marked_any (A : Option Addr) (N c : Nat) (gs : List Lst) (w : World) (hN : gs.length = N) (hk : N ≤ 250) (hr : Row w A N 1 (gs.map Lst.v)) (hg : ∀ (i : Nat) (g : Lst), gs[i]? = some g → g.n ≤ 110000 ∧ Row w g.A g.n 2 (bkR (marks i 0 g.n))) :
    Calls Tryz.prog 76 #[.slice A N c] w fun e w' => e = .returned (.bool true) ∧ Gr w w' := by
  replace hN := Lib.hid hN
  replace hr := Lib.hid hr
  replace hg := Lib.hid hg
  go_enter Tryz.func76, Tryz.ntmps76
  go_wp2
  go_loopw [3] (fun i wr => ∃ k : Nat, k ≤ N ∧ i = .int .i64 k ∧ Hid (Gr w wr)) (fun i _ => N - (intOf i).toNat)
  case atStart => exact ⟨0, Nat.zero_le _, rfl, gr_refl _ _⟩
  case round =>
    obtain ⟨k, hk2, rfl, hgr⟩ := hrel
    by_cases hlt : k < N
    · obtain ⟨⟨gA, gn, gc⟩, B, o, hl, rfl, hcl⟩ := row_elem hr.out hlt
      obtain ⟨e2, hrow⟩ := hg.out k _ hl
      simp only at e2 hrow
      have hcl' := gr_cell hgr.out hcl
      simp only [Lst.v] at hcl'
      have hrow' := row_gr hrow hgr.out
      have hki : (k : Int) < (N : Int) := by omega
      have hk0 : (0 : Int) ≤ (k : Int) := by omega
      have hm0 : Calls Tryz.prog 111 #[.int .i64 k, .int .i64 0, .int .i64 gn] wr.drew fun e w' => ∃ A c, e = .returned (.slice A gn c) ∧ Row w' A gn 2 (bkR (marks k 0 gn)) ∧ Gr wr.drew w' := mark_row k 0 gn _ (by omega) (by omega)
      have s1 : ∀ w', Gr wr w' → (Gr wr w' ∧ w'.cell? ⟨B, o + k, none⟩ = some (.slice gA gn gc)) := fun w' g => ⟨g, gr_cell g hcl'⟩
      have hs2 : ∀ (mA : Option Addr) (mc : Nat) (w' : World), Row w' mA gn 2 (bkR (marks k 0 gn)) → Gr wr.drew w' → Calls Tryz.prog 33 #[.slice gA gn gc, .slice mA gn mc] w' fun e w'' => e = .returned (.bool true) ∧ Gr w' w'' := fun mA mc w' h1 h2 =>
        same_yes gA mA gn gc mc _ w' (by omega) (row_gr hrow' (gr_trans (gr_drew wr none) h2)) h1
      clear hcl hl hrow hrow'
      replace hm0 := Lib.hid hm0
      replace s1 := Lib.hid s1
      replace hs2 := Lib.hid hs2
      go_wp2_with fail
      go_region_held3 (fun w' => Gr wr w' ∧ w'.cell? ⟨B, o + k, none⟩ = some (.slice gA gn gc)) (first | assumption | exact s1.out _ (gr_drew _ _) | exact s1.out _ (gr_trans (gr_drew _ _) hg4) | exact s1.out _ (gr_trans (gr_trans (gr_drew _ _) hg4) hg5)) (first | (go_at_call 111; refine hm0.out.mono ?_; rintro e w' ⟨mA, mc, rfl, hrm, hg4⟩) | (go_at_call 33; refine (hs2.out _ _ _ hrm hg4).mono ?_; rintro e w'' ⟨rfl, hg5⟩))
      go_wp2
      go_roundw
      case rel => exact ⟨k + 1, by omega, by go_num, gr_trans hgr.out (gr_trans (gr_trans (gr_drew _ _) hg4) hg5)⟩
      case measure => simp [intOf]; omega
    · obtain rfl : k = N := by omega
      go_wp2
      go_ret
      exact ⟨rfl, hgr.out⟩

/-! ### A list is kept, with a copy -/
theorem copy_any (A : Option Addr) (n c : Nat) (zs : List Lb) (w : World) (hn : n ≤ 150000) (hao : A = none → c = 0) (hr : Row w A n 2 (bkR zs)) :
    Calls Tryz.prog 28 #[.slice A n c] w fun e w' => ∃ A' c', e = .returned (.slice A' n c') ∧ w'.ownsRow w.heap.size 58 2 (.slice A' n c') n (bkR zs) ∧ Gr w w' := by
  obtain ⟨ii, hii, hz0, hz1, hz2⟩ := info_parts infoE
  replace hao := Lib.hid hao
  replace hr := Lib.hid hr
  go_enter Tryz.func28, Tryz.ntmps28
  go_wp2_with (at_builtin; refine wpList_append_row rfl _ _ 46 rfl w.heap.size 58 ii (.agg #[.string ⟨#[]⟩, .string ⟨#[]⟩]) 2 32 Tryz.underlying46 hii hz0 hz1 hz2 rfl (by decide) (.slice none 0 0) 0 [] rfl (World.ownsRow_nil _ _ _ _) A n c (bkR zs) rfl hao.out hr.out (bkR_ones _) n (bkR zs) (by omega) rfl (by unfold maxLen; omega) (by omega) (Nat.le_refl _) ?_; intro v' W1 hown1 hg1; replace hown1 := Lib.hid hown1; replace hg1 := Lib.hid hg1)
  obtain ⟨A', c', rfl, _, _⟩ := own_openS hown1.out
  go_ret
  exact ⟨_, _, rfl, hown1.out, hg1.out⟩
def bkCells (T V : Value) : Array Value := #[.slice none 0 0, .slice none 0 0, .slice none 0 0, .slice none 0 0, .slice none 0 0, .slice none 0 0, T, V, .slice none 0 0, .slice none 0 0, .slice none 0 0, .slice none 0 0, .slice none 0 0, .slice none 0 0, .slice none 0 0, .slice none 0 0, .slice none 0 0, .slice none 0 0, .slice none 0 0, .slice none 0 0]
structure Kept (w : World) (K : Nat) (T V : Lst) (ls cs : List Lst) : Prop where
  blk : w.heap[K]? = some (.cells (bkCells T.v V.v) 45 (0, 0))
  hT : w.ownsRow (K + 1) 46 1 T.v T.n (ls.map Lst.v)
  hV : w.ownsRow (K + 1) 46 1 V.v V.n (cs.map Lst.v)
  nT : T.n = ls.length
  nV : V.n = cs.length
  ne : ∀ k, T.v.ownBlock = some k → V.v.ownBlock = some k → False
theorem bk_cell {w : World} {K : Nat} {cs : Array Value} {t : TypeId} {fr : Nat × Nat} (h : w.heap[K]? = some (.cells cs t fr)) {j : Nat} {v : Value} (hj : cs[j]? = some v) : w.cell? ⟨K, j, none⟩ = some v := by
  unfold World.cell?
  rw [h]
  exact hj
theorem bk_free {w : World} {K : Nat} {cs : Array Value} {t : TypeId} (h : w.heap[K]? = some (.cells cs t (0, 0))) (j : Nat) : w.frozen? ⟨K, j, none⟩ = false := by
  unfold World.frozen?
  rw [h]
  simp
/-- Behind an append onto a list that lies behind the book: the book is what it was. -/
theorem bk_past {w w' : World} {K g : Nat} {o : Obj} {v : Value} {p : Prop} (h : w.heap[K]? = some o) (hK : ∀ k, v.ownBlock = some k → K + 1 ≤ k) (hat : (v.ownBlock = some g ∧ w.grownBy w' (some g)) ∨ (p ∧ Gr w w')) : w'.heap[K]? = some o := by
  rcases hat with ⟨e, hg⟩ | ⟨_, hg⟩
  · exact gr_blk hg h (fun e2 => by have := hK g e; have := Option.some.inj e2; omega)
  · exact gr_blk hg h (by simp)
end Go.Proofs.YtccmekdmnkmhlaaGreat.BkL
namespace Go.Proofs.YtccmekdmnkmhlaaGreat.BkL
open Go.RowKit

def LentLabels (w : World) (A : Option Addr) (n c : Nat) (zs : List Lb) : Prop := LentS bkC 2 (⟨[109, 97, 114, 107], []⟩ : Lb) w A n c zs
theorem lent_rowLabels {w : World} {A : Option Addr} {n c : Nat} {zs : List Lb} (h : LentLabels w A n c zs) : Row w A n 2 (bkR zs) := lentS_row bkC_len h
set_option maxRecDepth 100000 in
theorem staysLabels_any (A B : Option Addr) (n ca cb : Nat) (zs : List Lb) (w : World) (hn : n ≤ 100000) (hx : LentLabels w A n ca zs) (hy : Row w B n 2 (bkR zs)) :
    Calls Tryz.prog 11 #[.slice A n ca, .slice B n cb] w fun e w' => e = .returned (.bool true) ∧ Gr w w' := by
  have hs := fun W (g : Gr w W) => same_yes A B n ca cb zs W (by omega) (row_gr (lent_rowLabels hx) g) (row_gr hy g)
  obtain ⟨Bb, o, rfl, hc⟩ := lentS_mark bkC_len (by decide) hx
  have hc0 := hc 0 (by decide)
  have hcap : n + 1 ≤ ca := hx.1
  have hmx := hx.2.1
  unfold maxLen at hmx
  clear hx hy hc
  replace hs := Lib.hid hs
  go_enter Tryz.func11, Tryz.ntmps11
  go_wp2_with fail
  refine (hs.out _ (gr_refl _ _)).mono ?_
  rintro e w1 ⟨rfl, g1⟩
  have hc1 : w1.cell? ⟨Bb, o + n * 2, none⟩ = some (.string (txt [109, 97, 114, 107])) := gr_cell g1 hc0
  clear hc0
  go_wp2
  go_ret
  exact ⟨rfl, g1⟩
set_option maxRecDepth 100000 in
theorem copy0Labels (A : Option Addr) (n c : Nat) (zs : List Lb) (w : World) (hn : n ≤ 100000) (hx : Row w A n 2 (bkR zs)) :
    Calls Tryz.prog 28 #[.slice A n c] w fun e w' => ∃ v, e = .returned v ∧ w'.ownsRow w.heap.size 58 2 v n (bkR zs) ∧ Gr w w' := by
  have hl : zs.length = n := by have := hx.1; rw [bkR_len] at this; omega
  rcases Nat.eq_zero_or_pos n with h0 | h0
  · subst h0
    obtain rfl : zs = [] := List.eq_nil_of_length_eq_zero hl
    clear hx
    go_enter Tryz.func28, Tryz.ntmps28
    cases A with
    | none =>
      go_wp2
      go_ret
      exact ⟨_, rfl, ⟨rfl, .inl ⟨rfl, rfl⟩⟩, gr_refl _ _⟩
    | some ad =>
      go_wp2
      go_ret
      exact ⟨_, rfl, ⟨rfl, .inl ⟨rfl, rfl⟩⟩, gr_refl _ _⟩
  · obtain ⟨_, B, o, _, rfl, _, _⟩ := rowS_elem bkC_len hx (by decide) h0
    exact (copy_any _ n c zs w (by omega) (by simp) hx).mono (by
      rintro e w' ⟨A', c', rfl, ho, g⟩
      exact ⟨_, rfl, ho, g⟩)
set_option maxRecDepth 100000 in
theorem lentLabels_own (A : Option Addr) (n c : Nat) (zs : List Lb) (w : World) (hn : n ≤ 100000) (hx : Row w A n 2 (bkR zs)) :
    Calls Tryz.prog 8 #[.slice A n c] w fun e w' => ∃ g c', e = .returned (.slice (some ⟨g, 0, none⟩) n c') ∧ n + 1 ≤ c' ∧ c' ≤ maxLen ∧ w'.ownsRow w.heap.size 58 2 (.slice (some ⟨g, 0, none⟩) (n + 1) c') (n + 1) (bkR zs ++ bkC (⟨[109, 97, 114, 107], []⟩ : Lb)) ∧ Gr w w' := by
  have hl : zs.length = n := by have := hx.1; rw [bkR_len] at this; omega
  have hcp := copy0Labels A n c zs w hn hx
  obtain ⟨ii, hi, hz0, hz1, hz2⟩ := info_parts infoE
  replace hcp := Lib.hid hcp
  replace hx := Lib.hid hx
  go_enter Tryz.func8, Tryz.ntmps8
  go_wp2_with fail
  refine hcp.out.mono ?_
  rintro e w1 ⟨v, rfl, hown, hg⟩
  have hs := hg.size
  replace hown := Lib.hid hown
  replace hg := Lib.hid hg
  go_wp2_with (at_builtin; refine wpList_append_own _ rfl _ _ 46 rfl w.heap.size 58 ii (.agg #[.string ⟨#[]⟩, .string ⟨#[]⟩]) 2 32 Tryz.underlying46 hi hz0 hz1 hz2 rfl (by decide) v _ _ rfl (hown.out.alloc _) ⟨w1.heap.size, 0, none⟩ 1 1 (bkC (⟨[109, 97, 114, 107], []⟩ : Lb)) rfl rfl ?c1 ?c2 ?c3 ?c4 ?c5 ?_; rotate_right; intro v' W4 hown4 hgrow _nl; clear _nl; have hb4 := Lib.hid (below_append hown.out hgrow hs); clear hgrow; obtain ⟨g, c', hv, hlent⟩ := own_lentS hown4 hl; subst hv; replace hown4 := Lib.hid hown4; have hcc : n + 1 ≤ c' := hlent.1; have hmx := hlent.2.1; unfold maxLen at hmx; clear hlent)
  case c1 =>
    intro j u hj
    have hjl := (List.getElem?_eq_some_iff.1 hj).1
    rw [bkC_len] at hjl
    rw [add_plain, Nat.zero_add, World.cell?_alloc_new]
    exact (show (bkC (⟨[109, 97, 114, 107], []⟩ : Lb)).toArray[j]? = some u by rw [List.getElem?_toArray]; exact hj)
  case c2 => exact bkC_ones _
  case c3 => unfold maxLen; omega
  case c4 => omega
  case c5 => simp; omega
  go_ret
  exact ⟨_, _, rfl, hcc, hmx, hown4.out, gr_of_below ((gr_below hg.out).trans hb4.out) (Nat.le_refl _)⟩
theorem lentLabels_new (A : Option Addr) (n c : Nat) (zs : List Lb) (w : World) (hn : n ≤ 100000) (hx : Row w A n 2 (bkR zs)) :
    Calls Tryz.prog 8 #[.slice A n c] w fun e w' => ∃ g c', e = .returned (.slice (some ⟨g, 0, none⟩) n c') ∧ LentLabels w' (some ⟨g, 0, none⟩) n c' zs ∧ Gr w w' ∧ w.heap.size ≤ g :=
  (lentLabels_own A n c zs w hn hx).mono fun _ _ ⟨g, c', h1, _, _, h4, h5⟩ => by
    obtain ⟨g', c2, hv, hL⟩ := own_lentS (f := bkC) h4 (by have := hx.1; rw [bkR_len] at this; omega)
    injection hv with e1 _ e3
    injection (Option.some.inj e1) with e4 _ _
    subst e4
    subst e3
    exact ⟨g, c', h1, hL, h5, (h4.lt g rfl).1⟩
theorem lentLabels_any (A : Option Addr) (n c : Nat) (zs : List Lb) (w : World) (hn : n ≤ 100000) (hx : Row w A n 2 (bkR zs)) :
    Calls Tryz.prog 8 #[.slice A n c] w fun e w' => ∃ A' c', e = .returned (.slice A' n c') ∧ LentLabels w' A' n c' zs ∧ Gr w w' :=
  (lentLabels_new A n c zs w hn hx).mono fun _ _ ⟨g, c', h1, h2, h3, _⟩ => ⟨some ⟨g, 0, none⟩, c', h1, h2, h3⟩
end Go.Proofs.YtccmekdmnkmhlaaGreat.BkL
