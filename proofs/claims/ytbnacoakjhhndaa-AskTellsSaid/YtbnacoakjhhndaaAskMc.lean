/-
  Several facts, one behind the other; no condition but bounds (soft): The marks that the book gives its lists: their bytes. No condition but bounds. The book's lists of kind Labels (several cells an element): the marks, whether all is as it was, marks put, lists grown, looked at. No condition but bounds. Lists of Labels that are lent with a mark behind them, and whether they stay. No condition but bounds.
-/
import Derived.Test.YtbnacoakjhhndaaProg
import Derived.Test.YtbnacoakjhhndaaBookMath
import Derived.Test.YtbnacoakjhhndaaBookRow
import Derived.Deep.MidRow
import Derived.Test.YtbnacoakjhhndaaAppendRow
import Derived.Deep.RegionLaw
import Derived.Test.YtbnacoakjhhndaaRowSame
namespace Go.Proofs.Ytbnacoakjhhndaa
open Go.RowKit
def nm (i k : Nat) : List UInt8 := [109, UInt8.ofNat (65 + i % 26), UInt8.ofNat (65 + i / 26 % 26), UInt8.ofNat (48 + k % 10), UInt8.ofNat (48 + k / 10 % 10), UInt8.ofNat (48 + k / 100 % 10)]
theorem nm_cells (i k : Nat) : #[Value.int .u8 109, .int .u8 (65 + (i : Int) % 26), .int .u8 (65 + (i : Int) / 26 % 26), .int .u8 (48 + (k : Int) % 10), .int .u8 (48 + (k : Int) / 10 % 10), .int .u8 (48 + (k : Int) / 100 % 10)] = ((nm i k).map byteV).toArray := by
  have h : ∀ (n : Nat) (z : Int), n < 256 → z = n → Value.int .u8 z = byteV (UInt8.ofNat n) := by
    rintro n z hn rfl
    have : (UInt8.ofNat n).toNat = n := by simp; omega
    unfold byteV
    rw [this]
  rw [h (65 + i % 26) (65 + (i : Int) % 26) (by omega) (by omega), h (65 + i / 26 % 26) (65 + (i : Int) / 26 % 26) (by omega) (by omega), h (48 + k % 10) (48 + (k : Int) % 10) (by omega) (by omega), h (48 + k / 10 % 10) (48 + (k : Int) / 10 % 10) (by omega) (by omega), h (48 + k / 100 % 10) (48 + (k : Int) / 100 % 10) (by omega) (by omega)]
  rfl
theorem nm_conv (W : World) (i k : Nat) : (convert 38 9 (.slice (some ⟨W.heap.size, 0, none⟩) 6 6)).run Try.prog (W.alloc (.cells ((nm i k).map byteV).toArray 5)) = .ok (.string (txt (nm i k))) (W.alloc (.cells ((nm i k).map byteV).toArray 5)) := by
  refine run_string_cells (P := Try.prog) _ 38 9 5 Try.underlying38 Try.underlying5 Try.underlying9 ⟨W.heap.size, 0, none⟩ (nm i k) 6 (fun j b hb => ?_)
  rw [add_plain, Nat.zero_add, World.cell?_alloc_new]
  simp [hb]
end Go.Proofs.Ytbnacoakjhhndaa
namespace Go.Proofs.Ytbnacoakjhhndaa.BkL
open Go.RowKit

def bkC (x : Lb) : List Value := lblC x
def bkM (i k : Nat) : Lb := ⟨nm i k, []⟩
theorem bkC_len (x : Lb) : (bkC x).length = 2 := rfl
def bkR (zs : List Lb) : List Value := sR bkC zs
theorem bkR_len (zs : List Lb) : (bkR zs).length = zs.length * 2 := sR_len bkC 2 bkC_len zs
theorem bkR_append (a b : List Lb) : bkR (a ++ b) = bkR a ++ bkR b := sR_append bkC a b
theorem bkR_take (a : List Lb) (k : Nat) : bkR (a.take k) = (bkR a).take (k * 2) := sR_take bkC 2 bkC_len a k
theorem bkC_ones (x : Lb) : ∀ u ∈ bkC x, u.oneCell' = true := by
  intro u hu
  simp only [bkC, lblC, List.mem_cons, List.not_mem_nil, or_false] at hu
  rcases hu with rfl | rfl <;> rfl
theorem bkR_ones (l : List Lb) : ∀ u ∈ bkR l, u.oneCell' = true := by
  intro u hu
  obtain ⟨x, _, hx⟩ := List.mem_flatMap.1 hu
  exact bkC_ones x u hx
/-- The marks of list i, from fr on, n of them. -/
def marks (i fr n : Nat) : List Lb := (List.range n).map fun j => bkM i (fr + j)
theorem marks_len (i fr n : Nat) : (marks i fr n).length = n := by simp [marks]
theorem marks_succ (i fr n : Nat) : marks i fr (n + 1) = marks i fr n ++ [bkM i (fr + n)] := by unfold marks; rw [List.range_succ, List.map_append]; rfl
theorem marks_more (i n m : Nat) : marks i 0 n ++ marks i n m = marks i 0 (n + m) := by
  induction m with
  | zero => simp [marks]
  | succ m ih => rw [marks_succ, ← List.append_assoc, ih, ← Nat.add_assoc, marks_succ, Nat.zero_add]
theorem marks_take (i n k : Nat) (h : k ≤ n) : (marks i 0 n).take k = marks i 0 k := by
  unfold marks
  rw [← List.map_take, List.take_range, Nat.min_eq_left h]
theorem marks_at (i n k : Nat) (h : k < n) : (marks i 0 n)[k]? = some (bkM i k) := by
  unfold marks
  rw [List.getElem?_map, List.getElem?_range h, Option.map_some, Nat.zero_add]
theorem infoE : (Try.prog.info? 41).map (fun i => (i.zero, i.size, i.bytes)) = some (some (.agg #[.string ⟨#[]⟩, .string ⟨#[]⟩]), 2, 32) := by kernel_rfl
theorem infoS : (Try.prog.info? 41).map (·.size) = some 2 := by kernel_rfl
theorem infoL : (Try.prog.info? 22).map (fun i => (i.zero, i.size, i.bytes)) = some (some (.slice none 0 0), 1, 24) := by kernel_rfl

/-! ### marks -/
def MarkPost (i fr n : Nat) (w : World) (e : Ending) (w' : World) : Prop := ∃ v, e = .returned v ∧ w'.ownsRow w.heap.size 41 2 v n (bkR (marks i fr n)) ∧ Gr w w'
theorem same_yes (A B : Option Addr) (n ca cb : Nat) (zs : List Lb) (w : World) (hn : n ≤ 200000) (hx : Row w A n 2 (bkR zs)) (hy : Row w B n 2 (bkR zs)) :
    Calls Try.prog 25 #[.slice A n ca, .slice B n cb] w fun e w' => e = .returned (.bool true) ∧ Gr w w' :=
  (sameLabels_any A B n n ca cb zs zs w (by omega) (by omega) hx hy).mono fun e w' h => ⟨h.1.trans (by simp), h.2⟩

/-! ### Is all as it was? -/
/-! ### Marks are put -/
def PutInv (w : World) (ls : List Lst) (i k : Nat) (wr : World) : Prop :=
  GrS (InL ls) w wr ∧ ∀ (j : Nat) (l : Lst), ls[j]? = some l → ∃ zs : List Lb, wr.ownsRow 0 41 2 l.v l.n (bkR zs) ∧ (j < i → zs = marks j 0 l.n) ∧ (j = i → zs.take k = marks j 0 k)
theorem put_start {w : World} {ls : List Lst} (h : ∀ (j : Nat) (l : Lst), ls[j]? = some l → ∃ zs : List Lb, w.ownsRow 0 41 2 l.v l.n (bkR zs)) : PutInv w ls 0 0 w :=
  ⟨grs_refl _ _, fun j l hl => by obtain ⟨zs, hz⟩ := h j l hl; exact ⟨zs, hz, fun h => by omega, fun _ => by simp [marks]⟩⟩
theorem put_gr {w wr w2 : World} {ls : List Lst} {i k : Nat} (h : PutInv w ls i k wr) (g : Gr wr w2) : PutInv w ls i k w2 :=
  ⟨grs_trans h.1 (grs_gr _ g), fun j l hl => by
    obtain ⟨zs, hz, h1, h2⟩ := h.2 j l hl
    exact ⟨zs, hz.kept g (by cases l.v.ownBlock <;> simp), h1, h2⟩⟩
theorem put_step {w wr : World} {ls : List Lst} {i k : Nat} {l : Lst} (h : PutInv w ls i k wr) (hp : Parted ls) (hl : ls[i]? = some l) (hk : k < l.n) :
    ∃ g, l.A = some ⟨g, 0, none⟩ ∧ (∀ j, wr.frozen? ⟨g, j, none⟩ = false) ∧ (∀ j, j < 2 → (wr.cell? ⟨g, k * 2 + j, none⟩).isSome = true) ∧ PutInv w ls i (k + 1) (wr.setCells g (k * 2) (bkC (bkM i k))) := by
  obtain ⟨zs, hz, h1, h2⟩ := h.2 i l hl
  obtain ⟨g, hA, hf, hlt, hc, hset⟩ := own_setS bkC_len hz (by decide) hk (bkM i k)
  have hlen : zs.length = l.n := by have := hz.1; rw [bkR_len] at this; omega
  have hb : l.v.ownBlock = some g := own_blk hA
  refine ⟨g, hA, hf, hc, ?_, ?_⟩
  · exact grs_then h.1 (gr_setCells _ _ _ _) (fun k' hk' _ => by cases hk'; exact in_of hl hb)
  · intro j l' hl'
    by_cases hji : j = i
    · subst hji
      obtain rfl : l' = l := by rw [hl] at hl'; exact (Option.some.inj hl').symm
      refine ⟨zs.set k (bkM j k), hset, fun h => by omega, fun _ => ?_⟩
      have h3 := h2 rfl
      rw [marks_succ, Nat.zero_add, ← h3]
      rw [List.take_succ_eq_append_getElem (by simp; omega)]
      simp [List.take_set_of_le]
    · obtain ⟨zs', hz', h1', h2'⟩ := h.2 j l' hl'
      refine ⟨zs', own_other hp hl hl' (fun e => hji e.symm) hz' (by rw [hb]; exact gr_setCells _ _ _ _), h1', fun h => absurd h hji⟩
theorem put_next {w wr : World} {ls : List Lst} {i : Nat} {l : Lst} (h : PutInv w ls i l.n wr) (hl : ls[i]? = some l) : PutInv w ls (i + 1) 0 wr :=
  ⟨h.1, fun j l' hl' => by
    obtain ⟨zs, hz, h1, h2⟩ := h.2 j l' hl'
    refine ⟨zs, hz, fun hj => ?_, fun _ => by simp [marks]⟩
    rcases Nat.lt_or_ge j i with hji | hji
    · exact h1 hji
    · obtain rfl : j = i := by omega
      obtain rfl : l' = l := by rw [hl] at hl'; exact (Option.some.inj hl').symm
      have h3 := h2 rfl
      have hlen : zs.length = l'.n := by have := hz.1; rw [bkR_len] at this; omega
      rwa [List.take_of_length_le (by omega)] at h3⟩
def PutPost (ls : List Lst) (w : World) (e : Ending) (w' : World) : Prop :=
  e = .returned (.tuple #[]) ∧ GrS (InL ls) w w' ∧ ∀ (j : Nat) (l : Lst), ls[j]? = some l → w'.ownsRow 0 41 2 l.v l.n (bkR (marks j 0 l.n))
/-! ### Lists are grown -/
def GIn (wr : World) (l : Lst) (i : Nat) (m : Lst) (t : Nat) (W : World) : Prop :=
  m.n = l.n + t ∧ GrS (fun k => l.v.ownBlock = some k) wr W ∧ W.ownsRow 0 41 2 m.v m.n (bkR (marks i 0 m.n)) ∧ Row W l.A l.n 2 (bkR (marks i 0 l.n)) ∧ (m.v.ownBlock = l.v.ownBlock ∨ ∀ k, m.v.ownBlock = some k → wr.heap.size ≤ k) ∧ (∀ k, l.v.ownBlock = some k → k < wr.heap.size) ∧ (∀ a, l.A = some a → a = ⟨a.block, 0, none⟩)
theorem gin_start {wr : World} {l : Lst} {i : Nat} (h : wr.ownsRow 0 41 2 l.v l.n (bkR (marks i 0 l.n))) : GIn wr l i l 0 wr :=
  ⟨rfl, grs_refl _ _, h, own_row h rfl, .inl rfl, fun k hk => (h.lt k hk).2, own_at0 h⟩
theorem gin_append {wr W W1 W2 : World} {l m : Lst} {i t g cap s N : Nat} (h : GIn wr l i m t W) (g1 : Gr W W1) (hN : m.n + s = N)
    (hown : W2.ownsRow 0 41 2 (.slice (some ⟨g, 0, none⟩) N cap) N (bkR (marks i 0 m.n) ++ bkR (marks i m.n s))) (hat : (m.v.ownBlock = some g ∧ W1.grownBy W2 (some g)) ∨ (g = W1.heap.size ∧ Gr W1 W2)) :
    GIn wr l i ⟨some ⟨g, 0, none⟩, N, cap⟩ (t + s) W2 := by
  obtain ⟨h1, h2, h3, h4, h5, h6, h7⟩ := h
  subst hN
  rw [← bkR_append, marks_more] at hown
  have hS1 : GrS (fun k => l.v.ownBlock = some k) wr W1 := grs_trans h2 (grs_gr _ g1)
  have hr1 : Row W1 l.A l.n 2 (bkR (marks i 0 l.n)) := row_gr h4 g1
  refine ⟨by show m.n + s = _; omega, ?_, hown, ?_, ?_, h6, h7⟩
  · rcases hat with ⟨e, hg⟩ | ⟨_, hg⟩
    · refine grs_then hS1 hg fun k hk hlt => ?_
      cases hk
      rcases h5 with h5 | h5
      · rw [← h5]; exact e
      · have := h5 _ e; omega
    · exact grs_trans hS1 (grs_gr _ hg)
  · rcases hat with ⟨e, hg⟩ | ⟨_, hg⟩
    · by_cases hb : l.v.ownBlock = some g
      · have hA : ∀ a, l.A = some a → a = ⟨g, 0, none⟩ := fun a ha => by
          have h8 := own_blk ha
          rw [hb] at h8
          have h9 := Option.some.inj h8
          rw [h7 a ha, ← h9]
        refine ⟨by rw [bkR_len, marks_len], fun j u hj => ?_⟩
        obtain ⟨B, o, e2, hBlt, _⟩ := hr1.2 j u hj
        have h8 := hA _ e2
        injection h8 with h9 h10
        subst h9 h10
        refine ⟨B, 0, e2, Nat.lt_of_lt_of_le hBlt hg.size, ?_⟩
        have hjl : j < l.n * 2 := by have := (List.getElem?_eq_some_iff.1 hj).1; rw [bkR_len, marks_len] at this; exact this
        have h11 := hown.cellAt j (by omega)
        rw [Nat.zero_add, h11]
        rw [← marks_take i (m.n + s) l.n (by omega), bkR_take, List.getElem?_take, if_pos hjl] at hj
        exact hj
      · exact row_keep hr1 hg fun a ha e2 => hb ((own_blk ha).trans e2)
    · exact row_gr hr1 hg
  · rcases hat with ⟨e, hg⟩ | ⟨e, hg⟩
    · rcases h5 with h5 | h5
      · exact .inl (by rw [← h5, e]; rfl)
      · exact .inr fun k hk => by
          have : g = k := by simpa [Value.ownBlock] using hk
          rw [← this]; exact h5 _ e
    · exact .inr fun k hk => by
        have : g = k := by simpa [Value.ownBlock] using hk
        rw [← this, e]; exact hS1.size
def GrowInv (w : World) (ls gs : List Lst) (wr : World) : Prop :=
  GrS (InL ls) w wr ∧ (∀ (j : Nat) (l : Lst), ls[j]? = some l → Row wr l.A l.n 2 (bkR (marks j 0 l.n)) ∧ (gs.length ≤ j → wr.ownsRow 0 41 2 l.v l.n (bkR (marks j 0 l.n)))) ∧
  (∀ (j : Nat) (l g : Lst), ls[j]? = some l → gs[j]? = some g → g.n = l.n + 72 ∧ wr.ownsRow 0 41 2 g.v g.n (bkR (marks j 0 g.n)) ∧ (g.v.ownBlock = l.v.ownBlock ∨ ∀ k, g.v.ownBlock = some k → w.heap.size ≤ k))
theorem grow_next {w wr W W1 W3 : World} {ls gs : List Lst} {l m : Lst} {ov : Value} {n : Nat} {os : List Value} (h : GrowInv w ls gs wr) (hp : Parted ls) (hin : ∀ k, InL ls k → k < w.heap.size) (hl : ls[gs.length]? = some l)
    (hg : GIn wr l gs.length m 72 W) (hov : W.ownsRow w.heap.size 22 1 ov n os) (g1 : Gr W W1) (g3 : W1.grownBy W3 ov.ownBlock) : GrowInv w ls (gs ++ [m]) W3 := by
  obtain ⟨h1, h2, h3⟩ := h
  obtain ⟨e1, e2, e3, e4, e5, e6, e7⟩ := hg
  have hovb : ∀ k, ov.ownBlock = some k → w.heap.size ≤ k := fun k hk => (hov.lt k hk).1
  have keepA : ∀ {A : Option Addr} {N : Nat} {xs : List Value}, (∀ a, A = some a → InL ls a.block) → Row W A N 2 xs → Row W3 A N 2 xs := fun hA hr => row_keep (row_gr hr g1) g3 fun a ha e => by
    have := hin _ (hA a ha)
    have := hovb _ e.symm
    omega
  have keepO : ∀ {v : Value} {N : Nat} {xs : List Value}, W.ownsRow 0 41 2 v N xs → W3.ownsRow 0 41 2 v N xs := fun ho => (ho.kept g1 (by rename_i v _ _; cases v.ownBlock <;> simp)).kept g3 (own_types ho hov (by decide))
  have ne : ∀ (j : Nat) (l' : Lst), ls[j]? = some l' → j ≠ gs.length → ∀ k, l.v.ownBlock = some k → l'.v.ownBlock ≠ some k := fun j l' hj hne k hk e => hne (hp j gs.length l' l k hj hl e hk)
  refine ⟨?_, fun j l' hj => ⟨?_, fun hge => ?_⟩, fun j l' g hj hgj => ?_⟩
  · have h4 : GrS (InL ls) w W := grs_trans h1 (grs_sub e2 fun k _ hk => in_of hl hk)
    refine grs_then (grs_trans h4 (grs_gr _ g1)) g3 fun k hk hlt => ?_
    have := hovb k hk
    omega
  · by_cases hji : j = gs.length
    · subst hji
      obtain rfl : l' = l := by rw [hl] at hj; exact (Option.some.inj hj).symm
      exact keepA (fun a ha => in_of hl (own_blk ha)) e4
    · exact keepA (fun a ha => in_of hj (own_blk ha)) (row_grs (h2 j l' hj).1 e2 fun a ha e => ne j l' hj hji _ e (own_blk ha))
  · rw [List.length_append] at hge
    simp at hge
    exact keepO (grs_own ((h2 j l' hj).2 (by omega)) e2 fun k hk => ne j l' hj (by omega) k hk)
  · by_cases hji : j < gs.length
    · rw [List.getElem?_append_left hji] at hgj
      obtain ⟨q1, q2, q3⟩ := h3 j l' g hj hgj
      refine ⟨q1, keepO (grs_own q2 e2 fun k hk e => ?_), q3⟩
      rcases q3 with q3 | q3
      · exact ne j l' hj (by omega) k hk (by rw [← q3]; exact e)
      · have := q3 k e
        have := hin k (in_of hl hk)
        omega
    · have hlt := (List.getElem?_eq_some_iff.1 hgj).1
      simp at hlt
      obtain rfl : j = gs.length := by omega
      obtain rfl : l' = l := by rw [hl] at hj; exact (Option.some.inj hj).symm
      obtain rfl : g = m := by simpa using hgj.symm
      refine ⟨e1, keepO e3, ?_⟩
      rcases e5 with e5 | e5
      · exact .inl e5
      · exact .inr fun k hk => Nat.le_trans h1.size (e5 k hk)
def GrowPost (ls : List Lst) (w : World) (e : Ending) (w' : World) : Prop :=
  ∃ (A : Option Addr) (c : Nat) (gs : List Lst), e = .returned (.slice A ls.length c) ∧ gs.length = ls.length ∧ Row w' A ls.length 1 (gs.map Lst.v) ∧
    (∀ (j : Nat) (l g : Lst), ls[j]? = some l → gs[j]? = some g → g.n = l.n + 72 ∧ Row w' g.A g.n 2 (bkR (marks j 0 g.n))) ∧ (∀ (j : Nat) (l : Lst), ls[j]? = some l → Row w' l.A l.n 2 (bkR (marks j 0 l.n))) ∧ GrS (InL ls) w w'
/-! ### Do all have their marks? -/
/-! ### A list is kept, with a copy -/
theorem copy_any (A : Option Addr) (n c : Nat) (zs : List Lb) (w : World) (hn : n ≤ 150000) (hao : A = none → c = 0) (hr : Row w A n 2 (bkR zs)) :
    Calls Try.prog 18 #[.slice A n c] w fun e w' => ∃ A' c', e = .returned (.slice A' n c') ∧ w'.ownsRow w.heap.size 41 2 (.slice A' n c') n (bkR zs) ∧ Gr w w' := by
  obtain ⟨ii, hii, hz0, hz1, hz2⟩ := info_parts infoE
  replace hao := Lib.hid hao
  replace hr := Lib.hid hr
  go_enter Try.func18, Try.ntmps18
  go_wp2_with (at_builtin; refine wpList_append_row rfl _ _ 22 rfl w.heap.size 41 ii (.agg #[.string ⟨#[]⟩, .string ⟨#[]⟩]) 2 32 Try.underlying22 hii hz0 hz1 hz2 rfl (by decide) (.slice none 0 0) 0 [] rfl (World.ownsRow_nil _ _ _ _) A n c (bkR zs) rfl hao.out hr.out (bkR_ones _) n (bkR zs) (by omega) rfl (by unfold maxLen; omega) (by omega) (Nat.le_refl _) ?_; intro v' W1 hown1 hg1; replace hown1 := Lib.hid hown1; replace hg1 := Lib.hid hg1)
  obtain ⟨A', c', rfl, _, _⟩ := own_openS hown1.out
  go_ret
  exact ⟨_, _, rfl, hown1.out, hg1.out⟩
def bkCells (T V : Value) : Array Value := #[.slice none 0 0, .slice none 0 0, .slice none 0 0, .slice none 0 0, .slice none 0 0, .slice none 0 0, T, V, .slice none 0 0, .slice none 0 0, .slice none 0 0, .slice none 0 0, .slice none 0 0, .slice none 0 0, .slice none 0 0, .slice none 0 0, .slice none 0 0, .slice none 0 0, .slice none 0 0, .slice none 0 0]
theorem bk_cell {w : World} {K : Nat} {cs : Array Value} {t : TypeId} {fr : Nat × Nat} (h : w.heap[K]? = some (.cells cs t fr)) {j : Nat} {v : Value} (hj : cs[j]? = some v) : w.cell? ⟨K, j, none⟩ = some v := by
  unfold World.cell?
  rw [h]
  exact hj
theorem bk_free {w : World} {K : Nat} {cs : Array Value} {t : TypeId} (h : w.heap[K]? = some (.cells cs t (0, 0))) (j : Nat) : w.frozen? ⟨K, j, none⟩ = false := by
  unfold World.frozen?
  rw [h]
  simp
/-- Behind an append onto a list that lies behind the book: the book is what it was. -/
theorem bk_past {w w' : World} {K g : Nat} {o : Obj} {v : Value} {p : Prop} (h : w.heap[K]? = some o) (hK : ∀ k, v.ownBlock = some k → K + 1 ≤ k) (hat : (v.ownBlock = some g ∧ w.grownBy w' (some g)) ∨ (p ∧ Gr w w')) : w'.heap[K]? = some o := by
  rcases hat with ⟨e, hg⟩ | ⟨_, hg⟩
  · exact gr_blk hg h (fun e2 => by have := hK g e; have := Option.some.inj e2; omega)
  · exact gr_blk hg h (by simp)
end Go.Proofs.Ytbnacoakjhhndaa.BkL
namespace Go.Proofs.Ytbnacoakjhhndaa.BkL
open Go.RowKit

def LentLabels (w : World) (A : Option Addr) (n c : Nat) (zs : List Lb) : Prop := LentS bkC 2 (⟨[109, 97, 114, 107], []⟩ : Lb) w A n c zs
theorem lent_rowLabels {w : World} {A : Option Addr} {n c : Nat} {zs : List Lb} (h : LentLabels w A n c zs) : Row w A n 2 (bkR zs) := lentS_row bkC_len h
set_option maxRecDepth 100000 in
theorem staysLabels_any (A B : Option Addr) (n ca cb : Nat) (zs : List Lb) (w : World) (hn : n ≤ 100000) (hx : LentLabels w A n ca zs) (hy : Row w B n 2 (bkR zs)) :
    Calls Try.prog 12 #[.slice A n ca, .slice B n cb] w fun e w' => e = .returned (.bool true) ∧ Gr w w' := by
  have hs := fun W (g : Gr w W) => same_yes A B n ca cb zs W (by omega) (row_gr (lent_rowLabels hx) g) (row_gr hy g)
  obtain ⟨Bb, o, rfl, hc⟩ := lentS_mark bkC_len (by decide) hx
  have hc0 := hc 0 (by decide)
  have hcap : n + 1 ≤ ca := hx.1
  have hmx := hx.2.1
  unfold maxLen at hmx
  clear hx hy hc
  replace hs := Lib.hid hs
  go_enter Try.func12, Try.ntmps12
  go_wp2_with fail
  refine (hs.out _ (gr_refl _ _)).mono ?_
  rintro e w1 ⟨rfl, g1⟩
  have hc1 : w1.cell? ⟨Bb, o + n * 2, none⟩ = some (.string (txt [109, 97, 114, 107])) := gr_cell g1 hc0
  clear hc0
  go_wp2
  go_ret
  exact ⟨rfl, g1⟩
set_option maxRecDepth 100000 in
theorem copy0Labels (A : Option Addr) (n c : Nat) (zs : List Lb) (w : World) (hn : n ≤ 100000) (hx : Row w A n 2 (bkR zs)) :
    Calls Try.prog 18 #[.slice A n c] w fun e w' => ∃ v, e = .returned v ∧ w'.ownsRow w.heap.size 41 2 v n (bkR zs) ∧ Gr w w' := by
  have hl : zs.length = n := by have := hx.1; rw [bkR_len] at this; omega
  rcases Nat.eq_zero_or_pos n with h0 | h0
  · subst h0
    obtain rfl : zs = [] := List.eq_nil_of_length_eq_zero hl
    clear hx
    go_enter Try.func18, Try.ntmps18
    cases A with
    | none =>
      go_wp2
      go_ret
      exact ⟨_, rfl, ⟨rfl, .inl ⟨rfl, rfl⟩⟩, gr_refl _ _⟩
    | some ad =>
      go_wp2
      go_ret
      exact ⟨_, rfl, ⟨rfl, .inl ⟨rfl, rfl⟩⟩, gr_refl _ _⟩
  · obtain ⟨_, B, o, _, rfl, _, _⟩ := rowS_elem bkC_len hx (by decide) h0
    exact (copy_any _ n c zs w (by omega) (by simp) hx).mono (by
      rintro e w' ⟨A', c', rfl, ho, g⟩
      exact ⟨_, rfl, ho, g⟩)
set_option maxRecDepth 100000 in
theorem lentLabels_new (A : Option Addr) (n c : Nat) (zs : List Lb) (w : World) (hn : n ≤ 100000) (hx : Row w A n 2 (bkR zs)) :
    Calls Try.prog 8 #[.slice A n c] w fun e w' => ∃ g c', e = .returned (.slice (some ⟨g, 0, none⟩) n c') ∧ LentLabels w' (some ⟨g, 0, none⟩) n c' zs ∧ Gr w w' ∧ w.heap.size ≤ g := by
  have hl : zs.length = n := by have := hx.1; rw [bkR_len] at this; omega
  have hcp := copy0Labels A n c zs w hn hx
  obtain ⟨ii, hi, hz0, hz1, hz2⟩ := info_parts infoE
  replace hcp := Lib.hid hcp
  replace hx := Lib.hid hx
  go_enter Try.func8, Try.ntmps8
  go_wp2_with fail
  refine hcp.out.mono ?_
  rintro e w1 ⟨v, rfl, hown, hg⟩
  have hs := hg.size
  replace hown := Lib.hid hown
  replace hg := Lib.hid hg
  go_wp2_with (at_builtin; refine wpList_append_own _ rfl _ _ 22 rfl w.heap.size 41 ii (.agg #[.string ⟨#[]⟩, .string ⟨#[]⟩]) 2 32 Try.underlying22 hi hz0 hz1 hz2 rfl (by decide) v _ _ rfl (hown.out.alloc _) ⟨w1.heap.size, 0, none⟩ 1 1 (bkC (⟨[109, 97, 114, 107], []⟩ : Lb)) rfl rfl ?c1 ?c2 ?c3 ?c4 ?c5 ?_; rotate_right; intro v' W4 hown4 hgrow _nl; clear _nl; have hb4 := Lib.hid (below_append hown.out hgrow hs); clear hgrow; obtain ⟨g, c', hv, hlent⟩ := own_lentS hown4 hl; subst hv; have hgb := (hown4.lt g rfl).1; clear hown4; have hcc : n + 1 ≤ c' := hlent.1; have hmx := hlent.2.1; unfold maxLen at hmx; replace hlent := Lib.hid hlent)
  case c1 =>
    intro j u hj
    have hjl := (List.getElem?_eq_some_iff.1 hj).1
    rw [bkC_len] at hjl
    rw [add_plain, Nat.zero_add, World.cell?_alloc_new]
    exact (show (bkC (⟨[109, 97, 114, 107], []⟩ : Lb)).toArray[j]? = some u by rw [List.getElem?_toArray]; exact hj)
  case c2 => exact bkC_ones _
  case c3 => unfold maxLen; omega
  case c4 => omega
  case c5 => simp; omega
  go_ret
  exact ⟨_, _, rfl, hlent.out, gr_of_below ((gr_below hg.out).trans hb4.out) (Nat.le_refl _), hgb⟩
theorem lentLabels_any (A : Option Addr) (n c : Nat) (zs : List Lb) (w : World) (hn : n ≤ 100000) (hx : Row w A n 2 (bkR zs)) :
    Calls Try.prog 8 #[.slice A n c] w fun e w' => ∃ A' c', e = .returned (.slice A' n c') ∧ LentLabels w' A' n c' zs ∧ Gr w w' :=
  (lentLabels_new A n c zs w hn hx).mono fun _ _ ⟨g, c', h1, h2, h3, _⟩ => ⟨some ⟨g, 0, none⟩, c', h1, h2, h3⟩
end Go.Proofs.Ytbnacoakjhhndaa.BkL
