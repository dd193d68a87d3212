/-
  The end of StorePlays: the store, the document's store and a book that keeps lists of series; each call's contract. No condition but bounds.
-/
import Derived.Test.YtccmekdmnkmhlaaGreatARX
import Derived.Test.YtccmekdmnkmhlaaGreatSqApartSeries
import Derived.Test.YtccmekdmnkmhlaaGreatANX
import Derived.Test.YtccmekdmnkmhlaaGreatAQX
namespace Go.Proofs.YtccmekdmnkmhlaaGreat
open Go.RowKit

open BkZ (Kept BkBlk OwnSs SerPair bkCells)
def bkNil : Array Value := bkCells (.slice none 0 0) (.slice none 0 0)
theorem getL_some : ∀ (l : List Lb) (n : List UInt8), getL l n = [] ∨ ∃ x ∈ l, getL l n = x.v
  | [], _ => .inl rfl
  | x :: l, n => by
    rw [getL_cons]
    split
    · exact .inr ⟨x, by simp, rfl⟩
    · rcases getL_some l n with h | ⟨y, hy, h⟩
      · exact .inl h
      · exact .inr ⟨y, List.mem_cons_of_mem _ hy, h⟩
theorem inv_short {ss : List Ser} (h : InvS ss) : ∀ s ∈ ss, ShortL s.l := fun s hs x hx => by
  have h1 := (h.ok s hs).1.1.2.1 x hx
  have h2 := eName_len h1.1
  have := h1.2.2
  exact ⟨by omega, by omega⟩
theorem inv_get {ss : List Ser} (h : InvS ss) : ∀ s ∈ ss, s.l.length ≤ 1000000 ∧ ∀ nm, (getL s.l nm).length ≤ 1000000 := fun s hs => by
  refine ⟨(ser_small h s hs).1, fun nm => ?_⟩
  rcases getL_some s.l nm with q | ⟨x, hx, q⟩
  · rw [q]; simp
  · rw [q]
    have := ((h.ok s hs).1.1.2.1 x hx).2.2
    omega
theorem inv_okSs {ss : List Ser} (h : InvS ss) : OkSs ss := by
  refine ⟨h.len, fun i s hi hs => ?_⟩
  obtain ⟨h1, h2, h3, h4⟩ := h.ok s (List.mem_of_getElem? hs)
  refine ⟨⟨h1, by omega, h4⟩, ?_⟩
  rcases Nat.eq_zero_or_pos i with h0 | h0
  · exact .inl h0
  · right
    have hp : ss[i - 1]? = some (ss[i - 1]'(by omega)) := List.getElem?_eq_getElem _
    exact ⟨_, hp, sortedS_at h.sort hp hs (by omega)⟩
theorem sel_sub (H : T → List Int → Bool) (ms : List Mt) {ss : List Ser} : ∀ s ∈ selS H ms ss, s ∈ ss := fun s hs => (List.mem_filter.1 hs).1
theorem sel_len (H : T → List Int → Bool) (ms : List Mt) (ss : List Ser) : (selS H ms ss).length ≤ ss.length := List.length_filter_le _ _
theorem sersIn_own {w : World} {base : Nat} {A : Option Addr} {n c : Nat} {hs : List SHd} {ss : List Ser} (h : SersIn w base A n c hs ss) : OwnSs w base ⟨A, n, c⟩ ss := ⟨hs, h.hlen, h.len, h.own, h.ser⟩
theorem ownSs_gr {w w' : World} {base : Nat} {l : Lst} {ss : List Ser} (h : OwnSs w base l ss) (g : Gr w w') : OwnSs w' base l ss := by
  obtain ⟨hs, h1, h2, h3, h4⟩ := h
  exact ⟨hs, h1, h2, h3.kept g (by cases l.v.ownBlock <;> simp), fun i x s a b => serOwn_gr (h4 i x s a b) g⟩
theorem ownSs_nil (w : World) (base : Nat) : OwnSs w base ⟨none, 0, 0⟩ [] := ⟨[], rfl, rfl, World.ownsRow_nil _ _ _ _, by intro i x s h1; simp at h1⟩
/-- The lists that are kept. -/
abbrev KL := List (Lst × List Ser)
structure SpB (w0 : World) (K : Nat) (wr : World) (St : Nat) (ss : List Ser) (rA : Option Addr) (kl : KL) : Prop where
  ex : ∃ (base : Nat) (m : StoM) (rhs : List SHd) (T V : Lst) (cs : List Lst), m.St = St ∧ w0.heap.size ≤ base ∧ StoHas wr base m ss ∧ SersOf wr rA ss.length rhs ss ∧ (∀ b, RBlk rA rhs b → b < wr.heap.size ∧ ¬ BkBlk K T V b) ∧ Kept wr K T V (kl.map (·.1)) cs ∧ cs.length = kl.length ∧
    (∀ (i : Nat) (l : Lst) (s' : List Ser) (c : Lst), kl[i]? = some (l, s') → cs[i]? = some c → c.n = l.n ∧ l.n ≤ 1000 ∧ OwnSs wr 0 l s' ∧ OwnSs wr 0 c s') ∧ (∀ b, BkBlk K T V b → w0.heap.size ≤ b)
  sm : ∀ p ∈ kl, ∀ s ∈ p.2, s.l.length ≤ 100000 ∧ s.p.length ≤ 100000
  prt : Parted (kl.map (·.1))
  low : ∀ b, InL (kl.map (·.1)) b → w0.heap.size ≤ b
  bel : Below w0.heap.size w0 wr
theorem bkBlk_nil {K b : Nat} (h : BkBlk K ⟨none, 0, 0⟩ ⟨none, 0, 0⟩ b) : b = K := by
  rcases h with h | h | h
  · exact h
  · cases h
  · cases h
theorem spb_start {w0 wr : World} {K St rc : Nat} {ss : List Ser} {rA : Option Addr} (h : SpIs w0 K bkNil wr St ss ss rA rc (fun _ => False)) : SpB w0 K wr St ss rA [] := by
  obtain ⟨⟨base, m, rhs, h1, h2, h3, h4, h5, h6⟩, i1, i2, i3, i4, i5, i6, i7⟩ := h
  refine ⟨⟨base, m, rhs, ⟨none, 0, 0⟩, ⟨none, 0, 0⟩, [], h1, h2, h3, h4, fun b hb => ⟨(h5 b hb).1, fun q => (h5 b hb).2.2.2 (bkBlk_nil q)⟩, ⟨i5, World.ownsRow_nil _ _ _ _, World.ownsRow_nil _ _ _ _, rfl, rfl, fun k q => by cases q⟩, rfl, fun i l s' c q => by simp at q, fun b hb => by rw [bkBlk_nil hb]; exact i7⟩, (by intro p hp; cases hp), (by intro i j l m' k q; simp at q), (by rintro b ⟨l, hl, _⟩; simp at hl), i6⟩
theorem spb_gr {w0 wr w' : World} {K St : Nat} {ss : List Ser} {rA : Option Addr} {kl : KL} (h : SpB w0 K wr St ss rA kl) (g : Gr wr w') : SpB w0 K w' St ss rA kl := by
  obtain ⟨⟨base, m, rhs, T, V, cs, h1, h2, h3, h4, h5, h6, h7, h8, h9⟩, i1, i2, i3, i4⟩ := h
  exact ⟨⟨base, m, rhs, T, V, cs, h1, h2, stoHas_gr h3 g, sersOf_gr h4 g, fun b hb => ⟨Nat.lt_of_lt_of_le (h5 b hb).1 g.size, (h5 b hb).2⟩, ⟨gr_blk g h6.blk (by simp), h6.hT.kept g (by cases T.v.ownBlock <;> simp), h6.hV.kept g (by cases V.v.ownBlock <;> simp), h6.nT, h6.nV, h6.ne⟩, h7, fun i l s' c a b => by
    obtain ⟨q1, q2, q3, q4⟩ := h8 i l s' c a b
    exact ⟨q1, q2, ownSs_gr q3 g, ownSs_gr q4 g⟩, h9⟩, i1, i2, i3, below_gr i4 g i4.size (by simp)⟩
theorem spb_inv {w0 wr : World} {K St : Nat} {ss : List Ser} {rA : Option Addr} {kl : KL} (h : SpB w0 K wr St ss rA kl) : InvS ss := by
  obtain ⟨⟨base, m, rhs, T, V, cs, h1, h2, h3, _⟩, _⟩ := h
  exact h3.inv
theorem spb_ref {w0 wr : World} {K St : Nat} {ss : List Ser} {rA : Option Addr} {kl : KL} (h : SpB w0 K wr St ss rA kl) : ∃ rhs, SersOf wr rA ss.length rhs ss := by
  obtain ⟨⟨base, m, rhs, T, V, cs, h1, h2, h3, h4, _⟩, _⟩ := h
  exact ⟨rhs, h4⟩
theorem spb_lt {w0 wr : World} {K St : Nat} {ss : List Ser} {rA : Option Addr} {kl : KL} (h : SpB w0 K wr St ss rA kl) : ∀ b, InL (kl.map (·.1)) b → b < wr.heap.size := by
  obtain ⟨⟨base, m, rhs, T, V, cs, h1, h2, h3, h4, h5, h6, h7, h8, h9⟩, _⟩ := h
  rintro b ⟨l, hl, hb⟩
  obtain ⟨p, hp, rfl⟩ := List.mem_map.1 hl
  obtain ⟨i, hi⟩ := List.getElem?_of_mem hp
  have hlt := (List.getElem?_eq_some_iff.1 hi).1
  obtain ⟨_, _, ⟨hs, _, _, ho, _⟩, _⟩ := h8 i p.1 p.2 (cs[i]'(by omega)) hi (List.getElem?_eq_getElem _)
  exact (ho.lt b hb).2
/-- The types of what the book owns are none of a store's. -/
theorem blkS_bkBlk {w : World} {base : Nat} {m : StoM} {ss : List Ser} (h : StoAt w base m ss) {K : Nat} {T V : Lst} {ls cs : List Lst} (hk : Kept w K T V ls cs) {b : Nat} (hb : BlkS m b) : ¬ BkBlk K T V b := by
  have key : ∀ {v : Value} {n bb : Nat} {xs : List Value}, w.ownsRow bb 29 1 v n xs → v.ownBlock = some b → False := fun {v n bb xs} ho hv => by
    rcases ho.2 with ⟨hn, _⟩ | ⟨g, cap, cur, rfl, _, hg, _⟩
    · rw [hn] at hv; cases hv
    · have : g = b := by simpa [Value.ownBlock] using hv
      subst this
      rcases blkS_typ h hb hg with q | q | q | q <;> exact absurd q (by decide)
  rintro (rfl | q | q)
  · exact blkS_book h hb hk.blk
  · exact key hk.hT q
  · exact key hk.hV q
theorem spb_keep {w0 wr : World} {K St y : Nat} {ss : List Ser} {rA : Option Addr} {kl : KL} (h : SpB w0 K wr St ss rA kl) (hkl : kl.length < 250) {l : Lst} {s' : List Ser} (hl : OwnSs wr 0 l s') (hn : l.n ≤ 1000) (hsm : ∀ s ∈ s', s.l.length ≤ 100000 ∧ s.p.length ≤ 100000) (hy : ∀ b, InL (kl.map (·.1)) b → b < y) (hly : ∀ b, l.v.ownBlock = some b → y ≤ b) (hy0 : w0.heap.size ≤ y) :
    Calls Tryz.prog 13 #[.pointer (some ⟨K, 0, none⟩), .slice l.A l.n l.c] wr fun e w' => e = .returned (.tuple #[]) ∧ SpB w0 K w' St ss rA (kl ++ [(l, s')]) := by
  obtain ⟨⟨base, m, rhs, T, V, cs, h1, h2, h3, h4, h5, h6, h7, h8, h9⟩, i1, i2, i3, i4⟩ := h
  refine (BkZ.keep_any K T V (kl.map (·.1)) cs l s' wr (by rw [List.length_map]; exact hkl) (by rw [List.length_map]; exact h7) h6 (by omega) hl hsm).mono ?_
  rintro e w' ⟨rfl, T', V', c, ⟨gS, gN⟩, k1, k2, k3, B, k4⟩
  have hmap : (kl ++ [(l, s')]).map (·.1) = kl.map (·.1) ++ [l] := by simp
  have hKl : K < wr.heap.size := lt_of_blk h6.blk
  refine ⟨rfl, ⟨⟨base, m, rhs, T', V', cs ++ [c], h1, h2, ⟨stoAt_grs h3.sat gS (fun b hb => blkS_bkBlk h3.sat h6 hb), h3.inv, h3.low, Nat.le_trans h3.hb gS.size⟩, sersOf_grs h4 gS (fun b hb => (h5 b hb).2), fun b hb => ⟨Nat.lt_of_lt_of_le (h5 b hb).1 gS.size, fun q => ?_⟩, by rw [hmap]; exact k1, by simp [h7], fun i l2 s2 c2 a b => ?_, fun b hb => ?_⟩, ?_, ?_, ?_, below_grs i4 gS i4.size h9⟩⟩
  · rcases gN b q with r | r
    · exact (h5 b hb).2 r
    · have := (h5 b hb).1; omega
  · by_cases hi : i < kl.length
    · rw [List.getElem?_append_left hi] at a
      rw [List.getElem?_append_left (by omega)] at b
      obtain ⟨q1, q2, q3, q4⟩ := h8 i l2 s2 c2 a b
      exact ⟨q1, q2, BkZ.ownSs_typed k4 q3, BkZ.ownSs_typed k4 q4⟩
    · have hi2 : i = kl.length := by
        have := (List.getElem?_eq_some_iff.1 a).1
        simp at this
        omega
      subst hi2
      rw [List.getElem?_append_right (Nat.le_refl _), Nat.sub_self] at a
      rw [List.getElem?_append_right (by omega), h7, Nat.sub_self] at b
      have e1 : (l, s') = (l2, s2) := by simpa using a
      injection e1 with e1 e2
      have e3 : c = c2 := by simpa using b
      subst e1 e2 e3
      exact ⟨k2, hn, BkZ.ownSs_typed k4 hl, BkZ.ownSs_base k3 (Nat.zero_le _)⟩
  · rcases gN b hb with r | r
    · exact h9 b r
    · have := i4.size; omega
  · intro p hp
    rcases List.mem_append.1 hp with hp | hp
    · exact i1 p hp
    · rw [List.mem_singleton.1 hp]; exact hsm
  · rw [hmap]
    exact parted_snoc (B := y) i2 (fun l2 hl2 b hb => hy b ⟨l2, hl2, hb⟩) hly
  · rw [hmap]
    rintro b ⟨l2, hl2, hb⟩
    rcases List.mem_append.1 hl2 with hl2 | hl2
    · exact i3 b ⟨l2, hl2, hb⟩
    · rw [List.mem_singleton.1 hl2] at hb
      exact Nat.le_trans hy0 (hly b hb)
theorem spb_kept {w0 wr : World} {K St : Nat} {ss : List Ser} {rA : Option Addr} {kl : KL} (h : SpB w0 K wr St ss rA kl) {i : Nat} {l : Lst} {s' : List Ser} (hi : kl[i]? = some (l, s')) : ∃ hs, SersOf wr l.A l.n hs s' := by
  obtain ⟨⟨base, m, rhs, T, V, cs, h1, h2, h3, h4, h5, h6, h7, h8, h9⟩, _⟩ := h
  have hlt := (List.getElem?_eq_some_iff.1 hi).1
  obtain ⟨_, _, q3, _⟩ := h8 i l s' (cs[i]'(by omega)) hi (List.getElem?_eq_getElem _)
  obtain ⟨hs, r, _⟩ := BkZ.ownSs_rd q3
  exact ⟨hs, r⟩
theorem sersIn_bds {w : World} {base : Nat} {A : Option Addr} {n c : Nat} {hs : List SHd} {ss : List Ser} (h : SersIn w base A n c hs ss) (hi : InvS ss) : ∀ x ∈ hs, x.ln ≤ 1000000 ∧ x.pn ≤ 1000000 ∧ NilOk x := by
  intro x hx
  obtain ⟨i, hx⟩ := List.getElem?_of_mem hx
  have hlt := (List.getElem?_eq_some_iff.1 hx).1
  have hs' : ss[i]? = some (ss[i]'(by rw [h.len, ← h.hlen]; exact hlt)) := List.getElem?_eq_getElem _
  have h0 := h.ser i x _ hx hs'
  have h2 := ser_small hi _ (List.mem_of_getElem? hs')
  have h3 := h0.1.1
  have h4 := h0.2.1
  rw [sR_len lblC 2 lblC_len] at h3
  rw [sR_len pc 2 pc_len] at h4
  exact ⟨by omega, by omega, serOwn_nil h0⟩
theorem sto_nilAt {w : World} {b : Nat} (base : Nat) (h : w.heap[b]? = some (.cells #[.slice none 0 0] 31 (0, 0))) : StoAt w base ⟨b, none, 0, []⟩ [] :=
  ⟨h, rfl, World.ownsRow_nil _ _ _ _, (by intro i h s h1; simp at h1), (by intro i j l m k h1; simp at h1)⟩
theorem spb_all {w0 wr : World} {K St : Nat} {ss : List Ser} {rA : Option Addr} {kl : KL} (h : SpB w0 K wr St ss rA kl) :
    Calls Tryz.prog 12 #[.pointer (some ⟨St, 0, none⟩)] wr fun e w' => ∃ A c hs, e = .returned (.slice A ss.length c) ∧ SersIn w' wr.heap.size A ss.length c hs ss ∧ Gr wr w' := by
  obtain ⟨⟨base, m, rhs, T, V, cs, rfl, h2, h3, _⟩, _⟩ := h
  exact sall_any base m ss wr h3.sat h3.inv
theorem spb_sel {w0 wr : World} {K St : Nat} {ss : List Ser} {rA : Option Addr} {kl : KL} (h : SpB w0 K wr St ss rA kl) (H : T → List Int → Bool) (hH : Holds H) (A : Option Addr) (n c : Nat) (ms : List Mt) (hn : n ≤ 1000) (hr : Row wr A n 3 (sR mtC ms)) (hb : ∀ m ∈ ms, m.n.length ≤ 1000000 ∧ m.v.length ≤ 1000000) :
    Calls Tryz.prog 17 #[.pointer (some ⟨St, 0, none⟩), .slice A n c] wr (SelPost H ms ss wr) := by
  obtain ⟨⟨base, m, rhs, T, V, cs, rfl, h2, h3, _⟩, _⟩ := h
  exact select_any H hH base m ss A n c ms wr h3.sat h3.inv hn hr hb
theorem spb_apart {w0 wr : World} {K St : Nat} {ss : List Ser} {rA : Option Addr} {kl : KL} (h : SpB w0 K wr St ss rA kl) (hkl : kl.length ≤ 250) :
    Calls Tryz.prog 20 #[.pointer (some ⟨K, 0, none⟩)] wr fun e w' => e = .returned (.bool true) ∧ Below w0.heap.size w0 w' := by
  obtain ⟨⟨base, m, rhs, T, V, cs, h1, h2, h3, h4, h5, h6, h7, h8, h9⟩, i1, i2, i3, i4⟩ := h
  refine (BkZ.apart_any K T V (kl.map (·.1)) cs wr (by rw [List.length_map]; exact hkl) (by rw [List.length_map]; exact h7) h6 i2 (fun j l c hl hc => ?_)).mono ?_
  · rw [List.getElem?_map] at hl
    cases hp : kl[j]? with
    | none => rw [hp] at hl; cases hl
    | some p =>
      rw [hp] at hl
      obtain rfl := Option.some.inj hl
      obtain ⟨q1, q2, q3, q4⟩ := h8 j p.1 p.2 c hp hc
      obtain ⟨hs1, r1, _⟩ := BkZ.ownSs_rd q3
      obtain ⟨hs2, r2, _⟩ := BkZ.ownSs_rd q4
      obtain ⟨zs, _, _, o1, _⟩ := q3
      obtain ⟨zc, _, _, o2, _⟩ := q4
      rw [q1] at r2
      exact ⟨Nat.le_trans q2 (by decide), q1, zs, zc, o1, o2, hs1, hs2, p.2, r1, r2, fun s hs => by have := i1 p (List.mem_of_getElem? hp) s hs; exact ⟨by omega, by omega⟩⟩
  · rintro e w' ⟨rfl, g⟩
    exact ⟨rfl, below_grs i4 g i4.size i3⟩
end Go.Proofs.YtccmekdmnkmhlaaGreat
