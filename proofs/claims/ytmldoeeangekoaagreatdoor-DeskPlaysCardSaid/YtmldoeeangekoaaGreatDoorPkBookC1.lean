/-
  A book that keeps lists of cursors. No condition but bounds.
-/
import Derived.Test.YtmldoeeangekoaaGreatDoorApartCursors
import Derived.Test.YtmldoeeangekoaaGreatDoorDkA
namespace Go.Proofs.YtmldoeeangekoaaGreatDoor
open Go.RowKit

theorem parted_add {ls : List Lst} {x : Lst} (hp : Parted ls) (hx : ∀ k, x.v.ownBlock = some k → ¬ InL ls k) : Parted (ls ++ [x]) := by
  intro i j l m k hi hj hl hm
  have key : ∀ {i : Nat} {l : Lst}, (ls ++ [x])[i]? = some l → (ls[i]? = some l) ∨ (i = ls.length ∧ l = x) := fun {i l} h => by
    by_cases hlt : i < ls.length
    · rw [List.getElem?_append_left hlt] at h; exact .inl h
    · have h2 := (List.getElem?_eq_some_iff.1 h).1
      simp at h2
      have : i = ls.length := by omega
      subst this
      exact .inr ⟨rfl, by simpa using h.symm⟩
  rcases key hi with qi | ⟨rfl, rfl⟩ <;> rcases key hj with qj | ⟨rfl, rfl⟩
  · exact hp i j l m k qi qj hl hm
  · exact absurd (in_of qi hl) (hx k hm)
  · exact absurd (in_of qj hm) (hx k hl)
  · rfl
theorem snoc_at {ls : List Lst} {x l : Lst} {j : Nat} (h : (ls ++ [x])[j]? = some l) : ls[j]? = some l ∨ (j = ls.length ∧ l = x) := by
  by_cases hlt : j < ls.length
  · rw [List.getElem?_append_left hlt] at h; exact .inl h
  · have h2 := (List.getElem?_eq_some_iff.1 h).1
    simp at h2
    have : j = ls.length := by omega
    subst this
    exact .inr ⟨rfl, by simpa using h.symm⟩
theorem inl_snoc {ls : List Lst} {x : Lst} {j : Nat} (h : InL (ls ++ [x]) j) : InL ls j ∨ x.v.ownBlock = some j := by
  obtain ⟨l, hm, hb⟩ := h
  rcases List.mem_append.1 hm with hm | hm
  · exact .inl ⟨l, hm, hb⟩
  · exact .inr (by rw [← List.mem_singleton.1 hm]; exact hb)
/-- The book at K holds these lists of cursors, each with a copy. -/
def BC (w : World) (K : Nat) (lx : List Lst) (ob : Option Nat) : Prop :=
  ∃ (TX VX : Lst) (cx : List Lst), cx.length = lx.length ∧ Kept w K TX VX lx cx ∧ Parted lx ∧ (∀ (j : Nat) (l c : Lst), lx[j]? = some l → cx[j]? = some c → l.n ≤ 100000 ∧ c.n = l.n ∧ ∃ zs : List Cur, w.ownsRow 0 52 5 l.v l.n (bkR zs) ∧ w.ownsRow 0 52 5 c.v c.n (bkR zs)) ∧ (∀ k, InL lx k ∨ InL cx k → ob ≠ some k)
def bk0 : Array Value := #[.slice none 0 0, .slice none 0 0, .slice none 0 0, .slice none 0 0, .slice none 0 0, .slice none 0 0, .slice none 0 0, .slice none 0 0, .slice none 0 0, .slice none 0 0, .slice none 0 0, .slice none 0 0, .slice none 0 0, .slice none 0 0, .slice none 0 0, .slice none 0 0, .slice none 0 0, .slice none 0 0, .slice none 0 0, .slice none 0 0]
theorem bc_new (w : World) (ob : Option Nat) : BC (w.alloc (.cells bk0 46)) w.heap.size [] ob :=
  ⟨⟨none, 0, 0⟩, ⟨none, 0, 0⟩, [], rfl, ⟨blk_new w _, World.ownsRow_nil _ _ _ _, World.ownsRow_nil _ _ _ _, rfl, rfl, fun k h => by simp [Lst.v, Value.ownBlock] at h⟩, fun i j l m k hi => by simp at hi, fun j l c hl => by simp at hl, by rintro k (⟨l, hm, _⟩ | ⟨l, hm, _⟩) <;> simp at hm⟩
theorem bc_gr {w w' : World} {K : Nat} {lx : List Lst} {ob : Option Nat} (h : BC w K lx ob) (g : Gr w w') : BC w' K lx ob := by
  obtain ⟨TX, VX, cx, hcx, hX, px, oX, hob⟩ := h
  refine ⟨TX, VX, cx, hcx, ⟨gr_blk g hX.blk (by simp), hX.hT.kept g (Classical.em _), hX.hV.kept g (Classical.em _), hX.nT, hX.nV, hX.ne⟩, px, fun j l c hl hc => ?_, hob⟩
  obtain ⟨q1, q2, ys, q3, q4⟩ := oX j l c hl hc
  exact ⟨q1, q2, ys, q3.kept g (Classical.em _), q4.kept g (Classical.em _)⟩
theorem bc_lts {w : World} {K : Nat} {lx : List Lst} {ob : Option Nat} (h : BC w K lx ob) : ∃ cx : List Lst, True ∧ (∀ k, InL lx k → k < w.heap.size) := by
  obtain ⟨TX, VX, cx, hcx, hX, px, oX, hob⟩ := h
  refine ⟨cx, trivial, ?_⟩
  rintro k ⟨l, hm, hb⟩
  obtain ⟨j, hj⟩ := List.getElem?_of_mem hm
  have hlt := (List.getElem?_eq_some_iff.1 hj).1
  obtain ⟨_, _, ys, q3, _⟩ := oX j l (cx[j]'(by omega)) hj (List.getElem?_eq_getElem (by omega))
  exact (q3.lt k hb).2
theorem bc_lt {w : World} {K : Nat} {lx : List Lst} {ob : Option Nat} (h : BC w K lx ob) : ∀ k, InL lx k → k < w.heap.size := by
  obtain ⟨_, _, h2⟩ := bc_lts h
  exact h2
/-- The desk does something: its block and its own list may turn; its list may lie anew behind all that was. -/
theorem bc_desk {D : Nat} {w w' : World} {K : Nat} {lx : List Lst} {ob ob' : Option Nat} {cs : Array Value} {t : TypeId} {fr : Nat × Nat} (h : BC w K lx ob) (g : GrS (TnD D ob) w w') (hD : w.heap[D]? = some (.cells cs t fr)) (ht : t ≠ 46 ∧ t ≠ 28 ∧ t ≠ 52) (hL : ∀ k, ob = some k → ∃ cs fr, w.heap[k]? = some (.cells cs 52 fr)) (hn : NewOr ob w.heap.size ob') : BC w' K lx ob' := by
  obtain ⟨TX, VX, cx, hcx, hX, px, oX, hob⟩ := h
  have ty : ∀ {base size n : Nat} {e : TypeId} {v : Value} {xs : List Value}, w.ownsRow base e size v n xs → ∀ k, v.ownBlock = some k → ∃ cs fr, w.heap[k]? = some (.cells cs e fr) := by
    intro base size n e v xs ho k hb
    rcases ho.2 with ⟨rfl, _⟩ | ⟨g', cap, cur, rfl, _, hg, _⟩
    · cases hb
    · have : g' = k := by simpa [Value.ownBlock] using hb
      subst this
      exact ⟨_, _, hg⟩
  have tne : ∀ {k : Nat} {e e' : TypeId} {cs cs' : Array Value} {f f' : Nat × Nat}, w.heap[k]? = some (.cells cs e f) → w.heap[k]? = some (.cells cs' e' f') → e = e' := by
    intro k e e' cs cs' f f' h1 h2
    rw [h1] at h2
    injection h2 with q1
    injection q1 with _ q2
  have nT : ∀ {base size n : Nat} {v : Value} {xs : List Value}, w.ownsRow base 28 size v n xs → ∀ k, TnD D ob k → v.ownBlock ≠ some k := by
    intro base size n v xs ho k hk hb
    obtain ⟨c1, f1, h1⟩ := ty ho k hb
    rcases hk with rfl | hk
    · exact ht.2.1 (tne hD h1)
    · obtain ⟨c2, f2, h2⟩ := hL k hk
      exact absurd (tne h1 h2) (by decide)
  have nE : ∀ {base size n : Nat} {v : Value} {xs : List Value}, w.ownsRow base 52 size v n xs → (∀ k, v.ownBlock = some k → ob ≠ some k) → ∀ k, TnD D ob k → v.ownBlock ≠ some k := by
    intro base size n v xs ho hx k hk hb
    obtain ⟨c1, f1, h1⟩ := ty ho k hb
    rcases hk with rfl | hk
    · exact ht.2.2 (tne hD h1)
    · exact hx k hb hk
  have hK : ¬ TnD D ob K := by
    rintro (rfl | hk)
    · exact ht.1 (tne hD hX.blk)
    · obtain ⟨c2, f2, h2⟩ := hL K hk
      exact absurd (tne hX.blk h2) (by decide)
  refine ⟨TX, VX, cx, hcx, ⟨grs_blk g hX.blk hK, grs_own hX.hT g (nT hX.hT), grs_own hX.hV g (nT hX.hV), hX.nT, hX.nV, hX.ne⟩, px, fun j l c hl hc => ?_, ?_⟩
  · obtain ⟨q1, q2, ys, q3, q4⟩ := oX j l c hl hc
    exact ⟨q1, q2, ys, grs_own q3 g (nE q3 fun k hk => hob k (.inl (in_of hl hk))), grs_own q4 g (nE q4 fun k hk => hob k (.inr (in_of hc hk)))⟩
  · intro k hk he
    rcases hn k he with h1 | h1
    · exact hob k hk h1
    · rcases hk with ⟨l, hm, hb⟩ | ⟨c, hm, hb⟩
      · obtain ⟨j, hj⟩ := List.getElem?_of_mem hm
        have hlt := (List.getElem?_eq_some_iff.1 hj).1
        obtain ⟨_, _, ys, q3, _⟩ := oX j l (cx[j]'(by omega)) hj (List.getElem?_eq_getElem (by omega))
        have := (q3.lt k hb).2
        omega
      · obtain ⟨j, hj⟩ := List.getElem?_of_mem hm
        have hlt := (List.getElem?_eq_some_iff.1 hj).1
        obtain ⟨_, _, ys, _, q4⟩ := oX j (lx[j]'(by omega)) c (List.getElem?_eq_getElem (by omega)) hj
        have := (q4.lt k hb).2
        omega
theorem bc_keep {w : World} {K : Nat} {lx : List Lst} {ob : Option Nat} (h : BC w K lx ob) (l : Lst) (zs : List Cur) (hk : lx.length < 250) (hln : l.n ≤ 100000) (hr : w.ownsRow 0 52 5 l.v l.n (bkR zs)) (hnew : ∀ k, l.v.ownBlock = some k → ¬ InL lx k) (hlo : ∀ k, l.v.ownBlock = some k → ob ≠ some k) (hbl : ∀ k, ob = some k → k < w.heap.size) :
    Calls Tryz.prog 16 #[.pointer (some ⟨K, 0, none⟩), .slice l.A l.n l.c] w fun e w' => e = .returned (.tuple #[]) ∧ BC w' K (lx ++ [l]) ob ∧ Below K w w' ∧ (∀ (base : Nat) (e' : TypeId) (size : Nat) (v : Value) (n : Nat) (xs : List Value), e' ≠ 28 → e' ≠ 46 → w.ownsRow base e' size v n xs → w'.ownsRow base e' size v n xs) := by
  obtain ⟨TX, VX, cx, hcx, hX, px, oX, hob⟩ := h
  refine (keep_any K TX VX lx cx l zs w hk hcx hX (by omega) hr).mono ?_
  rintro e w' ⟨rfl, T', V', c, hX', hcn, hco, hb, hty⟩
  refine ⟨rfl, ⟨T', V', cx ++ [c], by simp [hcx], hX', parted_add px hnew, fun j l' c' hl hc => ?_, ?_⟩, hb, hty⟩
  rotate_left
  · rintro k (h1 | h1) he
    · rcases inl_snoc h1 with h1 | h1
      · exact hob k (.inl h1) he
      · exact hlo k h1 he
    · rcases inl_snoc h1 with h1 | h1
      · exact hob k (.inr h1) he
      · have := (hco.lt k h1).1
        have := hbl k he
        omega
  rcases snoc_at hl with hl | ⟨rfl, rfl⟩
  · have hj := (List.getElem?_eq_some_iff.1 hl).1
    rw [List.getElem?_append_left (by omega)] at hc
    obtain ⟨q1, q2, ys, q3, q4⟩ := oX j l' c' hl hc
    exact ⟨q1, q2, ys, hty _ _ _ _ _ _ (by decide) (by decide) q3, hty _ _ _ _ _ _ (by decide) (by decide) q4⟩
  · rw [List.getElem?_append_right (by omega), hcx, Nat.sub_self] at hc
    obtain rfl := Option.some.inj hc
    exact ⟨hln, hcn, zs, hty _ _ _ _ _ _ (by decide) (by decide) hr, own_mono hco (Nat.zero_le _)⟩
theorem bc_apart {w : World} {K : Nat} {lx : List Lst} {ob : Option Nat} (h : BC w K lx ob) (hx : lx.length ≤ 250) :
    Calls Tryz.prog 29 #[.pointer (some ⟨K, 0, none⟩)] w fun e w' => e = .returned (.bool true) ∧ GrS (InL lx) w w' := by
  obtain ⟨TX, VX, cx, hcx, hX, px, oX, hob⟩ := h
  exact apart_any K TX VX lx cx w hx hcx hX px oX
end Go.Proofs.YtmldoeeangekoaaGreatDoor
