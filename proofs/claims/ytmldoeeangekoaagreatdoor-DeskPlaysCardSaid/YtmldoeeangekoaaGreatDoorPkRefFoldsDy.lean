/-
  The document's State behind any note. No condition but bounds.
-/
import Derived.Test.YtmldoeeangekoaaGreatDoorDyA
import Derived.Test.YtmldoeeangekoaaGreatDoorPkRefFold2
import Derived.Test.YtmldoeeangekoaaGreatDoorPkRefFold3
import Derived.Test.YtmldoeeangekoaaGreatDoorPkRefFold4
import Derived.Test.YtmldoeeangekoaaGreatDoorPkRefFold5
namespace Go.Proofs.YtmldoeeangekoaaGreatDoor.Dy
open Go.RowKit

theorem place_of {fz : List Cur} (hs : Sorted fz) {t : Int} {q : Nat} (hq : q ≤ fz.length) (hle : ∀ y ∈ fz.take q, y.id < t) (hge : ∀ y, fz[q]? = some y → ¬ y.id < t) : Place fz t q := ⟨hq, hle, fun y hy => by
  obtain ⟨j, hj⟩ := List.getElem?_of_mem hy
  rw [List.getElem?_drop] at hj
  rcases Nat.eq_zero_or_pos j with h0 | hp
  · rw [h0, Nat.add_zero] at hj
    have := hge y hj
    omega
  · have h0 := (List.getElem?_eq_some_iff.1 hj).1
    have h1 : fz[q]? = some (fz[q]'(by omega)) := List.getElem?_eq_getElem (by omega)
    have h2 := hge _ h1
    have h3 := sorted_at hs h1 hj (by omega)
    omega⟩
theorem rfold_any2 (s : StM) (A : Option Addr) (n c : Nat) (x : Nte) (base : Nat) (w : World) (h : w.ownsRow base 52 5 (.slice A n c) n (sR curC s.op)) (hb : base ≤ w.heap.size) (hn : n ≤ 99999) (hs : Sorted s.op) :
    Calls Tryz.prog 21 #[.agg #[.int .i64 s.next, .int .i64 s.now, .slice A n c, .string (txt s.seg), .int .i64 s.pts], .agg #[.int .i64 x.kind, .int .i64 x.c.id, .int .i64 x.c.rows, .int .i64 x.c.size, .int .i64 x.c.tl, .string (txt x.c.file)]] w fun e w' => (∃ A' n' c', e = .returned (.agg #[.int .i64 (foldM s x).next, .int .i64 (foldM s x).now, .slice A' n' c', .string (txt (foldM s x).seg), .int .i64 (foldM s x).pts]) ∧ w'.ownsRow base 52 5 (.slice A' n' c') n' (sR curC (foldM s x).op) ∧ (∀ k, (Value.slice A' n' c').ownBlock = some k → (Value.slice A n c).ownBlock = some k ∨ w.heap.size ≤ k)) ∧ Gr w w' := by
  obtain ⟨nx, now, op, seg, pts⟩ := s
  simp only at h hs
  by_cases h1 : okOpen x
  · refine (rfold_open nx now pts A n c seg x op w h1 (by omega) (row_own h)).mono ?_
    rintro e w' ⟨v, q, rfl, hq, hle, hge, hv, g⟩
    obtain ⟨A', c', rfl, -, -⟩ := own_openS hv
    obtain ⟨p1, p2⟩ := place_split (place_of (List.Pairwise.filter _ hs) hq hle hge)
    rw [p1, p2] at hv
    have hl : ((op.filter fun y => !(y.id == x.c.id)).filter fun y => decide (y.id < x.c.id)) ++ [x.c] ++ ((op.filter fun y => !(y.id == x.c.id)).filter fun y => !decide (y.id < x.c.id)) = insM x.c (op.filter fun y => !(y.id == x.c.id)) := by unfold insM; simp
    rw [hl] at hv
    have hf : foldM ⟨nx, now, op, seg, pts⟩ x = ⟨max nx (x.c.id + 1), now, insM x.c (op.filter fun y => !(y.id == x.c.id)), seg, pts⟩ := by unfold foldM closeM; rw [if_pos h1]
    rw [hf]
    exact ⟨⟨A', _, c', rfl, own_mono hv hb, fun k hk => .inr (hv.lt k hk).1⟩, g⟩
  · by_cases h2 : okClose x
    · refine (rfold_close nx now pts A n c seg x op base w h2 (by omega) hb h).mono ?_
      rintro e w' ⟨v, rfl, hv, g⟩
      obtain ⟨A', c', rfl, -, -⟩ := own_openS hv
      have hf : foldM ⟨nx, now, op, seg, pts⟩ x = ⟨max nx (x.c.id + 1), now, op.filter fun y => !(y.id == x.c.id), seg, pts⟩ := by unfold foldM closeM; rw [if_neg h1, if_pos h2]
      rw [hf]
      exact ⟨⟨A', _, c', rfl, own_mono hv hb, fun k hk => .inr (hv.lt k hk).1⟩, g⟩
    · by_cases h3 : okClock x
      · refine (rfold_clock nx now pts A n c seg x op w h3 (by omega) (row_own h)).mono ?_
        rintro e w' ⟨v, rfl, hv, g⟩
        obtain ⟨A', c', rfl, -, -⟩ := own_openS hv
        have hf : foldM ⟨nx, now, op, seg, pts⟩ x = ⟨nx, max now x.c.tl, op.filter fun y => !decide (y.tl < max now x.c.tl), seg, pts⟩ := by unfold foldM; rw [if_neg h1, if_neg h2, if_pos h3]
        rw [hf]
        exact ⟨⟨A', _, c', rfl, own_mono hv hb, fun k hk => .inr (hv.lt k hk).1⟩, g⟩
      · by_cases h4 : okSeg x
        · refine (rfold_seg nx now pts A n c seg x w h4).mono ?_
          rintro e w' ⟨rfl, g⟩
          have hf : foldM ⟨nx, now, op, seg, pts⟩ x = ⟨nx, now, op, x.c.file, x.c.rows⟩ := by unfold foldM; rw [if_neg h1, if_neg h2, if_neg h3, if_pos h4]
          rw [hf]
          exact ⟨⟨A, n, c, rfl, h.kept g (Classical.em _), fun k hk => .inl hk⟩, g⟩
        · have hb2 : ¬ okN x := by rintro (k | k | k | k) <;> contradiction
          refine (rfold_bad nx now pts A n c seg x w hb2).mono ?_
          rintro e w' ⟨rfl, g⟩
          have hf : foldM ⟨nx, now, op, seg, pts⟩ x = ⟨nx, now, op, seg, pts⟩ := by unfold foldM; rw [if_neg h1, if_neg h2, if_neg h3, if_neg h4]
          rw [hf]
          exact ⟨⟨A, n, c, rfl, h.kept g (Classical.em _), fun k hk => .inl hk⟩, g⟩
theorem rfold_any (s : StM) (A : Option Addr) (n c : Nat) (x : Nte) (base : Nat) (w : World) (h : w.ownsRow base 52 5 (.slice A n c) n (sR curC s.op)) (hb : base ≤ w.heap.size) (hn : n ≤ 99999) (hs : Sorted s.op) :
    Calls Tryz.prog 21 #[.agg #[.int .i64 s.next, .int .i64 s.now, .slice A n c, .string (txt s.seg), .int .i64 s.pts], .agg #[.int .i64 x.kind, .int .i64 x.c.id, .int .i64 x.c.rows, .int .i64 x.c.size, .int .i64 x.c.tl, .string (txt x.c.file)]] w fun e w' => (∃ A' n' c', e = .returned (.agg #[.int .i64 (foldM s x).next, .int .i64 (foldM s x).now, .slice A' n' c', .string (txt (foldM s x).seg), .int .i64 (foldM s x).pts]) ∧ w'.ownsRow base 52 5 (.slice A' n' c') n' (sR curC (foldM s x).op)) ∧ Gr w w' := by
  refine (rfold_any2 s A n c x base w h hb hn hs).mono ?_
  rintro e w' ⟨⟨A', n', c', h1, h2, _⟩, g⟩
  exact ⟨⟨A', n', c', h1, h2⟩, g⟩
end Go.Proofs.YtmldoeeangekoaaGreatDoor.Dy
