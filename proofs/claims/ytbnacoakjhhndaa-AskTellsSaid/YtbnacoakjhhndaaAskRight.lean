/-
  request.Right, of every request. No condition but bounds on the lengths.
-/
import Derived.Test.YtbnacoakjhhndaaAskPlain
namespace Go.Proofs.Ytbnacoakjhhndaa
open Go.RowKit

/-- A request's labels lie well. -/
structure AqOk (w : World) (A : Option Addr) (n c : Nat) (q : Aq) : Prop where
  len : q.l.length = n
  n9 : n ≤ 1000000000
  t9 : q.t.length ≤ 1000000000
  nil : A = none → n = 0 ∧ c = 0
  row : Row w A n 2 (sR lblC q.l)
  short : ShortL q.l
  b64 : -9223372036854775808 ≤ q.b ∧ q.b ≤ 9223372036854775807
theorem aqOk_gr {w w' : World} {A : Option Addr} {n c : Nat} {q : Aq} (h : AqOk w A n c q) (g : Gr w w') : AqOk w' A n c q := ⟨h.len, h.n9, h.t9, h.nil, row_gr h.row g, h.short, h.b64⟩
theorem plain_any (A : Option Addr) (n c : Nat) (q : Aq) (w : World) (h : AqOk w A n c q) : Calls Try.prog 24 #[aqV A n c q] w (PlainPost q w) := by
  obtain ⟨h1, h2, h3, h4, h5, h6, h7⟩ := h
  obtain ⟨k, zs, t, a, b, d⟩ := q
  simp only at h1 h3 h5 h6 h7
  by_cases k1 : k = 1
  · subst k1; exact plain1 A n c zs t a b d w h1 h2 h3 h4 h5 h6 h7
  by_cases k2 : k = 2
  · subst k2; exact plain2 A n c zs t a b d w h1 h3 h2
  by_cases k3 : k = 3
  · subst k3; exact plain3 A n c zs t a b d w h1 h3 h2
  by_cases k4 : k = 4
  · subst k4; exact plain4 A n c zs t a b d w h1 h3 h2
  by_cases k5 : k = 5
  · subst k5; exact plain5 A n c zs t a b d w h1 h3 h2
  by_cases k6 : k = 6
  · subst k6; exact plain6 A n c zs t a b d w h1 h3 h2
  exact plainO A n c k zs t a b d w h2 k1 k2 k3 k4 k5 k6
set_option maxHeartbeats 8000000 in
set_option maxRecDepth 100000 in
theorem aright_any (A : Option Addr) (n c : Nat) (q : Aq) (w : World) (h : AqOk w A n c q) : Calls Try.prog 11 #[aqV A n c q] w fun e w' => e = .returned (.bool (decide (okA q))) ∧ Gr w w' := by
  obtain ⟨W1, hW1⟩ : ∃ W1, W1 = w.alloc (.cells #[.int .i64 q.kind, .slice A n c, .string (txt q.t), .int .i64 q.a, .int .i64 q.b, .int .i64 q.c] 24) := ⟨_, rfl⟩
  have g1 : Gr w W1 := by rw [hW1]; exact gr_alloc _ _ _
  have hbx : AqB W1 w.heap.size q.kind A n c q.t q.a q.b q.c := by rw [hW1]; exact blk_new w _
  have hp := plain_any A n c q W1 (aqOk_gr h g1)
  obtain ⟨b0, b1, b2, b3, b4, b5⟩ := aqb_cells hbx
  unfold aqV at hp ⊢
  replace hp := Lib.hid hp
  replace g1 := Lib.hid g1
  clear hbx h
  go_enter Try.func11, Try.ntmps11
  go_upto_region 1 with fail
  rw [← hW1]
  clear hW1
  go_wp2_with fail
  refine hp.out.mono ?_
  rintro e w2 ⟨⟨A2, n2, c2, t2, x, y, z, is, rfl, hn2, hiff⟩, g2⟩
  have G2 := gr_trans g1.out g2
  obtain ⟨W3, hW3⟩ : ∃ W3, W3 = w2.alloc (.cells #[.int .i64 q.kind, .slice A2 n2 c2, .string (txt t2), .int .i64 x, .int .i64 y, .int .i64 z] 24) := ⟨_, rfl⟩
  have g3 : Gr w2 W3 := by rw [hW3]; exact gr_alloc _ _ _
  have hb3 : AqB W3 w2.heap.size q.kind A2 n2 c2 t2 x y z := by rw [hW3]; exact blk_new w2 _
  have G3 := gr_trans G2 g3
  clear b0 b1 b2 b3 b4 b5 hp g2 g3 G2
  obtain ⟨b0, b1, b2, b3, b4, b5⟩ := aqb_cells hb3
  replace G3 := Lib.hid G3
  replace hiff := Lib.hid hiff
  clear hb3
  go_upto_region 2 with fail
  rw [← hW3]
  clear hW3
  cases is with
  | false =>
    have hd : Hid (decide (okA q) = false) := decide_eq_false (fun h => absurd (hiff.out.2 h).1 (by decide))
    clear hiff
    go_wp2
    go_ret
    exact ⟨by rw [hd.out]; rfl, G3.out⟩
  | true =>
    by_cases cn : n2 = 0
    · have hn0 : ((n2 : Int) == 0) = true := eqT (by omega)
      have hn1 : Hid (n2 = 0) := cn
      clear cn
      by_cases ct : t2 = []
      · have ht0 : t2.isEmpty = true := by rw [ct]; rfl
        have ht1 : Hid (t2.length = 0) := by rw [ct]; exact (rfl : ([] : List UInt8).length = 0)
        replace ct := Lib.hid ct
        by_cases cx : x = 0
        · have hx0 : (x == 0) = true := eqT cx
          have hx1 : Hid (x = 0) := cx
          clear cx
          by_cases cy : y = 0
          · have hy0 : (y == 0) = true := eqT cy
            have hy1 : Hid (y = 0) := cy
            clear cy
            by_cases cz : z = 0
            · have hz0 : (z == 0) = true := eqT cz
              have hz1 : Hid (z = 0) := cz
              clear cz
              have hd : Hid (decide (okA q) = true) := decide_eq_true (hiff.out.1 ⟨rfl, hn1.out, ht1.out, hx1.out, hy1.out, hz1.out⟩)
              clear hiff
              go_wp2
              go_ret
              exact ⟨by rw [hd.out]; rfl, G3.out⟩
            · have hz0 : (z == 0) = false := eqF cz
              have hd : Hid (decide (okA q) = false) := decide_eq_false (fun h => cz (hiff.out.2 h).2.2.2.2.2)
              clear hiff cz
              go_wp2
              go_ret
              exact ⟨by rw [hd.out]; rfl, G3.out⟩
          · have hy0 : (y == 0) = false := eqF cy
            have hd : Hid (decide (okA q) = false) := decide_eq_false (fun h => cy (hiff.out.2 h).2.2.2.2.1)
            clear hiff cy
            go_wp2
            go_ret
            exact ⟨by rw [hd.out]; rfl, G3.out⟩
        · have hx0 : (x == 0) = false := eqF cx
          have hd : Hid (decide (okA q) = false) := decide_eq_false (fun h => cx (hiff.out.2 h).2.2.2.1)
          clear hiff cx
          go_wp2
          go_ret
          exact ⟨by rw [hd.out]; rfl, G3.out⟩
      · have ht0 : t2.isEmpty = false := by rw [List.isEmpty_eq_false_iff]; exact ct
        have hd : Hid (decide (okA q) = false) := decide_eq_false (fun h => ct (List.eq_nil_of_length_eq_zero (hiff.out.2 h).2.2.1))
        clear hiff ct
        go_wp2
        go_ret
        exact ⟨by rw [hd.out]; rfl, G3.out⟩
    · have hn0 : ((n2 : Int) == 0) = false := eqF (by omega)
      have hd : Hid (decide (okA q) = false) := decide_eq_false (fun h => cn (hiff.out.2 h).2.1)
      clear hiff cn
      go_wp2
      go_ret
      exact ⟨by rw [hd.out]; rfl, G3.out⟩
end Go.Proofs.Ytbnacoakjhhndaa
