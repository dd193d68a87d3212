/-
  request.ReadAsk: the request of bytes, or that they are none. No condition but a bound on the length.
-/
import Derived.Test.YtbnacoakjhhndaaAskLay
import Derived.Test.YtbnacoakjhhndaaAskRow
namespace Go.Proofs.Ytbnacoakjhhndaa
open Go.RowKit

theorem own_far {w w' : World} {base size n b : Nat} {e t : TypeId} {v : Value} {xs : List Value} {cs : Array Value} {fr : Nat × Nat} (h : w.ownsRow base e size v n xs) (hb : w.heap[b]? = some (.cells cs t fr)) (he : e ≠ t) (g : GrB b w w') : w'.ownsRow base e size v n xs := by
  refine h.kept g ?_
  rcases h.2 with ⟨rfl, _⟩ | ⟨g', cap, cur, rfl, _, hg, _⟩
  · exact .inl rfl
  · right
    intro e2
    have : g' = b := by simpa [Value.ownBlock] using e2
    subst this
    rw [hb] at hg
    injection hg with h1
    injection h1 with _ h2
    exact he h2.symm
/-- What is at hand while a request is read. -/
structure RaAt (w wr : World) (b p : Nat) (l : List UInt8) (bad : Bool) (k : Int) (A : Option Addr) (n c : Nat) (L : List Lb) (t : List UInt8) (x y z : Int) : Prop where
  res : AqB wr w.heap.size 0 none 0 0 [] 0 0 0
  rdr : Rq.Rdr wr b l bad
  out : AqB wr p k A n c t x y z
  own : wr.ownsRow w.heap.size 41 2 (.slice A n c) n (sR lblC L)
  bel : Below w.heap.size w wr
  hb : w.heap.size < b
  hp : b < p
  size : p < wr.heap.size
theorem raAt_gr {w wr w2 : World} {b p : Nat} {l : List UInt8} {bad : Bool} {k : Int} {A : Option Addr} {n c : Nat} {L : List Lb} {t : List UInt8} {x y z : Int} (h : RaAt w wr b p l bad k A n c L t x y z) (g : Gr wr w2) : RaAt w w2 b p l bad k A n c L t x y z :=
  ⟨gr_blk g h.res (by simp), Rq.rdr_gr h.rdr g, gr_blk g h.out (by simp), h.own.kept g (Classical.em _), below_gr h.bel g h.bel.size (by simp), h.hb, h.hp, Nat.lt_of_lt_of_le h.size g.size⟩
theorem raAt_rd {w wr w2 : World} {b p : Nat} {l l2 : List UInt8} {bad bad2 : Bool} {k : Int} {A : Option Addr} {n c : Nat} {L : List Lb} {t : List UInt8} {x y z : Int} (h : RaAt w wr b p l bad k A n c L t x y z) (hr : Rq.Rdr w2 b l2 bad2) (g : GrB b wr w2) : RaAt w w2 b p l2 bad2 k A n c L t x y z :=
  ⟨gr_blk g h.res (by have := h.hb; simp; omega), hr, gr_blk g h.out (by have := h.hp; simp; omega), own_far h.own h.rdr (by decide) g, below_gr h.bel g h.bel.size (by intro j hj; cases hj; have := h.hb; omega), h.hb, h.hp, Nat.lt_of_lt_of_le h.size g.size⟩
theorem raAt_set {w wr : World} {b p : Nat} {l : List UInt8} {bad : Bool} {k : Int} {A : Option Addr} {n c : Nat} {L : List Lb} {t : List UInt8} {x y z : Int} (h : RaAt w wr b p l bad k A n c L t x y z) (j : Nat) (v : Value) {k2 : Int} {t2 : List UInt8} {x2 y2 z2 : Int} (ho : AqB (wr.setCell ⟨p, j, none⟩ v) p k2 A n c t2 x2 y2 z2) : RaAt w (wr.setCell ⟨p, j, none⟩ v) b p l bad k2 A n c L t2 x2 y2 z2 := by
  have g := gr_set wr ⟨p, j, none⟩ v
  have h1 := h.hb
  have h2 := h.hp
  exact ⟨gr_blk g h.res (by simp; omega), gr_blk g h.rdr (by simp; omega), ho, own_far h.own h.out (by decide) g, below_gr h.bel g h.bel.size (by intro j hj; cases hj; simp; omega), h1, h2, Nat.lt_of_lt_of_le h.size g.size⟩
theorem aqb_set2 {w : World} {b : Nat} {k : Int} {A : Option Addr} {n c : Nat} {t : List UInt8} {x y z : Int} (h : AqB w b k A n c t x y z) (u : List UInt8) : AqB (w.setCell ⟨b, 2, none⟩ (.string (txt u))) b k A n c u x y z := blk_set h 2 _
theorem aqb_set3 {w : World} {b : Nat} {k : Int} {A : Option Addr} {n c : Nat} {t : List UInt8} {x y z : Int} (h : AqB w b k A n c t x y z) (u : Int) : AqB (w.setCell ⟨b, 3, none⟩ (.int .i64 u)) b k A n c t u y z := blk_set h 3 _
theorem aqb_set4 {w : World} {b : Nat} {k : Int} {A : Option Addr} {n c : Nat} {t : List UInt8} {x y z : Int} (h : AqB w b k A n c t x y z) (u : Int) : AqB (w.setCell ⟨b, 4, none⟩ (.int .i64 u)) b k A n c t x u z := blk_set h 4 _
theorem aqb_set5 {w : World} {b : Nat} {k : Int} {A : Option Addr} {n c : Nat} {t : List UInt8} {x y z : Int} (h : AqB w b k A n c t x y z) (u : Int) : AqB (w.setCell ⟨b, 5, none⟩ (.int .i64 u)) b k A n c t x y u := blk_set h 5 _
theorem raAt_lab {w wr : World} {b p : Nat} {l : List UInt8} {bad : Bool} {k : Int} {t : List UInt8} {x y z v : Int} (h : RaAt w wr b p l bad k none 0 0 [] t x y z) {A : Option Addr} {c : Nat} {L : List Lb} (ho : wr.ownsRow w.heap.size 41 2 (.slice A L.length c) L.length (sR lblC L)) : RaAt w ((wr.setCell ⟨p, 1, none⟩ (.slice A L.length c)).setCell ⟨p, 4, none⟩ (.int .i64 v)) b p l bad k A L.length c L t x v z := by
  have g : GrB p wr ((wr.setCell ⟨p, 1, none⟩ (.slice A L.length c)).setCell ⟨p, 4, none⟩ (.int .i64 v)) := gr_trans (gr_set wr ⟨p, 1, none⟩ _) (gr_set _ ⟨p, 4, none⟩ _)
  have h1 := h.hb
  have h2 := h.hp
  exact ⟨gr_blk g h.res (by simp; omega), gr_blk g h.rdr (by simp; omega), blk_set (blk_set h.out 1 _) 4 _, own_far ho h.out (by decide) g, below_gr h.bel g h.bel.size (by intro j hj; cases hj; omega), h1, h2, Nat.lt_of_lt_of_le h.size g.size⟩
def ReadPost (b : List UInt8) (w : World) (e : Ending) (w' : World) : Prop :=
  ((IsAskL b ∧ ∃ A c, e = .returned (.tuple #[aqV A (readA b).1.l.length c (readA b).1, .int .i64 0]) ∧ w'.ownsRow w.heap.size 41 2 (.slice A (readA b).1.l.length c) (readA b).1.l.length (sR lblC (readA b).1.l)) ∨
    (¬ IsAskL b ∧ e = .returned (.tuple #[.agg #[.int .i64 0, .slice none 0 0, .string ⟨#[]⟩, .int .i64 0, .int .i64 0, .int .i64 0], .int .i64 2]))) ∧ Gr w w'
theorem rwS_small (s : List UInt8 × Bool) : SmallL (rwS s).1.l ∧ (-9223372036854775808 ≤ (rwS s).1.v ∧ (rwS s).1.v ≤ 9223372036854775807) ∧ (rwS s).2.1.length ≤ s.1.length := by
  unfold rwS
  by_cases h : s.2 = true
  · rw [if_pos h]; exact ⟨⟨by simp, by simp⟩, by simp, Nat.le_refl _⟩
  · rw [if_neg h]
    cases hg : getR s.1 with
    | none => exact ⟨⟨by simp, by simp⟩, by simp, Nat.le_refl _⟩
    | some p =>
      obtain ⟨r, t⟩ := p
      obtain ⟨h1, h2, h3⟩ := getR_some hg
      have h4 := h2.2
      unfold okV at h4
      refine ⟨h3, by simp only; omega, ?_⟩
      have h5 := congrArg List.length h1
      rw [List.length_append] at h5
      simp only
      omega
theorem small_short {l : List Lb} (h : SmallL l) : ShortL l := fun x hx => by have := h.2 x hx; omega
theorem open_len (b : List UInt8) : (openS b).1.length ≤ b.length := by
  unfold openS Crc.take
  simp only
  split
  · exact Nat.zero_le _
  · split
    · exact Nat.zero_le _
    · split
      · exact Nat.zero_le _
      · split
        · exact Nat.zero_le _
        · split
          · exact Nat.zero_le _
          · simp only [List.length_take, List.length_drop]; omega
set_option maxHeartbeats 32000000 in
set_option maxRecDepth 100000 in
theorem readAsk_any (b : List UInt8) (w : World) (hb : b.length ≤ 100000) : Calls Try.prog 13 #[.string (txt b)] w (ReadPost b w) := by
  have hR : readA b = parseA (openS b) := rfl
  have hol : (openS b).1.length ≤ b.length := open_len b
  have hop := fun W => opened_any b W (by omega)
  unfold OpenPost at hop
  rcases hs0 : openS b with ⟨l0, bad0⟩
  rw [hs0] at hR hol hop
  simp only at hol hop
  rcases h1 : tkS 1 (l0, bad0) with ⟨x1, l1, bad1⟩
  have hn1 := Rq.tkS_len 1 (l0, bad0)
  rw [h1] at hn1
  simp only at hn1
  have hv1 := dvN_lt x1
  have hv1b : dvN x1 < 256 := Nat.lt_of_lt_of_le hv1 (Nat.pow_le_pow_right (by decide) hn1.1 (n := 256))
  obtain ⟨K, hK⟩ : ∃ K, K = dvN x1 := ⟨_, rfl⟩
  obtain ⟨W1, hW1⟩ : ∃ W1, W1 = w.alloc (.cells #[.int .i64 0, .slice none 0 0, .string ⟨#[]⟩, .int .i64 0, .int .i64 0, .int .i64 0] 24) := ⟨_, rfl⟩
  have g1 : Gr w W1 := by rw [hW1]; exact gr_alloc _ _ _
  have hres : AqB W1 w.heap.size 0 none 0 0 [] 0 0 0 := by rw [hW1]; exact blk_new w _
  have hs1 : W1.heap.size = w.heap.size + 1 := by rw [hW1]; simp
  replace hop := Lib.hid hop
  replace hR := Lib.hid hR
  replace h1 := Lib.hid h1
  replace hK := Lib.hid hK
  replace hres := Lib.hid hres
  replace g1 := Lib.hid g1
  replace hs1 := Lib.hid hs1
  replace hs0 := Lib.hid hs0
  clear hv1
  go_enter Try.func13, Try.ntmps13
  go_upto_region 1 with fail
  rw [← hW1]
  clear hW1
  go_wp2_with fail
  refine (hop.out _).mono ?_
  rintro e W2 ⟨bb, rfl, hbb, hrd2, g2⟩
  have hnum := Rq.num_any bb 1 l0 bad0 W2 hrd2 (by decide) (by omega)
  rw [h1.out] at hnum
  simp only at hnum
  rw [← hK.out] at hnum
  have hres2 : AqB W2 w.heap.size 0 none 0 0 [] 0 0 0 := gr_blk g2 hres.out (by simp)
  have G2 := gr_trans g1.out g2
  replace hnum := Lib.hid hnum
  clear hop hrd2 g2 hres
  go_wp2_with fail
  refine hnum.out.mono ?_
  rintro e W3 ⟨rfl, hrd3, g3⟩
  obtain ⟨W4, hW4⟩ : ∃ W4, W4 = W3.alloc (.cells #[.int .i64 (K : Int), .slice none 0 0, .string ⟨#[]⟩, .int .i64 0, .int .i64 0, .int .i64 0] 24) := ⟨_, rfl⟩
  have g4 : Gr W3 W4 := by rw [hW4]; exact gr_alloc _ _ _
  have st4 : RaAt w W4 bb W3.heap.size l1 bad1 (K : Int) none 0 0 [] [] 0 0 0 := by
    have hs := hs1.out
    refine ⟨gr_blk g4 (gr_blk g3 hres2 (by simp; omega)) (by simp), Rq.rdr_gr hrd3 g4, ?_, World.ownsRow_nil _ _ _ _, ?_, by omega, lt_of_blk hrd3, by rw [hW4]; simp⟩
    · rw [hW4]; exact blk_new W3 _
    · have b2 := gr_below G2
      have b3 := below_gr b2 g3 b2.size (by intro k hk; cases hk; omega)
      exact below_gr b3 g4 b3.size (by simp)
  obtain ⟨p, hpp⟩ : ∃ p, p = W3.heap.size := ⟨_, rfl⟩
  rw [← hpp] at st4
  replace hpp := Lib.hid hpp
  obtain ⟨q0, q1, q2, q3, q4, q5⟩ := aqb_cells st4.out
  replace st4 := Lib.hid st4
  clear hnum hrd3 g3 g4 hres2 G2 g1 hs1
  go_upto_region 3 with fail
  rw [← hW4, ← hpp.out]
  clear hW4 hpp
  by_cases cK : K = 1
  · have hk1 : ((K : Int) == 1) = true := eqT (by omega)
    rcases h2 : rwS (l1, bad1) with ⟨⟨L, B⟩, l2, bad2⟩
    obtain ⟨hsm, hB64, hl2⟩ := rwS_small (l1, bad1)
    have hrow := rrow_any bb l1 bad1 W4 st4.out.rdr (by omega)
    unfold RwPost at hrow
    rw [h2] at hsm hB64 hrow hl2
    simp only at hsm hB64 hrow hl2
    have hmid : midS K (l1, bad1) = (L, B, (l2, bad2)) := by unfold midS; rw [if_pos cK, h2]
    replace hrow := Lib.hid hrow
    replace hmid := Lib.hid hmid
    replace h2 := Lib.hid h2
    replace hsm := Lib.hid hsm
    replace cK := Lib.hid cK
    clear q1 q2 q3 q4 q5
    go_wp2_with fail
    refine hrow.out.mono ?_
    rintro e W5 ⟨A, c, rfl, hrd5, hown5, g5⟩
    have st5 := raAt_rd st4.out hrd5 g5
    have hbase := st4.out.bel.size
    obtain ⟨W6, hW6⟩ : ∃ W6, W6 = W5.alloc (.cells #[.slice A L.length c, .int .i64 B] 51) := ⟨_, rfl⟩
    have g6 : Gr W5 W6 := by rw [hW6]; exact gr_alloc _ _ _
    have hx6 : RwB W6 W5.heap.size A L.length c B := by rw [hW6]; exact blk_new W5 _
    obtain ⟨x0, x1', _, _⟩ := rwb_cells hx6
    have hpw : p < W5.heap.size := st5.size
    have hpn : ¬ p = W5.heap.size := by omega
    have st6 := raAt_gr st5 g6
    have hown6 := (own_mono hown5 hbase).kept g6 (Classical.em _)
    have st7 := raAt_gr (raAt_lab (v := B) st6 hown6) (gr_drew _ none)
    obtain ⟨q0, q1, q2, q3, q4, q5⟩ := aqb_cells st6.out
    have f1 := aqb_free st6.out 1
    have f4 := aqb_free st6.out 4
    obtain ⟨W7, hW7⟩ : ∃ W7, W7 = ((W6.setCell ⟨p, 1, none⟩ (.slice A L.length c)).setCell ⟨p, 4, none⟩ (.int .i64 B)).drew := ⟨_, rfl⟩
    rw [← hW7] at st7
    replace st7 := Lib.hid st7
    clear hrow hrd5 hown5 g5 st5 st4 hx6 g6 st6 hown6
    go_upto_region 5 with fail
    rw [← hW6]
    clear hW6
    go_region
    rw [← hW7]
    clear hW7 x0 x1' f1 f4 q0 q1 q2 q3 q4 q5
    obtain ⟨n, hn⟩ : ∃ n, n = L.length := ⟨_, rfl⟩
    rw [← hn] at st7 ⊢
    replace hn := Lib.hid hn
    rcases h3 : tkS 4 (l2, bad2) with ⟨x3, l3, bad3⟩
    have hn3 := Rq.tkS_len 4 (l2, bad2)
    rw [h3] at hn3
    simp only at hn3
    have hv3 := Nat.lt_of_lt_of_le (dvN_lt x3) (Nat.pow_le_pow_right (by decide) hn3.1 (n := 256))
    have hnum := Rq.num_any bb 4 l2 bad2 W7 st7.out.rdr (by decide) (by omega)
    rw [h3] at hnum
    simp only at hnum
    obtain ⟨a, ha⟩ : ∃ a, a = dvN x3 := ⟨_, rfl⟩
    rw [← ha] at hnum hv3
    replace hnum := Lib.hid hnum
    replace h3 := Lib.hid h3
    replace ha := Lib.hid ha
    have hl3 := hn3.2
    clear hn3
    go_wp2_with fail
    refine hnum.out.mono ?_
    rintro e W8 ⟨rfl, hrd, g⟩
    have stx := raAt_rd st7.out hrd g
    obtain ⟨q0, q1, q2, q3, q4, q5⟩ := aqb_cells stx.out
    have fx := aqb_free stx.out 3
    have st9 := raAt_set stx 3 (.int .i64 (a : Int)) (aqb_set3 stx.out (a : Int))
    obtain ⟨W9, hW9⟩ : ∃ W9, W9 = W8.setCell ⟨p, 3, none⟩ (.int .i64 (a : Int)) := ⟨_, rfl⟩
    rw [← hW9] at st9
    replace st9 := Lib.hid st9
    clear hnum hrd g stx st7
    go_upto_region 8 with fail
    rw [← hW9]
    clear hW9 fx q0 q1 q2 q3 q4 q5
    rcases h4 : tkS 4 (l3, bad3) with ⟨x4, l4, bad4⟩
    have hn4 := Rq.tkS_len 4 (l3, bad3)
    rw [h4] at hn4
    simp only at hn4
    have hv4 := Nat.lt_of_lt_of_le (dvN_lt x4) (Nat.pow_le_pow_right (by decide) hn4.1 (n := 256))
    have hnum := Rq.num_any bb 4 l3 bad3 W9 st9.out.rdr (by decide) (by omega)
    rw [h4] at hnum
    simp only at hnum
    obtain ⟨d, hd⟩ : ∃ d, d = dvN x4 := ⟨_, rfl⟩
    rw [← hd] at hnum hv4
    replace hnum := Lib.hid hnum
    replace h4 := Lib.hid h4
    replace hd := Lib.hid hd
    have hl4 := hn4.2
    clear hn4
    go_wp2_with fail
    refine hnum.out.mono ?_
    rintro e W10 ⟨rfl, hrd, g⟩
    have stx := raAt_rd st9.out hrd g
    obtain ⟨q0, q1, q2, q3, q4, q5⟩ := aqb_cells stx.out
    have fx := aqb_free stx.out 5
    have st11 := raAt_set stx 5 (.int .i64 (d : Int)) (aqb_set5 stx.out (d : Int))
    obtain ⟨W11, hW11⟩ : ∃ W11, W11 = W10.setCell ⟨p, 5, none⟩ (.int .i64 (d : Int)) := ⟨_, rfl⟩
    rw [← hW11] at st11
    replace st11 := Lib.hid st11
    clear hnum hrd g stx st9
    go_upto_region 9 with fail
    rw [← hW11]
    clear hW11 fx q0 q1 q2 q3 q4 q5
    rcases h5 : tkS l4.length (l4, bad4) with ⟨t, l5, bad5⟩
    have hn5 := Rq.tkS_len l4.length (l4, bad4)
    rw [h5] at hn5
    simp only at hn5
    have htk := Rq.rest_any bb l4 bad4 W11 st11.out.rdr (by omega)
    rw [h5] at htk
    simp only at htk
    obtain ⟨c0, c1, _, _⟩ := Rq.rdr_cells st11.out.rdr
    replace htk := Lib.hid htk
    replace h5 := Lib.hid h5
    have hlt := hn5.1
    clear hn5
    go_wp2_with fail
    refine htk.out.mono ?_
    rintro e W12 ⟨rfl, hrd, g⟩
    have stx := raAt_rd st11.out hrd g
    obtain ⟨q0, q1, q2, q3, q4, q5⟩ := aqb_cells stx.out
    have fx := aqb_free stx.out 2
    have st13 := raAt_set stx 2 (.string (txt t)) (aqb_set2 stx.out t)
    obtain ⟨W13, hW13⟩ : ∃ W13, W13 = W12.setCell ⟨p, 2, none⟩ (.string (txt t)) := ⟨_, rfl⟩
    rw [← hW13] at st13
    have hRd : readA b = (⟨(K : Int), L, t, (a : Int), B, (d : Int)⟩, bad5) := by
      rw [hR.out]
      unfold parseA
      rw [h1.out]
      simp only
      rw [← hK.out, hmid.out]
      simp only
      rw [h3.out]
      simp only
      rw [h4.out]
      simp only
      rw [h5.out, ← ha.out, ← hd.out]
    have hAq : AqOk W13 A n c ⟨(K : Int), L, t, (a : Int), B, (d : Int)⟩ := ⟨hn.out.symm, by have := hsm.out.1; have := hn.out; omega, by simp only; omega, own_nilA st13.own, row_own st13.own, small_short hsm.out, hB64⟩
    have hask := ask_any A n c ⟨(K : Int), L, t, (a : Int), B, (d : Int)⟩ W13 hAq
    have hisA : IsAskL b ↔ (bad5 = false ∧ okA ⟨(K : Int), L, t, (a : Int), B, (d : Int)⟩ ∧ askL ⟨(K : Int), L, t, (a : Int), B, (d : Int)⟩ = b) := by unfold IsAskL; rw [hRd]
    unfold AskPost aqV at hask
    simp only at hask
    generalize hQ : (⟨(K : Int), L, t, (a : Int), B, (d : Int)⟩ : Aq) = q at *
    replace hQ := Lib.hid hQ
    replace st13 := Lib.hid st13
    replace hask := Lib.hid hask
    replace hisA := Lib.hid hisA
    replace hRd := Lib.hid hRd
    clear htk hrd g stx st11 c0 c1 hAq hR h1 h3 h4 h5 hK hmid ha hd hB64 hsm
    go_upto_region 10 with fail
    rw [← hW13]
    clear hW13 fx q0 q1 q2 q3 q4 q5
    obtain ⟨q0, q1, q2, q3, q4, q5⟩ := aqb_cells st13.out.out
    by_cases ok : okA q
    · have hask2 := hask.out
      rw [if_pos ok] at hask2
      replace hask2 := Lib.hid hask2
      clear hask
      go_wp2_with fail
      refine hask2.out.mono ?_
      rintro e W14 ⟨rfl, g14⟩
      have st14 := raAt_gr st13.out g14
      clear q0 q1 q2 q3 q4 q5 g14 hask2 st13
      obtain ⟨q0, q1, q2, q3, q4, q5⟩ := aqb_cells st14.out
      obtain ⟨c0, c1, _, _⟩ := Rq.rdr_cells st14.rdr
      replace st14 := Lib.hid st14
      cases bad5 with
      | true =>
        have hno : Hid (¬ IsAskL b) := fun k => by have := (hisA.out.1 k).1; cases this
        clear q0 q1 q2 q3 q4 q5
        have hth := aqb_there st14.out.res
        have hsame := World.rangeAt_setCells_same W14 w.heap.size 0 [.int .i64 0, .slice none 0 0, .string ⟨#[]⟩, .int .i64 0, .int .i64 0, .int .i64 0] hth
        have r0 := hsame 0 _ rfl
        have r1 := hsame 1 _ rfl
        have r2 := hsame 2 _ rfl
        have r3 := hsame 3 _ rfl
        have r4 := hsame 4 _ rfl
        have r5 := hsame 5 _ rfl
        simp only [Nat.zero_add] at r0 r1 r2 r3 r4 r5
        have hgs := gr_setCells W14 w.heap.size 0 [.int .i64 0, .slice none 0 0, .string ⟨#[]⟩, .int .i64 0, .int .i64 0, .int .i64 0]
        have hgf : Gr w (W14.setCells w.heap.size 0 [.int .i64 0, .slice none 0 0, .string ⟨#[]⟩, .int .i64 0, .int .i64 0, .int .i64 0]) := gr_of_below (below_gr st14.out.bel hgs st14.out.bel.size (by intro k hk; cases hk; exact Nat.le_refl _)) (Nat.le_refl _)
        replace hgf := Lib.hid hgf
        clear hsame hgs
        go_wp2_with (refine wpList_store_mid (op := ⟨none, _, _, _, _, _⟩) rfl 24 _ _ rfl w.heap.size 0 #[.int .i64 0, .slice none 0 0, .string ⟨#[]⟩, .int .i64 0, .int .i64 0, .int .i64 0] rfl rfl hth infoAq (by simp [Value.oneCell']) ?_)
        (try simp only [Exit.inBlock, Exit.then])
        refine bodyPost_ret (by simp [results, Try.results13, go_sem, r0, r1, r2, r3, r4, r5]; try rfl) rfl ?_
        exact ⟨.inr ⟨hno.out, rfl⟩, hgf.out⟩
      | false =>
        by_cases hq : askL q = b
        · have hqb : (askL q == b) = true := by rw [hq]; exact beq_self_eq_true b
          have hyes : Hid (IsAskL b) := hisA.out.2 ⟨rfl, ok, hq⟩
          clear hq
          have hth := aqb_there st14.out.res
          have hsame := World.rangeAt_setCells_same W14 w.heap.size 0 [.int .i64 (K : Int), .slice A n c, .string (txt t), .int .i64 (a : Int), .int .i64 B, .int .i64 (d : Int)] hth
          have r0 := hsame 0 _ rfl
          have r1 := hsame 1 _ rfl
          have r2 := hsame 2 _ rfl
          have r3 := hsame 3 _ rfl
          have r4 := hsame 4 _ rfl
          have r5 := hsame 5 _ rfl
          simp only [Nat.zero_add] at r0 r1 r2 r3 r4 r5
          have hgs := gr_setCells W14 w.heap.size 0 [.int .i64 (K : Int), .slice A n c, .string (txt t), .int .i64 (a : Int), .int .i64 B, .int .i64 (d : Int)]
          have hgf : Gr w (W14.setCells w.heap.size 0 [.int .i64 (K : Int), .slice A n c, .string (txt t), .int .i64 (a : Int), .int .i64 B, .int .i64 (d : Int)]) := gr_of_below (below_gr st14.out.bel hgs st14.out.bel.size (by intro k hk; cases hk; exact Nat.le_refl _)) (Nat.le_refl _)
          have hof := own_far st14.out.own st14.out.res (by decide) hgs
          replace hof := Lib.hid hof
          replace hgf := Lib.hid hgf
          clear hsame hgs
          go_wp2_with (refine wpList_store_mid (op := ⟨none, _, _, _, _, _⟩) rfl 24 _ _ rfl w.heap.size 0 #[.int .i64 (K : Int), .slice A n c, .string (txt t), .int .i64 (a : Int), .int .i64 B, .int .i64 (d : Int)] rfl rfl hth infoAq (by simp [Value.oneCell']) ?_)
          (try simp only [Exit.inBlock, Exit.then])
          refine bodyPost_ret (by simp [results, Try.results13, go_sem, r0, r1, r2, r3, r4, r5]; try rfl) rfl ?_
          unfold ReadPost
          rw [hRd.out, ← hQ.out]
          simp only
          rw [← hn.out]
          exact ⟨.inl ⟨hyes.out, A, c, rfl, hof.out⟩, hgf.out⟩
        · have hqb : (askL q == b) = false := beq_eq_false_iff_ne.2 hq
          have hno : Hid (¬ IsAskL b) := fun k => hq (hisA.out.1 k).2.2
          clear hq q0 q1 q2 q3 q4 q5
          have hth := aqb_there st14.out.res
          have hsame := World.rangeAt_setCells_same W14 w.heap.size 0 [.int .i64 0, .slice none 0 0, .string ⟨#[]⟩, .int .i64 0, .int .i64 0, .int .i64 0] hth
          have r0 := hsame 0 _ rfl
          have r1 := hsame 1 _ rfl
          have r2 := hsame 2 _ rfl
          have r3 := hsame 3 _ rfl
          have r4 := hsame 4 _ rfl
          have r5 := hsame 5 _ rfl
          simp only [Nat.zero_add] at r0 r1 r2 r3 r4 r5
          have hgs := gr_setCells W14 w.heap.size 0 [.int .i64 0, .slice none 0 0, .string ⟨#[]⟩, .int .i64 0, .int .i64 0, .int .i64 0]
          have hgf : Gr w (W14.setCells w.heap.size 0 [.int .i64 0, .slice none 0 0, .string ⟨#[]⟩, .int .i64 0, .int .i64 0, .int .i64 0]) := gr_of_below (below_gr st14.out.bel hgs st14.out.bel.size (by intro k hk; cases hk; exact Nat.le_refl _)) (Nat.le_refl _)
          replace hgf := Lib.hid hgf
          clear hsame hgs
          go_wp2_with (refine wpList_store_mid (op := ⟨none, _, _, _, _, _⟩) rfl 24 _ _ rfl w.heap.size 0 #[.int .i64 0, .slice none 0 0, .string ⟨#[]⟩, .int .i64 0, .int .i64 0, .int .i64 0] rfl rfl hth infoAq (by simp [Value.oneCell']) ?_)
          (try simp only [Exit.inBlock, Exit.then])
          refine bodyPost_ret (by simp [results, Try.results13, go_sem, r0, r1, r2, r3, r4, r5]; try rfl) rfl ?_
          exact ⟨.inr ⟨hno.out, rfl⟩, hgf.out⟩
    · have hask2 := hask.out
      rw [if_neg ok] at hask2
      replace hask2 := Lib.hid hask2
      have hno : Hid (¬ IsAskL b) := fun k => ok (hisA.out.1 k).2.1
      clear hask
      go_wp2_with fail
      refine hask2.out.mono ?_
      rintro e W14 ⟨rfl, g14⟩
      have st14 := raAt_gr st13.out g14
      clear q0 q1 q2 q3 q4 q5 g14 hask2 st13
      obtain ⟨c0, c1, _, _⟩ := Rq.rdr_cells st14.rdr
      replace st14 := Lib.hid st14
      cases bad5 with
      | true =>
        have hth := aqb_there st14.out.res
        have hsame := World.rangeAt_setCells_same W14 w.heap.size 0 [.int .i64 0, .slice none 0 0, .string ⟨#[]⟩, .int .i64 0, .int .i64 0, .int .i64 0] hth
        have r0 := hsame 0 _ rfl
        have r1 := hsame 1 _ rfl
        have r2 := hsame 2 _ rfl
        have r3 := hsame 3 _ rfl
        have r4 := hsame 4 _ rfl
        have r5 := hsame 5 _ rfl
        simp only [Nat.zero_add] at r0 r1 r2 r3 r4 r5
        have hgs := gr_setCells W14 w.heap.size 0 [.int .i64 0, .slice none 0 0, .string ⟨#[]⟩, .int .i64 0, .int .i64 0, .int .i64 0]
        have hgf : Gr w (W14.setCells w.heap.size 0 [.int .i64 0, .slice none 0 0, .string ⟨#[]⟩, .int .i64 0, .int .i64 0, .int .i64 0]) := gr_of_below (below_gr st14.out.bel hgs st14.out.bel.size (by intro k hk; cases hk; exact Nat.le_refl _)) (Nat.le_refl _)
        replace hgf := Lib.hid hgf
        clear hsame hgs
        go_wp2_with (refine wpList_store_mid (op := ⟨none, _, _, _, _, _⟩) rfl 24 _ _ rfl w.heap.size 0 #[.int .i64 0, .slice none 0 0, .string ⟨#[]⟩, .int .i64 0, .int .i64 0, .int .i64 0] rfl rfl hth infoAq (by simp [Value.oneCell']) ?_)
        (try simp only [Exit.inBlock, Exit.then])
        refine bodyPost_ret (by simp [results, Try.results13, go_sem, r0, r1, r2, r3, r4, r5]; try rfl) rfl ?_
        exact ⟨.inr ⟨hno.out, rfl⟩, hgf.out⟩
      | false =>
        have hth := aqb_there st14.out.res
        have hsame := World.rangeAt_setCells_same W14 w.heap.size 0 [.int .i64 0, .slice none 0 0, .string ⟨#[]⟩, .int .i64 0, .int .i64 0, .int .i64 0] hth
        have r0 := hsame 0 _ rfl
        have r1 := hsame 1 _ rfl
        have r2 := hsame 2 _ rfl
        have r3 := hsame 3 _ rfl
        have r4 := hsame 4 _ rfl
        have r5 := hsame 5 _ rfl
        simp only [Nat.zero_add] at r0 r1 r2 r3 r4 r5
        have hgs := gr_setCells W14 w.heap.size 0 [.int .i64 0, .slice none 0 0, .string ⟨#[]⟩, .int .i64 0, .int .i64 0, .int .i64 0]
        have hgf : Gr w (W14.setCells w.heap.size 0 [.int .i64 0, .slice none 0 0, .string ⟨#[]⟩, .int .i64 0, .int .i64 0, .int .i64 0]) := gr_of_below (below_gr st14.out.bel hgs st14.out.bel.size (by intro k hk; cases hk; exact Nat.le_refl _)) (Nat.le_refl _)
        replace hgf := Lib.hid hgf
        clear hsame hgs
        go_wp2_with (refine wpList_store_mid (op := ⟨none, _, _, _, _, _⟩) rfl 24 _ _ rfl w.heap.size 0 #[.int .i64 0, .slice none 0 0, .string ⟨#[]⟩, .int .i64 0, .int .i64 0, .int .i64 0] rfl rfl hth infoAq (by simp [Value.oneCell']) ?_)
        (try simp only [Exit.inBlock, Exit.then])
        refine bodyPost_ret (by simp [results, Try.results13, go_sem, r0, r1, r2, r3, r4, r5]; try rfl) rfl ?_
        exact ⟨.inr ⟨hno.out, rfl⟩, hgf.out⟩
  · have hk1 : ((K : Int) == 1) = false := eqF (by omega)
    rcases h2 : tkS 4 (l1, bad1) with ⟨x2, l2, bad2⟩
    have hn2 := Rq.tkS_len 4 (l1, bad1)
    rw [h2] at hn2
    simp only at hn2
    have hv2 := Nat.lt_of_lt_of_le (dvN_lt x2) (Nat.pow_le_pow_right (by decide) hn2.1 (n := 256))
    have hl2 := hn2.2
    have hnum := Rq.num_any bb 4 l1 bad1 W4 st4.out.rdr (by decide) (by omega)
    rw [h2] at hnum
    simp only at hnum
    obtain ⟨Bn, hBn⟩ : ∃ Bn, Bn = dvN x2 := ⟨_, rfl⟩
    have hmid : midS K (l1, bad1) = ([], (Bn : Int), (l2, bad2)) := by unfold midS; rw [if_neg cK, h2, hBn]
    rw [← hBn] at hnum hv2
    obtain ⟨B, hB⟩ : ∃ B : Int, B = (Bn : Int) := ⟨_, rfl⟩
    rw [← hB] at hmid hnum
    have hB64 : -9223372036854775808 ≤ B ∧ B ≤ 9223372036854775807 := by omega
    replace hnum := Lib.hid hnum
    replace hmid := Lib.hid hmid
    replace cK := Lib.hid cK
    clear h2 hBn hv2 hn2 hB q1 q2 q3 q4 q5
    go_wp2_with fail
    refine hnum.out.mono ?_
    rintro e W5 ⟨rfl, hrd5, g5⟩
    have st5 := raAt_rd st4.out hrd5 g5
    obtain ⟨q0, q1, q2, q3, q4, q5⟩ := aqb_cells st5.out
    have f4 := aqb_free st5.out 4
    have st7 := raAt_set st5 4 (.int .i64 B) (aqb_set4 st5.out B)
    obtain ⟨W7, hW7⟩ : ∃ W7, W7 = W5.setCell ⟨p, 4, none⟩ (.int .i64 B) := ⟨_, rfl⟩
    rw [← hW7] at st7
    replace st7 := Lib.hid st7
    clear hnum hrd5 g5 st5 st4
    go_upto_region 7 with fail
    rw [← hW7]
    clear hW7 f4 q0 q1 q2 q3 q4 q5
    obtain ⟨L, hL⟩ : ∃ L : List Lb, L = [] := ⟨_, rfl⟩
    rw [← hL] at st7 hmid
    have hsm : SmallL L := by rw [hL]; exact ⟨by decide, by simp⟩
    obtain ⟨n, hn0⟩ : ∃ n, n = 0 := ⟨_, rfl⟩
    obtain ⟨A, hA0⟩ : ∃ A : Option Addr, A = none := ⟨_, rfl⟩
    obtain ⟨c, hc0⟩ : ∃ c : Nat, c = 0 := ⟨_, rfl⟩
    have st7' : RaAt w W7 bb p l2 bad2 (K : Int) A n c L [] 0 B 0 := by rw [hA0, hn0, hc0]; exact st7.out
    clear st7
    have st7 := Lib.hid st7'
    have hn : Hid (n = L.length) := by rw [hn0, hL]; exact Lib.hid rfl
    replace hsm := Lib.hid hsm
    clear st7' hn0 hA0 hc0 hL
    rcases h3 : tkS 4 (l2, bad2) with ⟨x3, l3, bad3⟩
    have hn3 := Rq.tkS_len 4 (l2, bad2)
    rw [h3] at hn3
    simp only at hn3
    have hv3 := Nat.lt_of_lt_of_le (dvN_lt x3) (Nat.pow_le_pow_right (by decide) hn3.1 (n := 256))
    have hnum := Rq.num_any bb 4 l2 bad2 W7 st7.out.rdr (by decide) (by omega)
    rw [h3] at hnum
    simp only at hnum
    obtain ⟨a, ha⟩ : ∃ a, a = dvN x3 := ⟨_, rfl⟩
    rw [← ha] at hnum hv3
    replace hnum := Lib.hid hnum
    replace h3 := Lib.hid h3
    replace ha := Lib.hid ha
    have hl3 := hn3.2
    clear hn3
    go_wp2_with fail
    refine hnum.out.mono ?_
    rintro e W8 ⟨rfl, hrd, g⟩
    have stx := raAt_rd st7.out hrd g
    obtain ⟨q0, q1, q2, q3, q4, q5⟩ := aqb_cells stx.out
    have fx := aqb_free stx.out 3
    have st9 := raAt_set stx 3 (.int .i64 (a : Int)) (aqb_set3 stx.out (a : Int))
    obtain ⟨W9, hW9⟩ : ∃ W9, W9 = W8.setCell ⟨p, 3, none⟩ (.int .i64 (a : Int)) := ⟨_, rfl⟩
    rw [← hW9] at st9
    replace st9 := Lib.hid st9
    clear hnum hrd g stx st7
    go_upto_region 8 with fail
    rw [← hW9]
    clear hW9 fx q0 q1 q2 q3 q4 q5
    rcases h4 : tkS 4 (l3, bad3) with ⟨x4, l4, bad4⟩
    have hn4 := Rq.tkS_len 4 (l3, bad3)
    rw [h4] at hn4
    simp only at hn4
    have hv4 := Nat.lt_of_lt_of_le (dvN_lt x4) (Nat.pow_le_pow_right (by decide) hn4.1 (n := 256))
    have hnum := Rq.num_any bb 4 l3 bad3 W9 st9.out.rdr (by decide) (by omega)
    rw [h4] at hnum
    simp only at hnum
    obtain ⟨d, hd⟩ : ∃ d, d = dvN x4 := ⟨_, rfl⟩
    rw [← hd] at hnum hv4
    replace hnum := Lib.hid hnum
    replace h4 := Lib.hid h4
    replace hd := Lib.hid hd
    have hl4 := hn4.2
    clear hn4
    go_wp2_with fail
    refine hnum.out.mono ?_
    rintro e W10 ⟨rfl, hrd, g⟩
    have stx := raAt_rd st9.out hrd g
    obtain ⟨q0, q1, q2, q3, q4, q5⟩ := aqb_cells stx.out
    have fx := aqb_free stx.out 5
    have st11 := raAt_set stx 5 (.int .i64 (d : Int)) (aqb_set5 stx.out (d : Int))
    obtain ⟨W11, hW11⟩ : ∃ W11, W11 = W10.setCell ⟨p, 5, none⟩ (.int .i64 (d : Int)) := ⟨_, rfl⟩
    rw [← hW11] at st11
    replace st11 := Lib.hid st11
    clear hnum hrd g stx st9
    go_upto_region 9 with fail
    rw [← hW11]
    clear hW11 fx q0 q1 q2 q3 q4 q5
    rcases h5 : tkS l4.length (l4, bad4) with ⟨t, l5, bad5⟩
    have hn5 := Rq.tkS_len l4.length (l4, bad4)
    rw [h5] at hn5
    simp only at hn5
    have htk := Rq.rest_any bb l4 bad4 W11 st11.out.rdr (by omega)
    rw [h5] at htk
    simp only at htk
    obtain ⟨c0, c1, _, _⟩ := Rq.rdr_cells st11.out.rdr
    replace htk := Lib.hid htk
    replace h5 := Lib.hid h5
    have hlt := hn5.1
    clear hn5
    go_wp2_with fail
    refine htk.out.mono ?_
    rintro e W12 ⟨rfl, hrd, g⟩
    have stx := raAt_rd st11.out hrd g
    obtain ⟨q0, q1, q2, q3, q4, q5⟩ := aqb_cells stx.out
    have fx := aqb_free stx.out 2
    have st13 := raAt_set stx 2 (.string (txt t)) (aqb_set2 stx.out t)
    obtain ⟨W13, hW13⟩ : ∃ W13, W13 = W12.setCell ⟨p, 2, none⟩ (.string (txt t)) := ⟨_, rfl⟩
    rw [← hW13] at st13
    have hRd : readA b = (⟨(K : Int), L, t, (a : Int), B, (d : Int)⟩, bad5) := by
      rw [hR.out]
      unfold parseA
      rw [h1.out]
      simp only
      rw [← hK.out, hmid.out]
      simp only
      rw [h3.out]
      simp only
      rw [h4.out]
      simp only
      rw [h5.out, ← ha.out, ← hd.out]
    have hAq : AqOk W13 A n c ⟨(K : Int), L, t, (a : Int), B, (d : Int)⟩ := ⟨hn.out.symm, by have := hsm.out.1; have := hn.out; omega, by simp only; omega, own_nilA st13.own, row_own st13.own, small_short hsm.out, hB64⟩
    have hask := ask_any A n c ⟨(K : Int), L, t, (a : Int), B, (d : Int)⟩ W13 hAq
    have hisA : IsAskL b ↔ (bad5 = false ∧ okA ⟨(K : Int), L, t, (a : Int), B, (d : Int)⟩ ∧ askL ⟨(K : Int), L, t, (a : Int), B, (d : Int)⟩ = b) := by unfold IsAskL; rw [hRd]
    unfold AskPost aqV at hask
    simp only at hask
    generalize hQ : (⟨(K : Int), L, t, (a : Int), B, (d : Int)⟩ : Aq) = q at *
    replace hQ := Lib.hid hQ
    replace st13 := Lib.hid st13
    replace hask := Lib.hid hask
    replace hisA := Lib.hid hisA
    replace hRd := Lib.hid hRd
    clear htk hrd g stx st11 c0 c1 hAq hR h1 h3 h4 h5 hK hmid ha hd hB64 hsm
    go_upto_region 10 with fail
    rw [← hW13]
    clear hW13 fx q0 q1 q2 q3 q4 q5
    obtain ⟨q0, q1, q2, q3, q4, q5⟩ := aqb_cells st13.out.out
    by_cases ok : okA q
    · have hask2 := hask.out
      rw [if_pos ok] at hask2
      replace hask2 := Lib.hid hask2
      clear hask
      go_wp2_with fail
      refine hask2.out.mono ?_
      rintro e W14 ⟨rfl, g14⟩
      have st14 := raAt_gr st13.out g14
      clear q0 q1 q2 q3 q4 q5 g14 hask2 st13
      obtain ⟨q0, q1, q2, q3, q4, q5⟩ := aqb_cells st14.out
      obtain ⟨c0, c1, _, _⟩ := Rq.rdr_cells st14.rdr
      replace st14 := Lib.hid st14
      cases bad5 with
      | true =>
        have hno : Hid (¬ IsAskL b) := fun k => by have := (hisA.out.1 k).1; cases this
        clear q0 q1 q2 q3 q4 q5
        have hth := aqb_there st14.out.res
        have hsame := World.rangeAt_setCells_same W14 w.heap.size 0 [.int .i64 0, .slice none 0 0, .string ⟨#[]⟩, .int .i64 0, .int .i64 0, .int .i64 0] hth
        have r0 := hsame 0 _ rfl
        have r1 := hsame 1 _ rfl
        have r2 := hsame 2 _ rfl
        have r3 := hsame 3 _ rfl
        have r4 := hsame 4 _ rfl
        have r5 := hsame 5 _ rfl
        simp only [Nat.zero_add] at r0 r1 r2 r3 r4 r5
        have hgs := gr_setCells W14 w.heap.size 0 [.int .i64 0, .slice none 0 0, .string ⟨#[]⟩, .int .i64 0, .int .i64 0, .int .i64 0]
        have hgf : Gr w (W14.setCells w.heap.size 0 [.int .i64 0, .slice none 0 0, .string ⟨#[]⟩, .int .i64 0, .int .i64 0, .int .i64 0]) := gr_of_below (below_gr st14.out.bel hgs st14.out.bel.size (by intro k hk; cases hk; exact Nat.le_refl _)) (Nat.le_refl _)
        replace hgf := Lib.hid hgf
        clear hsame hgs
        go_wp2_with (refine wpList_store_mid (op := ⟨none, _, _, _, _, _⟩) rfl 24 _ _ rfl w.heap.size 0 #[.int .i64 0, .slice none 0 0, .string ⟨#[]⟩, .int .i64 0, .int .i64 0, .int .i64 0] rfl rfl hth infoAq (by simp [Value.oneCell']) ?_)
        (try simp only [Exit.inBlock, Exit.then])
        refine bodyPost_ret (by simp [results, Try.results13, go_sem, r0, r1, r2, r3, r4, r5]; try rfl) rfl ?_
        exact ⟨.inr ⟨hno.out, rfl⟩, hgf.out⟩
      | false =>
        by_cases hq : askL q = b
        · have hqb : (askL q == b) = true := by rw [hq]; exact beq_self_eq_true b
          have hyes : Hid (IsAskL b) := hisA.out.2 ⟨rfl, ok, hq⟩
          clear hq
          have hth := aqb_there st14.out.res
          have hsame := World.rangeAt_setCells_same W14 w.heap.size 0 [.int .i64 (K : Int), .slice A n c, .string (txt t), .int .i64 (a : Int), .int .i64 B, .int .i64 (d : Int)] hth
          have r0 := hsame 0 _ rfl
          have r1 := hsame 1 _ rfl
          have r2 := hsame 2 _ rfl
          have r3 := hsame 3 _ rfl
          have r4 := hsame 4 _ rfl
          have r5 := hsame 5 _ rfl
          simp only [Nat.zero_add] at r0 r1 r2 r3 r4 r5
          have hgs := gr_setCells W14 w.heap.size 0 [.int .i64 (K : Int), .slice A n c, .string (txt t), .int .i64 (a : Int), .int .i64 B, .int .i64 (d : Int)]
          have hgf : Gr w (W14.setCells w.heap.size 0 [.int .i64 (K : Int), .slice A n c, .string (txt t), .int .i64 (a : Int), .int .i64 B, .int .i64 (d : Int)]) := gr_of_below (below_gr st14.out.bel hgs st14.out.bel.size (by intro k hk; cases hk; exact Nat.le_refl _)) (Nat.le_refl _)
          have hof := own_far st14.out.own st14.out.res (by decide) hgs
          replace hof := Lib.hid hof
          replace hgf := Lib.hid hgf
          clear hsame hgs
          go_wp2_with (refine wpList_store_mid (op := ⟨none, _, _, _, _, _⟩) rfl 24 _ _ rfl w.heap.size 0 #[.int .i64 (K : Int), .slice A n c, .string (txt t), .int .i64 (a : Int), .int .i64 B, .int .i64 (d : Int)] rfl rfl hth infoAq (by simp [Value.oneCell']) ?_)
          (try simp only [Exit.inBlock, Exit.then])
          refine bodyPost_ret (by simp [results, Try.results13, go_sem, r0, r1, r2, r3, r4, r5]; try rfl) rfl ?_
          unfold ReadPost
          rw [hRd.out, ← hQ.out]
          simp only
          rw [← hn.out]
          exact ⟨.inl ⟨hyes.out, A, c, rfl, hof.out⟩, hgf.out⟩
        · have hqb : (askL q == b) = false := beq_eq_false_iff_ne.2 hq
          have hno : Hid (¬ IsAskL b) := fun k => hq (hisA.out.1 k).2.2
          clear hq q0 q1 q2 q3 q4 q5
          have hth := aqb_there st14.out.res
          have hsame := World.rangeAt_setCells_same W14 w.heap.size 0 [.int .i64 0, .slice none 0 0, .string ⟨#[]⟩, .int .i64 0, .int .i64 0, .int .i64 0] hth
          have r0 := hsame 0 _ rfl
          have r1 := hsame 1 _ rfl
          have r2 := hsame 2 _ rfl
          have r3 := hsame 3 _ rfl
          have r4 := hsame 4 _ rfl
          have r5 := hsame 5 _ rfl
          simp only [Nat.zero_add] at r0 r1 r2 r3 r4 r5
          have hgs := gr_setCells W14 w.heap.size 0 [.int .i64 0, .slice none 0 0, .string ⟨#[]⟩, .int .i64 0, .int .i64 0, .int .i64 0]
          have hgf : Gr w (W14.setCells w.heap.size 0 [.int .i64 0, .slice none 0 0, .string ⟨#[]⟩, .int .i64 0, .int .i64 0, .int .i64 0]) := gr_of_below (below_gr st14.out.bel hgs st14.out.bel.size (by intro k hk; cases hk; exact Nat.le_refl _)) (Nat.le_refl _)
          replace hgf := Lib.hid hgf
          clear hsame hgs
          go_wp2_with (refine wpList_store_mid (op := ⟨none, _, _, _, _, _⟩) rfl 24 _ _ rfl w.heap.size 0 #[.int .i64 0, .slice none 0 0, .string ⟨#[]⟩, .int .i64 0, .int .i64 0, .int .i64 0] rfl rfl hth infoAq (by simp [Value.oneCell']) ?_)
          (try simp only [Exit.inBlock, Exit.then])
          refine bodyPost_ret (by simp [results, Try.results13, go_sem, r0, r1, r2, r3, r4, r5]; try rfl) rfl ?_
          exact ⟨.inr ⟨hno.out, rfl⟩, hgf.out⟩
    · have hask2 := hask.out
      rw [if_neg ok] at hask2
      replace hask2 := Lib.hid hask2
      have hno : Hid (¬ IsAskL b) := fun k => ok (hisA.out.1 k).2.1
      clear hask
      go_wp2_with fail
      refine hask2.out.mono ?_
      rintro e W14 ⟨rfl, g14⟩
      have st14 := raAt_gr st13.out g14
      clear q0 q1 q2 q3 q4 q5 g14 hask2 st13
      obtain ⟨c0, c1, _, _⟩ := Rq.rdr_cells st14.rdr
      replace st14 := Lib.hid st14
      cases bad5 with
      | true =>
        have hth := aqb_there st14.out.res
        have hsame := World.rangeAt_setCells_same W14 w.heap.size 0 [.int .i64 0, .slice none 0 0, .string ⟨#[]⟩, .int .i64 0, .int .i64 0, .int .i64 0] hth
        have r0 := hsame 0 _ rfl
        have r1 := hsame 1 _ rfl
        have r2 := hsame 2 _ rfl
        have r3 := hsame 3 _ rfl
        have r4 := hsame 4 _ rfl
        have r5 := hsame 5 _ rfl
        simp only [Nat.zero_add] at r0 r1 r2 r3 r4 r5
        have hgs := gr_setCells W14 w.heap.size 0 [.int .i64 0, .slice none 0 0, .string ⟨#[]⟩, .int .i64 0, .int .i64 0, .int .i64 0]
        have hgf : Gr w (W14.setCells w.heap.size 0 [.int .i64 0, .slice none 0 0, .string ⟨#[]⟩, .int .i64 0, .int .i64 0, .int .i64 0]) := gr_of_below (below_gr st14.out.bel hgs st14.out.bel.size (by intro k hk; cases hk; exact Nat.le_refl _)) (Nat.le_refl _)
        replace hgf := Lib.hid hgf
        clear hsame hgs
        go_wp2_with (refine wpList_store_mid (op := ⟨none, _, _, _, _, _⟩) rfl 24 _ _ rfl w.heap.size 0 #[.int .i64 0, .slice none 0 0, .string ⟨#[]⟩, .int .i64 0, .int .i64 0, .int .i64 0] rfl rfl hth infoAq (by simp [Value.oneCell']) ?_)
        (try simp only [Exit.inBlock, Exit.then])
        refine bodyPost_ret (by simp [results, Try.results13, go_sem, r0, r1, r2, r3, r4, r5]; try rfl) rfl ?_
        exact ⟨.inr ⟨hno.out, rfl⟩, hgf.out⟩
      | false =>
        have hth := aqb_there st14.out.res
        have hsame := World.rangeAt_setCells_same W14 w.heap.size 0 [.int .i64 0, .slice none 0 0, .string ⟨#[]⟩, .int .i64 0, .int .i64 0, .int .i64 0] hth
        have r0 := hsame 0 _ rfl
        have r1 := hsame 1 _ rfl
        have r2 := hsame 2 _ rfl
        have r3 := hsame 3 _ rfl
        have r4 := hsame 4 _ rfl
        have r5 := hsame 5 _ rfl
        simp only [Nat.zero_add] at r0 r1 r2 r3 r4 r5
        have hgs := gr_setCells W14 w.heap.size 0 [.int .i64 0, .slice none 0 0, .string ⟨#[]⟩, .int .i64 0, .int .i64 0, .int .i64 0]
        have hgf : Gr w (W14.setCells w.heap.size 0 [.int .i64 0, .slice none 0 0, .string ⟨#[]⟩, .int .i64 0, .int .i64 0, .int .i64 0]) := gr_of_below (below_gr st14.out.bel hgs st14.out.bel.size (by intro k hk; cases hk; exact Nat.le_refl _)) (Nat.le_refl _)
        replace hgf := Lib.hid hgf
        clear hsame hgs
        go_wp2_with (refine wpList_store_mid (op := ⟨none, _, _, _, _, _⟩) rfl 24 _ _ rfl w.heap.size 0 #[.int .i64 0, .slice none 0 0, .string ⟨#[]⟩, .int .i64 0, .int .i64 0, .int .i64 0] rfl rfl hth infoAq (by simp [Value.oneCell']) ?_)
        (try simp only [Exit.inBlock, Exit.then])
        refine bodyPost_ret (by simp [results, Try.results13, go_sem, r0, r1, r2, r3, r4, r5]; try rfl) rfl ?_
        exact ⟨.inr ⟨hno.out, rfl⟩, hgf.out⟩
end Go.Proofs.Ytbnacoakjhhndaa
