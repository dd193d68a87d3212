/-
  row.Get: the row with which bytes begin, and the rest, or that there is none. No condition but a bound on the length.
-/
import Derived.Test.YtbnacoakjhhndaaGreatRowPut
import Derived.Test.YtbnacoakjhhndaaGreatRowRead
namespace Go.Proofs.YtbnacoakjhhndaaGreat
open Go.RowKit

theorem infoRw : (Tryz.prog.info? 34).map (·.size) = some 2 := by kernel_rfl
theorem fzeroR {w : World} {b : Nat} {cs : Array Value} {t : TypeId} (h : w.heap[b]? = some (.cells cs t (0, 0))) (j : Nat) : w.frozen? ⟨b, j, none⟩ = false := by
  unfold World.frozen?
  rw [h]
  simp
/-- Block b is a row: its labels' slice, and its number. -/
def RwB (w : World) (b : Nat) (A : Option Addr) (n c : Nat) (v : Int) : Prop := w.heap[b]? = some (.cells #[.slice A n c, .int .i64 v] 34 (0, 0))
theorem rwb_cells {w : World} {b : Nat} {A : Option Addr} {n c : Nat} {v : Int} (h : RwB w b A n c v) : w.cell? ⟨b, 0, none⟩ = some (.slice A n c) ∧ w.cell? ⟨b, 1, none⟩ = some (.int .i64 v) ∧ w.frozen? ⟨b, 0, none⟩ = false ∧ w.frozen? ⟨b, 1, none⟩ = false := ⟨fcellR h rfl, fcellR h rfl, fzeroR h 0, fzeroR h 1⟩
theorem rwb_there {w : World} {b : Nat} {A : Option Addr} {n c : Nat} {v : Int} (h : RwB w b A n c v) : w.there b 0 2 := fun j hj => ⟨by
  match j, hj with
  | 0, _ => rw [fcellR h rfl]; rfl
  | 1, _ => rw [fcellR h rfl]; rfl
  | j + 2, hj => omega, fzeroR h _⟩
/-- Block b is a label. -/
def LbB (w : World) (b : Nat) (x y : List UInt8) : Prop := w.heap[b]? = some (.cells #[.string (txt x), .string (txt y)] 77 (0, 0))
theorem lbb_cells {w : World} {b : Nat} {x y : List UInt8} (h : LbB w b x y) : w.cell? ⟨b, 0, none⟩ = some (.string (txt x)) ∧ w.cell? ⟨b, 1, none⟩ = some (.string (txt y)) ∧ w.frozen? ⟨b, 0, none⟩ = false ∧ w.frozen? ⟨b, 1, none⟩ = false := ⟨fcellR h rfl, fcellR h rfl, fzeroR h 0, fzeroR h 1⟩
/-- What is at hand while labels are read: the result's block at s, the reader's behind it, the row's behind that; what was there is as it was. -/
structure GetAt (w : World) (wr : World) (L : List Lb) (r : List UInt8) (bad : Bool) (A : Option Addr) (c : Nat) (v : Int) : Prop where
  res : RwB wr w.heap.size none 0 0 0
  rdr : Rdr wr (w.heap.size + 1) r bad
  out : RwB wr (w.heap.size + 2) A L.length c v
  own : wr.ownsRow (w.heap.size + 3) 77 2 (.slice A L.length c) L.length (sR lblC L)
  bel : Below w.heap.size w wr
  size : w.heap.size + 3 ≤ wr.heap.size
theorem getAt_rd {w wr w2 : World} {L : List Lb} {r r1 : List UInt8} {bad bad1 : Bool} {A : Option Addr} {c : Nat} {v : Int} (h : GetAt w wr L r bad A c v) (hr : Rdr w2 (w.heap.size + 1) r1 bad1) (hg : GrB (w.heap.size + 1) wr w2) : GetAt w w2 L r1 bad1 A c v :=
  ⟨gr_blk hg h.res (by simp), hr, gr_blk hg h.out (by simp), h.own.kept hg (by
    cases hb : (Value.slice A L.length c).ownBlock with
    | none => exact .inl rfl
    | some k => exact .inr (fun e => by have := (h.own.lt k hb).1; have := Option.some.inj e; omega)), below_gr h.bel hg (Nat.le_trans (by omega) h.size) (by intro k hk; cases hk; omega), Nat.le_trans h.size hg.size⟩
theorem getAt_gr {w wr w2 : World} {L : List Lb} {r : List UInt8} {bad : Bool} {A : Option Addr} {c : Nat} {v : Int} (h : GetAt w wr L r bad A c v) (hg : Gr wr w2) : GetAt w w2 L r bad A c v :=
  ⟨gr_blk hg h.res (by simp), gr_blk hg h.rdr (by simp), gr_blk hg h.out (by simp), h.own.kept hg (Classical.em _), below_gr h.bel hg (Nat.le_trans (by omega) h.size) (by simp), Nat.le_trans h.size hg.size⟩
/-- A block that is none of these turns. -/
theorem getAt_far {w wr w2 : World} {L : List Lb} {r : List UInt8} {bad : Bool} {A : Option Addr} {c : Nat} {v : Int} (h : GetAt w wr L r bad A c v) {k : Nat} (hg : GrB k wr w2) (hk : w.heap.size + 3 ≤ k) (hne : (Value.slice A L.length c).ownBlock ≠ some k) : GetAt w w2 L r bad A c v :=
  ⟨gr_blk hg h.res (by simp; omega), gr_blk hg h.rdr (by simp; omega), gr_blk hg h.out (by simp; omega), h.own.kept hg (.inr hne), below_gr h.bel hg (Nat.le_trans (by omega) h.size) (by intro j hj; cases hj; omega), Nat.le_trans h.size hg.size⟩
/-- One label more. -/
theorem getAt_app {w w5 w6 : World} {L : List Lb} {r : List UInt8} {bad : Bool} {A A6 : Option Addr} {c c6 : Nat} {z : Lb} {o : Obj} (h : GetAt w w5 L r bad A c 0) (ho : w6.ownsRow (w.heap.size + 3) 77 2 (.slice A6 (L.length + 1) c6) (L.length + 1) (sR lblC L ++ lblC z)) (hg : (w5.alloc o).grownBy w6 (Value.slice A L.length c).ownBlock) :
    RwB w6 (w.heap.size + 2) A L.length c 0 ∧ GetAt w (w6.setCell ⟨w.heap.size + 2, 0, none⟩ (.slice A6 (L.length + 1) c6)) (L ++ [z]) r bad A6 c6 0 := by
  have hs := h.size
  have far : ∀ k, k < w.heap.size + 3 → some k ≠ (Value.slice A L.length c).ownBlock := fun k hk e => by have := (h.own.lt k e.symm).1; omega
  have keep : ∀ (k : Nat) (ob : Obj), k < w.heap.size + 3 → w5.heap[k]? = some ob → w6.heap[k]? = some ob := fun k ob hk hb => gr_blk hg (gr_blk (gr_alloc w5 o none) hb (by simp)) (far k hk)
  have g7 := gr_set w6 ⟨w.heap.size + 2, 0, none⟩ (.slice A6 (L.length + 1) c6)
  have hout : RwB w6 (w.heap.size + 2) A L.length c 0 := keep _ _ (by omega) h.out
  have hl : (L ++ [z]).length = L.length + 1 := by simp
  refine ⟨hout, ?_⟩
  refine ⟨gr_blk g7 (keep _ _ (by omega) h.res) (by simp), gr_blk g7 (keep _ _ (by omega) h.rdr) (by simp), ?_, ?_, ?_, ?_⟩
  · rw [hl]
    exact blk_set hout 0 _
  · rw [hl, sR_append, sR_one]
    exact ho.kept g7 (.inr (fun e => by have := (ho.lt _ e).1; simp at this))
  · have b6 := (below_gr h.bel (gr_alloc w5 o none) (by omega) (by simp)).grown hg (by simp; omega) (fun k hk => by have := (h.own.lt k hk).1; omega)
    exact b6.grown g7 (by have := hg.size; simp at this; omega) (fun k hk => by cases hk; simp)
  · have h1 := hg.size
    have h2 := g7.size
    simp at h1 h2 ⊢
    omega
theorem own_nilA {w : World} {base : Nat} {e : TypeId} {size n c : Nat} {A : Option Addr} {xs : List Value} (h : w.ownsRow base e size (.slice A n c) n xs) : A = none → n = 0 ∧ c = 0 := by
  intro hA
  subst hA
  rcases h.2 with ⟨hv, h0⟩ | ⟨g, cap, cur, hv, _⟩
  · injection hv with _ _ h3; exact ⟨h0, h3⟩
  · injection hv with h1; cases h1
/-- The number is set. -/
theorem getAt_v {w w2 : World} {L : List Lb} {r : List UInt8} {bad : Bool} {A : Option Addr} {c : Nat} {v : Int} (h : GetAt w w2 L r bad A c v) (V : Int) : GetAt w (w2.setCell ⟨w.heap.size + 2, 1, none⟩ (.int .i64 V)) L r bad A c V := by
  have g := gr_set w2 ⟨w.heap.size + 2, 1, none⟩ (.int .i64 V)
  have hs := h.size
  exact ⟨gr_blk g h.res (by simp), gr_blk g h.rdr (by simp), blk_set h.out 1 _, h.own.kept g (.inr (fun e => by have := (h.own.lt _ e).1; simp at this)), below_gr h.bel g (by omega) (fun k hk => by cases hk; simp), Nat.le_trans hs g.size⟩
def GetPost (b : List UInt8) (w : World) (e : Ending) (w' : World) : Prop :=
  ((∃ r t A c, getR b = some (r, t) ∧ e = .returned (.tuple #[.agg #[.slice A r.l.length c, .int .i64 r.v], .string (txt t), .int .i64 0]) ∧ w'.ownsRow w.heap.size 77 2 (.slice A r.l.length c) r.l.length (sR lblC r.l)) ∨
    (getR b = none ∧ e = .returned (.tuple #[.agg #[.slice none 0 0, .int .i64 0], .string ⟨#[]⟩, .int .i64 2]))) ∧ Gr w w'
theorem getLs_next {n : Nat} {r r1 r2 : List UInt8} {x y : List UInt8} (h1 : takeT r = some (x, r1)) (h2 : takeT r1 = some (y, r2)) : getLs (n + 1) r = (getLs n r2).map fun p => (⟨x, y⟩ :: p.1, p.2) := by
  rw [getLs, h1]
  simp only
  rw [h2]
  simp only
  cases getLs n r2 with
  | none => rfl
  | some p => rfl
theorem getLs_stop1 {n : Nat} {r : List UInt8} (h1 : takeT r = none) : getLs (n + 1) r = none := by
  rw [getLs, h1]
theorem getLs_stop2 {n : Nat} {r r1 x : List UInt8} (h1 : takeT r = some (x, r1)) (h2 : takeT r1 = none) : getLs (n + 1) r = none := by
  rw [getLs, h1]
  simp only
  rw [h2]
/-- What the rest comes to when all labels are read. -/
def finR (l : List Lb) (r : List UInt8) : Option (Rw × List UInt8) := if 6 ≤ r.length ∧ okR ⟨l, (dvN (r.take 6) : Int) - 1000000000000⟩ then some (⟨l, (dvN (r.take 6) : Int) - 1000000000000⟩, r.drop 6) else none
/-- What the rest comes to when so many labels are still to be read. -/
def restR (n : Nat) (L : List Lb) (r : List UInt8) : Option (Rw × List UInt8) := match getLs n r with
  | none => none
  | some (l, r2) => finR (L ++ l) r2
theorem getR_rest (c : UInt8) (t : List UInt8) : getR (c :: t) = restR c.toNat [] t := by
  rw [getR, restR]
  cases getLs c.toNat t with
  | none => rfl
  | some p => rfl
theorem restR_next {n : Nat} {L : List Lb} {r r1 r2 x y : List UInt8} (h1 : takeT r = some (x, r1)) (h2 : takeT r1 = some (y, r2)) : restR (n + 1) L r = restR n (L ++ [⟨x, y⟩]) r2 := by
  unfold restR
  rw [getLs_next h1 h2]
  cases getLs n r2 with
  | none => rfl
  | some p => simp
theorem restR_stop {n : Nat} {L : List Lb} {r : List UInt8} (h : getLs (n + 1) r = none) : restR (n + 1) L r = none := by
  unfold restR
  rw [h]
/-- The first number. -/
def firstN : List UInt8 → Nat
  | [] => 0
  | c :: _ => c.toNat
set_option maxHeartbeats 16000000 in
set_option maxRecDepth 100000 in
theorem get_any (b : List UInt8) (w : World) (hb : b.length ≤ 1000000000) : Calls Tryz.prog 83 #[.string (txt b)] w (GetPost b w) := by
  obtain ⟨ii, hi, hz0, hz1, hz2⟩ := info_parts infoLb
  obtain ⟨W0, hW0⟩ : ∃ W0, W0 = ((w.alloc (.cells #[.slice none 0 0, .int .i64 0] 34)).alloc (.cells #[.string (txt b), .bool false] 165)).alloc (.cells #[.slice none 0 0, .int .i64 0] 34) := ⟨_, rfl⟩
  have e1 : (w.alloc (.cells #[.slice none 0 0, .int .i64 0] 34)).heap.size = w.heap.size + 1 := by simp
  have e2 : ((w.alloc (.cells #[.slice none 0 0, .int .i64 0] 34)).alloc (.cells #[.string (txt b), .bool false] 165)).heap.size = w.heap.size + 2 := by simp
  have st : GetAt w W0 [] b false none 0 0 := by
    rw [hW0]
    refine ⟨gr_blk (gr_trans (gr_alloc _ _ none) (gr_alloc _ _ none)) (blk_new w _) (by simp), ?_, ?_, World.ownsRow_nil _ _ _ _, gr_below (gr_trans (gr_alloc _ _ _) (gr_trans (gr_alloc _ _ _) (gr_alloc _ _ _))), by simp⟩
    · have := gr_blk (gr_alloc _ (.cells #[.slice none 0 0, .int .i64 0] 34) none) (blk_new (w.alloc (.cells #[.slice none 0 0, .int .i64 0] 34)) (.cells #[.string (txt b), .bool false] 165)) (by simp)
      rw [e1] at this
      exact this
    · have := blk_new ((w.alloc (.cells #[.slice none 0 0, .int .i64 0] 34)).alloc (.cells #[.string (txt b), .bool false] 165)) (.cells #[.slice none 0 0, .int .i64 0] 34)
      rw [e2] at this
      exact this
  replace st := Lib.hid st
  go_enter Tryz.func83, Tryz.ntmps83
  go_upto_region 3 with fail
  rw [← hW0]
  clear hW0 e1 e2
  have hnum : ∃ (r0 : List UInt8) (bad0 : Bool), Calls Tryz.prog 108 #[.pointer (some ⟨w.heap.size + 1, 0, none⟩), .int .i64 1] W0 (fun e w' => RdPost (w.heap.size + 1) W0 e w' (.int .i64 (firstN b)) r0 bad0) ∧ r0.length ≤ b.length ∧ (bad0 = true → firstN b = 0 ∧ getR b = none) ∧ (bad0 = false → getR b = restR (firstN b) [] r0) := by
    cases b with
    | nil => exact ⟨[], true, num_far _ 1 [] W0 st.out.rdr (by decide) (by decide), Nat.le_refl _, fun _ => ⟨rfl, rfl⟩, fun e => by cases e⟩
    | cons c t =>
      have hd : dvN ((c :: t).take 1) = c.toNat := by simp [dvN]
      have hn := num_on _ 1 (c :: t) W0 st.out.rdr (by decide) (by simp) hb
      rw [hd] at hn
      exact ⟨t, false, hn, by simp, fun e => by (cases e), fun _ => getR_rest c t⟩
  obtain ⟨r0, bad0, hnum, hr0, hm1, hm2⟩ := hnum
  have hnb : firstN b ≤ 255 := by
    cases b with
    | nil => exact Nat.zero_le _
    | cons c t => have := c.toNat_lt; show c.toNat ≤ 255; omega
  generalize firstN b = n at *
  replace hnum := Lib.hid hnum
  replace hm1 := Lib.hid hm1
  replace hm2 := Lib.hid hm2
  go_wp2_with fail
  refine hnum.out.mono ?_
  rintro e w1 ⟨rfl, hrd, hg⟩
  have st1 : GetAt w w1 [] r0 bad0 none 0 0 := ⟨gr_blk hg st.out.res (by simp), hrd, gr_blk hg st.out.out (by simp), World.ownsRow_nil _ _ _ _, below_gr st.out.bel hg st.out.bel.size (by intro k hk; cases hk; omega), Nat.le_trans st.out.size hg.size⟩
  replace st1 := Lib.hid st1
  clear hnum st hrd hg
  go_wp2
  go_loopw [15] (fun iv wr => ∃ (i : Nat) (L : List Lb) (r : List UInt8) (bad : Bool) (A : Option Addr) (c : Nat), i ≤ n ∧ iv = .int .i64 i ∧ Hid (L.length = i) ∧ Hid (GetAt w wr L r bad A c 0) ∧ Hid (ShortL L) ∧ r.length ≤ b.length ∧ Hid (bad = true → n = 0 ∧ getR b = none) ∧ Hid (bad = false → getR b = restR (n - i) L r)) (fun iv _ => n - (intOf iv).toNat)
  case atStart => exact ⟨0, [], r0, bad0, none, 0, Nat.zero_le _, rfl, rfl, st1.out, by intro x hx; simp at hx, hr0, hm1.out, hm2.out⟩
  case round =>
    obtain ⟨i, L, r, bad, A, c, hin, rfl, hLi, hst, hsh, hrb, hbad, hgood⟩ := hrel
    by_cases hlt : i < n
    · cases bad with
      | true => have := (hbad.out rfl).1; omega
      | false =>
        have hii : (i : Int) < (n : Int) := by omega
        have hrest := hgood.out rfl
        obtain ⟨q, hq⟩ : ∃ q, n - i = q + 1 := ⟨n - i - 1, by omega⟩
        rw [hq] at hrest
        have ht1 := text_any (w.heap.size + 1) r false wr hst.out.rdr (by omega)
        replace ht1 := Lib.hid ht1
        replace hrest := Lib.hid hrest
        replace hq := Lib.hid hq
        clear hgood hbad
        go_wp2_with fail
        refine ht1.out.mono ?_
        rintro e w2 ⟨x, r1, bad1, rfl, hrd1, hg1, hx, hr1, _, htk1⟩
        have st2 := getAt_rd hst.out hrd1 hg1
        have hxo : ∀ k, (Value.slice A L.length c).ownBlock = some k → k < w2.heap.size := fun k hk => (st2.own.lt k hk).2
        have hs2 := st2.size
        obtain ⟨w3, hw3⟩ : ∃ w3, w3 = w2.alloc (.cells #[.string (txt x), .string (txt [])] 77) := ⟨_, rfl⟩
        have g3 : Gr w2 w3 := by rw [hw3]; exact gr_alloc _ _ _
        have hl3 : LbB w3 w2.heap.size x [] := by rw [hw3]; exact blk_new w2 _
        have st3 := getAt_gr st2 g3
        replace hxo := Lib.hid hxo
        clear st2 hst hrd1 hg1 g3 ht1
        replace st3 := Lib.hid st3
        replace hl3 := Lib.hid hl3
        go_upto_region 6 with fail
        rw [show w2.alloc (.cells #[.string (txt x), .string ⟨#[]⟩] 77) = w3 from hw3.symm]
        clear hw3
        have ht2 := text_any (w.heap.size + 1) r1 bad1 w3 st3.out.rdr (by omega)
        replace ht2 := Lib.hid ht2
        go_wp2_with fail
        refine ht2.out.mono ?_
        rintro e w4 ⟨y, r2, bad2, rfl, hrd2, hg2, hy, hr2, hbb, htk2⟩
        have st4 := getAt_rd st3.out hrd2 hg2
        have hl4 : LbB w4 w2.heap.size x [] := gr_blk hg2 hl3.out (by simp; omega)
        obtain ⟨l0, l1, lf0, lf1⟩ := lbb_cells hl4
        have hl5 : LbB (w4.setCell ⟨w2.heap.size, 1, none⟩ (.string (txt y))) w2.heap.size x y := blk_set hl4 1 _
        have st5 := getAt_far st4 (gr_set w4 ⟨w2.heap.size, 1, none⟩ (.string (txt y))) hs2 (fun e => Nat.lt_irrefl _ (hxo.out _ e))
        clear st4 hl4 st3 hl3 hrd2 hg2 ht2
        replace st5 := Lib.hid st5
        replace hl5 := Lib.hid hl5
        replace htk1 := Lib.hid htk1
        replace htk2 := Lib.hid htk2
        replace hbb := Lib.hid hbb
        go_upto_region 7 with fail
        generalize w4.setCell ⟨w2.heap.size, 1, none⟩ (.string (txt y)) = w5 at *
        clear l0 l1 lf0 lf1
        obtain ⟨d0, d1, df0, df1⟩ := rdr_cells st5.out.rdr
        cases bad2 with
        | true =>
          have hno : getR b = none := by
            rw [hrest.out]
            apply restR_stop
            have h1 := htk1.out trivial
            cases bad1 with
            | true => exact getLs_stop1 (by rw [h1]; rfl)
            | false => exact getLs_stop2 (by rw [h1]; rfl) (by rw [htk2.out rfl]; rfl)
          have hth := rwb_there st5.out.res
          have hsame := World.rangeAt_setCells_same w5 w.heap.size 0 [.slice none 0 0, .int .i64 0] hth
          have r0 := hsame 0 _ rfl
          have r1' := hsame 1 _ rfl
          simp only [Nat.zero_add] at r0 r1'
          have hgs := gr_setCells w5 w.heap.size 0 [.slice none 0 0, .int .i64 0]
          have hgf : Gr w (w5.setCells w.heap.size 0 [.slice none 0 0, .int .i64 0]) := gr_of_below (below_gr st5.out.bel hgs (Nat.le_trans (by omega) st5.out.size) (by intro k hk; cases hk; exact Nat.le_refl _)) (Nat.le_refl _)
          replace hno := Lib.hid hno
          replace hgf := Lib.hid hgf
          clear hsame hgs
          go_wp2_with (refine wpList_store_mid (op := ⟨none, _, _, _, _, _⟩) rfl 34 _ _ rfl w.heap.size 0 #[.slice none 0 0, .int .i64 0] rfl rfl hth infoRw (by simp [Value.oneCell']) ?_)
          (try simp only [Exit.inBlock, Exit.then])
          refine bodyPost_ret (by simp [results, Tryz.results83, go_sem, r0, r1']; try rfl) rfl ?_
          exact ⟨.inr ⟨hno.out, rfl⟩, hgf.out⟩
        | false =>
          have hb1 : bad1 = false := by
            cases bad1 with
            | true => exact absurd (hbb.out rfl) (by decide)
            | false => rfl
          subst hb1
          have hnext : getR b = restR q (L ++ [⟨x, y⟩]) r2 := by rw [hrest.out, restR_next (by rw [htk1.out trivial]; rfl) (by rw [htk2.out rfl]; rfl)]
          obtain ⟨o0, o1, of0, of1⟩ := rwb_cells st5.out.out
          obtain ⟨l0, l1, lf0, lf1⟩ := lbb_cells hl5.out
          have hsz := st5.out.size
          have hL8 : L.length ≤ 255 := by rw [hLi.out]; omega
          replace hnext := Lib.hid hnext
          clear hrest htk1 htk2 hbb
          go_wp2_with (at_builtin; (refine wpList_append_own _ rfl _ _ 32 rfl (w.heap.size + 3) 77 ii (.agg #[.string ⟨#[]⟩, .string ⟨#[]⟩]) 2 32 Tryz.underlying32 hi hz0 hz1 hz2 rfl (by decide) (.slice A L.length c) L.length (sR lblC L) rfl (st5.out.own.alloc _) ⟨w5.heap.size, 0, none⟩ 1 1 (lblC ⟨x, y⟩) rfl ?c0 ?c1 ?c2 ?c3 ?c4 ?c5 ?_); rotate_right; intro v' w6 hown6 hgrow _nl; clear _nl; obtain ⟨A6, c6, rfl, _, _⟩ := own_openS hown6; have hap := getAt_app st5.out hown6 hgrow; obtain ⟨p0, p1, pf0, pf1⟩ := rwb_cells hap.1; have st7 := hap.2; clear hap hown6 hgrow; replace st7 := Lib.hid st7)
          case c0 => rfl
          case c1 =>
            intro j u hj
            match j, hj with
            | 0, hj => simp [lblC] at hj; subst hj; rw [add_plain, World.cell?_alloc_new]; rfl
            | 1, hj => simp [lblC] at hj; subst hj; rw [add_plain, World.cell?_alloc_new]; rfl
            | j + 2, hj => simp [lblC] at hj
          case c2 => exact lblC_ones _
          case c3 => unfold maxLen; omega
          case c4 => omega
          case c5 => simp; omega
          have hsh2 : ShortL (L ++ [⟨x, y⟩]) := fun z hz => by
            rcases List.mem_append.1 hz with hz | hz
            · exact hsh.out z hz
            · rw [List.mem_singleton.1 hz]; exact ⟨by show x.length ≤ _; omega, by show y.length ≤ _; omega⟩
          go_roundw
          case rel => exact ⟨i + 1, L ++ [(⟨x, y⟩ : Lb)], r2, false, A6, c6, by omega, by go_num, (by show _ = _; rw [List.length_append, hLi.out]; rfl), st7.out, hsh2, by omega, fun e => by (cases e), fun _ => by rw [hnext.out]; congr 1; have := hq.out; omega⟩
          case measure => simp [intOf]; omega
    · obtain rfl : i = n := by omega
      have hnumc : ∃ (N : Nat) (r' : List UInt8) (bad' : Bool), Calls Tryz.prog 108 #[.pointer (some ⟨w.heap.size + 1, 0, none⟩), .int .i64 6] wr (fun e w' => RdPost (w.heap.size + 1) wr e w' (.int .i64 N) r' bad') ∧ N < 281474976710656 ∧ (bad' = true → getR b = none) ∧ (bad' = false → getR b = if okR ⟨L, (N : Int) - 1000000000000⟩ then some (⟨L, (N : Int) - 1000000000000⟩, r') else none) := by
        cases bad with
        | true => exact ⟨0, r, true, num_bad _ 6 r wr hst.out.rdr (by decide), by decide, fun _ => (hbad.out rfl).2, fun e => by cases e⟩
        | false =>
          have h1 := hgood.out rfl
          rw [Nat.sub_self] at h1
          have h2 : restR 0 L r = finR L r := by
            show finR (L ++ []) r = _
            rw [List.append_nil]
          rw [h2] at h1
          unfold finR at h1
          by_cases h6 : 6 ≤ r.length
          · have hv := dvN_lt (r.take 6)
            rw [List.length_take, Nat.min_eq_left h6] at hv
            refine ⟨dvN (r.take 6), r.drop 6, false, num_on _ 6 r wr hst.out.rdr (by decide) h6 (by omega), hv, fun e => (by cases e), fun _ => ?_⟩
            rw [h1]
            by_cases ho : okR ⟨L, (dvN (r.take 6) : Int) - 1000000000000⟩
            · rw [if_pos ⟨h6, ho⟩, if_pos ho]
            · rw [if_neg (fun k => ho k.2), if_neg ho]
          · refine ⟨0, r, true, num_far _ 6 r wr hst.out.rdr (by decide) (by omega), by decide, fun _ => ?_, fun e => by cases e⟩
            rw [h1, if_neg (fun k => h6 k.1)]
      obtain ⟨N, r', bad', hnumc, hN, hm3, hm4⟩ := hnumc
      obtain ⟨V, hV⟩ : ∃ V : Int, V = (N : Int) - 1000000000000 := ⟨_, rfl⟩
      have hVr : -9223372036854775808 ≤ V ∧ V ≤ 9223372036854775807 := by omega
      rw [← hV] at hm4
      replace hV := Lib.hid hV
      replace hnumc := Lib.hid hnumc
      replace hm3 := Lib.hid hm3
      replace hm4 := Lib.hid hm4
      clear hgood hbad
      go_wp2_with fail
      refine hnumc.out.mono ?_
      rintro e w2 ⟨rfl, hrd2, hg2⟩
      have st2 := getAt_rd hst.out hrd2 hg2
      obtain ⟨o0, o1, of0, of1⟩ := rwb_cells st2.out
      have st3 := getAt_v st2 V
      clear st2 hrd2 hg2 hnumc hst
      replace st3 := Lib.hid st3
      go_upto_region 12 with fail
      rw [← hV.out]
      generalize w2.setCell ⟨w.heap.size + 2, 1, none⟩ (.int .i64 V) = w3 at *
      clear o0 o1 of0 of1
      obtain ⟨o0, o1, of0, of1⟩ := rwb_cells st3.out.out
      have hL8 : L.length ≤ 255 := by rw [hLi.out]; exact hnb
      have hpt := put_any A L.length c L V w3 (by omega) (own_nilA st3.out.own) (row_own st3.out.own) hsh.out hVr
      unfold PutPost at hpt
      by_cases hok : okR ⟨L, V⟩
      · rw [if_pos hok] at hpt
        replace hpt := Lib.hid hpt
        replace hok := Lib.hid hok
        go_wp2_with fail
        refine hpt.out.mono ?_
        rintro e w4 ⟨rfl, g4⟩
        have st4 := getAt_gr st3.out g4
        clear hpt g4 o0 o1 of0 of1
        obtain ⟨d0, d1, df0, df1⟩ := rdr_cells st4.rdr
        obtain ⟨o0, o1, of0, of1⟩ := rwb_cells st4.out
        obtain ⟨p0, p1, pf0, pf1⟩ := rwb_cells st4.res
        replace st4 := Lib.hid st4
        cases bad' with
        | true =>
          have hno := hm3.out rfl
          clear p0 p1 pf0 pf1
          have hth := rwb_there st4.out.res
          have hsame := World.rangeAt_setCells_same w4 w.heap.size 0 [.slice none 0 0, .int .i64 0] hth
          have r0 := hsame 0 _ rfl
          have r1' := hsame 1 _ rfl
          simp only [Nat.zero_add] at r0 r1'
          have hgs := gr_setCells w4 w.heap.size 0 [.slice none 0 0, .int .i64 0]
          have hgf : Gr w (w4.setCells w.heap.size 0 [.slice none 0 0, .int .i64 0]) := gr_of_below (below_gr st4.out.bel hgs (Nat.le_trans (by omega) st4.out.size) (by intro k hk; cases hk; exact Nat.le_refl _)) (Nat.le_refl _)
          replace hno := Lib.hid hno
          replace hgf := Lib.hid hgf
          clear hsame hgs
          go_wp2_with (refine wpList_store_mid (op := ⟨none, _, _, _, _, _⟩) rfl 34 _ _ rfl w.heap.size 0 #[.slice none 0 0, .int .i64 0] rfl rfl hth infoRw (by simp [Value.oneCell']) ?_)
          (try simp only [Exit.inBlock, Exit.then])
          refine bodyPost_ret (by simp [results, Tryz.results83, go_sem, r0, r1']; try rfl) rfl ?_
          exact ⟨.inr ⟨hno.out, rfl⟩, hgf.out⟩
        | false =>
          have hyes := hm4.out rfl
          rw [if_pos hok.out] at hyes
          replace hyes := Lib.hid hyes
          go_upto_region 15 with fail
          clear d1 df0 df1
          go_region
          all_goals
            have g5 : GrB w.heap.size w4 (((w4.setCell ⟨w.heap.size, 0, none⟩ (.slice A L.length c)).setCell ⟨w.heap.size, 1, none⟩ (.int .i64 V)).drew) := gr_trans (gr_trans (gr_set w4 ⟨w.heap.size, 0, none⟩ _) (gr_set _ ⟨w.heap.size, 1, none⟩ _)) (gr_drew _ _)
            have h5 : RwB (((w4.setCell ⟨w.heap.size, 0, none⟩ (.slice A L.length c)).setCell ⟨w.heap.size, 1, none⟩ (.int .i64 V)).drew) w.heap.size A L.length c V := blk_set (blk_set st4.out.res 0 _) 1 _
            generalize ((w4.setCell ⟨w.heap.size, 0, none⟩ (.slice A L.length c)).setCell ⟨w.heap.size, 1, none⟩ (.int .i64 V)).drew = w5 at *
            have ho5 := own_mono (st4.out.own.kept g5 (.inr (fun e => by have := (st4.out.own.lt _ e).1; omega))) (show w.heap.size ≤ w.heap.size + 3 by omega)
            have hgf : Gr w w5 := gr_of_below (below_gr st4.out.bel g5 (Nat.le_trans (by omega) st4.out.size) (by intro k hk; cases hk; exact Nat.le_refl _)) (Nat.le_refl _)
            have r0 := (rwb_cells h5).1
            have r1' := (rwb_cells h5).2.1
            replace ho5 := Lib.hid ho5
            replace hgf := Lib.hid hgf
            clear h5 g5 st4 p0 p1 pf0 pf1 o0 o1 of0 of1 d0
            go_wp2
            (try simp only [Exit.inBlock, Exit.then])
            refine bodyPost_ret (by simp [results, Tryz.results83, go_sem, r0, r1']; try rfl) rfl ?_
            exact ⟨.inl ⟨⟨L, V⟩, r', A, c, hyes.out, rfl, ho5.out⟩, hgf.out⟩
      · rw [if_neg hok] at hpt
        replace hpt := Lib.hid hpt
        replace hok := Lib.hid hok
        go_wp2_with fail
        refine hpt.out.mono ?_
        rintro e w4 ⟨rfl, g4⟩
        have st4 := getAt_gr st3.out g4
        clear hpt g4 o0 o1 of0 of1
        obtain ⟨d0, d1, df0, df1⟩ := rdr_cells st4.rdr
        replace st4 := Lib.hid st4
        have hno : getR b = none := by
          cases bad' with
          | true => exact hm3.out rfl
          | false => rw [hm4.out rfl, if_neg hok.out]
        cases bad' with
        | true =>
          have hth := rwb_there st4.out.res
          have hsame := World.rangeAt_setCells_same w4 w.heap.size 0 [.slice none 0 0, .int .i64 0] hth
          have r0 := hsame 0 _ rfl
          have r1' := hsame 1 _ rfl
          simp only [Nat.zero_add] at r0 r1'
          have hgs := gr_setCells w4 w.heap.size 0 [.slice none 0 0, .int .i64 0]
          have hgf : Gr w (w4.setCells w.heap.size 0 [.slice none 0 0, .int .i64 0]) := gr_of_below (below_gr st4.out.bel hgs (Nat.le_trans (by omega) st4.out.size) (by intro k hk; cases hk; exact Nat.le_refl _)) (Nat.le_refl _)
          replace hno := Lib.hid hno
          replace hgf := Lib.hid hgf
          clear hsame hgs
          go_wp2_with (refine wpList_store_mid (op := ⟨none, _, _, _, _, _⟩) rfl 34 _ _ rfl w.heap.size 0 #[.slice none 0 0, .int .i64 0] rfl rfl hth infoRw (by simp [Value.oneCell']) ?_)
          (try simp only [Exit.inBlock, Exit.then])
          refine bodyPost_ret (by simp [results, Tryz.results83, go_sem, r0, r1']; try rfl) rfl ?_
          exact ⟨.inr ⟨hno.out, rfl⟩, hgf.out⟩
        | false =>
          have hth := rwb_there st4.out.res
          have hsame := World.rangeAt_setCells_same w4 w.heap.size 0 [.slice none 0 0, .int .i64 0] hth
          have r0 := hsame 0 _ rfl
          have r1' := hsame 1 _ rfl
          simp only [Nat.zero_add] at r0 r1'
          have hgs := gr_setCells w4 w.heap.size 0 [.slice none 0 0, .int .i64 0]
          have hgf : Gr w (w4.setCells w.heap.size 0 [.slice none 0 0, .int .i64 0]) := gr_of_below (below_gr st4.out.bel hgs (Nat.le_trans (by omega) st4.out.size) (by intro k hk; cases hk; exact Nat.le_refl _)) (Nat.le_refl _)
          replace hno := Lib.hid hno
          replace hgf := Lib.hid hgf
          clear hsame hgs
          go_wp2_with (refine wpList_store_mid (op := ⟨none, _, _, _, _, _⟩) rfl 34 _ _ rfl w.heap.size 0 #[.slice none 0 0, .int .i64 0] rfl rfl hth infoRw (by simp [Value.oneCell']) ?_)
          (try simp only [Exit.inBlock, Exit.then])
          refine bodyPost_ret (by simp [results, Tryz.results83, go_sem, r0, r1']; try rfl) rfl ?_
          exact ⟨.inr ⟨hno.out, rfl⟩, hgf.out⟩
end Go.Proofs.YtbnacoakjhhndaaGreat
