/-
  The document's pattern: a class. No condition but bounds.
-/
import Derived.Test.YtccmekdmnkmhlaaGreatSqRefPatD
import Derived.Test.YtccmekdmnkmhlaaGreatQuietGr
namespace Go.Proofs.YtccmekdmnkmhlaaGreat
open Go.RowKit

theorem infoI32 : (Tryz.prog.info? 21).map (fun i => (i.zero, i.size, i.bytes)) = some (some (.int .i32 0), 1, 4) := by kernel_rfl
/-- What a function that reads hands back: a part's number, and the pattern behind it; or it is bad. -/
def PtPost (X : Nat) (pA : Option Addr) (pc : Nat) (L : Rs) (ps : List Prt) (v : Value) (i K : Nat) (o : Option (T × Rs)) (w : World) (e : Ending) (w' : World) : Prop :=
  ∃ (n : Nat) (more : List Prt) (v' : Value) (j : Nat) (bad : Bool), e = .returned (.int .i64 n) ∧ PtAt X pA pc L w' (ps ++ more) v' j bad ∧ Adv X v v' w w' ∧ i ≤ j ∧ i + j ≤ 2 * L.length + 2 ∧ more.length + 3 * i + K ≤ 3 * j + 1 ∧ n < ps.length + more.length ∧
    ((bad = false ∧ j ≤ L.length ∧ ∃ x, o = some (x, L.drop j) ∧ Node w' (ps ++ more) n x) ∨ (bad = true ∧ o = none))
theorem lone_new (w : World) (x : Value) (e : TypeId) : ∀ j u, ([x] : List Value)[j]? = some u → (w.alloc (.cells #[x] e)).cell? ((⟨w.heap.size, 0, none⟩ : Addr).add j) = some u := by
  intro j u hj
  rw [add_plain, Nat.zero_add, World.cell?_alloc_new]
  simpa using hj
theorem lone_ones (a : Int) : ∀ u ∈ ([.int .i32 a] : List Value), u.oneCell' = true := fun u hu => by rw [List.mem_singleton.1 hu]; rfl
/-- What lay behind the old row is still there behind the append. -/
theorem app_news {U W wc : World} {lo : Value} {g : Nat} {B : Nat} {xs : List Value} (hat : (lo.ownBlock = some g ∧ U.grownBy W (some g)) ∨ (g = U.heap.size ∧ Gr U W)) (hlt : ∀ k, lo.ownBlock = some k → k < wc.heap.size)
    (hn : ∀ j u, xs[j]? = some u → U.cell? ((⟨B, 0, none⟩ : Addr).add j) = some u) (hB : wc.heap.size ≤ B) : ∀ j u, xs[j]? = some u → W.cell? ((⟨B, 0, none⟩ : Addr).add j) = some u := by
  intro j u hj
  have h1 := hn j u hj
  rw [add_plain] at h1 ⊢
  rcases hat with ⟨e, g1⟩ | ⟨_, g1⟩
  · exact g1.cell h1 (fun q => by have := hlt g e; have : B = g := Option.some.inj q; omega)
  · exact gr_cell g1 h1
theorem no_news {U : World} {B : Nat} : ∀ (j : Nat) (u : Value), ([] : List Value)[j]? = some u → U.cell? ((⟨B, 0, none⟩ : Addr).add j) = some u := fun j u h => by simp at h
/-- What follows the last statement of a sequence, as a variable: so that it can be cut around. -/
theorem wp_then {P : Program} {c : Code} {Q : Exit → Act → World → Prop} {a : Act} {w : World} (h : ∀ K : Act → World → Prop, (∀ a w, Q .normal a w → K a w) → c.wp P (Exit.then K Q) a w) : c.wp P Q a w :=
  Code.wp_mono (fun e a w hq => by cases e <;> exact hq) (h (Q .normal) (fun _ _ h => h))
def clsO (n : Nat) (l : Rs) : Option (T × Rs) := match pClass n l with
  | none => none
  | some (s, l1) => some (.one s, l1)
/-- The state at a loop's head. -/
def ClsInv (X : Nat) (pA : Option Addr) (pc : Nat) (L : Rs) (K : Nat) (w : World) (ps : List Prt) (v : Value) (neg : Bool) (n : Nat) (l : Rs) (j N : Nat) (bad : Bool) (lA hA : Option Addr) (lc hc m : Nat) (its : List (Int × Int)) (wr : World) : Prop :=
  C2 X pA pc L K w ps v neg j bad (.slice lA N lc) (.slice hA N hc) (.slice lA N lc) (.slice hA N hc) (its.map Prod.fst) (its.map Prod.snd) wr ∧ N = its.length ∧
    ((bad = false ∧ j ≤ L.length ∧ L.length - j < m ∧ pClass n l = pItems m neg its (L.drop j)) ∨ (bad = true ∧ pClass n l = none))
def ClsEnd (X : Nat) (pA : Option Addr) (pc : Nat) (L : Rs) (K : Nat) (w : World) (ps : List Prt) (v : Value) (neg : Bool) (n : Nat) (l : Rs) (j N : Nat) (bad : Bool) (lA hA : Option Addr) (lc hc : Nat) (its : List (Int × Int)) (wr : World) : Prop :=
  C2 X pA pc L K w ps v neg j bad (.slice lA N lc) (.slice hA N hc) (.slice lA N lc) (.slice hA N hc) (its.map Prod.fst) (its.map Prod.snd) wr ∧ N = its.length ∧
    ((bad = false ∧ ∃ t, L.drop j = 93 :: t ∧ pClass n l = some (⟨false, neg, its⟩, t)) ∨ (bad = true ∧ pClass n l = none))
theorem c2_cells {X : Nat} {pA : Option Addr} {pc : Nat} {L : Rs} {K : Nat} {w : World} {ps : List Prt} {v : Value} {neg : Bool} {j : Nat} {bad : Bool} {bl bh lo hi : Value} {xs ys : List Int} {wr : World} (h : C2 X pA pc L K w ps v neg j bad bl bh lo hi xs ys wr) :
    wr.cell? ⟨K, 2, none⟩ = some bl ∧ wr.cell? ⟨K, 3, none⟩ = some bh ∧ wr.frozen? ⟨K, 2, none⟩ = false ∧ wr.frozen? ⟨K, 3, none⟩ = false := ⟨blk_cell h.blk rfl, blk_cell h.blk rfl, blk_free h.blk 2, blk_free h.blk 3⟩
set_option maxHeartbeats 16000000 in
set_option maxRecDepth 100000 in
theorem rclass_any (n X : Nat) (pA : Option Addr) (pc : Nat) (L : Rs) (ps : List Prt) (v : Value) (i : Nat) (w : World) (h : PtAt X pA pc L w ps v i false) (hL : L.length ≤ 1000000) (hps : ps.length ≤ 10000000) (hi : i ≤ L.length) (hn : L.length - i < n) :
    Calls Tryz.prog 173 #[.pointer (some ⟨X, 0, none⟩)] w (PtPost X pA pc L ps v i 3 (clsO n (L.drop i)) w) := by
  have hX := rp_lt h
  have hvk : ∀ k, v.ownBlock = some k → k < w.heap.size := fun k hk => (h.own.lt k hk).2
  obtain ⟨W1, hW1⟩ : ∃ W1, W1 = w.alloc (.cells #[.int .i64 3, .int .i32 0, .slice none 0 0, .slice none 0 0, .bool false, .int .i64 0, .int .i64 0, .int .i64 0, .bool false] 194) := ⟨_, rfl⟩
  have g1 : Gr w W1 := by rw [hW1]; exact gr_alloc _ _ _
  have hb1 : W1.heap[w.heap.size]? = some (.cells #[.int .i64 3, .int .i32 0, .slice none 0 0, .slice none 0 0, .bool false, .int .i64 0, .int .i64 0, .int .i64 0, .bool false] 194 (0, 0)) := by rw [hW1]; exact blk_new _ _
  have h1 := rp_gr h g1
  have cN := rnext_any X pA pc L ps v i false W1 h1 (by omega)
  have hwr : IntKind.i64.wrap ((i : Int) + 1) = (i : Int) + 1 := IntWalk.i64_in _ (by omega)
  replace h := Lib.hid h
  replace h1 := Lib.hid h1
  replace cN := Lib.hid cN
  go_enter Tryz.func173, Tryz.ntmps173
  go_wp2_with fail
  rw [← hW1]
  replace hW1 := Lib.hid hW1
  refine cN.out.mono ?_
  rintro e W2 ⟨rfl, g2⟩
  have hb2 := gr_blk g2 hb1 (by simp)
  have h2 := rp_gr h1.out g2
  have gX2 : GrB X w W2 := gr_more _ (gr_trans g1 g2)
  obtain ⟨-, -, k3, -, -, f3, -⟩ := rp_cells h2
  have kf := blk_free hb2 4
  have kc : W2.cell? ⟨w.heap.size, 4, none⟩ = some (.bool false) := blk_cell hb2 rfl
  replace hb1 := Lib.hid hb1
  replace g1 := Lib.hid g1
  go_upto_if 9 with fail
  go_cut [] (fun wx => ∃ (neg : Bool) (i2 : Nat), i ≤ i2 ∧ i2 ≤ L.length ∧ Hid (C2 X pA pc L w.heap.size w ps v neg i2 false (.slice none 0 0) (.slice none 0 0) (.slice none 0 0) (.slice none 0 0) [] [] wx) ∧ Hid (pClass n (L.drop i) = pItems n neg [] (L.drop i2)))
  case first =>
    by_cases hc : ∃ t, L.drop i = 94 :: t
    · obtain ⟨t, ht⟩ := hc
      obtain ⟨hilt, hd1, _, _⟩ := drop_cons ht
      have hx : nxR (L.drop i) = 94 := by rw [ht]; rfl
      obtain ⟨V1, hV1⟩ : ∃ V1, V1 = W2.setCell ⟨w.heap.size, 4, none⟩ (.bool true) := ⟨_, rfl⟩
      have gV1 : W2.grownBy V1 (some w.heap.size) := by rw [hV1]; exact gr_set W2 ⟨w.heap.size, 4, none⟩ _
      have hbV : V1.heap[w.heap.size]? = some (.cells #[.int .i64 3, .int .i32 0, .slice none 0 0, .slice none 0 0, .bool true, .int .i64 0, .int .i64 0, .int .i64 0, .bool false] 194 (0, 0)) := by rw [hV1]; exact blk_set hb2 4 _
      have hpV : PtAt X pA pc L V1 ps v i false := ⟨gr_blk gV1 h2.blk (fun e => by have := Option.some.inj e; omega), row_keep h2.row gV1 (fun a ha e => by have := h2.low a ha; have := Option.some.inj e; omega), h2.low, h2.own.kept gV1 (.inr (fun e => by have := hvk w.heap.size e; omega)), h2.ok⟩
      have gXV : GrB X w V1 := ⟨gV1.os.trans gX2.os, gV1.tape.trans gX2.tape, gV1.output.trans gX2.output, Nat.le_trans gX2.size gV1.size, fun k hk hx => (gV1.block k (Nat.lt_of_lt_of_le hk gX2.size) (fun e => by have := Option.some.inj e; omega)).trans (gX2.block k hk hx)⟩
      obtain ⟨-, -, v3, -, -, vf3, -⟩ := rp_cells hpV
      obtain ⟨V2, hV2⟩ : ∃ V2, V2 = V1.setCell ⟨X, 3, none⟩ (.int .i64 ((i : Int) + 1)) := ⟨_, rfl⟩
      obtain ⟨hpV2, gV2⟩ := rp_step hpV (gr_refl _ _) (i + 1) _ (by omega) V2 hV2
      have hC : C2 X pA pc L w.heap.size w ps v true (i + 1) false (.slice none 0 0) (.slice none 0 0) (.slice none 0 0) (.slice none 0 0) [] [] V2 :=
        ⟨hpV2, gr_blk gV2 hbV (fun e => by have := Option.some.inj e; omega), World.ownsRow_nil _ _ _ _, World.ownsRow_nil _ _ _ _, (fun k hk => by cases hk), gr_trans gXV gV2, hX, by omega, hvk⟩
      rw [hx]
      have hpc : pClass n (L.drop i) = pItems n true [] (L.drop (i + 1)) := by rw [ht, hd1]; simp [pClass]
      replace hC := Lib.hid hC
      replace hpc := Lib.hid hpc
      replace hpV := Lib.hid hpV
      replace hpV2 := Lib.hid hpV2
      replace gXV := Lib.hid gXV
      replace gV2 := Lib.hid gV2
      replace hbV := Lib.hid hbV
      clear hx ht hd1
      go_upto_region 4 with fail
      rw [← hV1]
      replace hV1 := Lib.hid hV1
      clear k3 f3 kf kc
      go_wp2
      rw [← hV2]
      go_meet
      exact ⟨true, i + 1, by omega, by omega, hC, hpc⟩
    · have hx : (nxR (L.drop i) == 94) = false := eqF (fun e => by
        cases hd : L.drop i with
        | nil => rw [hd] at e; simp [nxR] at e
        | cons c t => rw [hd] at e; exact hc ⟨t, by rw [hd, show c = 94 from e]⟩)
      have hC : C2 X pA pc L w.heap.size w ps v false i false (.slice none 0 0) (.slice none 0 0) (.slice none 0 0) (.slice none 0 0) [] [] W2 :=
        ⟨h2, hb2, World.ownsRow_nil _ _ _ _, World.ownsRow_nil _ _ _ _, (fun k hk => by cases hk), gX2, hX, by omega, hvk⟩
      obtain ⟨n', rfl⟩ : ∃ n', n = n' + 1 := ⟨n - 1, by omega⟩
      have hpc : pClass (n' + 1) (L.drop i) = pItems (n' + 1) false [] (L.drop i) := by
        cases hd : L.drop i with
        | nil => rfl
        | cons c t =>
          have hc94 : c ≠ 94 := fun e => hc ⟨t, by rw [hd, e]⟩
          simp [pClass, hc94]
      replace hC := Lib.hid hC
      replace hpc := Lib.hid hpc
      go_wp2
      go_meet
      exact ⟨false, i, by omega, by omega, hC, hpc⟩
  case rest =>
  obtain ⟨neg, i2, hi2, hi2L, hC0, hpc⟩ := hcut
  clear k3 f3 kf kc hb2 h2 gX2 g2
  go_upto_block 0 with fail
  go_cut [] (fun wx => ∃ (its : List (Int × Int)) (N : Nat) (lA : Option Addr) (lc : Nat) (hA : Option Addr) (hc j : Nat) (bad : Bool), Hid (ClsEnd X pA pc L w.heap.size w ps v neg n (L.drop i) j N bad lA hA lc hc its wx) ∧ i ≤ j ∧ j ≤ L.length + 1)
  case first =>
    go_wp2_with fail
    go_loopw [] (fun wr => ∃ (its : List (Int × Int)) (N : Nat) (lA : Option Addr) (lc : Nat) (hA : Option Addr) (hc j m : Nat) (bad : Bool), Hid (ClsInv X pA pc L w.heap.size w ps v neg n (L.drop i) j N bad lA hA lc hc m its wr) ∧ i ≤ j ∧ j ≤ L.length + 1 ∧ N ≤ j) (fun wr => L.length + 2 - rpMeas X wr)
    case atStart => exact ⟨[], 0, none, 0, none, 0, i2, n, false, Lib.hid ⟨hC0.out, rfl, .inl ⟨rfl, hi2L, by omega, hpc.out⟩⟩, hi2, by omega, Nat.zero_le _⟩
    case round =>
      obtain ⟨its, N, lA, lc, hA, hc, j, m, bad, hI, hij, hjL, hNj⟩ := hrel
      obtain ⟨hC, hN, hor⟩ := hI.out
      obtain ⟨-, -, k3, k4, -, f3, f4⟩ := rp_cells hC.pt
      obtain ⟨c2, c3, cf2, cf3⟩ := c2_cells hC
      clear hI
      rcases hor with ⟨rfl, hjL2, hm, hp⟩ | ⟨rfl, hp⟩
      rotate_left
      · have hE : ClsEnd X pA pc L w.heap.size w ps v neg n (L.drop i) j N true lA hA lc hc its wr := ⟨hC, hN, .inr ⟨rfl, hp⟩⟩
        replace hE := Lib.hid hE
        replace hC := Lib.hid hC
        replace hp := Lib.hid hp
        replace hN := Lib.hid hN
        go_wp2
        go_meet
        exact ⟨its, N, lA, lc, hA, hc, j, true, hE, by omega, by omega⟩
      · obtain ⟨m', rfl⟩ : ∃ m', m = m' + 1 := ⟨m - 1, by omega⟩
        rw [pItems_eq] at hp
        have cN5 := rnext_any X pA pc L ps v j false wr hC.pt (by omega)
        have hmeas := rp_meas hC.pt
        cases hdj : L.drop j with
        | nil =>
          rw [hdj] at cN5 hp
          have hjn := drop_nilL hdj
          replace hp : pClass n (L.drop i) = none := hp
          have hnx93 : ((-1 : Int) != 93) = true := by decide
          replace cN5 := Lib.hid cN5
          replace hp := Lib.hid hp
          have kk2 := fun W (g : Gr wr W) => gr_cell g c2
          go_wp2_with fail
          refine cN5.out.mono ?_
          rintro e w5 ⟨rfl, g5⟩
          simp only [nxR]
          have c2 := kk2 _ g5
          have hC5 := c2_gr hC g5
          have cQ := fun (p : Grown w5) => rnext_any X pA pc L ps v j false p.wd (rp_gr hC5.pt p.gr) (by omega)
          rw [hdj] at cQ
          simp only [nxR] at cQ
          have q3 := cell_to (rp_cells hC5.pt).2.2.1
          have q2 := cell_to (rp_cells hC5.pt).2.1
          have hge : ((L.length : Int) ≤ (j : Int)) = True := eq_true (by omega)
          obtain ⟨nL, hnL⟩ : ∃ nL, nL = L.length := ⟨_, rfl⟩
          rw [← hnL] at q2 hge
          replace cQ := Lib.hid cQ
          replace hC5 := Lib.hid hC5
          replace hC := Lib.hid hC
          replace hN := Lib.hid hN
          replace hnL := Lib.hid hnL
          clear hdj
          go_upto_region 6 with fail
          refine wp_region_quiet_gr (by kernel_rfl) (by kernel_rfl) ?_
          repeat (go_big_quiet_step ((go_at_call 138; exact calls_gr (cQ.out _))))
          refine wpQuiet_nil ?_
          intro wP hw2
          have gP : Gr w5 wP := by
            obtain ⟨p, hp⟩ := hw2
            rw [hp]
            exact p.gr
          clear hw2
          have hC6 := c2_gr hC5.out gP
          obtain ⟨-, -, -, q4, -, -, qf4⟩ := rp_cells hC6.pt
          have hbd := c2_bad hC6 true
          replace hC6 := Lib.hid hC6
          replace hbd := Lib.hid hbd
          go_wp2
          go_meet
          exact ⟨its, N, lA, lc, hA, hc, j, true, Lib.hid ⟨hbd.out, hN.out, .inr ⟨rfl, hp.out⟩⟩, by omega, by omega⟩
        | cons c t =>
          obtain ⟨hjlt, hd1, hlen, _⟩ := drop_cons hdj
          by_cases h93 : c = 93
          · subst h93
            rw [hdj] at cN5 hp
            simp only [if_true] at hp
            by_cases hits : its = []
            · rw [if_pos hits] at hp
              obtain rfl : N = 0 := by rw [hN, hits]; rfl
              replace hits := Lib.hid hits
              replace hN := Lib.hid hN
              have hnx93 : ((93 : Int) != 93) = false := by decide
              replace cN5 := Lib.hid cN5
              replace hp := Lib.hid hp
              have kk2 := fun W (g : Gr wr W) => gr_cell g c2
              go_wp2_with fail
              refine cN5.out.mono ?_
              rintro e w5 ⟨rfl, g5⟩
              simp only [nxR]
              have c2 := kk2 _ g5
              have hC5 := c2_gr hC g5
              have cQ := fun (p : Grown w5) => rnext_any X pA pc L ps v j false p.wd (rp_gr hC5.pt p.gr) (by omega)
              rw [hdj] at cQ
              simp only [nxR] at cQ
              have q3 := cell_to (rp_cells hC5.pt).2.2.1
              have q2 := cell_to (rp_cells hC5.pt).2.1
              have hge : ((L.length : Int) ≤ (j : Int)) = False := eq_false (by omega)
              obtain ⟨nL, hnL⟩ : ∃ nL, nL = L.length := ⟨_, rfl⟩
              rw [← hnL] at q2 hge
              replace cQ := Lib.hid cQ
              replace hC5 := Lib.hid hC5
              replace hC := Lib.hid hC
              replace hnL := Lib.hid hnL
              clear hdj
              go_upto_region 6 with fail
              refine wp_region_quiet_gr (by kernel_rfl) (by kernel_rfl) ?_
              repeat (go_big_quiet_step ((go_at_call 138; exact calls_gr (cQ.out _))))
              refine wpQuiet_nil ?_
              intro wP hw2
              have gP : Gr w5 wP := by
                obtain ⟨p, hp⟩ := hw2
                rw [hp]
                exact p.gr
              clear hw2
              have hC6 := c2_gr hC5.out gP
              obtain ⟨-, -, -, q4, -, -, qf4⟩ := rp_cells hC6.pt
              have hbd := c2_bad hC6 true
              replace hC6 := Lib.hid hC6
              replace hbd := Lib.hid hbd
              go_wp2
              go_meet
              exact ⟨its, 0, lA, lc, hA, hc, j, true, Lib.hid ⟨hbd.out, hN.out, .inr ⟨rfl, hp.out⟩⟩, by omega, by omega⟩
            · rw [if_neg hits] at hp
              have hNe : N ≠ 0 := fun e => hits (List.eq_nil_of_length_eq_zero (by omega))
              have hNf : ((N : Int) == 0) = false := eqF (by omega)
              have hE : ∀ W, Gr wr W → ClsEnd X pA pc L w.heap.size w ps v neg n (L.drop i) j N false lA hA lc hc its W := fun W g => ⟨c2_gr hC g, hN, .inl ⟨rfl, t, hdj, hp⟩⟩
              have kk2 := fun W (g : Gr wr W) => gr_cell g c2
              replace cN5 := Lib.hid cN5
              replace hE := Lib.hid hE
              replace hC := Lib.hid hC
              replace hN := Lib.hid hN
              clear hp hdj
              go_wp2_with fail
              refine cN5.out.mono ?_
              rintro e w5 ⟨rfl, g5⟩
              simp only [nxR]
              have c2 := kk2 _ g5
              have hE5 := Lib.hid (hE.out _ g5)
              go_wp2
              go_meet
              exact ⟨its, N, lA, lc, hA, hc, j, false, hE5, by omega, by omega⟩
          · have h93b : (c != 93) = true := by simp [h93]
            have h93e : (c == 93) = false := eqF h93
            rw [hdj] at cN5 hp
            simp only [h93, if_false] at hp
            replace cN5 := Lib.hid cN5
            replace hp := Lib.hid hp
            go_wp2_with fail
            refine cN5.out.mono ?_
            rintro e w5 ⟨rfl, g5⟩
            simp only [nxR]
            have hC5 := c2_gr hC g5
            have cQ := fun (p : Grown w5) => rnext_any X pA pc L ps v j false p.wd (rp_gr hC5.pt p.gr) (by omega)
            rw [hdj] at cQ
            simp only [nxR] at cQ
            have q3 := cell_to (rp_cells hC5.pt).2.2.1
            have q2 := cell_to (rp_cells hC5.pt).2.1
            have hge : ((L.length : Int) ≤ (j : Int)) = False := eq_false (by omega)
            obtain ⟨nL, hnL⟩ : ∃ nL, nL = L.length := ⟨_, rfl⟩
            rw [← hnL] at q2 hge
            replace cQ := Lib.hid cQ
            replace hC5 := Lib.hid hC5
            replace hC := Lib.hid hC
            replace hN := Lib.hid hN
            replace hnL := Lib.hid hnL
            replace hdj := Lib.hid hdj
            clear k3 k4 f3 f4 c2 c3 cf2 cf3 g5
            go_upto_region 6 with fail
            refine wp_region_quiet_gr (by kernel_rfl) (by kernel_rfl) ?_
            repeat (go_big_quiet_step ((go_at_call 138; exact calls_gr (cQ.out _))))
            refine wpQuiet_nil ?_
            intro wP hw2
            have gP : Gr w5 wP := by
              obtain ⟨p, hp⟩ := hw2
              rw [hp]
              exact p.gr
            clear hw2
            have hC6 := c2_gr hC5.out gP
            have cI := ritem_any X pA pc L ps v j c t wP hC6.pt (by omega) hdj.out
            replace cI := Lib.hid cI
            replace hC6 := Lib.hid hC6
            clear q2 q3 cQ gP hge
            go_wp2_with fail
            refine cI.out.mono ?_
            rintro e w7 ⟨a, j1, bad1, rfl, hp7, g7, hj1, hj1b, hm⟩
            have hC7 := c2_x hC6.out hp7 g7
            clear cI hp7 g7
            replace hC6 := Lib.hid hC7
            go_upto_region 10 with fail
            go_cut [84] from 55 to 84 (fun s84 wx => ∃ q : Bool, s84 = .bool q ∧ Hid (Gr w7 wx) ∧ Hid ((q = true ∧ bad1 = false ∧ ∃ d t2, L.drop j1 = 45 :: d :: t2 ∧ d ≠ 93) ∨ (q = false ∧ (bad1 = false → pTo a (L.drop j1) = some (a, L.drop j1)))))
            case first =>
              replace hm := Lib.hid hm
              cases hdr : L.drop j1 with
              | nil =>
                have hto : pTo a ([] : Rs) = some (a, []) := rfl
                replace hto := Lib.hid hto
                have hx45 : ((-1 : Int) == 45) = false := rfl
                have cQ := fun (p : Grown w7) => rnext_any X pA pc L ps v j1 bad1 p.wd (rp_gr hC7.pt p.gr) (by omega)
                rw [hdr] at cQ
                simp only [nxR] at cQ

                replace cQ := Lib.hid cQ
                replace hdr := Lib.hid hdr
                replace hC7 := Lib.hid hC7
                refine wp_region_quiet_gr (by kernel_rfl) (by kernel_rfl) ?_
                repeat (go_big_quiet_step ((go_at_call 138; exact calls_gr (cQ.out _))))
                refine wpQuiet_nil ?_
                intro wP hw2
                have gP : Gr w7 wP := by
                  obtain ⟨p, hp⟩ := hw2
                  rw [hp]
                  exact p.gr
                clear hw2
                go_wp2
                go_meet
                exact ⟨false, rfl, Lib.hid gP, Lib.hid (.inr ⟨rfl, fun _ => by rw [hdr.out]; exact hto.out⟩)⟩
              | cons x s =>
                obtain ⟨hj1lt, hdd, hdl, _⟩ := drop_cons hdr
                have hb1 : bad1 = false := by
                  rcases hm.out with ⟨e, _⟩ | ⟨_, e, _⟩
                  · exact e
                  · omega
                replace hb1 := Lib.hid hb1
                by_cases hx : x = 45
                · subst hx
                  cases s with
                  | nil =>
                    simp only [List.length_nil] at hdl
                    have hto : pTo a ([45] : Rs) = some (a, [45]) := rfl
                    replace hto := Lib.hid hto
                    have cQ := fun (p : Grown w7) => rnext_any X pA pc L ps v j1 bad1 p.wd (rp_gr hC7.pt p.gr) (by omega)
                    rw [hdr] at cQ
                    simp only [nxR] at cQ
                    have q3 := cell_to (rp_cells hC7.pt).2.2.1
                    have q2 := cell_to (rp_cells hC7.pt).2.1
                    have hw10 : IntKind.i64.wrap ((j1 : Int) + 1) = (j1 : Int) + 1 := IntWalk.i64_in _ (by omega)
                    obtain ⟨nL, hnL⟩ : ∃ nL, nL = L.length := ⟨_, rfl⟩
                    rw [← hnL] at q2
                    have hlt10 : ((j1 : Int) + 1 < (nL : Int)) = False := eq_false (by omega)
                    replace hnL := Lib.hid hnL
                    replace cQ := Lib.hid cQ
                    replace hdr := Lib.hid hdr
                    replace hC7 := Lib.hid hC7
                    refine wp_region_quiet_gr (by kernel_rfl) (by kernel_rfl) ?_
                    repeat (go_big_quiet_step ((go_at_call 138; exact calls_gr (cQ.out _))))
                    refine wpQuiet_nil ?_
                    intro wP hw2
                    have gP : Gr w7 wP := by
                      obtain ⟨p, hp⟩ := hw2
                      rw [hp]
                      exact p.gr
                    clear hw2
                    go_wp2
                    go_meet
                    exact ⟨false, rfl, Lib.hid gP, Lib.hid (.inr ⟨rfl, fun _ => by rw [hdr.out]; exact hto.out⟩)⟩
                  | cons d t2 =>
                    obtain ⟨hj2lt, hd2, hdl2, _⟩ := drop_cons hdd
                    by_cases hd : d = 93
                    · subst hd
                      have hto : pTo a (45 :: 93 :: t2) = some (a, 45 :: 93 :: t2) := by simp [pTo]
                      replace hto := Lib.hid hto
                      have cQ := fun (p : Grown w7) => rnext_any X pA pc L ps v j1 bad1 p.wd (rp_gr hC7.pt p.gr) (by omega)
                      rw [hdr] at cQ
                      simp only [nxR] at cQ
                      have q3 := cell_to (rp_cells hC7.pt).2.2.1
                      have q2 := cell_to (rp_cells hC7.pt).2.1
                      have hw10 : IntKind.i64.wrap ((j1 : Int) + 1) = (j1 : Int) + 1 := IntWalk.i64_in _ (by omega)
                      obtain ⟨nL, hnL⟩ : ∃ nL, nL = L.length := ⟨_, rfl⟩
                      rw [← hnL] at q2
                      obtain ⟨d', B, o, hd', hpA, hcd⟩ := row_elem hC7.pt.row (k := j1 + 1) (by omega)
                      obtain rfl : 93 = d' := by
                        have e1 := (drop_cons hdd).2.2.2
                        rw [e1] at hd'
                        exact Option.some.inj hd'
                      obtain ⟨J1, hJ1⟩ : ∃ J1, J1 = j1 + 1 := ⟨_, rfl⟩
                      have hJI : (j1 : Int) + 1 = (J1 : Int) := by omega
                      have q5 := cell_to hcd
                      rw [← hJ1] at q5
                      rw [hpA] at q2
                      replace hw10 : IntKind.i64.wrap ((j1 : Int) + 1) = (J1 : Int) := hw10.trans hJI
                      have hlt10 : (J1 : Int) < (nL : Int) := by omega
                      have hJ0 : (0 : Int) ≤ (J1 : Int) := by omega
                      replace hpA := Lib.hid hpA
                      replace hJI := Lib.hid hJI
                      replace hJ1 := Lib.hid hJ1
                      replace hnL := Lib.hid hnL
                      clear hd' hcd
                      replace cQ := Lib.hid cQ
                      replace hdr := Lib.hid hdr
                      replace hC7 := Lib.hid hC7
                      refine wp_region_quiet_gr (by kernel_rfl) (by kernel_rfl) ?_
                      repeat (go_big_quiet_step ((go_at_call 138; exact calls_gr (cQ.out _))))
                      refine wpQuiet_nil ?_
                      intro wP hw2
                      have gP : Gr w7 wP := by
                        obtain ⟨p, hp⟩ := hw2
                        rw [hp]
                        exact p.gr
                      clear hw2
                      go_wp2
                      go_meet
                      exact ⟨false, rfl, Lib.hid gP, Lib.hid (.inr ⟨rfl, fun _ => by rw [hdr.out]; exact hto.out⟩)⟩
                    · have hdb : (d != 93) = true := by simp [hd]
                      have cQ := fun (p : Grown w7) => rnext_any X pA pc L ps v j1 bad1 p.wd (rp_gr hC7.pt p.gr) (by omega)
                      rw [hdr] at cQ
                      simp only [nxR] at cQ
                      have q3 := cell_to (rp_cells hC7.pt).2.2.1
                      have q2 := cell_to (rp_cells hC7.pt).2.1
                      have hw10 : IntKind.i64.wrap ((j1 : Int) + 1) = (j1 : Int) + 1 := IntWalk.i64_in _ (by omega)
                      obtain ⟨nL, hnL⟩ : ∃ nL, nL = L.length := ⟨_, rfl⟩
                      rw [← hnL] at q2
                      obtain ⟨d', B, o, hd', hpA, hcd⟩ := row_elem hC7.pt.row (k := j1 + 1) (by omega)
                      obtain rfl : d = d' := by
                        have e1 := (drop_cons hdd).2.2.2
                        rw [e1] at hd'
                        exact Option.some.inj hd'
                      obtain ⟨J1, hJ1⟩ : ∃ J1, J1 = j1 + 1 := ⟨_, rfl⟩
                      have hJI : (j1 : Int) + 1 = (J1 : Int) := by omega
                      have q5 := cell_to hcd
                      rw [← hJ1] at q5
                      rw [hpA] at q2
                      replace hw10 : IntKind.i64.wrap ((j1 : Int) + 1) = (J1 : Int) := hw10.trans hJI
                      have hlt10 : (J1 : Int) < (nL : Int) := by omega
                      have hJ0 : (0 : Int) ≤ (J1 : Int) := by omega
                      replace hpA := Lib.hid hpA
                      replace hJI := Lib.hid hJI
                      replace hJ1 := Lib.hid hJ1
                      replace hnL := Lib.hid hnL
                      clear hd' hcd
                      replace cQ := Lib.hid cQ
                      replace hdr := Lib.hid hdr
                      replace hC7 := Lib.hid hC7
                      refine wp_region_quiet_gr (by kernel_rfl) (by kernel_rfl) ?_
                      repeat (go_big_quiet_step ((go_at_call 138; exact calls_gr (cQ.out _))))
                      refine wpQuiet_nil ?_
                      intro wP hw2
                      have gP : Gr w7 wP := by
                        obtain ⟨p, hp⟩ := hw2
                        rw [hp]
                        exact p.gr
                      clear hw2
                      go_wp2
                      go_meet
                      exact ⟨true, rfl, Lib.hid gP, Lib.hid (.inl ⟨rfl, hb1.out, d, t2, hdr.out, hd⟩)⟩
                · have hx45 : (x == 45) = false := eqF hx
                  have hto : pTo a (x :: s) = some (a, x :: s) := by cases s <;> simp [pTo, hx]
                  replace hto := Lib.hid hto
                  have cQ := fun (p : Grown w7) => rnext_any X pA pc L ps v j1 bad1 p.wd (rp_gr hC7.pt p.gr) (by omega)
                  rw [hdr] at cQ
                  simp only [nxR] at cQ

                  replace cQ := Lib.hid cQ
                  replace hdr := Lib.hid hdr
                  replace hC7 := Lib.hid hC7
                  refine wp_region_quiet_gr (by kernel_rfl) (by kernel_rfl) ?_
                  repeat (go_big_quiet_step ((go_at_call 138; exact calls_gr (cQ.out _))))
                  refine wpQuiet_nil ?_
                  intro wP hw2
                  have gP : Gr w7 wP := by
                    obtain ⟨p, hp⟩ := hw2
                    rw [hp]
                    exact p.gr
                  clear hw2
                  go_wp2
                  go_meet
                  exact ⟨false, rfl, Lib.hid gP, Lib.hid (.inr ⟨rfl, fun _ => by rw [hdr.out]; exact hto.out⟩)⟩
            case rest =>
            obtain ⟨q, rfl, gP, hq⟩ := hcut
            have hC9 := c2_gr hC7 gP.out
            clear gP
            go_upto_if 84 with fail
            go_cut [5] from 85 to 93 (fun s5 wx => ∃ (b : Int) (j2 : Nat) (bad2 : Bool), s5 = .int .i32 b ∧ j < j2 ∧ j2 ≤ L.length + 1 ∧ Hid (C2 X pA pc L w.heap.size w ps v neg j2 bad2 (.slice lA N lc) (.slice hA N hc) (.slice lA N lc) (.slice hA N hc) (its.map Prod.fst) (its.map Prod.snd) wx) ∧ Hid ((bad2 = false ∧ j2 ≤ L.length ∧ pClass n (L.drop i) = if a ≤ b then pItems m' neg (its ++ [(a, b)]) (L.drop j2) else none) ∨ (bad2 = true ∧ pClass n (L.drop i) = none)))
            case first =>
              rcases hq.out with ⟨rfl, rfl, d, t2, hdr, hd⟩ | ⟨rfl, hto⟩
              · have hms : j1 ≤ L.length ∧ pMember (c :: t) = some (a, L.drop j1) := by
                  rcases hm with ⟨_, e⟩ | ⟨e, _⟩
                  · exact e
                  · cases e
                obtain ⟨hj1lt, hdd, hdl, _⟩ := drop_cons hdr
                have hto : pTo a (L.drop j1) = pMember (d :: t2) := by rw [hdr]; simp [pTo, hd]
                have hp1 := hp.out
                rw [hms.2] at hp1
                simp only at hp1
                rw [hto] at hp1
                have hw10 : IntKind.i64.wrap ((j1 : Int) + 1) = (j1 : Int) + 1 := IntWalk.i64_in _ (by omega)
                obtain ⟨-, -, q3, -, -, qf3, -⟩ := rp_cells hC9.pt
                obtain ⟨W8, hW8⟩ : ∃ W8, W8 = wc.setCell ⟨X, 3, none⟩ (.int .i64 ((j1 : Int) + 1)) := ⟨_, rfl⟩
                obtain ⟨hp8, g8⟩ := rp_step hC9.pt (gr_refl _ _) (j1 + 1) ((j1 : Int) + 1) (by omega) W8 hW8
                have hC8 := c2_x hC9 hp8 g8
                have cI2 := ritem_any X pA pc L ps v (j1 + 1) d t2 W8 hp8 (by omega) hdd
                replace cI2 := Lib.hid cI2
                replace hC8 := Lib.hid hC8
                replace hC9 := Lib.hid hC9
                replace hp1 := Lib.hid hp1
                replace hto := Lib.hid hto
                replace hdr := Lib.hid hdr
                replace hdd := Lib.hid hdd
                simp only [List.length_cons] at hdl
                clear hp8 g8 hms hm hq
                go_upto_region 12 with fail
                rw [← hW8]
                clear hW8 q3 qf3
                go_wp2_with fail
                refine cI2.out.mono ?_
                rintro e w9 ⟨b, j2, bad2, rfl, hp9, g9, hj2, hj2b, hm2⟩
                have hCa := c2_x hC8.out hp9 g9
                clear cI2 hp9 g9
                go_wp2
                go_meet
                refine ⟨b, j2, bad2, rfl, by omega, by omega, Lib.hid hCa, Lib.hid ?_⟩
                have hpn := hp1.out
                rcases hm2 with ⟨e1, e2, e3⟩ | ⟨e1, _, e3⟩
                · rw [e3] at hpn
                  exact .inl ⟨e1, e2, hpn⟩
                · rw [e3] at hpn
                  exact .inr ⟨e1, hpn⟩
              · replace hC9 := Lib.hid hC9
                replace hto := Lib.hid hto
                go_wp2
                go_meet
                refine ⟨a, j1, bad1, rfl, by omega, by omega, hC9, Lib.hid ?_⟩
                have hpn := hp.out
                rcases hm with ⟨e1, e2, e3⟩ | ⟨e1, _, e3⟩
                · rw [e3] at hpn
                  simp only at hpn
                  rw [hto.out e1] at hpn
                  exact .inl ⟨e1, e2, hpn⟩
                · rw [e3] at hpn
                  exact .inr ⟨e1, hpn⟩
            case rest =>
            obtain ⟨b, j2, bad2, rfl, hj2, hj2L, hCb, hor2⟩ := hcut
            clear hC9 hC7 hC6 hq hm
            obtain ⟨-, -, -, q4, -, -, qf4⟩ := rp_cells hCb.out.pt
            go_upto_region 13 with fail
            go_cut [] from 94 to 105 (fun wx => ∃ bad2 : Bool, Hid (C2 X pA pc L w.heap.size w ps v neg j2 bad2 (.slice lA N lc) (.slice hA N hc) (.slice lA N lc) (.slice hA N hc) (its.map Prod.fst) (its.map Prod.snd) wx) ∧ Hid ((bad2 = false ∧ j2 ≤ L.length ∧ pClass n (L.drop i) = pItems m' neg (its ++ [(a, b)]) (L.drop j2)) ∨ (bad2 = true ∧ pClass n (L.drop i) = none)))
            case first =>
              rcases hor2.out with ⟨rfl, e2, e3⟩ | ⟨rfl, e3⟩
              · by_cases hab : a ≤ b
                · rw [if_pos hab] at e3
                  have hg : (b < a) = False := eq_false (by omega)
                  replace e3 := Lib.hid e3
                  have hbd := c2_bad hCb.out false
                  replace hbd := Lib.hid hbd
                  go_wp2
                  go_meet
                  exact ⟨false, hbd, Lib.hid (.inl ⟨rfl, e2, e3.out⟩)⟩
                · rw [if_neg hab] at e3
                  have hg : b < a := by omega
                  replace e3 := Lib.hid e3
                  have hbd := c2_bad hCb.out true
                  replace hbd := Lib.hid hbd
                  go_wp2
                  go_meet
                  exact ⟨true, hbd, Lib.hid (.inr ⟨rfl, e3.out⟩)⟩
              · replace e3 := Lib.hid e3
                have hbd := c2_bad hCb.out true
                replace hbd := Lib.hid hbd
                go_wp2
                go_meet
                exact ⟨true, hbd, Lib.hid (.inr ⟨rfl, e3.out⟩)⟩
            case rest =>
            obtain ⟨bad3, hCc, hor3c⟩ := hcut
            have hor3 := hor3c
            clear q4 qf4 hCb hor2
            obtain ⟨ii, hii, hz0, hz1, hz2⟩ := info_parts infoI32
            have hCw := hCc.out
            have hKs := c2_lt hCw
            obtain ⟨k2c, k3c, kf2c, kf3c⟩ := c2_cells hCw
            have hlen1 : (its.map Prod.fst).length = N := by rw [List.length_map, hN.out]
            have hlen2 : (its.map Prod.snd).length = N := by rw [List.length_map, hN.out]
            have grA0 : Gr wc wc.drew := gr_drew _ _
            have kkA0 := c2_cells (c2_gr hCw grA0)
            have k2A0 := kkA0.1
            have k3A0 := kkA0.2.1
            clear kkA0
            have grA2 : Gr wc (wc.drew.alloc (.cells #[.int .i32 b] 21)) := gr_trans (gr_drew _ _) (gr_alloc _ _ _)
            have kkA2 := c2_cells (c2_gr hCw grA2)
            have k2A2 := kkA2.1
            have k3A2 := kkA2.2.1
            clear kkA2
            have grA1 : Gr wc (wc.drew.alloc (.cells #[.int .i32 a] 21)) := gr_trans (gr_drew _ _) (gr_alloc _ _ _)
            have kkA1 := c2_cells (c2_gr hCw grA1)
            have k2A1 := kkA1.1
            have k3A1 := kkA1.2.1
            clear kkA1
            have grA12 : Gr wc ((wc.drew.alloc (.cells #[.int .i32 a] 21)).alloc (.cells #[.int .i32 b] 21)) := gr_trans (gr_trans (gr_drew _ _) (gr_alloc _ _ _)) (gr_alloc _ _ _)
            have kkA12 := c2_cells (c2_gr hCw grA12)
            have k2A12 := kkA12.1
            have k3A12 := kkA12.2.1
            clear kkA12
            have grA21 : Gr wc ((wc.drew.alloc (.cells #[.int .i32 b] 21)).alloc (.cells #[.int .i32 a] 21)) := gr_trans (gr_trans (gr_drew _ _) (gr_alloc _ _ _)) (gr_alloc _ _ _)
            have kkA21 := c2_cells (c2_gr hCw grA21)
            have k2A21 := kkA21.1
            have k3A21 := kkA21.2.1
            clear kkA21
            have oA1 := (c2_gr hCw grA1).ol
            rw [hlen1] at oA1
            have bA1 : w.heap.size + 1 ≤ (wc.drew.alloc (.cells #[.int .i32 a] 21)).heap.size := Nat.lt_of_lt_of_le hKs grA1.size
            have oA12 := (c2_gr hCw grA12).ol
            rw [hlen1] at oA12
            have bA12 : w.heap.size + 1 ≤ ((wc.drew.alloc (.cells #[.int .i32 a] 21)).alloc (.cells #[.int .i32 b] 21)).heap.size := Nat.lt_of_lt_of_le hKs grA12.size
            have oA21 := (c2_gr hCw grA21).ol
            rw [hlen1] at oA21
            have bA21 : w.heap.size + 1 ≤ ((wc.drew.alloc (.cells #[.int .i32 b] 21)).alloc (.cells #[.int .i32 a] 21)).heap.size := Nat.lt_of_lt_of_le hKs grA21.size
            have nA1 := lone_new wc.drew (.int .i32 a) 21
            have nA12 := fun j u hj => gr_cell (gr_alloc (wc.drew.alloc (.cells #[.int .i32 a] 21)) (.cells #[.int .i32 b] 21) none) (nA1 j u hj)
            have nA21 := lone_new (wc.drew.alloc (.cells #[.int .i32 b] 21)) (.int .i32 a) 21
            have mA21 := fun j u hj => gr_cell (gr_alloc (wc.drew.alloc (.cells #[.int .i32 b] 21)) (.cells #[.int .i32 a] 21) none) (lone_new wc.drew (.int .i32 b) 21 j u hj)
            have mA12 := lone_new (wc.drew.alloc (.cells #[.int .i32 a] 21)) (.int .i32 b) 21
            have e12 : (wc.drew.alloc (.cells #[.int .i32 a] 21)).heap.size = wc.heap.size + 1 := by simp
            have e21 : (wc.drew.alloc (.cells #[.int .i32 b] 21)).heap.size = wc.heap.size + 1 := by simp
            rw [e12] at mA12
            rw [e21] at nA21
            clear e12 e21
            have ltl : ∀ k, (Value.slice lA N lc).ownBlock = some k → k < wc.heap.size := fun k hk => (hCw.ol.lt k hk).2
            replace hlen1 := Lib.hid hlen1
            replace hlen2 := Lib.hid hlen2
            replace hCw := Lib.hid hCw
            replace grA0 := Lib.hid grA0
            replace grA2 := Lib.hid grA2
            replace grA1 := Lib.hid grA1
            replace grA12 := Lib.hid grA12
            replace grA21 := Lib.hid grA21
            replace oA1 := Lib.hid oA1
            replace bA1 := Lib.hid bA1
            replace oA12 := Lib.hid oA12
            replace bA12 := Lib.hid bA12
            replace oA21 := Lib.hid oA21
            replace bA21 := Lib.hid bA21
            replace nA1 := Lib.hid nA1
            replace nA12 := Lib.hid nA12
            replace nA21 := Lib.hid nA21
            replace mA21 := Lib.hid mA21
            replace mA12 := Lib.hid mA12
            replace ltl := Lib.hid ltl
            clear hor3 hC hC0 hpc h h1 cN hW1 hb1 g1
            go_upto_region 14 with fail
            replace hmeas := Lib.hid hmeas
            refine wp_then ?_
            intro KK hKK
            go_cut [] from 106 to 117 (fun wx => ∃ (lA2 : Option Addr) (lc2 : Nat) (hA2 : Option Addr) (hc2 : Nat), Hid (C2 X pA pc L w.heap.size w ps v neg j2 bad3 (.slice lA2 (N + 1) lc2) (.slice hA2 (N + 1) hc2) (.slice lA2 (N + 1) lc2) (.slice hA2 (N + 1) hc2) (its.map Prod.fst ++ [a]) (its.map Prod.snd ++ [b]) wx))
            case first =>
              go_region_law (first
                | (refine step_append_strong (o := ⟨some 110, _, _, _, _, _⟩) (by rfl) _ _ 123 (by rfl) (w.heap.size + 1) 21 ii (.int .i32 0) 1 4 Tryz.underlying123 hii hz0 hz1 hz2 (by decide) (by decide) (.slice lA N lc) N (r32 (its.map Prod.fst)) (by rfl) (by first | exact oA1.out | exact oA12.out | exact oA21.out) _ 1 1 [.int .i32 a] (by rfl) (by rfl) (by first | exact nA1.out | exact nA12.out | exact nA21.out) (lone_ones a) (by omega) (N + 1) (by rfl) (by unfold maxLen; omega) (by omega) (by first | exact bA1.out | exact bA12.out | exact bA21.out) ?_
                   intro g cap W7 hown7 hat7
                   have hC7 := c2_lo (x := a) (c2_gr hCw.out (by first | exact grA1.out | exact grA12.out | exact grA21.out)) (by rw [hlen1.out]) hown7 hat7
                   try (have hnb := app_news (xs := [.int .i32 b]) hat7 ltl.out (by first | exact mA21.out | exact mA12.out) (by first | exact Nat.le_refl _ | omega); replace hnb := Lib.hid hnb)
                   have k3W7 := (c2_cells hC7).2.1
                   have k3W7a := gr_cell (gr_alloc W7 (.cells #[.int .i32 b] 21) none) k3W7
                   have oW7 := hC7.oh
                   have oW7a := (c2_gr hC7 (gr_alloc W7 (.cells #[.int .i32 b] 21) none)).oh
                   rw [hlen2.out] at oW7 oW7a
                   have bW7 : w.heap.size + 1 ≤ W7.heap.size := c2_lt hC7
                   have nW7 := lone_new W7 (.int .i32 b) 21
                   replace hC7 := Lib.hid hC7
                   replace hown7 := Lib.hid hown7
                   replace hat7 := Lib.hid hat7
                   replace oW7 := Lib.hid oW7
                   replace oW7a := Lib.hid oW7a
                   replace nW7 := Lib.hid nW7
                   replace bW7 := Lib.hid bW7)
                | (refine step_append_strong (o := ⟨some 115, _, _, _, _, _⟩) (by rfl) _ _ 123 (by rfl) (w.heap.size + 1) 21 ii (.int .i32 0) 1 4 Tryz.underlying123 hii hz0 hz1 hz2 (by decide) (by decide) (.slice hA N hc) N (r32 (its.map Prod.snd)) (by rfl) (by first | exact oW7.out | exact oW7a.out) _ 1 1 [.int .i32 b] (by rfl) (by rfl) (by first | exact nW7.out | exact hnb.out) (lone_ones b) (by omega) (N + 1) (by rfl) (by unfold maxLen; omega) (by omega) (by first | exact bW7.out | exact Nat.le_trans bW7.out (gr_alloc W7 (.cells #[.int .i32 b] 21) none).size) ?_
                   intro g2 cap2 W9 hown9 hat9
                   have hC9 := c2_hi (x := b) (c2_gr hC7.out (by first | exact gr_refl _ _ | exact gr_alloc _ _ _)) (by rw [hlen2.out]) hown9 hat9
                   obtain ⟨k2W9, k3W9, f2W9, f3W9⟩ := c2_cells hC9
                   have sb2 := blk_set hC9.blk 2 (.slice (some ⟨g, 0, none⟩) (N + 1) cap)
                   have sb3 := blk_set hC9.blk 3 (.slice (some ⟨g2, 0, none⟩) (N + 1) cap2)
                   have sk3 : (W9.setCell ⟨w.heap.size, 2, none⟩ (.slice (some ⟨g, 0, none⟩) (N + 1) cap)).cell? ⟨w.heap.size, 3, none⟩ = some (.slice hA N hc) := blk_cell sb2 rfl
                   have sf3 := blk_free sb2 3
                   have sk2 : (W9.setCell ⟨w.heap.size, 3, none⟩ (.slice (some ⟨g2, 0, none⟩) (N + 1) cap2)).cell? ⟨w.heap.size, 2, none⟩ = some (.slice lA N lc) := blk_cell sb3 rfl
                   have sf2 := blk_free sb3 2
                   have hset := c2_set hC9 (.slice (some ⟨g, 0, none⟩) (N + 1) cap) (.slice (some ⟨g2, 0, none⟩) (N + 1) cap2)
                   replace hC9 := Lib.hid hC9
                   replace hown9 := Lib.hid hown9
                   replace hat9 := Lib.hid hat9
                   replace hset := Lib.hid hset
                   replace sb2 := Lib.hid sb2
                   replace sb3 := Lib.hid sb3))
              all_goals
                go_wp2
                go_meet
                exact ⟨_, _, _, _, Lib.hid (by first | exact hset.out.1 | exact hset.out.2)⟩
            case rest =>
              obtain ⟨lA2, lc2, hA2, hc2, hCz⟩ := hcut
              refine hKK _ _ ?_
              have hmz := rp_meas hCz.out.pt
              replace hmz := Lib.hid hmz
              go_wp2
              go_roundw
              case rel =>
                refine ⟨its ++ [(a, b)], N + 1, lA2, lc2, hA2, hc2, j2, m', bad3, Lib.hid ⟨?_, by rw [List.length_append, hN.out]; rfl, ?_⟩, by omega, by omega, by omega⟩
                · rw [List.map_append, List.map_append]
                  exact hCz.out
                · rcases hor3c.out with ⟨e1, e2, e3⟩ | ⟨e1, e3⟩
                  · exact .inl ⟨e1, e2, by omega, e3⟩
                  · exact .inr ⟨e1, e3⟩
              case measure => rw [hmz.out, hmeas.out]; omega
  case rest =>
    obtain ⟨its, N, lA, lc, hA, hc, j, bad, hE, hij, hjL⟩ := hcut
    obtain ⟨hC, hN, hor⟩ := hE.out
    obtain ⟨-, -, k3, -, -, f3, -⟩ := rp_cells hC.pt
    have hwr2 : IntKind.i64.wrap ((j : Int) + 1) = (j : Int) + 1 := IntWalk.i64_in _ (by omega)
    obtain ⟨W3, hW3⟩ : ∃ W3, W3 = wc.setCell ⟨X, 3, none⟩ (.int .i64 ((j : Int) + 1)) := ⟨_, rfl⟩
    obtain ⟨hp3, g3⟩ := rp_step hC.pt (gr_refl _ _) (j + 1) _ (by omega) W3 hW3
    have hC3 := c2_x hC hp3 g3
    have b0 : W3.cell? ⟨w.heap.size, 0, none⟩ = some (.int .i64 3) := blk_cell hC3.blk rfl
    have b1 : W3.cell? ⟨w.heap.size, 1, none⟩ = some (.int .i32 0) := blk_cell hC3.blk rfl
    have b2 : W3.cell? ⟨w.heap.size, 2, none⟩ = some (.slice lA N lc) := blk_cell hC3.blk rfl
    have b3 : W3.cell? ⟨w.heap.size, 3, none⟩ = some (.slice hA N hc) := blk_cell hC3.blk rfl
    have b4 : W3.cell? ⟨w.heap.size, 4, none⟩ = some (.bool neg) := blk_cell hC3.blk rfl
    have b5 : W3.cell? ⟨w.heap.size, 5, none⟩ = some (.int .i64 0) := blk_cell hC3.blk rfl
    have b6 : W3.cell? ⟨w.heap.size, 6, none⟩ = some (.int .i64 0) := blk_cell hC3.blk rfl
    have b7 : W3.cell? ⟨w.heap.size, 7, none⟩ = some (.int .i64 0) := blk_cell hC3.blk rfl
    have b8 : W3.cell? ⟨w.heap.size, 8, none⟩ = some (.bool false) := blk_cell hC3.blk rfl
    have cA := radd_any X pA pc L ps v (j + 1) bad ⟨3, 0, lA, N, lc, hA, N, hc, neg, 0, 0, 0, false⟩ W3 (by omega) hp3
    unfold prtV at cA
    simp only at cA
    replace cA := Lib.hid cA
    replace hC := Lib.hid hC
    replace hC3 := Lib.hid hC3
    replace hN := Lib.hid hN
    replace hor := Lib.hid hor
    replace hp3 := Lib.hid hp3
    replace g3 := Lib.hid g3
    clear hE hpc hC0
    go_upto_region 16 with fail
    rw [← hW3]
    clear hW3 k3 f3
    go_wp2_with fail
    refine cA.out.mono ?_
    rintro e w4 ⟨rfl, v', hp4, a4⟩
    go_wp2
    go_ret
    refine ⟨ps.length, _, v', j + 1, bad, rfl, hp4, adv_trans (adv_x v hC3.out.gr) a4, by omega, by omega, by simp only [List.length_cons, List.length_nil]; omega, by simp only [List.length_cons, List.length_nil]; omega, ?_⟩
    rcases hor.out with ⟨rfl, t, hdj, hcl⟩ | ⟨rfl, hcl⟩
    · obtain ⟨hjlt, hd1, _, _⟩ := drop_cons hdj
      refine .inl ⟨rfl, by omega, .one ⟨false, neg, its⟩, by unfold clsO; rw [hcl, hd1], ?_⟩
      have o1 := int_adv hp3.out a4 hC3.out.ol
      have o2 := int_adv hp3.out a4 hC3.out.oh
      rw [List.length_map] at o1 o2
      unfold r32 at o1 o2
      rw [List.map_map] at o1 o2
      exact .cls (new_at ps _) rfl rfl hN.out hN.out (own_mono o1 (Nat.zero_le _)) (own_mono o2 (Nat.zero_le _))
    · exact .inr ⟨rfl, by unfold clsO; rw [hcl]⟩
end Go.Proofs.YtccmekdmnkmhlaaGreat
