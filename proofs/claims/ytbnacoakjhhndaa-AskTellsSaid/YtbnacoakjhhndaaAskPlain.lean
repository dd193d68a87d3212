/-
  request.Right: may a request be? No condition but bounds on the lengths.
-/
import Derived.Test.YtbnacoakjhhndaaAskMath
import Derived.Test.YtbnacoakjhhndaaRowGet
namespace Go.Proofs.Ytbnacoakjhhndaa
open Go.RowKit

/-- A request's value. -/
def aqV (A : Option Addr) (n c : Nat) (q : Aq) : Value := .agg #[.int .i64 q.kind, .slice A n c, .string (txt q.t), .int .i64 q.a, .int .i64 q.b, .int .i64 q.c]
/-- Block b is a request. -/
def AqB (w : World) (b : Nat) (k : Int) (A : Option Addr) (n c : Nat) (t : List UInt8) (x y z : Int) : Prop := w.heap[b]? = some (.cells #[.int .i64 k, .slice A n c, .string (txt t), .int .i64 x, .int .i64 y, .int .i64 z] 24 (0, 0))
theorem aqb_cells {w : World} {b : Nat} {k : Int} {A : Option Addr} {n c : Nat} {t : List UInt8} {x y z : Int} (h : AqB w b k A n c t x y z) : w.cell? ⟨b, 0, none⟩ = some (.int .i64 k) ∧ w.cell? ⟨b, 1, none⟩ = some (.slice A n c) ∧ w.cell? ⟨b, 2, none⟩ = some (.string (txt t)) ∧ w.cell? ⟨b, 3, none⟩ = some (.int .i64 x) ∧ w.cell? ⟨b, 4, none⟩ = some (.int .i64 y) ∧ w.cell? ⟨b, 5, none⟩ = some (.int .i64 z) := ⟨fcellR h rfl, fcellR h rfl, fcellR h rfl, fcellR h rfl, fcellR h rfl, fcellR h rfl⟩
theorem aqb_there {w : World} {b : Nat} {k : Int} {A : Option Addr} {n c : Nat} {t : List UInt8} {x y z : Int} (h : AqB w b k A n c t x y z) : w.there b 0 6 := fun j hj => ⟨by
  obtain ⟨c0, c1, c2, c3, c4, c5⟩ := aqb_cells h
  match j, hj with
  | 0, _ => rw [c0]; rfl
  | 1, _ => rw [c1]; rfl
  | 2, _ => rw [c2]; rfl
  | 3, _ => rw [c3]; rfl
  | 4, _ => rw [c4]; rfl
  | 5, _ => rw [c5]; rfl
  | j + 6, hj => omega, fzeroR h _⟩
theorem aqb_free {w : World} {b : Nat} {k : Int} {A : Option Addr} {n c : Nat} {t : List UInt8} {x y z : Int} (h : AqB w b k A n c t x y z) (j : Nat) : w.frozen? ⟨b, j, none⟩ = false := fzeroR h j
/-- What plain answers: what is left, and whether that may be. -/
def PlainPost (q : Aq) (w : World) (e : Ending) (w' : World) : Prop :=
  (∃ (A : Option Addr) (n c : Nat) (t : List UInt8) (x y z : Int) (is : Bool), e = .returned (.tuple #[.agg #[.int .i64 q.kind, .slice A n c, .string (txt t), .int .i64 x, .int .i64 y, .int .i64 z], .bool is]) ∧ n ≤ 1000000000 ∧ ((is = true ∧ n = 0 ∧ t.length = 0 ∧ x = 0 ∧ y = 0 ∧ z = 0) ↔ okA q)) ∧ Gr w w'
theorem infoAq : (Try.prog.info? 24).map (·.size) = some 6 := by kernel_rfl
theorem okA_2 (zs : List Lb) (t : List UInt8) (a b d : Int) : okA ⟨2, zs, t, a, b, d⟩ ↔ (zs.length = 0 ∧ t.length = 0 ∧ a = 0 ∧ b = 0 ∧ d = 0) := by
  unfold okA ok1 ok2 ok3 ok4 ok5 ok6
  simp
theorem okA_3 (zs : List Lb) (t : List UInt8) (a b d : Int) : okA ⟨3, zs, t, a, b, d⟩ ↔ (zs.length = 0 ∧ t.length ≤ 600 ∧ (0 ≤ a ∧ a ≤ 1000000000) ∧ (1 ≤ b ∧ b ≤ 100) ∧ (0 ≤ d ∧ d ≤ 100000)) := by
  unfold okA ok1 ok2 ok3 ok4 ok5 ok6
  simp
theorem okA_4 (zs : List Lb) (t : List UInt8) (a b d : Int) : okA ⟨4, zs, t, a, b, d⟩ ↔ (zs.length = 0 ∧ t.length ≤ 60 ∧ a = 0 ∧ b = 0 ∧ d = 0) := by
  unfold okA ok1 ok2 ok3 ok4 ok5 ok6
  simp
theorem okA_5 (zs : List Lb) (t : List UInt8) (a b d : Int) : okA ⟨5, zs, t, a, b, d⟩ ↔ (zs.length = 0 ∧ t.length = 0 ∧ (0 ≤ a ∧ a ≤ 1000000000) ∧ b = 0 ∧ d = 0) := by
  unfold okA ok1 ok2 ok3 ok4 ok5 ok6
  simp
theorem okA_6 (zs : List Lb) (t : List UInt8) (a b d : Int) : okA ⟨6, zs, t, a, b, d⟩ ↔ (zs.length = 0 ∧ t.length = 0 ∧ (1 ≤ a ∧ a ≤ 100000) ∧ b = 0 ∧ d = 0) := by
  unfold okA ok1 ok2 ok3 ok4 ok5 ok6
  simp
theorem okA_1 (zs : List Lb) (t : List UInt8) (a b d : Int) : okA ⟨1, zs, t, a, b, d⟩ ↔ (okR ⟨zs, b⟩ ∧ t.length = 0 ∧ (0 ≤ a ∧ a ≤ 1000000000) ∧ d = 0) := by
  unfold okA ok1 ok2 ok3 ok4 ok5 ok6 okR
  simp
  constructor
  · rintro ⟨h1, h2, h3, h4, h5⟩; exact ⟨⟨h1, h4⟩, h2, h3, h5⟩
  · rintro ⟨⟨h1, h4⟩, h2, h3, h5⟩; exact ⟨h1, h2, h3, h4, h5⟩
theorem okA_o (k : Int) (zs : List Lb) (t : List UInt8) (a b d : Int) (h1 : k ≠ 1) (h2 : k ≠ 2) (h3 : k ≠ 3) (h4 : k ≠ 4) (h5 : k ≠ 5) (h6 : k ≠ 6) : ¬ okA ⟨k, zs, t, a, b, d⟩ := by
  unfold okA
  simp [h1, h2, h3, h4, h5, h6]
set_option maxHeartbeats 8000000 in
set_option maxRecDepth 100000 in
theorem plain2 (A : Option Addr) (n c : Nat) (zs : List Lb) (t : List UInt8) (a b d : Int) (w : World) (hn : zs.length = n) (ht : t.length ≤ 1000000000) (hn9 : n ≤ 1000000000) :
    Calls Try.prog 24 #[aqV A n c ⟨2, zs, t, a, b, d⟩] w (PlainPost ⟨2, zs, t, a, b, d⟩ w) := by
  unfold aqV
  replace hn := Lib.hid hn
  go_enter Try.func24, Try.ntmps24
  go_wp2
  have hn := hn.out
  all_goals
    refine bodyPost_ret (by simp [results, Try.results24, go_sem]; try rfl) rfl ?_
    refine ⟨⟨_, _, _, _, _, _, _, _, rfl, by omega, ?_⟩, gr_trans (gr_alloc _ _ _) (gr_alloc _ _ _)⟩
    rw [okA_2, hn]
    (simp only [List.length_nil, Bool.false_eq_true, false_and, false_iff, decide_eq_true_eq, true_and, and_true]) <;> omega
set_option maxHeartbeats 8000000 in
set_option maxRecDepth 100000 in
theorem plain3 (A : Option Addr) (n c : Nat) (zs : List Lb) (t : List UInt8) (a b d : Int) (w : World) (hn : zs.length = n) (ht : t.length ≤ 1000000000) (hn9 : n ≤ 1000000000) :
    Calls Try.prog 24 #[aqV A n c ⟨3, zs, t, a, b, d⟩] w (PlainPost ⟨3, zs, t, a, b, d⟩ w) := by
  unfold aqV
  replace hn := Lib.hid hn
  go_enter Try.func24, Try.ntmps24
  go_wp2
  have hn := hn.out
  all_goals
    refine bodyPost_ret (by simp [results, Try.results24, go_sem]; try rfl) rfl ?_
    refine ⟨⟨_, _, _, _, _, _, _, _, rfl, by omega, ?_⟩, gr_trans (gr_alloc _ _ _) (gr_alloc _ _ _)⟩
    rw [okA_3, hn]
    (simp only [List.length_nil, Bool.false_eq_true, false_and, false_iff, decide_eq_true_eq, true_and, and_true]) <;> omega
set_option maxHeartbeats 8000000 in
set_option maxRecDepth 100000 in
theorem plain4 (A : Option Addr) (n c : Nat) (zs : List Lb) (t : List UInt8) (a b d : Int) (w : World) (hn : zs.length = n) (ht : t.length ≤ 1000000000) (hn9 : n ≤ 1000000000) :
    Calls Try.prog 24 #[aqV A n c ⟨4, zs, t, a, b, d⟩] w (PlainPost ⟨4, zs, t, a, b, d⟩ w) := by
  unfold aqV
  replace hn := Lib.hid hn
  go_enter Try.func24, Try.ntmps24
  go_wp2
  have hn := hn.out
  all_goals
    refine bodyPost_ret (by simp [results, Try.results24, go_sem]; try rfl) rfl ?_
    refine ⟨⟨_, _, _, _, _, _, _, _, rfl, by omega, ?_⟩, gr_trans (gr_alloc _ _ _) (gr_alloc _ _ _)⟩
    rw [okA_4, hn]
    (simp only [List.length_nil, Bool.false_eq_true, false_and, false_iff, decide_eq_true_eq, true_and, and_true]) <;> omega
set_option maxHeartbeats 8000000 in
set_option maxRecDepth 100000 in
theorem plain5 (A : Option Addr) (n c : Nat) (zs : List Lb) (t : List UInt8) (a b d : Int) (w : World) (hn : zs.length = n) (ht : t.length ≤ 1000000000) (hn9 : n ≤ 1000000000) :
    Calls Try.prog 24 #[aqV A n c ⟨5, zs, t, a, b, d⟩] w (PlainPost ⟨5, zs, t, a, b, d⟩ w) := by
  unfold aqV
  replace hn := Lib.hid hn
  go_enter Try.func24, Try.ntmps24
  go_wp2
  have hn := hn.out
  all_goals
    refine bodyPost_ret (by simp [results, Try.results24, go_sem]; try rfl) rfl ?_
    refine ⟨⟨_, _, _, _, _, _, _, _, rfl, by omega, ?_⟩, gr_trans (gr_alloc _ _ _) (gr_alloc _ _ _)⟩
    rw [okA_5, hn]
    (simp only [List.length_nil, Bool.false_eq_true, false_and, false_iff, decide_eq_true_eq, true_and, and_true]) <;> omega
set_option maxHeartbeats 8000000 in
set_option maxRecDepth 100000 in
theorem plain6 (A : Option Addr) (n c : Nat) (zs : List Lb) (t : List UInt8) (a b d : Int) (w : World) (hn : zs.length = n) (ht : t.length ≤ 1000000000) (hn9 : n ≤ 1000000000) :
    Calls Try.prog 24 #[aqV A n c ⟨6, zs, t, a, b, d⟩] w (PlainPost ⟨6, zs, t, a, b, d⟩ w) := by
  unfold aqV
  replace hn := Lib.hid hn
  go_enter Try.func24, Try.ntmps24
  go_wp2
  have hn := hn.out
  all_goals
    refine bodyPost_ret (by simp [results, Try.results24, go_sem]; try rfl) rfl ?_
    refine ⟨⟨_, _, _, _, _, _, _, _, rfl, by omega, ?_⟩, gr_trans (gr_alloc _ _ _) (gr_alloc _ _ _)⟩
    rw [okA_6, hn]
    (simp only [List.length_nil, Bool.false_eq_true, false_and, false_iff, decide_eq_true_eq, true_and, and_true]) <;> omega
set_option maxHeartbeats 8000000 in
set_option maxRecDepth 100000 in
theorem plainO (A : Option Addr) (n c : Nat) (k : Int) (zs : List Lb) (t : List UInt8) (a b d : Int) (w : World) (hn9 : n ≤ 1000000000) (h1 : k ≠ 1) (h2 : k ≠ 2) (h3 : k ≠ 3) (h4 : k ≠ 4) (h5 : k ≠ 5) (h6 : k ≠ 6) :
    Calls Try.prog 24 #[aqV A n c ⟨k, zs, t, a, b, d⟩] w (PlainPost ⟨k, zs, t, a, b, d⟩ w) := by
  unfold aqV
  have e1 := eqF h1
  have e2 := eqF h2
  have e3 := eqF h3
  have e4 := eqF h4
  have e5 := eqF h5
  have e6 := eqF h6
  have ho := Lib.hid (okA_o k zs t a b d h1 h2 h3 h4 h5 h6)
  clear h1 h2 h3 h4 h5 h6
  go_enter Try.func24, Try.ntmps24
  go_wp2
  refine bodyPost_ret (by simp [results, Try.results24, go_sem]; try rfl) rfl ?_
  exact ⟨⟨_, _, _, _, _, _, _, _, rfl, by omega, ⟨fun h => absurd h.1 (by decide), fun h => absurd h ho.out⟩⟩, gr_trans (gr_alloc _ _ _) (gr_alloc _ _ _)⟩
set_option maxHeartbeats 8000000 in
set_option maxRecDepth 100000 in
theorem plain1 (A : Option Addr) (n c : Nat) (zs : List Lb) (t : List UInt8) (a b d : Int) (w : World) (hn : zs.length = n) (hn9 : n ≤ 1000000000) (ht : t.length ≤ 1000000000) (hA : A = none → n = 0 ∧ c = 0) (hr : Row w A n 2 (sR lblC zs)) (hsh : ShortL zs) (hb : -9223372036854775808 ≤ b ∧ b ≤ 9223372036854775807) :
    Calls Try.prog 24 #[aqV A n c ⟨1, zs, t, a, b, d⟩] w (PlainPost ⟨1, zs, t, a, b, d⟩ w) := by
  unfold aqV
  obtain ⟨W1, hW1⟩ : ∃ W1, W1 = (w.alloc (.cells #[.int .i64 1, .slice A n c, .string (txt t), .int .i64 a, .int .i64 b, .int .i64 d] 24)).alloc (.cells #[.int .i64 0, .slice none 0 0, .string ⟨#[]⟩, .int .i64 0, .int .i64 0, .int .i64 0] 24) := ⟨_, rfl⟩
  have hs1 : (w.alloc (.cells #[.int .i64 1, .slice A n c, .string (txt t), .int .i64 a, .int .i64 b, .int .i64 d] 24)).heap.size = w.heap.size + 1 := by simp
  have g1 : Gr w W1 := by rw [hW1]; exact gr_trans (gr_alloc _ _ _) (gr_alloc _ _ _)
  have hbx : AqB W1 w.heap.size 1 A n c t a b d := by rw [hW1]; exact gr_blk (gr_alloc _ _ none) (blk_new w _) (by simp)
  have hrs : AqB W1 (w.heap.size + 1) 0 none 0 0 [] 0 0 0 := by rw [hW1, ← hs1]; exact blk_new _ _
  have hp := put_any A n c zs b W1 hn9 hA (row_gr hr g1) hsh hb
  unfold PutPost at hp
  have hbel := gr_below g1
  have hs2 := lt_of_blk hrs
  replace hn := Lib.hid hn
  replace hp := Lib.hid hp
  replace hrs := Lib.hid hrs
  replace hbel := Lib.hid hbel
  clear hr hsh hA g1
  go_enter Try.func24, Try.ntmps24
  go_upto_region 1 with fail
  rw [← hW1]
  clear hW1 hs1
  obtain ⟨b0, b1, b2, b3, b4, b5⟩ := aqb_cells hbx
  replace hbx := Lib.hid hbx
  go_wp2_with fail
  refine hp.out.mono ?_
  rintro e w2 ⟨rfl, g2⟩
  have hbx2 : AqB w2 w.heap.size 1 A n c t a b d := gr_blk g2 hbx.out (by simp)
  have hrs2 : AqB w2 (w.heap.size + 1) 0 none 0 0 [] 0 0 0 := gr_blk g2 hrs.out (by simp)
  have hbel2 := below_gr hbel.out g2 hbel.out.size (by simp)
  obtain ⟨W3, hW3⟩ : ∃ W3, W3 = ((w2.setCell ⟨w.heap.size, 1, none⟩ (.slice none 0 0)).setCell ⟨w.heap.size, 3, none⟩ (.int .i64 0)).setCell ⟨w.heap.size, 4, none⟩ (.int .i64 0) := ⟨_, rfl⟩
  clear b0 b1 b2 b3 b4 b5 hp
  obtain ⟨b0, b1, b2, b3, b4, b5⟩ := aqb_cells hbx2
  have z1 := aqb_free hbx2 1
  have z3 := aqb_free hbx2 3
  have z4 := aqb_free hbx2 4
  have hbx3 : AqB W3 w.heap.size 1 none 0 0 t 0 0 d := by rw [hW3]; exact blk_set (blk_set (blk_set hbx2 1 _) 3 _) 4 _
  have g3 : GrB w.heap.size w2 W3 := by rw [hW3]; exact gr_trans (gr_trans (gr_set w2 ⟨w.heap.size, 1, none⟩ _) (gr_set _ ⟨w.heap.size, 3, none⟩ _)) (gr_set _ ⟨w.heap.size, 4, none⟩ _)
  have hrs3 : AqB W3 (w.heap.size + 1) 0 none 0 0 [] 0 0 0 := gr_blk g3 hrs2 (by simp)
  have hbel3 := below_gr hbel2 g3 hbel2.size (by intro k hk; cases hk; exact Nat.le_refl _)
  replace hbx3 := Lib.hid hbx3
  replace hrs3 := Lib.hid hrs3
  replace hbel3 := Lib.hid hbel3
  clear hbx2 hrs2 hbel2 g3 g2 hbel hrs hbx
  by_cases ok : okR ⟨zs, b⟩
  · rw [if_pos ok]
    replace ok := Lib.hid ok
    go_upto_region 21 with fail
    all_goals
      have ok := ok.out
      rw [← hW3]
      clear hW3 b0 b1 b2 b3 b4 b5 z1 z3 z4
      have hth := aqb_there hrs3.out
      obtain ⟨c0, c1, c2, c3, c4, c5⟩ := aqb_cells hbx3.out
      have hsame := World.rangeAt_setCells_same W3 (w.heap.size + 1) 0 [.int .i64 1, .slice none 0 0, .string (txt t), .int .i64 0, .int .i64 0, .int .i64 d] hth
      have r0 := hsame 0 _ rfl
      have r1 := hsame 1 _ rfl
      have r2 := hsame 2 _ rfl
      have r3 := hsame 3 _ rfl
      have r4 := hsame 4 _ rfl
      have r5 := hsame 5 _ rfl
      simp only [Nat.zero_add] at r0 r1 r2 r3 r4 r5
      have hgs := gr_setCells W3 (w.heap.size + 1) 0 [.int .i64 1, .slice none 0 0, .string (txt t), .int .i64 0, .int .i64 0, .int .i64 d]
      have hgf : Gr w (W3.setCells (w.heap.size + 1) 0 [.int .i64 1, .slice none 0 0, .string (txt t), .int .i64 0, .int .i64 0, .int .i64 d]) := gr_of_below (below_gr hbel3.out hgs hbel3.out.size (by intro k hk; cases hk; omega)) (Nat.le_refl _)
      replace hgf := Lib.hid hgf
      clear hsame hgs
      go_wp2_with (refine wpList_store_mid (op := ⟨none, _, _, _, _, _⟩) rfl 24 _ _ rfl (w.heap.size + 1) 0 #[.int .i64 1, .slice none 0 0, .string (txt t), .int .i64 0, .int .i64 0, .int .i64 d] rfl rfl hth infoAq (by simp [Value.oneCell']) ?_)
      (try simp only [Exit.inBlock, Exit.then])
      refine bodyPost_ret (by simp [results, Try.results24, go_sem, r0, r1, r2, r3, r4, r5]; try rfl) rfl ?_
      refine ⟨⟨_, _, _, _, _, _, _, _, rfl, by omega, ?_⟩, hgf.out⟩
      have hn := hn.out
      (rw [okA_1]) <;> (simp only [List.length_nil, Bool.false_eq_true, false_and, false_iff, decide_eq_true_eq, true_and, and_true, ok]) <;> (try omega)
  · rw [if_neg ok]
    replace ok := Lib.hid ok
    go_upto_region 21 with fail
    all_goals
      have ok := ok.out
      rw [← hW3]
      clear hW3 b0 b1 b2 b3 b4 b5 z1 z3 z4
      have hth := aqb_there hrs3.out
      obtain ⟨c0, c1, c2, c3, c4, c5⟩ := aqb_cells hbx3.out
      have hsame := World.rangeAt_setCells_same W3 (w.heap.size + 1) 0 [.int .i64 1, .slice none 0 0, .string (txt t), .int .i64 0, .int .i64 0, .int .i64 d] hth
      have r0 := hsame 0 _ rfl
      have r1 := hsame 1 _ rfl
      have r2 := hsame 2 _ rfl
      have r3 := hsame 3 _ rfl
      have r4 := hsame 4 _ rfl
      have r5 := hsame 5 _ rfl
      simp only [Nat.zero_add] at r0 r1 r2 r3 r4 r5
      have hgs := gr_setCells W3 (w.heap.size + 1) 0 [.int .i64 1, .slice none 0 0, .string (txt t), .int .i64 0, .int .i64 0, .int .i64 d]
      have hgf : Gr w (W3.setCells (w.heap.size + 1) 0 [.int .i64 1, .slice none 0 0, .string (txt t), .int .i64 0, .int .i64 0, .int .i64 d]) := gr_of_below (below_gr hbel3.out hgs hbel3.out.size (by intro k hk; cases hk; omega)) (Nat.le_refl _)
      replace hgf := Lib.hid hgf
      clear hsame hgs
      go_wp2_with (refine wpList_store_mid (op := ⟨none, _, _, _, _, _⟩) rfl 24 _ _ rfl (w.heap.size + 1) 0 #[.int .i64 1, .slice none 0 0, .string (txt t), .int .i64 0, .int .i64 0, .int .i64 d] rfl rfl hth infoAq (by simp [Value.oneCell']) ?_)
      (try simp only [Exit.inBlock, Exit.then])
      refine bodyPost_ret (by simp [results, Try.results24, go_sem, r0, r1, r2, r3, r4, r5]; try rfl) rfl ?_
      refine ⟨⟨_, _, _, _, _, _, _, _, rfl, by omega, ?_⟩, hgf.out⟩
      have hn := hn.out
      (rw [okA_1]) <;> (simp only [List.length_nil, Bool.false_eq_true, false_and, false_iff, decide_eq_true_eq, true_and, and_true, ok]) <;> (try omega)
end Go.Proofs.Ytbnacoakjhhndaa
