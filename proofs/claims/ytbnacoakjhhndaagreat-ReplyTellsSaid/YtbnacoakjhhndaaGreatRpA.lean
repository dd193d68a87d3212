/-
  Several facts, one behind the other; no condition but bounds: request.Right: may a request be? No condition but bounds on the lengths. request.Right, of every request. No condition but bounds on the lengths. The reader of a request's bytes: take, num. No condition but bounds on the lengths. What request.num answers, of every number. No condition.
-/
import Derived.Test.YtbnacoakjhhndaaGreatAskMath
import Derived.Test.YtbnacoakjhhndaaGreatRowGet
import Derived.Test.YtbnacoakjhhndaaGreatQuietGr
namespace Go.Proofs.YtbnacoakjhhndaaGreat
open Go.RowKit

/-- A request's value. -/
def aqV (A : Option Addr) (n c : Nat) (q : Aq) : Value := .agg #[.int .i64 q.kind, .slice A n c, .string (txt q.t), .int .i64 q.a, .int .i64 q.b, .int .i64 q.c]
/-- Block b is a request. -/
def AqB (w : World) (b : Nat) (k : Int) (A : Option Addr) (n c : Nat) (t : List UInt8) (x y z : Int) : Prop := w.heap[b]? = some (.cells #[.int .i64 k, .slice A n c, .string (txt t), .int .i64 x, .int .i64 y, .int .i64 z] 57 (0, 0))
theorem aqb_cells {w : World} {b : Nat} {k : Int} {A : Option Addr} {n c : Nat} {t : List UInt8} {x y z : Int} (h : AqB w b k A n c t x y z) : w.cell? ⟨b, 0, none⟩ = some (.int .i64 k) ∧ w.cell? ⟨b, 1, none⟩ = some (.slice A n c) ∧ w.cell? ⟨b, 2, none⟩ = some (.string (txt t)) ∧ w.cell? ⟨b, 3, none⟩ = some (.int .i64 x) ∧ w.cell? ⟨b, 4, none⟩ = some (.int .i64 y) ∧ w.cell? ⟨b, 5, none⟩ = some (.int .i64 z) := ⟨fcellR h rfl, fcellR h rfl, fcellR h rfl, fcellR h rfl, fcellR h rfl, fcellR h rfl⟩
theorem aqb_there {w : World} {b : Nat} {k : Int} {A : Option Addr} {n c : Nat} {t : List UInt8} {x y z : Int} (h : AqB w b k A n c t x y z) : w.there b 0 6 := fun j hj => ⟨by
  obtain ⟨c0, c1, c2, c3, c4, c5⟩ := aqb_cells h
  match j, hj with
  | 0, _ => rw [c0]; rfl
  | 1, _ => rw [c1]; rfl
  | 2, _ => rw [c2]; rfl
  | 3, _ => rw [c3]; rfl
  | 4, _ => rw [c4]; rfl
  | 5, _ => rw [c5]; rfl
  | j + 6, hj => omega, fzeroR h _⟩
theorem aqb_free {w : World} {b : Nat} {k : Int} {A : Option Addr} {n c : Nat} {t : List UInt8} {x y z : Int} (h : AqB w b k A n c t x y z) (j : Nat) : w.frozen? ⟨b, j, none⟩ = false := fzeroR h j
/-- What plain answers: what is left, and whether that may be. -/
def PlainPost (q : Aq) (w : World) (e : Ending) (w' : World) : Prop :=
  (∃ (A : Option Addr) (n c : Nat) (t : List UInt8) (x y z : Int) (is : Bool), e = .returned (.tuple #[.agg #[.int .i64 q.kind, .slice A n c, .string (txt t), .int .i64 x, .int .i64 y, .int .i64 z], .bool is]) ∧ n ≤ 1000000000 ∧ ((is = true ∧ n = 0 ∧ t.length = 0 ∧ x = 0 ∧ y = 0 ∧ z = 0) ↔ okA q)) ∧ Gr w w'
theorem infoAq : (Tryz.prog.info? 57).map (·.size) = some 6 := by kernel_rfl
theorem okA_2 (zs : List Lb) (t : List UInt8) (a b d : Int) : okA ⟨2, zs, t, a, b, d⟩ ↔ (zs.length = 0 ∧ t.length = 0 ∧ a = 0 ∧ b = 0 ∧ d = 0) := by
  unfold okA ok1 ok2 ok3 ok4 ok5 ok6
  simp
theorem okA_3 (zs : List Lb) (t : List UInt8) (a b d : Int) : okA ⟨3, zs, t, a, b, d⟩ ↔ (zs.length = 0 ∧ t.length ≤ 600 ∧ (0 ≤ a ∧ a ≤ 1000000000) ∧ (1 ≤ b ∧ b ≤ 100) ∧ (0 ≤ d ∧ d ≤ 100000)) := by
  unfold okA ok1 ok2 ok3 ok4 ok5 ok6
  simp
theorem okA_4 (zs : List Lb) (t : List UInt8) (a b d : Int) : okA ⟨4, zs, t, a, b, d⟩ ↔ (zs.length = 0 ∧ t.length ≤ 60 ∧ a = 0 ∧ b = 0 ∧ d = 0) := by
  unfold okA ok1 ok2 ok3 ok4 ok5 ok6
  simp
theorem okA_5 (zs : List Lb) (t : List UInt8) (a b d : Int) : okA ⟨5, zs, t, a, b, d⟩ ↔ (zs.length = 0 ∧ t.length = 0 ∧ (0 ≤ a ∧ a ≤ 1000000000) ∧ b = 0 ∧ d = 0) := by
  unfold okA ok1 ok2 ok3 ok4 ok5 ok6
  simp
theorem okA_6 (zs : List Lb) (t : List UInt8) (a b d : Int) : okA ⟨6, zs, t, a, b, d⟩ ↔ (zs.length = 0 ∧ t.length = 0 ∧ (1 ≤ a ∧ a ≤ 100000) ∧ b = 0 ∧ d = 0) := by
  unfold okA ok1 ok2 ok3 ok4 ok5 ok6
  simp
theorem okA_1 (zs : List Lb) (t : List UInt8) (a b d : Int) : okA ⟨1, zs, t, a, b, d⟩ ↔ (okR ⟨zs, b⟩ ∧ t.length = 0 ∧ (0 ≤ a ∧ a ≤ 1000000000) ∧ d = 0) := by
  unfold okA ok1 ok2 ok3 ok4 ok5 ok6 okR
  simp
  constructor
  · rintro ⟨h1, h2, h3, h4, h5⟩; exact ⟨⟨h1, h4⟩, h2, h3, h5⟩
  · rintro ⟨⟨h1, h4⟩, h2, h3, h5⟩; exact ⟨h1, h2, h3, h4, h5⟩
theorem okA_o (k : Int) (zs : List Lb) (t : List UInt8) (a b d : Int) (h1 : k ≠ 1) (h2 : k ≠ 2) (h3 : k ≠ 3) (h4 : k ≠ 4) (h5 : k ≠ 5) (h6 : k ≠ 6) : ¬ okA ⟨k, zs, t, a, b, d⟩ := by
  unfold okA
  simp [h1, h2, h3, h4, h5, h6]
set_option maxHeartbeats 8000000 in
set_option maxRecDepth 100000 in
theorem plain2 (A : Option Addr) (n c : Nat) (zs : List Lb) (t : List UInt8) (a b d : Int) (w : World) (hn : zs.length = n) (ht : t.length ≤ 1000000000) (hn9 : n ≤ 1000000000) :
    Calls Tryz.prog 74 #[aqV A n c ⟨2, zs, t, a, b, d⟩] w (PlainPost ⟨2, zs, t, a, b, d⟩ w) := by
  unfold aqV
  replace hn := Lib.hid hn
  go_enter Tryz.func74, Tryz.ntmps74
  go_wp2
  have hn := hn.out
  all_goals
    refine bodyPost_ret (by simp [results, Tryz.results74, go_sem]; try rfl) rfl ?_
    refine ⟨⟨_, _, _, _, _, _, _, _, rfl, by omega, ?_⟩, gr_trans (gr_alloc _ _ _) (gr_alloc _ _ _)⟩
    rw [okA_2, hn]
    (simp only [List.length_nil, Bool.false_eq_true, false_and, false_iff, decide_eq_true_eq, true_and, and_true]) <;> omega
set_option maxHeartbeats 8000000 in
set_option maxRecDepth 100000 in
theorem plain3 (A : Option Addr) (n c : Nat) (zs : List Lb) (t : List UInt8) (a b d : Int) (w : World) (hn : zs.length = n) (ht : t.length ≤ 1000000000) (hn9 : n ≤ 1000000000) :
    Calls Tryz.prog 74 #[aqV A n c ⟨3, zs, t, a, b, d⟩] w (PlainPost ⟨3, zs, t, a, b, d⟩ w) := by
  unfold aqV
  replace hn := Lib.hid hn
  go_enter Tryz.func74, Tryz.ntmps74
  go_wp2
  have hn := hn.out
  all_goals
    refine bodyPost_ret (by simp [results, Tryz.results74, go_sem]; try rfl) rfl ?_
    refine ⟨⟨_, _, _, _, _, _, _, _, rfl, by omega, ?_⟩, gr_trans (gr_alloc _ _ _) (gr_alloc _ _ _)⟩
    rw [okA_3, hn]
    (simp only [List.length_nil, Bool.false_eq_true, false_and, false_iff, decide_eq_true_eq, true_and, and_true]) <;> omega
set_option maxHeartbeats 8000000 in
set_option maxRecDepth 100000 in
theorem plain4 (A : Option Addr) (n c : Nat) (zs : List Lb) (t : List UInt8) (a b d : Int) (w : World) (hn : zs.length = n) (ht : t.length ≤ 1000000000) (hn9 : n ≤ 1000000000) :
    Calls Tryz.prog 74 #[aqV A n c ⟨4, zs, t, a, b, d⟩] w (PlainPost ⟨4, zs, t, a, b, d⟩ w) := by
  unfold aqV
  replace hn := Lib.hid hn
  go_enter Tryz.func74, Tryz.ntmps74
  go_wp2
  have hn := hn.out
  all_goals
    refine bodyPost_ret (by simp [results, Tryz.results74, go_sem]; try rfl) rfl ?_
    refine ⟨⟨_, _, _, _, _, _, _, _, rfl, by omega, ?_⟩, gr_trans (gr_alloc _ _ _) (gr_alloc _ _ _)⟩
    rw [okA_4, hn]
    (simp only [List.length_nil, Bool.false_eq_true, false_and, false_iff, decide_eq_true_eq, true_and, and_true]) <;> omega
set_option maxHeartbeats 8000000 in
set_option maxRecDepth 100000 in
theorem plain5 (A : Option Addr) (n c : Nat) (zs : List Lb) (t : List UInt8) (a b d : Int) (w : World) (hn : zs.length = n) (ht : t.length ≤ 1000000000) (hn9 : n ≤ 1000000000) :
    Calls Tryz.prog 74 #[aqV A n c ⟨5, zs, t, a, b, d⟩] w (PlainPost ⟨5, zs, t, a, b, d⟩ w) := by
  unfold aqV
  replace hn := Lib.hid hn
  go_enter Tryz.func74, Tryz.ntmps74
  go_wp2
  have hn := hn.out
  all_goals
    refine bodyPost_ret (by simp [results, Tryz.results74, go_sem]; try rfl) rfl ?_
    refine ⟨⟨_, _, _, _, _, _, _, _, rfl, by omega, ?_⟩, gr_trans (gr_alloc _ _ _) (gr_alloc _ _ _)⟩
    rw [okA_5, hn]
    (simp only [List.length_nil, Bool.false_eq_true, false_and, false_iff, decide_eq_true_eq, true_and, and_true]) <;> omega
set_option maxHeartbeats 8000000 in
set_option maxRecDepth 100000 in
theorem plain6 (A : Option Addr) (n c : Nat) (zs : List Lb) (t : List UInt8) (a b d : Int) (w : World) (hn : zs.length = n) (ht : t.length ≤ 1000000000) (hn9 : n ≤ 1000000000) :
    Calls Tryz.prog 74 #[aqV A n c ⟨6, zs, t, a, b, d⟩] w (PlainPost ⟨6, zs, t, a, b, d⟩ w) := by
  unfold aqV
  replace hn := Lib.hid hn
  go_enter Tryz.func74, Tryz.ntmps74
  go_wp2
  have hn := hn.out
  all_goals
    refine bodyPost_ret (by simp [results, Tryz.results74, go_sem]; try rfl) rfl ?_
    refine ⟨⟨_, _, _, _, _, _, _, _, rfl, by omega, ?_⟩, gr_trans (gr_alloc _ _ _) (gr_alloc _ _ _)⟩
    rw [okA_6, hn]
    (simp only [List.length_nil, Bool.false_eq_true, false_and, false_iff, decide_eq_true_eq, true_and, and_true]) <;> omega
set_option maxHeartbeats 8000000 in
set_option maxRecDepth 100000 in
theorem plainO (A : Option Addr) (n c : Nat) (k : Int) (zs : List Lb) (t : List UInt8) (a b d : Int) (w : World) (hn9 : n ≤ 1000000000) (h1 : k ≠ 1) (h2 : k ≠ 2) (h3 : k ≠ 3) (h4 : k ≠ 4) (h5 : k ≠ 5) (h6 : k ≠ 6) :
    Calls Tryz.prog 74 #[aqV A n c ⟨k, zs, t, a, b, d⟩] w (PlainPost ⟨k, zs, t, a, b, d⟩ w) := by
  unfold aqV
  have e1 := eqF h1
  have e2 := eqF h2
  have e3 := eqF h3
  have e4 := eqF h4
  have e5 := eqF h5
  have e6 := eqF h6
  have ho := Lib.hid (okA_o k zs t a b d h1 h2 h3 h4 h5 h6)
  clear h1 h2 h3 h4 h5 h6
  go_enter Tryz.func74, Tryz.ntmps74
  go_wp2
  refine bodyPost_ret (by simp [results, Tryz.results74, go_sem]; try rfl) rfl ?_
  exact ⟨⟨_, _, _, _, _, _, _, _, rfl, by omega, ⟨fun h => absurd h.1 (by decide), fun h => absurd h ho.out⟩⟩, gr_trans (gr_alloc _ _ _) (gr_alloc _ _ _)⟩
set_option maxHeartbeats 8000000 in
set_option maxRecDepth 100000 in
theorem plain1 (A : Option Addr) (n c : Nat) (zs : List Lb) (t : List UInt8) (a b d : Int) (w : World) (hn : zs.length = n) (hn9 : n ≤ 1000000000) (ht : t.length ≤ 1000000000) (hA : A = none → n = 0 ∧ c = 0) (hr : Row w A n 2 (sR lblC zs)) (hsh : ShortL zs) (hb : -9223372036854775808 ≤ b ∧ b ≤ 9223372036854775807) :
    Calls Tryz.prog 74 #[aqV A n c ⟨1, zs, t, a, b, d⟩] w (PlainPost ⟨1, zs, t, a, b, d⟩ w) := by
  unfold aqV
  obtain ⟨W1, hW1⟩ : ∃ W1, W1 = (w.alloc (.cells #[.int .i64 1, .slice A n c, .string (txt t), .int .i64 a, .int .i64 b, .int .i64 d] 57)).alloc (.cells #[.int .i64 0, .slice none 0 0, .string ⟨#[]⟩, .int .i64 0, .int .i64 0, .int .i64 0] 57) := ⟨_, rfl⟩
  have hs1 : (w.alloc (.cells #[.int .i64 1, .slice A n c, .string (txt t), .int .i64 a, .int .i64 b, .int .i64 d] 57)).heap.size = w.heap.size + 1 := by simp
  have g1 : Gr w W1 := by rw [hW1]; exact gr_trans (gr_alloc _ _ _) (gr_alloc _ _ _)
  have hbx : AqB W1 w.heap.size 1 A n c t a b d := by rw [hW1]; exact gr_blk (gr_alloc _ _ none) (blk_new w _) (by simp)
  have hrs : AqB W1 (w.heap.size + 1) 0 none 0 0 [] 0 0 0 := by rw [hW1, ← hs1]; exact blk_new _ _
  have hp := put_any A n c zs b W1 hn9 hA (row_gr hr g1) hsh hb
  unfold PutPost at hp
  have hbel := gr_below g1
  have hs2 := lt_of_blk hrs
  replace hn := Lib.hid hn
  replace hp := Lib.hid hp
  replace hrs := Lib.hid hrs
  replace hbel := Lib.hid hbel
  clear hr hsh hA g1
  go_enter Tryz.func74, Tryz.ntmps74
  go_upto_region 1 with fail
  rw [← hW1]
  clear hW1 hs1
  obtain ⟨b0, b1, b2, b3, b4, b5⟩ := aqb_cells hbx
  replace hbx := Lib.hid hbx
  go_wp2_with fail
  refine hp.out.mono ?_
  rintro e w2 ⟨rfl, g2⟩
  have hbx2 : AqB w2 w.heap.size 1 A n c t a b d := gr_blk g2 hbx.out (by simp)
  have hrs2 : AqB w2 (w.heap.size + 1) 0 none 0 0 [] 0 0 0 := gr_blk g2 hrs.out (by simp)
  have hbel2 := below_gr hbel.out g2 hbel.out.size (by simp)
  obtain ⟨W3, hW3⟩ : ∃ W3, W3 = ((w2.setCell ⟨w.heap.size, 1, none⟩ (.slice none 0 0)).setCell ⟨w.heap.size, 3, none⟩ (.int .i64 0)).setCell ⟨w.heap.size, 4, none⟩ (.int .i64 0) := ⟨_, rfl⟩
  clear b0 b1 b2 b3 b4 b5 hp
  obtain ⟨b0, b1, b2, b3, b4, b5⟩ := aqb_cells hbx2
  have z1 := aqb_free hbx2 1
  have z3 := aqb_free hbx2 3
  have z4 := aqb_free hbx2 4
  have hbx3 : AqB W3 w.heap.size 1 none 0 0 t 0 0 d := by rw [hW3]; exact blk_set (blk_set (blk_set hbx2 1 _) 3 _) 4 _
  have g3 : GrB w.heap.size w2 W3 := by rw [hW3]; exact gr_trans (gr_trans (gr_set w2 ⟨w.heap.size, 1, none⟩ _) (gr_set _ ⟨w.heap.size, 3, none⟩ _)) (gr_set _ ⟨w.heap.size, 4, none⟩ _)
  have hrs3 : AqB W3 (w.heap.size + 1) 0 none 0 0 [] 0 0 0 := gr_blk g3 hrs2 (by simp)
  have hbel3 := below_gr hbel2 g3 hbel2.size (by intro k hk; cases hk; exact Nat.le_refl _)
  replace hbx3 := Lib.hid hbx3
  replace hrs3 := Lib.hid hrs3
  replace hbel3 := Lib.hid hbel3
  clear hbx2 hrs2 hbel2 g3 g2 hbel hrs hbx
  by_cases ok : okR ⟨zs, b⟩
  · rw [if_pos ok]
    replace ok := Lib.hid ok
    go_upto_region 21 with fail
    all_goals
      have ok := ok.out
      rw [← hW3]
      clear hW3 b0 b1 b2 b3 b4 b5 z1 z3 z4
      have hth := aqb_there hrs3.out
      obtain ⟨c0, c1, c2, c3, c4, c5⟩ := aqb_cells hbx3.out
      have hsame := World.rangeAt_setCells_same W3 (w.heap.size + 1) 0 [.int .i64 1, .slice none 0 0, .string (txt t), .int .i64 0, .int .i64 0, .int .i64 d] hth
      have r0 := hsame 0 _ rfl
      have r1 := hsame 1 _ rfl
      have r2 := hsame 2 _ rfl
      have r3 := hsame 3 _ rfl
      have r4 := hsame 4 _ rfl
      have r5 := hsame 5 _ rfl
      simp only [Nat.zero_add] at r0 r1 r2 r3 r4 r5
      have hgs := gr_setCells W3 (w.heap.size + 1) 0 [.int .i64 1, .slice none 0 0, .string (txt t), .int .i64 0, .int .i64 0, .int .i64 d]
      have hgf : Gr w (W3.setCells (w.heap.size + 1) 0 [.int .i64 1, .slice none 0 0, .string (txt t), .int .i64 0, .int .i64 0, .int .i64 d]) := gr_of_below (below_gr hbel3.out hgs hbel3.out.size (by intro k hk; cases hk; omega)) (Nat.le_refl _)
      replace hgf := Lib.hid hgf
      clear hsame hgs
      go_wp2_with (refine wpList_store_mid (op := ⟨none, _, _, _, _, _⟩) rfl 57 _ _ rfl (w.heap.size + 1) 0 #[.int .i64 1, .slice none 0 0, .string (txt t), .int .i64 0, .int .i64 0, .int .i64 d] rfl rfl hth infoAq (by simp [Value.oneCell']) ?_)
      (try simp only [Exit.inBlock, Exit.then])
      refine bodyPost_ret (by simp [results, Tryz.results74, go_sem, r0, r1, r2, r3, r4, r5]; try rfl) rfl ?_
      refine ⟨⟨_, _, _, _, _, _, _, _, rfl, by omega, ?_⟩, hgf.out⟩
      have hn := hn.out
      (rw [okA_1]) <;> (simp only [List.length_nil, Bool.false_eq_true, false_and, false_iff, decide_eq_true_eq, true_and, and_true, ok]) <;> (try omega)
  · rw [if_neg ok]
    replace ok := Lib.hid ok
    go_upto_region 21 with fail
    all_goals
      have ok := ok.out
      rw [← hW3]
      clear hW3 b0 b1 b2 b3 b4 b5 z1 z3 z4
      have hth := aqb_there hrs3.out
      obtain ⟨c0, c1, c2, c3, c4, c5⟩ := aqb_cells hbx3.out
      have hsame := World.rangeAt_setCells_same W3 (w.heap.size + 1) 0 [.int .i64 1, .slice none 0 0, .string (txt t), .int .i64 0, .int .i64 0, .int .i64 d] hth
      have r0 := hsame 0 _ rfl
      have r1 := hsame 1 _ rfl
      have r2 := hsame 2 _ rfl
      have r3 := hsame 3 _ rfl
      have r4 := hsame 4 _ rfl
      have r5 := hsame 5 _ rfl
      simp only [Nat.zero_add] at r0 r1 r2 r3 r4 r5
      have hgs := gr_setCells W3 (w.heap.size + 1) 0 [.int .i64 1, .slice none 0 0, .string (txt t), .int .i64 0, .int .i64 0, .int .i64 d]
      have hgf : Gr w (W3.setCells (w.heap.size + 1) 0 [.int .i64 1, .slice none 0 0, .string (txt t), .int .i64 0, .int .i64 0, .int .i64 d]) := gr_of_below (below_gr hbel3.out hgs hbel3.out.size (by intro k hk; cases hk; omega)) (Nat.le_refl _)
      replace hgf := Lib.hid hgf
      clear hsame hgs
      go_wp2_with (refine wpList_store_mid (op := ⟨none, _, _, _, _, _⟩) rfl 57 _ _ rfl (w.heap.size + 1) 0 #[.int .i64 1, .slice none 0 0, .string (txt t), .int .i64 0, .int .i64 0, .int .i64 d] rfl rfl hth infoAq (by simp [Value.oneCell']) ?_)
      (try simp only [Exit.inBlock, Exit.then])
      refine bodyPost_ret (by simp [results, Tryz.results74, go_sem, r0, r1, r2, r3, r4, r5]; try rfl) rfl ?_
      refine ⟨⟨_, _, _, _, _, _, _, _, rfl, by omega, ?_⟩, hgf.out⟩
      have hn := hn.out
      (rw [okA_1]) <;> (simp only [List.length_nil, Bool.false_eq_true, false_and, false_iff, decide_eq_true_eq, true_and, and_true, ok]) <;> (try omega)
end Go.Proofs.YtbnacoakjhhndaaGreat
namespace Go.Proofs.YtbnacoakjhhndaaGreat
open Go.RowKit

/-- A request's labels lie well. -/
structure AqOk (w : World) (A : Option Addr) (n c : Nat) (q : Aq) : Prop where
  len : q.l.length = n
  n9 : n ≤ 1000000000
  t9 : q.t.length ≤ 1000000000
  nil : A = none → n = 0 ∧ c = 0
  row : Row w A n 2 (sR lblC q.l)
  short : ShortL q.l
  b64 : -9223372036854775808 ≤ q.b ∧ q.b ≤ 9223372036854775807
theorem aqOk_gr {w w' : World} {A : Option Addr} {n c : Nat} {q : Aq} (h : AqOk w A n c q) (g : Gr w w') : AqOk w' A n c q := ⟨h.len, h.n9, h.t9, h.nil, row_gr h.row g, h.short, h.b64⟩
theorem plain_any (A : Option Addr) (n c : Nat) (q : Aq) (w : World) (h : AqOk w A n c q) : Calls Tryz.prog 74 #[aqV A n c q] w (PlainPost q w) := by
  obtain ⟨h1, h2, h3, h4, h5, h6, h7⟩ := h
  obtain ⟨k, zs, t, a, b, d⟩ := q
  simp only at h1 h3 h5 h6 h7
  by_cases k1 : k = 1
  · subst k1; exact plain1 A n c zs t a b d w h1 h2 h3 h4 h5 h6 h7
  by_cases k2 : k = 2
  · subst k2; exact plain2 A n c zs t a b d w h1 h3 h2
  by_cases k3 : k = 3
  · subst k3; exact plain3 A n c zs t a b d w h1 h3 h2
  by_cases k4 : k = 4
  · subst k4; exact plain4 A n c zs t a b d w h1 h3 h2
  by_cases k5 : k = 5
  · subst k5; exact plain5 A n c zs t a b d w h1 h3 h2
  by_cases k6 : k = 6
  · subst k6; exact plain6 A n c zs t a b d w h1 h3 h2
  exact plainO A n c k zs t a b d w h2 k1 k2 k3 k4 k5 k6
set_option maxHeartbeats 8000000 in
set_option maxRecDepth 100000 in
theorem aright_any (A : Option Addr) (n c : Nat) (q : Aq) (w : World) (h : AqOk w A n c q) : Calls Tryz.prog 18 #[aqV A n c q] w fun e w' => e = .returned (.bool (decide (okA q))) ∧ Gr w w' := by
  obtain ⟨W1, hW1⟩ : ∃ W1, W1 = w.alloc (.cells #[.int .i64 q.kind, .slice A n c, .string (txt q.t), .int .i64 q.a, .int .i64 q.b, .int .i64 q.c] 57) := ⟨_, rfl⟩
  have g1 : Gr w W1 := by rw [hW1]; exact gr_alloc _ _ _
  have hbx : AqB W1 w.heap.size q.kind A n c q.t q.a q.b q.c := by rw [hW1]; exact blk_new w _
  have hp := plain_any A n c q W1 (aqOk_gr h g1)
  obtain ⟨b0, b1, b2, b3, b4, b5⟩ := aqb_cells hbx
  unfold aqV at hp ⊢
  replace hp := Lib.hid hp
  replace g1 := Lib.hid g1
  clear hbx h
  go_enter Tryz.func18, Tryz.ntmps18
  go_upto_region 1 with fail
  rw [← hW1]
  clear hW1
  go_wp2_with fail
  refine hp.out.mono ?_
  rintro e w2 ⟨⟨A2, n2, c2, t2, x, y, z, is, rfl, hn2, hiff⟩, g2⟩
  have G2 := gr_trans g1.out g2
  obtain ⟨W3, hW3⟩ : ∃ W3, W3 = w2.alloc (.cells #[.int .i64 q.kind, .slice A2 n2 c2, .string (txt t2), .int .i64 x, .int .i64 y, .int .i64 z] 57) := ⟨_, rfl⟩
  have g3 : Gr w2 W3 := by rw [hW3]; exact gr_alloc _ _ _
  have hb3 : AqB W3 w2.heap.size q.kind A2 n2 c2 t2 x y z := by rw [hW3]; exact blk_new w2 _
  have G3 := gr_trans G2 g3
  clear b0 b1 b2 b3 b4 b5 hp g2 g3 G2
  obtain ⟨b0, b1, b2, b3, b4, b5⟩ := aqb_cells hb3
  replace G3 := Lib.hid G3
  replace hiff := Lib.hid hiff
  clear hb3
  go_upto_region 2 with fail
  rw [← hW3]
  clear hW3
  cases is with
  | false =>
    have hd : Hid (decide (okA q) = false) := decide_eq_false (fun h => absurd (hiff.out.2 h).1 (by decide))
    clear hiff
    go_wp2
    go_ret
    exact ⟨by rw [hd.out]; rfl, G3.out⟩
  | true =>
    by_cases cn : n2 = 0
    · have hn0 : ((n2 : Int) == 0) = true := eqT (by omega)
      have hn1 : Hid (n2 = 0) := cn
      clear cn
      by_cases ct : t2 = []
      · have ht0 : t2.isEmpty = true := by rw [ct]; rfl
        have ht1 : Hid (t2.length = 0) := by rw [ct]; exact (rfl : ([] : List UInt8).length = 0)
        replace ct := Lib.hid ct
        by_cases cx : x = 0
        · have hx0 : (x == 0) = true := eqT cx
          have hx1 : Hid (x = 0) := cx
          clear cx
          by_cases cy : y = 0
          · have hy0 : (y == 0) = true := eqT cy
            have hy1 : Hid (y = 0) := cy
            clear cy
            by_cases cz : z = 0
            · have hz0 : (z == 0) = true := eqT cz
              have hz1 : Hid (z = 0) := cz
              clear cz
              have hd : Hid (decide (okA q) = true) := decide_eq_true (hiff.out.1 ⟨rfl, hn1.out, ht1.out, hx1.out, hy1.out, hz1.out⟩)
              clear hiff
              go_wp2
              go_ret
              exact ⟨by rw [hd.out]; rfl, G3.out⟩
            · have hz0 : (z == 0) = false := eqF cz
              have hd : Hid (decide (okA q) = false) := decide_eq_false (fun h => cz (hiff.out.2 h).2.2.2.2.2)
              clear hiff cz
              go_wp2
              go_ret
              exact ⟨by rw [hd.out]; rfl, G3.out⟩
          · have hy0 : (y == 0) = false := eqF cy
            have hd : Hid (decide (okA q) = false) := decide_eq_false (fun h => cy (hiff.out.2 h).2.2.2.2.1)
            clear hiff cy
            go_wp2
            go_ret
            exact ⟨by rw [hd.out]; rfl, G3.out⟩
        · have hx0 : (x == 0) = false := eqF cx
          have hd : Hid (decide (okA q) = false) := decide_eq_false (fun h => cx (hiff.out.2 h).2.2.2.1)
          clear hiff cx
          go_wp2
          go_ret
          exact ⟨by rw [hd.out]; rfl, G3.out⟩
      · have ht0 : t2.isEmpty = false := by rw [List.isEmpty_eq_false_iff]; exact ct
        have hd : Hid (decide (okA q) = false) := decide_eq_false (fun h => ct (List.eq_nil_of_length_eq_zero (hiff.out.2 h).2.2.1))
        clear hiff ct
        go_wp2
        go_ret
        exact ⟨by rw [hd.out]; rfl, G3.out⟩
    · have hn0 : ((n2 : Int) == 0) = false := eqF (by omega)
      have hd : Hid (decide (okA q) = false) := decide_eq_false (fun h => cn (hiff.out.2 h).2.1)
      clear hiff cn
      go_wp2
      go_ret
      exact ⟨by rw [hd.out]; rfl, G3.out⟩
end Go.Proofs.YtbnacoakjhhndaaGreat
namespace Go.Proofs.YtbnacoakjhhndaaGreat.Rq
open Go.RowKit

/-- The reader at b stands ahead of these bytes; has it failed? -/
def Rdr (w : World) (b : Nat) (l : List UInt8) (bad : Bool) : Prop := w.heap[b]? = some (.cells #[.string (txt l), .bool bad] 83 (0, 0))
theorem rdr_cells {w : World} {b : Nat} {l : List UInt8} {bad : Bool} (h : Rdr w b l bad) : w.cell? ⟨b, 0, none⟩ = some (.string (txt l)) ∧ w.cell? ⟨b, 1, none⟩ = some (.bool bad) ∧ w.frozen? ⟨b, 0, none⟩ = false ∧ w.frozen? ⟨b, 1, none⟩ = false := by
  unfold Rdr at h
  refine ⟨?_, ?_, ?_, ?_⟩ <;> (first | unfold World.cell? | unfold World.frozen?) <;> rw [h] <;> rfl
theorem rdr_bad {w : World} {b : Nat} {l : List UInt8} {bad : Bool} (h : Rdr w b l bad) (v : Bool) : Rdr (w.setCell ⟨b, 1, none⟩ (.bool v)) b l v := blk_set h 1 _
theorem rdr_on {w : World} {b : Nat} {l : List UInt8} {bad : Bool} (h : Rdr w b l bad) (m : List UInt8) : Rdr (w.setCell ⟨b, 0, none⟩ (.string (txt m))) b m bad := blk_set h 0 _
theorem rdr_gr {w w' : World} {b : Nat} {l : List UInt8} {bad : Bool} (h : Rdr w b l bad) (g : Gr w w') : Rdr w' b l bad := gr_blk g h (by simp)
def RdPost (b : Nat) (w : World) (e : Ending) (w' : World) (v : Value) (l : List UInt8) (bad : Bool) : Prop := e = .returned v ∧ Rdr w' b l bad ∧ GrB b w w'
set_option maxHeartbeats 4000000 in
set_option maxRecDepth 100000 in
theorem take_bad (b n : Nat) (l : List UInt8) (w : World) (h : Rdr w b l true) (_hn : n ≤ 255) : Calls Tryz.prog 29 #[.pointer (some ⟨b, 0, none⟩), .int .i64 n] w fun e w' => RdPost b w e w' (.string (txt [])) l true := by
  obtain ⟨c0, c1, f0, f1⟩ := rdr_cells h
  have hr := rdr_bad h true
  replace hr := Lib.hid hr
  clear h
  go_enter Tryz.func29, Tryz.ntmps29
  go_wp2
  go_ret
  exact ⟨rfl, hr.out, gr_set _ _ _⟩
set_option maxHeartbeats 4000000 in
set_option maxRecDepth 100000 in
theorem take_bad2 (b n : Nat) (l : List UInt8) (w : World) (h : Rdr w b l true) (_hn : n ≤ 1000000) : Calls Tryz.prog 29 #[.pointer (some ⟨b, 0, none⟩), .int .i64 n] w fun e w' => RdPost b w e w' (.string (txt [])) l true := by
  obtain ⟨c0, c1, f0, f1⟩ := rdr_cells h
  have hr := rdr_bad h true
  replace hr := Lib.hid hr
  clear h
  go_enter Tryz.func29, Tryz.ntmps29
  go_wp2
  go_ret
  exact ⟨rfl, hr.out, gr_set _ _ _⟩
set_option maxHeartbeats 4000000 in
set_option maxRecDepth 100000 in
theorem take_far (b n : Nat) (l : List UInt8) (w : World) (h : Rdr w b l false) (_hn : n ≤ 255) (hl : l.length < n) : Calls Tryz.prog 29 #[.pointer (some ⟨b, 0, none⟩), .int .i64 n] w fun e w' => RdPost b w e w' (.string (txt [])) l true := by
  obtain ⟨c0, c1, f0, f1⟩ := rdr_cells h
  have hr := rdr_bad h true
  replace hr := Lib.hid hr
  clear h
  have hli : (l.length : Int) < (n : Int) := by omega
  go_enter Tryz.func29, Tryz.ntmps29
  go_wp2
  go_ret
  exact ⟨rfl, hr.out, gr_set _ _ _⟩
theorem txt_take (l : List UInt8) (n : Nat) : (txt l).extract 0 n = txt (l.take n) := str_eq (by rw [Lib.extract_data, txt_data]; simp)
theorem txt_drop (l : List UInt8) (n : Nat) : (txt l).extract n l.length = txt (l.drop n) := by
  apply str_eq
  have := ext_end (txt l) n
  rw [txt_size] at this
  exact this
set_option maxHeartbeats 4000000 in
set_option maxRecDepth 100000 in
theorem take_on (b n : Nat) (l : List UInt8) (w : World) (h : Rdr w b l false) (hl : n ≤ l.length) (_hm : l.length ≤ 1000000000) : Calls Tryz.prog 29 #[.pointer (some ⟨b, 0, none⟩), .int .i64 n] w fun e w' => RdPost b w e w' (.string (txt (l.take n))) (l.drop n) false := by
  obtain ⟨c0, c1, f0, f1⟩ := rdr_cells h
  have hr := rdr_on h (l.drop n)
  replace hr := Lib.hid hr
  clear h
  have hli : ((l.length : Int) < (n : Int)) = False := eq_false (by omega)
  have hli2 : (n : Int) ≤ (l.length : Int) := by omega
  have e1 := txt_take l n
  have e2 := txt_drop l n
  go_enter Tryz.func29, Tryz.ntmps29
  go_wp2
  go_ret
  exact ⟨rfl, hr.out, gr_set _ _ _⟩
theorem dor6 (x y : Nat) (hx : x < 281474976710656) (hy : y < 256) : bits .or .i64 ((x : Int) * 256) (y : Int) = ((x * 256 + y : Nat) : Int) := by
  rw [bits_join .i64 62 (by decide) (fun n h0 h1 => IntWalk.i64_in _ (by omega)) 8 _ _ (by omega) (by omega) (by omega) (by omega) (by omega) (by omega)]
  simp
set_option maxHeartbeats 4000000 in
set_option maxRecDepth 100000 in
theorem num_of (b n : Nat) (m l' : List UInt8) (bad' : Bool) (w : World) (hm : m.length ≤ 6) (hT : Calls Tryz.prog 29 #[.pointer (some ⟨b, 0, none⟩), .int .i64 n] w fun e w' => RdPost b w e w' (.string (txt m)) l' bad') :
    Calls Tryz.prog 28 #[.pointer (some ⟨b, 0, none⟩), .int .i64 n] w fun e w' => RdPost b w e w' (.int .i64 (dvN m)) l' bad' := by
  replace hT := Lib.hid hT
  go_enter Tryz.func28, Tryz.ntmps28
  go_wp2_with fail
  refine hT.out.mono ?_
  rintro e w1 ⟨rfl, hr, hg⟩
  replace hr := Lib.hid hr
  replace hg := Lib.hid hg
  go_wp2
  go_loop [6, 13] (fun x i => ∃ (k X : Nat), k ≤ m.length ∧ i = .int .i64 k ∧ x = .int .i64 X ∧ X < 256 ^ 6 ∧ Hid (X = dvN (m.take k))) (fun _ i => m.length - (intOf i).toNat)
  case atStart => exact ⟨0, 0, Nat.zero_le _, rfl, rfl, by decide, Lib.hid rfl⟩
  case round =>
    obtain ⟨k, X, hk, rfl, rfl, hX, HX⟩ := hrel
    by_cases hlt : k < m.length
    · have hv := dvN_lt (m.take (k + 1))
      have hs := dvN_snoc (m.take k) m[k]
      rw [← List.take_succ_eq_append_getElem hlt, ← HX.out] at hs
      have h6 : dvN (m.take (k + 1)) < 256 ^ 6 := Nat.lt_of_lt_of_le hv (Nat.pow_le_pow_right (by omega) (by simp; omega))
      have hb := m[k].toNat_lt
      have hki : (k : Int) < (m.length : Int) := by omega
      have hX2 : X * 256 + m[k].toNat < 281474976710656 := by rw [← hs]; exact h6
      have hXs : X < 281474976710656 := by omega
      have hget : (txt m)[k]'(by rw [txt_size]; exact hlt) = m[k] := by show m.toArray[k] = m[k]; simp
      have hor := dor6 X m[k].toNat (by omega) (by omega)
      have hwx : IntKind.i64.wrap ((X : Int) * 256) = (X : Int) * 256 := IntWalk.i64_in _ (by omega)
      replace hs := Lib.hid hs
      replace h6 := Lib.hid h6
      clear hv
      go_wp2
      go_round
      case rel => exact ⟨k + 1, _, by omega, by go_num, rfl, by rw [← hs.out]; exact h6.out, Lib.hid hs.out.symm⟩
      case measure => simp [intOf]; omega
    · obtain rfl : k = m.length := by omega
      have hx := HX.out
      rw [List.take_length] at hx
      subst hx
      go_wp2
      go_ret
      exact ⟨rfl, hr.out, hg.out⟩
theorem num_bad (b n : Nat) (l : List UInt8) (w : World) (h : Rdr w b l true) (hn : n ≤ 255) : Calls Tryz.prog 28 #[.pointer (some ⟨b, 0, none⟩), .int .i64 n] w fun e w' => RdPost b w e w' (.int .i64 (0 : Nat)) l true :=
  num_of b n [] l true w (by simp) (take_bad b n l w h hn)
theorem num_far (b n : Nat) (l : List UInt8) (w : World) (h : Rdr w b l false) (hn : n ≤ 255) (hl : l.length < n) : Calls Tryz.prog 28 #[.pointer (some ⟨b, 0, none⟩), .int .i64 n] w fun e w' => RdPost b w e w' (.int .i64 (0 : Nat)) l true :=
  num_of b n [] l true w (by simp) (take_far b n l w h hn hl)
theorem num_on (b n : Nat) (l : List UInt8) (w : World) (h : Rdr w b l false) (hn : n ≤ 6) (hl : n ≤ l.length) (hm : l.length ≤ 1000000000) : Calls Tryz.prog 28 #[.pointer (some ⟨b, 0, none⟩), .int .i64 n] w fun e w' => RdPost b w e w' (.int .i64 (dvN (l.take n))) (l.drop n) false :=
  num_of b n (l.take n) (l.drop n) false w (by rw [List.length_take]; omega) (take_on b n l w h hl hm)
theorem take_any (b n : Nat) (l : List UInt8) (bad : Bool) (w : World) (h : Rdr w b l bad) (hn : n ≤ 255) (hm : l.length ≤ 1000000000) : Calls Tryz.prog 29 #[.pointer (some ⟨b, 0, none⟩), .int .i64 n] w fun e w' => RdPost b w e w' (.string (txt (tkS n (l, bad)).1)) (tkS n (l, bad)).2.1 (tkS n (l, bad)).2.2 := by
  cases bad with
  | true => rw [tkS_bad]; exact take_bad b n l w h hn
  | false =>
    unfold tkS
    by_cases hl : n ≤ l.length
    · rw [if_pos ⟨rfl, hl⟩]; exact take_on b n l w h hl hm
    · rw [if_neg (fun k => hl k.2)]; exact take_far b n l w h hn (by omega)
theorem tkS_len (n : Nat) (s : List UInt8 × Bool) : (tkS n s).1.length ≤ n ∧ (tkS n s).2.1.length ≤ s.1.length := by
  unfold tkS
  split
  · exact ⟨by rw [List.length_take]; omega, by rw [List.length_drop]; omega⟩
  · exact ⟨Nat.zero_le _, Nat.le_refl _⟩
theorem num_any (b n : Nat) (l : List UInt8) (bad : Bool) (w : World) (h : Rdr w b l bad) (hn : n ≤ 6) (hm : l.length ≤ 1000000000) : Calls Tryz.prog 28 #[.pointer (some ⟨b, 0, none⟩), .int .i64 n] w fun e w' => RdPost b w e w' (.int .i64 (dvN (tkS n (l, bad)).1)) (tkS n (l, bad)).2.1 (tkS n (l, bad)).2.2 :=
  num_of b n _ _ _ w (by have := (tkS_len n (l, bad)).1; omega) (take_any b n l bad w h (by omega) hm)
/-- All that is left is read. -/
theorem rest_any (b : Nat) (l : List UInt8) (bad : Bool) (w : World) (h : Rdr w b l bad) (hm : l.length ≤ 1000000) : Calls Tryz.prog 29 #[.pointer (some ⟨b, 0, none⟩), .int .i64 l.length] w fun e w' => RdPost b w e w' (.string (txt (tkS l.length (l, bad)).1)) (tkS l.length (l, bad)).2.1 (tkS l.length (l, bad)).2.2 := by
  cases bad with
  | true => rw [tkS_bad]; exact take_bad2 b l.length l w h hm
  | false =>
    unfold tkS
    rw [if_pos ⟨rfl, Nat.le_refl _⟩]
    exact take_on b l.length l w h (Nat.le_refl _) (by omega)
end Go.Proofs.YtbnacoakjhhndaaGreat.Rq
namespace Go.Proofs.YtbnacoakjhhndaaGreat
open Go.RowKit

/-- Four bytes of a number, the highest first. -/
def bI (v : Int) (i : Nat) : UInt8 := UInt8.ofNat (v / 2 ^ (8 * (4 - 1 - i)) % 256).toNat
def beI (v : Int) : List UInt8 := (List.range 4).map (bI v)
theorem beI_len (v : Int) : (beI v).length = 4 := by simp [beI]
theorem bI_val (v : Int) (i : Nat) : byteV (bI v i) = .int .u8 (v / 2 ^ (8 * (4 - 1 - i)) % 256) := by
  unfold byteV bI
  generalize v / 2 ^ (8 * (4 - 1 - i)) = x
  have h1 : 0 ≤ x % 256 := Int.emod_nonneg _ (by decide)
  have h2 : x % 256 < 256 := Int.emod_lt_of_pos _ (by decide)
  congr 1
  rw [UInt8.toNat_ofNat']
  omega
theorem beI_get (v : Int) (j : Nat) (hj : j < 4) : (beI v).take (j + 1) = (beI v).take j ++ [bI v j] := by
  rw [List.take_succ_eq_append_getElem (by rw [beI_len]; exact hj)]
  simp [beI]
theorem beI_nat (v : Nat) : beI v = Crc.be 4 v := by
  unfold beI Crc.be
  refine List.map_congr_left fun i _ => ?_
  unfold bI
  have : ((v : Int) / 2 ^ (8 * (4 - 1 - i)) % 256).toNat = v / 2 ^ (8 * (4 - 1 - i)) % 256 := by
    rw [show ((2 : Int) ^ (8 * (4 - 1 - i))) = ((2 ^ (8 * (4 - 1 - i)) : Nat) : Int) from by simp]
    omega
  rw [this]
  apply UInt8.toNat_inj.1
  simp [UInt8.toNat_ofNat']
theorem beI_of (v : Int) (h : 0 ≤ v) : beI v = Crc.be 4 v.toNat := by
  have := beI_nat v.toNat
  rwa [Int.toNat_of_nonneg h] at this
set_option maxHeartbeats 4000000 in
set_option maxRecDepth 100000 in
theorem anum_any (v : Int) (w : World) :
    Calls Tryz.prog 21 #[.int .i64 v] w fun e w' => e = .returned (.string (txt (beI v))) ∧ Gr w w' := by
  obtain ⟨ii, hi, hz0, hz1, hz2⟩ := info_parts infoByte
  go_enter Tryz.func21, Tryz.ntmps21
  go_wp2
  go_loopw [3, 5] (fun o i wr => ∃ (j : Nat), j ≤ 4 ∧ i = .int .i64 j ∧ wr.ownsRow w.heap.size 5 1 o j (((beI v).take j).map byteV) ∧ Below w.heap.size w wr) (fun _ i _ => 4 - (intOf i).toNat)
  case atStart => exact ⟨0, Nat.zero_le _, rfl, World.ownsRow_nil _ _ _ _, Below.refl _ _⟩
  case round =>
    obtain ⟨j, hj, rfl, hown, hbel⟩ := hrel
    replace hown := Lib.hid hown
    by_cases hlt : j < 4
    · have hs := hbel.size
      go_wp2_with (at_builtin; refine wpList_append_own _ rfl _ _ 62 rfl w.heap.size 5 ii (.int .u8 0) 1 1 Tryz.underlying62 hi hz0 hz1 hz2 rfl (by decide) u3 _ _ rfl (hown.out.alloc _) ⟨wr.heap.size, 0, none⟩ 1 1 [byteV (bI v j)] rfl ?c0 ?c1 ?c2 ?c3 ?c4 ?c5 ?_; rotate_right; intro v' W4 hown4 hgrow _nl; clear _nl; have hb4 := below_append hown.out hgrow hs; clear hgrow; replace hown4 := Lib.hid hown4)
      case c0 => rfl
      case c1 => rw [bI_val]; exact cell_one_new _ _ _
      case c2 => simp [byteV, Value.oneCell']
      case c3 => unfold maxLen; omega
      case c4 => omega
      case c5 => simp; omega
      go_roundw
      case rel => exact ⟨j + 1, by omega, by go_num, by rw [beI_get v j hlt, List.map_append]; exact hown4.out, hbel.trans hb4⟩
      case measure => simp [intOf]; omega
    · obtain rfl : j = 4 := by omega
      have hown' := hown.out
      rw [List.take_of_length_le (by rw [beI_len]; exact Nat.le_refl _)] at hown'
      have hcv := run_string_own (P := Tryz.prog) wr 62 9 5 Tryz.underlying62 Tryz.underlying5 Tryz.underlying9 hown'
      clear hown'
      go_wp2
      go_ret
      exact ⟨rfl, gr_of_below hbel (Nat.le_refl _)⟩
end Go.Proofs.YtbnacoakjhhndaaGreat
