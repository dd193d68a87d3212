/-
  Several facts, one behind the other; no condition but bounds (soft): Replies as bytes and back: what they are, that what is told is read as it was. No condition. request.Reply of whatever reply. No condition but bounds on the lengths. request.ReadReply of whatever bytes. No condition but a bound on the length. A reply that came in by value. No condition. The document's Rows: may rows be a file's? No condition but bounds. leporellolaw10.Light of rows. No condition but a bound on the length. The document's Put of a row that may be. No condition. What the document's Sum and Frame answer. No condition but bounds on the lengths.
-/
import Derived.Test.YtbnacoakjhhndaaGreatAskMath
import Derived.Test.YtbnacoakjhhndaaGreatRpB
import Derived.Test.YtbnacoakjhhndaaGreatRowRows
import Derived.Test.YtbnacoakjhhndaaGreatOwnRs
import Derived.Test.YtbnacoakjhhndaaGreatInsReg
import Derived.Test.YtbnacoakjhhndaaGreatRowOpen
import Derived.Test.YtbnacoakjhhndaaGreatRowLight
import Derived.Test.YtbnacoakjhhndaaGreatRefRow
import Derived.Test.YtbnacoakjhhndaaGreatRefNum
import Derived.Test.YtbnacoakjhhndaaGreatLabelShort
import Derived.Test.YtbnacoakjhhndaaGreatGuardFrame
import Derived.Deep.OwnRows
import Derived.Laws.OwnMore
namespace Go.Proofs.YtbnacoakjhhndaaGreat
open Go.RowKit

/-- A reply. -/
structure Rep where
  err : Int
  id : Int
  slip : List UInt8
  rows : List Rw
def okP (r : Rep) : Prop := (0 ≤ r.err ∧ r.err ≤ 12) ∧ (0 ≤ r.id ∧ r.id ≤ 1000000) ∧ r.slip.length ≤ 60 ∧ r.rows.length ≤ 100
instance (r : Rep) : Decidable (okP r) := by unfold okP; exact inferInstance
/-- Its rows' bytes. -/
def rowsL (rs : List Rw) : List UInt8 := rs.flatMap rowL
theorem rowsL_append (a b : List Rw) : rowsL (a ++ b) = rowsL a ++ rowsL b := by simp [rowsL]
theorem rowsL_one (a : Rw) : rowsL [a] = rowL a := by simp [rowsL]
theorem rowsL_cons (a : Rw) (t : List Rw) : rowsL (a :: t) = rowL a ++ rowsL t := by simp [rowsL]
/-- A reply's bytes, ahead of its frame: the head, and all. -/
def repH (e i : Int) (s : List UInt8) (n : Nat) : List UInt8 := UInt8.ofNat e.toNat :: (Crc.be 4 i.toNat ++ (UInt8.ofNat s.length :: (s ++ [UInt8.ofNat n])))
def repT (r : Rep) : List UInt8 := repH r.err r.id r.slip r.rows.length ++ rowsL r.rows
theorem repH_len (e i : Int) (s : List UInt8) (n : Nat) : (repH e i s n).length = 7 + s.length := by
  unfold repH
  simp only [List.length_cons, List.length_append, Crc.be_length, List.length_nil]
  omega
theorem rowsL_len {rs : List Rw} (h : ∀ r ∈ rs, okR r) : (rowsL rs).length ≤ 1463 * rs.length := by
  induction rs with
  | nil => simp [rowsL]
  | cons a t ih =>
    rw [rowsL_cons, List.length_append, List.length_cons]
    have h1 := rowL_le (h a (by simp))
    have h2 := ih (fun r hr => h r (by simp [hr]))
    omega
/-- What Reply answers: its bytes, or which error. -/
def repB? (r : Rep) : Option (List UInt8) := if okP r ∧ (∀ x ∈ r.rows, okR x) ∧ (repT r).length ≤ 4000 then some (Crc.frm (repT r)) else none

/-! ### Back -/
/-- So many rows. -/
def rwsS : Nat → List Rw → List UInt8 × Bool → List Rw × (List UInt8 × Bool)
  | 0, out, s => (out, s)
  | n + 1, out, s => rwsS n (if (rwS s).2.2 = true then out else out ++ [(rwS s).1]) (rwS s).2
def parseP (s : List UInt8 × Bool) : Rep × (List UInt8 × Bool) :=
  (⟨((dvN (tkS 1 s).1 : Nat) : Int), ((dvN (tkS 4 (tkS 1 s).2).1 : Nat) : Int), (tkS (dvN (tkS 1 (tkS 4 (tkS 1 s).2).2).1) (tkS 1 (tkS 4 (tkS 1 s).2).2).2).1,
    (rwsS (dvN (tkS 1 (tkS (dvN (tkS 1 (tkS 4 (tkS 1 s).2).2).1) (tkS 1 (tkS 4 (tkS 1 s).2).2).2).2).1) [] (tkS 1 (tkS (dvN (tkS 1 (tkS 4 (tkS 1 s).2).2).1) (tkS 1 (tkS 4 (tkS 1 s).2).2).2).2).2).1⟩,
   (rwsS (dvN (tkS 1 (tkS (dvN (tkS 1 (tkS 4 (tkS 1 s).2).2).1) (tkS 1 (tkS 4 (tkS 1 s).2).2).2).2).1) [] (tkS 1 (tkS (dvN (tkS 1 (tkS 4 (tkS 1 s).2).2).1) (tkS 1 (tkS 4 (tkS 1 s).2).2).2).2).2).2)
def readP (b : List UInt8) : Rep × (List UInt8 × Bool) := parseP (openS b)
theorem dv_one (n : Nat) (h : n < 256) : dvN [UInt8.ofNat n] = n := by
  simp only [dvN, List.foldl_cons, List.foldl_nil, Nat.zero_mul, Nat.zero_add]
  exact ofNat_len _ h
theorem tkS_pre (s t : List UInt8) : tkS s.length (s ++ t, false) = (s, (t, false)) := by
  unfold tkS
  rw [if_pos ⟨rfl, by simp⟩]
  simp
theorem rws_rows (rs out : List Rw) (h : ∀ r ∈ rs, okR r) : rwsS rs.length out (rowsL rs, false) = (out ++ rs, ([], false)) := by
  induction rs generalizing out with
  | nil => simp [rwsS, rowsL]
  | cons a t ih =>
    have ha := h a (by simp)
    have e : rwS (rowsL (a :: t), false) = (a, (rowsL t, false)) := by
      unfold rwS
      simp only [Bool.false_eq_true, if_false]
      rw [rowsL_cons, getR_of ha (okLbs_small ha.1)]
    rw [List.length_cons, rwsS, e]
    simp only [Bool.false_eq_true, if_false]
    rw [ih _ (fun r hr => h r (by simp [hr]))]
    simp
theorem parse_rep {r : Rep} (h : okP r) (hr : ∀ x ∈ r.rows, okR x) : parseP (repT r, false) = (r, ([], false)) := by
  obtain ⟨⟨e1, e2⟩, ⟨i1, i2⟩, hs, hn⟩ := h
  obtain ⟨err, id, slip, rows⟩ := r
  simp only at e1 e2 i1 i2 hs hn hr
  have t1 : tkS 1 (repT ⟨err, id, slip, rows⟩, false) = ([UInt8.ofNat err.toNat], (Crc.be 4 id.toNat ++ (UInt8.ofNat slip.length :: (slip ++ (UInt8.ofNat rows.length :: rowsL rows))), false)) := by
    have : repT ⟨err, id, slip, rows⟩ = UInt8.ofNat err.toNat :: (Crc.be 4 id.toNat ++ (UInt8.ofNat slip.length :: (slip ++ (UInt8.ofNat rows.length :: rowsL rows)))) := by simp [repT, repH]
    rw [this]
    exact tkS_one _ _
  have t2 := tkS_be 4 id.toNat (UInt8.ofNat slip.length :: (slip ++ (UInt8.ofNat rows.length :: rowsL rows))) (by omega)
  have t3 := tkS_one (UInt8.ofNat slip.length) (slip ++ (UInt8.ofNat rows.length :: rowsL rows))
  have t4 := tkS_pre slip (UInt8.ofNat rows.length :: rowsL rows)
  have t5 := tkS_one (UInt8.ofNat rows.length) (rowsL rows)
  have t6 := rws_rows rows [] hr
  unfold parseP
  rw [t1]
  simp only
  rw [t2]
  simp only
  rw [t3]
  simp only
  rw [dv_one slip.length (by omega), t4]
  simp only
  rw [t5]
  simp only
  rw [dv_one rows.length (by omega), t6, dv_one err.toNat (by omega), dv_be _ _ (by omega)]
  simp only [List.nil_append, Prod.mk.injEq, Rep.mk.injEq, and_true, true_and]
  omega
theorem open_rep2 {b : List UInt8} (h : b.length ≤ 4000) : openS (Crc.frm b) = (b, false) := by
  have ht := Crc.take_frm b [] (by omega)
  rw [List.append_nil] at ht
  unfold openS
  rw [ht]
  simp
theorem read_rep {r : Rep} (h : okP r) (hr : ∀ x ∈ r.rows, okR x) (hl : (repT r).length ≤ 4000) : readP (Crc.frm (repT r)) = (r, ([], false)) := by
  unfold readP
  rw [open_rep2 hl, parse_rep h hr]
/-- Is it a reply's bytes? -/
def IsRepL (b : List UInt8) : Prop := (readP b).2 = ([], false) ∧ repB? (readP b).1 = some b
theorem isRep_of {r : Rep} {b : List UInt8} (h : repB? r = some b) : IsRepL b ∧ (readP b).1 = r := by
  unfold repB? at h
  split at h
  · rename_i hh
    have hb := (Option.some.inj h).symm
    have e := read_rep hh.1 hh.2.1 hh.2.2
    rw [← hb] at e
    refine ⟨⟨by rw [e], ?_⟩, by rw [e]⟩
    rw [e]
    unfold repB?
    rw [if_pos hh, hb]
  · cases h
end Go.Proofs.YtbnacoakjhhndaaGreat
namespace Go.Proofs.YtbnacoakjhhndaaGreat
open Go.RowKit

def rpV (A : Option Addr) (n c : Nat) (r : Rep) : Value := .agg #[.int .i64 r.err, .int .i64 r.id, .string (txt r.slip), .slice A n c]
/-- A reply that came in, or that was read. -/
structure RpOk (w : World) (A : Option Addr) (n : Nat) (r : Rep) : Prop where
  rows : Rows w A n r.rows
  short : ∀ x ∈ r.rows, ShortL x.l ∧ x.l.length ≤ 1000000000 ∧ (-9223372036854775808 ≤ x.v ∧ x.v ≤ 9223372036854775807)
  n9 : n ≤ 9223372036854775807
  slip : r.slip.length ≤ 9223372036854775807
  err : -9223372036854775808 ≤ r.err ∧ r.err ≤ 9223372036854775807
  id : -9223372036854775808 ≤ r.id ∧ r.id ≤ 9223372036854775807
theorem rpOk_gr {w w' : World} {A : Option Addr} {n : Nat} {r : Rep} (h : RpOk w A n r) (g : Gr w w') : RpOk w' A n r := ⟨rows_gr h.rows g, h.short, h.n9, h.slip, h.err, h.id⟩
def repE (r : Rep) : Int := if okP r ∧ (∀ x ∈ r.rows, okR x) then 8 else 1
def RepPost (r : Rep) (w : World) (e : Ending) (w' : World) : Prop := e = .returned (match repB? r with | some b => .tuple #[.string (txt b), .int .i64 0] | none => .tuple #[.string ⟨#[]⟩, .int .i64 (repE r)]) ∧ Gr w w'
theorem repB_bad {r : Rep} (h : ¬ okP r) : repB? r = none ∧ repE r = 1 := ⟨by unfold repB?; rw [if_neg (fun k => h k.1)], by unfold repE; rw [if_neg (fun k => h k.1)]⟩
theorem repB_row {r : Rep} {x : Rw} (hx : x ∈ r.rows) (h : ¬ okR x) : repB? r = none ∧ repE r = 1 := ⟨by unfold repB?; rw [if_neg (fun k => h (k.2.1 x hx))], by unfold repE; rw [if_neg (fun k => h (k.2 x hx))]⟩
theorem be_one' (v : Nat) (h : v < 256) : [UInt8.ofNat v].length = 1 := rfl
/-- A byte of a number that is small. -/
theorem byte_of {v : Int} (h0 : 0 ≤ v) (h1 : v ≤ 255) : v = ((UInt8.ofNat v.toNat).toNat : Nat) := by rw [ofNat_len _ (by omega)]; omega
theorem take_snocP {α : Type} {l : List α} {k : Nat} {x : α} (hx : l[k]? = some x) : l.take (k + 1) = l.take k ++ [x] := by
  obtain ⟨h1, h2⟩ := List.getElem?_eq_some_iff.1 hx
  rw [List.take_succ_eq_append_getElem h1, h2]
theorem rows_below {B : Nat} {w w' : World} {A : Option Addr} {n : Nat} {rs : List Rw} (h : Rows w A n rs) (g : Below B w w') (hB : w.heap.size ≤ B) : Rows w' A n rs := rows_gr h (gr_of_below g hB)
set_option maxHeartbeats 16000000 in
set_option maxRecDepth 100000 in
theorem rep_bad (A : Option Addr) (n c : Nat) (r : Rep) (w : World) (h : RpOk w A n r) (ho : ¬ okP r) : Calls Tryz.prog 6 #[rpV A n c r] w (RepPost r w) := by
  obtain ⟨e1, e2⟩ := repB_bad ho
  unfold RepPost
  rw [e1, e2]
  have hl : r.rows.length = n := h.rows.1
  have hs9 := h.slip
  have hn9 := h.n9
  obtain ⟨err, id, slip, rows⟩ := r
  simp only at hl hs9
  unfold rpV
  simp only
  have hno : err < 0 ∨ 12 < err ∨ id < 0 ∨ 1000000 < id ∨ 60 < slip.length ∨ 100 < n := by
    unfold okP at ho
    simp only at ho
    omega
  obtain ⟨W1, hW1⟩ : ∃ W1, W1 = w.alloc (.cells #[.int .i64 err, .int .i64 id, .string (txt slip), .slice A n c] 25) := ⟨_, rfl⟩
  have g1 : Gr w W1 := by rw [hW1]; exact gr_alloc _ _ _
  have hb : W1.heap[w.heap.size]? = some (.cells #[.int .i64 err, .int .i64 id, .string (txt slip), .slice A n c] 25 (0, 0)) := by rw [hW1]; exact blk_new _ _
  have d0 : W1.cell? ⟨w.heap.size, 0, none⟩ = some (.int .i64 err) := fcellR hb rfl
  have d1 : W1.cell? ⟨w.heap.size, 1, none⟩ = some (.int .i64 id) := fcellR hb rfl
  have d2 : W1.cell? ⟨w.heap.size, 2, none⟩ = some (.string (txt slip)) := fcellR hb rfl
  have d3 : W1.cell? ⟨w.heap.size, 3, none⟩ = some (.slice A n c) := fcellR hb rfl
  replace h := Lib.hid h
  replace hl := Lib.hid hl
  replace g1 := Lib.hid g1
  replace hb := Lib.hid hb
  clear e1 e2 ho
  go_enter Tryz.func6, Tryz.ntmps6
  go_upto_region 1 with fail
  rw [← hW1]
  clear hW1
  by_cases q1 : err < 0
  · clear hno
    go_wp2
    go_ret2
    exact ⟨rfl, g1.out⟩
  by_cases q2 : 12 < err
  · have q1F : (err < 0) = False := eq_false q1
    clear hno
    go_wp2
    go_ret2
    exact ⟨rfl, g1.out⟩
  have q1F : (err < 0) = False := eq_false q1
  have q2F : (12 < err) = False := eq_false q2
  by_cases q3 : id < 0
  · clear hno
    go_wp2
    go_ret2
    exact ⟨rfl, g1.out⟩
  have q3F : (id < 0) = False := eq_false q3
  by_cases q4 : 1000000 < id
  · clear hno
    go_wp2
    go_ret2
    exact ⟨rfl, g1.out⟩
  have q4F : (1000000 < id) = False := eq_false q4
  by_cases q5 : 60 < slip.length
  · have q5I : (60 : Int) < (slip.length : Int) := by omega
    clear hno
    go_wp2
    go_ret2
    exact ⟨rfl, g1.out⟩
  have q5I : ((60 : Int) < (slip.length : Int)) = False := eq_false (by omega)
  have q6I : (100 : Int) < (n : Int) := by omega
  clear hno
  go_wp2
  go_ret2
  exact ⟨rfl, g1.out⟩
set_option maxHeartbeats 16000000 in
set_option maxRecDepth 100000 in
theorem rep_ok (A : Option Addr) (n c : Nat) (r : Rep) (w : World) (h : RpOk w A n r) (ho : okP r) : Calls Tryz.prog 6 #[rpV A n c r] w (RepPost r w) := by
  have hl : r.rows.length = n := h.rows.1
  obtain ⟨⟨e1, e2⟩, ⟨i1, i2⟩, hs60, hn100⟩ := ho
  obtain ⟨R, hR⟩ : ∃ R, R = r := ⟨_, rfl⟩
  rw [← hR]
  obtain ⟨err, id, slip, rows⟩ := r
  simp only at hl e1 e2 i1 i2 hs60 hn100
  rw [hl] at hn100
  rw [hR]
  unfold rpV
  simp only
  rw [← hR]
  obtain ⟨W1, hW1⟩ : ∃ W1, W1 = w.alloc (.cells #[.int .i64 err, .int .i64 id, .string (txt slip), .slice A n c] 25) := ⟨_, rfl⟩
  have g1 : Gr w W1 := by rw [hW1]; exact gr_alloc _ _ _
  have hs1 : W1.heap.size = w.heap.size + 1 := by rw [hW1]; simp
  have hb : W1.heap[w.heap.size]? = some (.cells #[.int .i64 err, .int .i64 id, .string (txt slip), .slice A n c] 25 (0, 0)) := by rw [hW1]; exact blk_new _ _
  obtain ⟨W2, hW2⟩ : ∃ W2, W2 = W1.alloc (.cells #[.pointer none, .slice none 0 0] 64) := ⟨_, rfl⟩
  have hbld := bld_new W1
  rw [← hW2] at hbld
  have g2 : Gr W1 W2 := by rw [hW2]; exact gr_alloc _ _ _
  have G2 : Gr w W2 := gr_trans g1 g2
  obtain ⟨B, hB⟩ : ∃ B, B = W1.heap.size := ⟨_, rfl⟩
  rw [← hB] at hbld
  have hBw : w.heap.size < B := by omega
  have hbs : B ≤ W2.heap.size := hbld.2
  -- what is at hand as long as what lies below the builder stays
  have hC : ∀ W, Below B W2 W → (W.cell? ⟨w.heap.size, 0, none⟩ = some (.int .i64 err) ∧ W.cell? ⟨w.heap.size, 1, none⟩ = some (.int .i64 id) ∧ W.cell? ⟨w.heap.size, 2, none⟩ = some (.string (txt slip)) ∧ W.cell? ⟨w.heap.size, 3, none⟩ = some (.slice A n c)) := fun W hw => by
    have hq := (hw.block w.heap.size hBw).trans (gr_blk g2 hb (by simp))
    exact ⟨fcellR hq rfl, fcellR hq rfl, fcellR hq rfl, fcellR hq rfl⟩
  have hrw : ∀ W, Below B W2 W → Rows W A n rows := fun W hw => rows_gr (w := w) h.rows (gr_of_below ((gr_below G2).trans (below_le9 hw (Nat.le_of_lt hBw))) (Nat.le_refl _))
  have hfin : ∀ W, Below B W2 W → Gr w W := fun W hw => gr_of_below ((gr_below G2).trans (below_le9 hw (Nat.le_of_lt hBw))) (Nat.le_refl _)
  have hsh := h.short
  simp only at hsh
  obtain ⟨d0, d1, d2, d3⟩ : W1.cell? ⟨w.heap.size, 0, none⟩ = some (.int .i64 err) ∧ W1.cell? ⟨w.heap.size, 1, none⟩ = some (.int .i64 id) ∧ W1.cell? ⟨w.heap.size, 2, none⟩ = some (.string (txt slip)) ∧ W1.cell? ⟨w.heap.size, 3, none⟩ = some (.slice A n c) := ⟨fcellR hb rfl, fcellR hb rfl, fcellR hb rfl, fcellR hb rfl⟩
  have num3 := fun W => anum_any id W
  rw [beI_of id i1] at num3
  have q1F : (err < 0) = False := eq_false (by omega)
  have q2F : (12 < err) = False := eq_false (by omega)
  have q3F : (id < 0) = False := eq_false (by omega)
  have q4F : (1000000 < id) = False := eq_false (by omega)
  have q5F : ((60 : Int) < (slip.length : Int)) = False := eq_false (by omega)
  have q6F : ((100 : Int) < (n : Int)) = False := eq_false (by omega)
  have w1 : err % 256 = err := by omega
  have w2 : (slip.length : Int) % 256 = (slip.length : Int) := by omega
  have w3 : (n : Int) % 256 = (n : Int) := by omega
  have hR2 : R = ⟨err, id, slip, rows⟩ := hR
  replace hbld := Lib.hid hbld
  replace hC := Lib.hid hC
  replace hrw := Lib.hid hrw
  replace hfin := Lib.hid hfin
  replace hsh := Lib.hid hsh
  replace G2 := Lib.hid G2
  replace num3 := Lib.hid num3
  replace h := Lib.hid h
  replace hl := Lib.hid hl
  replace hR2 := Lib.hid hR2
  replace hb := Lib.hid hb
  clear hR g1 g2 hs1
  go_enter Tryz.func6, Tryz.ntmps6
  go_upto_region 1 with fail
  rw [← hW1]
  clear hW1
  go_upto_region 4 with fail
  rw [← hW2, ← hB]
  clear hW2 hB d0 d1 d2 d3
  obtain ⟨d0, d1, d2, d3⟩ := hC.out W2 (Below.refl _ _)
  have hw := writeByte_any B [] (UInt8.ofNat err.toNat) err (byte_of e1 (by omega)) W2 hbld.out (by simp)
  replace hw := Lib.hid hw
  go_wp2_with fail
  refine hw.out.mono ?_
  rintro e w3 ⟨rfl, hb3, hk3⟩
  have bel3 := hk3.bel
  clear d0 d1 d2 d3 hw hbld hk3
  obtain ⟨d0, d1, d2, d3⟩ := hC.out w3 bel3
  replace hb3 := Lib.hid hb3
  replace bel3 := Lib.hid bel3
  go_wp2_with fail
  refine (num3.out _).mono ?_
  rintro e w4 ⟨rfl, g4⟩
  have hb4 := bld_gr hb3.out g4
  have bel4 := below_gr bel3.out g4 (Nat.le_trans hbs bel3.out.size) (by simp)
  have hw := writeString_any B _ (Crc.be 4 id.toNat) w4 hb4 (by simp) (by rw [Crc.be_length]; decide)
  clear d0 d1 d2 d3 g4 hb3 bel3
  obtain ⟨d0, d1, d2, d3⟩ := hC.out w4 bel4
  replace hw := Lib.hid hw
  replace bel4 := Lib.hid bel4
  clear hb4
  go_wp2_with fail
  refine hw.out.mono ?_
  rintro e w5 ⟨rfl, hb5, hk5⟩
  have bel5 := bel4.out.trans hk5.bel
  have hw2 := writeByte_any B _ (UInt8.ofNat slip.length) (slip.length : Int) (by rw [ofNat_len _ (by omega)]) w5 hb5 (by simp [Crc.be_length])
  clear d0 d1 d2 d3 hw hk5 bel4 hb5
  obtain ⟨d0, d1, d2, d3⟩ := hC.out w5 bel5
  replace hw2 := Lib.hid hw2
  replace bel5 := Lib.hid bel5
  go_wp2_with fail
  refine hw2.out.mono ?_
  rintro e w6 ⟨rfl, hb6, hk6⟩
  have bel6 := bel5.out.trans hk6.bel
  have hw3 := writeString_any B _ slip w6 hb6 (by simp [Crc.be_length]) (by omega)
  clear d0 d1 d2 d3 hw2 hk6 bel5 hb6
  obtain ⟨d0, d1, d2, d3⟩ := hC.out w6 bel6
  replace hw3 := Lib.hid hw3
  replace bel6 := Lib.hid bel6
  go_wp2_with fail
  refine hw3.out.mono ?_
  rintro e w7 ⟨rfl, hb7, hk7⟩
  have bel7 := bel6.out.trans hk7.bel
  have hw4 := writeByte_any B _ (UInt8.ofNat n) (n : Int) (by rw [ofNat_len _ (by omega)]) w7 hb7 (by simp [Crc.be_length]; omega)
  clear d0 d1 d2 d3 hw3 hk7 bel6 hb7
  obtain ⟨d0, d1, d2, d3⟩ := hC.out w7 bel7
  replace hw4 := Lib.hid hw4
  replace bel7 := Lib.hid bel7
  go_wp2_with fail
  refine hw4.out.mono ?_
  rintro e w8 ⟨rfl, hb8, hk8⟩
  have bel8 := bel7.out.trans hk8.bel
  have hb8' : Bld B (repH err id slip n) w8 := by
    have e : repH err id slip n = [] ++ [UInt8.ofNat err.toNat] ++ Crc.be 4 id.toNat ++ [UInt8.ofNat slip.length] ++ slip ++ [UInt8.ofNat n] := by simp [repH]
    rw [e]
    exact hb8
  have hH := repH_len err id slip n
  clear d0 d1 d2 d3 hw4 hk8 bel7 hb8
  obtain ⟨d0, d1, d2, d3⟩ := hC.out w8 bel8
  obtain ⟨Hd0, hHd⟩ : ∃ Hd0, Hd0 = repH err id slip n := ⟨_, rfl⟩
  rw [← hHd] at hb8' hH
  have h8len : w8.heap.size ≥ B := Nat.le_trans hbs bel8.size
  replace hHd := Lib.hid hHd
  replace hb8' := Lib.hid hb8'
  replace bel8 := Lib.hid bel8
  replace hH := Lib.hid hH
  clear h8len
  go_wp2
  go_loopw [63] (fun iv wr => ∃ k : Nat, k ≤ n ∧ iv = .int .i64 k ∧ Hid (Bld B (Hd0 ++ rowsL (rows.take k)) wr) ∧ Hid (Below B W2 wr) ∧ Hid (∀ x ∈ rows.take k, okR x)) (fun iv _ => n - (intOf iv).toNat)
  case atStart => exact ⟨0, Nat.zero_le _, rfl, Lib.hid (by rw [List.take_zero]; simpa [rowsL] using hb8'.out), bel8, Lib.hid (by intro x hx; simp at hx)⟩
  case round =>
    obtain ⟨k, hk, rfl, hbk, hbel, hall⟩ := hrel
    have hlenk : (Hd0 ++ rowsL (rows.take k)).length ≤ 67 + 1463 * k := by
      have h1 := rowsL_len hall.out
      rw [List.length_take] at h1
      rw [List.length_append, hH.out]
      have : 1463 * min k rows.length ≤ 1463 * k := Nat.mul_le_mul_left _ (Nat.min_le_left _ _)
      omega
    by_cases hlt : k < n
    · obtain ⟨x, h2, Bx, ox, hx, hok, rfl, c0, c1⟩ := rows_at (hrw.out wr hbel.out) hlt
      have hki : (k : Int) < (n : Int) := by omega
      have hk0 : (0 : Int) ≤ (k : Int) := by omega
      have hmem := List.mem_of_getElem? hx
      obtain ⟨t1, t2, t3⟩ := hsh.out x hmem
      have hrow := hok.row
      have hnil := hok.nil
      have hnn := hok.n
      have hvv := hok.v
      obtain ⟨Wx, hWx⟩ : ∃ Wx, Wx = wr.alloc (.cells #[.slice h2.A h2.n h2.c, .int .i64 h2.v] 34) := ⟨_, rfl⟩
      have gx : Gr wr Wx := by rw [hWx]; exact gr_alloc _ _ _
      have x0 : Wx.cell? ⟨wr.heap.size, 0, none⟩ = some (.slice h2.A h2.n h2.c) := by rw [hWx, World.cell?_alloc_new]; rfl
      have x1 : Wx.cell? ⟨wr.heap.size, 1, none⟩ = some (.int .i64 h2.v) := by rw [hWx, World.cell?_alloc_new]; rfl
      have cP := fun W (g : Gr wr W) => put_any h2.A h2.n h2.c x.l h2.v W (by omega) hnil (row_gr hrow g) t1 (by rw [hvv]; exact t3)
      have heq : (⟨x.l, h2.v⟩ : Rw) = x := by rw [hvv]
      unfold PutPost at cP
      rw [heq] at cP
      have htk := take_snocP hx
      replace cP := Lib.hid cP
      replace hmem := Lib.hid hmem
      replace htk := Lib.hid htk
      replace gx := Lib.hid gx
      clear hok hx hrow hnil hnn hvv heq t1 t2 t3
      go_upto_region 12 with fail
      rw [← hWx]
      clear hWx c0 c1
      by_cases hox : okR x
      · go_wp2_with fail
        refine (cP.out _ gx.out).mono ?_
        rintro e wa ⟨rfl, ga0⟩
        have ga := gr_trans gx.out ga0
        rw [if_pos hox]
        have hxl := rowL_le hox
        have hba := bld_gr hbk.out ga
        have bela := below_gr hbel.out ga (Nat.le_trans hbs hbel.out.size) (by simp)
        have hw := writeString_any B _ (rowL x) wa hba (by omega) (by omega)
        have hall2 : ∀ y ∈ rows.take (k + 1), okR y := fun y hy => by
          rw [htk.out] at hy
          rcases List.mem_append.1 hy with hy | hy
          · exact hall.out y hy
          · rw [List.mem_singleton.1 hy]; exact hox
        replace hw := Lib.hid hw
        replace bela := Lib.hid bela
        replace hall2 := Lib.hid hall2
        replace hox := Lib.hid hox
        clear cP hba ga hbk hlenk
        go_wp2_with fail
        refine hw.out.mono ?_
        rintro e wb ⟨rfl, hbb, hkb⟩
        have belb := bela.out.trans hkb.bel
        have hbb2 : Bld B (Hd0 ++ rowsL (rows.take (k + 1))) wb := by rw [htk.out, rowsL_append, rowsL_one, ← List.append_assoc]; exact hbb
        replace hbb2 := Lib.hid hbb2
        replace belb := Lib.hid belb
        clear hw hkb hbb bela
        go_wp2
        go_roundw
        case rel => exact ⟨k + 1, by omega, by go_num, hbb2, belb, hall2⟩
        case measure => simp [intOf]; omega
      · obtain ⟨r1, r2⟩ := repB_row (r := ⟨err, id, slip, rows⟩) hmem.out hox
        go_wp2_with fail
        refine (cP.out _ gx.out).mono ?_
        rintro e wa ⟨rfl, ga0⟩
        have ga := gr_trans gx.out ga0
        rw [if_neg hox]
        have hG := gr_trans (hfin.out wr hbel.out) ga
        have hfinal : RepPost R w (.returned (.tuple #[.string ⟨#[]⟩, .int .i64 1])) wa := by
          unfold RepPost
          rw [hR2.out, r1, r2]
          exact ⟨rfl, hG⟩
        replace hfinal := Lib.hid hfinal
        replace hox := Lib.hid hox
        clear cP r1 r2 hG hlenk
        go_wp2
        go_ret2
        exact hfinal.out
    · obtain rfl : k = n := by omega
      have hki : ((k : Int) < (k : Int)) = False := eq_false (by omega)
      have hfull : rows.take k = rows := List.take_of_length_le (by rw [hl.out]; exact Nat.le_refl _)
      have hbk2 := hbk.out
      have hall2 := hall.out
      rw [hfull] at hbk2 hall2 hlenk
      have hT : repT R = Hd0 ++ rowsL rows := by rw [hR2.out, hHd.out]; unfold repT; simp only; rw [hl.out]
      rw [← hT] at hbk2 hlenk
      have hokP : okP R := by rw [hR2.out]; exact ⟨⟨e1, e2⟩, ⟨i1, i2⟩, hs60, by rw [hl.out]; exact hn100⟩
      have hallR : ∀ x ∈ R.rows, okR x := by rw [hR2.out]; exact hall2
      have hln := builderLen_any B (repT R) wr hbk2
      have hst := builderString_any B (repT R) wr hbk2
      obtain ⟨M, hM⟩ : ∃ M, M = repT R := ⟨_, rfl⟩
      rw [← hM] at hln hst hlenk
      have hGw := hfin.out wr hbel.out
      replace hln := Lib.hid hln
      replace hst := Lib.hid hst
      replace hM := Lib.hid hM
      replace hokP := Lib.hid hokP
      replace hallR := Lib.hid hallR
      replace hGw := Lib.hid hGw
      clear hbk hbk2 hall hall2 hfull hT
      go_wp2_with fail
      refine hln.out.mono ?_
      rintro e w9 ⟨rfl, rfl⟩
      by_cases h4 : 4000 < M.length
      · have h4I : (4000 : Int) < (M.length : Int) := by omega
        have hno : repB? R = none ∧ repE R = 8 := ⟨by unfold repB?; rw [if_neg (fun q => by have := q.2.2; rw [← hM.out] at this; omega)], by unfold repE; rw [if_pos ⟨hokP.out, hallR.out⟩]⟩
        have hfinal : RepPost R w (.returned (.tuple #[.string ⟨#[]⟩, .int .i64 8])) w9 := by
          unfold RepPost
          rw [hno.1, hno.2]
          exact ⟨rfl, hGw.out⟩
        replace hfinal := Lib.hid hfinal
        clear hno hln hst
        go_wp2
        go_ret2
        exact hfinal.out
      · have h4I : ((4000 : Int) < (M.length : Int)) = False := eq_false (by omega)
        have hyes : repB? R = some (Crc.frm M) := by unfold repB?; rw [if_pos ⟨hokP.out, hallR.out, by rw [← hM.out]; omega⟩, hM.out]
        clear hln
        go_wp2_with fail
        refine hst.out.mono ?_
        rintro e w10 ⟨rfl, hb10, hk10⟩
        have bel10 := hbel.out.trans hk10.bel
        have hf := frame_any (txt M) w10 (by rw [txt_size]; omega)
        rw [txt_data] at hf
        replace hf := Lib.hid hf
        replace bel10 := Lib.hid bel10
        replace hyes := Lib.hid hyes
        clear hb10 hk10 hst
        go_wp2_with fail
        refine hf.out.mono ?_
        rintro e w11 ⟨rfl, g11⟩
        have hfinal : RepPost R w (.returned (.tuple #[.string (txt (Crc.frm M)), .int .i64 0])) w11 := by
          unfold RepPost
          rw [hyes.out]
          exact ⟨rfl, gr_trans (hfin.out _ bel10.out) g11⟩
        replace hfinal := Lib.hid hfinal
        go_wp2
        go_ret2
        exact hfinal.out
theorem rep_any (A : Option Addr) (n c : Nat) (r : Rep) (w : World) (h : RpOk w A n r) : Calls Tryz.prog 6 #[rpV A n c r] w (RepPost r w) := by
  by_cases ho : okP r
  · exact rep_ok A n c r w h ho
  · exact rep_bad A n c r w h ho
end Go.Proofs.YtbnacoakjhhndaaGreat
namespace Go.Proofs.YtbnacoakjhhndaaGreat
open Go.RowKit

def RpB2 (w : World) (b : Nat) (x y : Int) (t : List UInt8) (sl : Value) : Prop := w.heap[b]? = some (.cells #[.int .i64 x, .int .i64 y, .string (txt t), sl] 25 (0, 0))
theorem rpb2_cells {w : World} {b : Nat} {x y : Int} {t : List UInt8} {sl : Value} (h : RpB2 w b x y t sl) : w.cell? ⟨b, 0, none⟩ = some (.int .i64 x) ∧ w.cell? ⟨b, 1, none⟩ = some (.int .i64 y) ∧ w.cell? ⟨b, 2, none⟩ = some (.string (txt t)) ∧ w.cell? ⟨b, 3, none⟩ = some sl := ⟨fcellR h rfl, fcellR h rfl, fcellR h rfl, fcellR h rfl⟩
theorem rpb2_there {w : World} {b : Nat} {x y : Int} {t : List UInt8} {sl : Value} (h : RpB2 w b x y t sl) : w.there b 0 4 := fun j hj => ⟨by
  obtain ⟨c0, c1, c2, c3⟩ := rpb2_cells h
  match j, hj with
  | 0, _ => rw [c0]; rfl
  | 1, _ => rw [c1]; rfl
  | 2, _ => rw [c2]; rfl
  | 3, _ => rw [c3]; rfl
  | j + 4, hj => omega, fzeroR h _⟩
/-- What is at hand while a reply is read: the result's place, the reader, the reply so far, its rows. -/
structure R2At (w wr : World) (b p : Nat) (l : List UInt8) (bad : Bool) (x y : Int) (t : List UInt8) (sl : Value) (rs : List Rw) : Prop where
  res : RpB2 wr w.heap.size 0 0 [] (.slice none 0 0)
  rdr : Rq.Rdr wr b l bad
  out : RpB2 wr p x y t sl
  own : OwnRs wr (p + 1) sl rs
  bel : Below w.heap.size w wr
  hb : w.heap.size < b
  hp : b < p
section
variable {w wr w2 : World} {b p : Nat} {l l2 : List UInt8} {bad bad2 : Bool} {x y x2 y2 : Int} {t t2 : List UInt8} {sl : Value} {rs : List Rw}
/-- A block that is of another type than rows and labels owns none of them. -/
theorem ownRs_blk {base k : Nat} {cs : Array Value} {ty : TypeId} {fr : Nat × Nat} (h : OwnRs wr base sl rs) (hb : wr.heap[k]? = some (.cells cs ty fr)) (h1 : ty ≠ 77) (h2 : ty ≠ 34) (g : wr.grownBy w2 (some k)) : OwnRs w2 base sl rs := by
  have one : ∀ {base2 : Nat} {e : TypeId} {size n : Nat} {v : Value} {xs : List Value}, wr.ownsRow base2 e size v n xs → ty ≠ e → w2.ownsRow base2 e size v n xs := fun ho he => ho.kept g (by
    rcases ho.2 with ⟨rfl, _⟩ | ⟨g', cap, cur, rfl, _, hg, _⟩
    · exact .inl rfl
    · right
      intro q
      have : g' = k := by simpa [Value.ownBlock] using q
      subst this
      rw [hb] at hg
      injection hg with q1
      injection q1 with _ q2
      exact he q2)
  obtain ⟨hs, k1, k2⟩ := h
  exact ⟨hs, ⟨k1.1, fun i r hr => by obtain ⟨z, e, z1, z2, z3⟩ := k1.2 i r hr; exact ⟨z, e, z1, z2, one z3 h1⟩⟩, one k2 h2⟩
theorem r2_gr (h : R2At w wr b p l bad x y t sl rs) (g : Gr wr w2) : R2At w w2 b p l bad x y t sl rs :=
  ⟨gr_blk g h.res (by simp), Rq.rdr_gr h.rdr g, gr_blk g h.out (by simp), ownRs_gr h.own g, below_gr h.bel g h.bel.size (by simp), h.hb, h.hp⟩
theorem r2_rd (h : R2At w wr b p l bad x y t sl rs) (hr : Rq.Rdr w2 b l2 bad2) (g : GrB b wr w2) : R2At w w2 b p l2 bad2 x y t sl rs :=
  ⟨gr_blk g h.res (by have := h.hb; simp; omega), hr, gr_blk g h.out (by have := h.hp; simp; omega), ownRs_blk h.own h.rdr (by decide) (by decide) g, below_gr h.bel g h.bel.size (by intro j hj; cases hj; have := h.hb; omega), h.hb, h.hp⟩
theorem r2_set (h : R2At w wr b p l bad x y t sl rs) (j : Nat) (v : Value) (ho : RpB2 (wr.setCell ⟨p, j, none⟩ v) p x2 y2 t2 sl) : R2At w (wr.setCell ⟨p, j, none⟩ v) b p l bad x2 y2 t2 sl rs := by
  have g := gr_set wr ⟨p, j, none⟩ v
  have h1 := h.hb
  have h2 := h.hp
  exact ⟨gr_blk g h.res (by simp; omega), gr_blk g h.rdr (by simp; omega), ho, ownRs_blk h.own h.out (by decide) (by decide) g, below_gr h.bel g h.bel.size (by intro j hj; cases hj; simp; omega), h1, h2⟩
/-- An append of the reply's rows: what was at hand still is. -/
theorem r2_past {r : Option Nat} (h : R2At w wr b p l bad x y t sl rs) (g : wr.grownBy w2 r) (hr : ∀ k, r = some k → p + 1 ≤ k) : RpB2 w2 w.heap.size 0 0 [] (.slice none 0 0) ∧ RpB2 w2 p x y t sl ∧ Rq.Rdr w2 b l bad ∧ w2.cell? ⟨p, 3, none⟩ = some sl := by
  have h1 := h.hb
  have h2 := h.hp
  have ho : RpB2 w2 p x y t sl := gr_blk g h.out (fun e => by have := hr p e.symm; omega)
  exact ⟨gr_blk g h.res (fun e => by have := hr _ e.symm; omega), ho, gr_blk g h.rdr (fun e => by have := hr _ e.symm; omega), (rpb2_cells ho).2.2.2⟩
theorem r2_push {r : Option Nat} {sl2 : Value} {rs2 : List Rw} (h : R2At w wr b p l bad x y t sl rs) (g : wr.grownBy w2 r) (hr : ∀ k, r = some k → p + 1 ≤ k) (ho : OwnRs w2 (p + 1) sl2 rs2) : R2At w (w2.setCell ⟨p, 3, none⟩ sl2) b p l bad x y t sl2 rs2 := by
  obtain ⟨k1, k2, k3, _⟩ := r2_past h g hr
  have h1 := h.hb
  have h2 := h.hp
  have gs := gr_set w2 ⟨p, 3, none⟩ sl2
  have hbel := below_gr h.bel g h.bel.size (fun k hk => by have := hr k hk; omega)
  exact ⟨gr_blk gs k1 (by simp; omega), gr_blk gs k3 (by simp; omega), blk_set k2 3 sl2, ownRs_blk ho k2 (by decide) (by decide) gs, below_gr hbel gs hbel.size (by intro j hj; cases hj; simp; omega), h1, h2⟩
end
theorem infoRw4 : (Tryz.prog.info? 34).map (fun i => (i.zero, i.size, i.bytes)) = some (some (.agg #[.slice none 0 0, .int .i64 0]), 2, 32) := by kernel_rfl
def RRPost (b : List UInt8) (w : World) (e : Ending) (w' : World) : Prop := Gr w w' ∧
  ((IsRepL b ∧ ∃ A n c, e = .returned (.tuple #[rpV A n c (readP b).1, .int .i64 0]) ∧ (readP b).1.rows.length = n ∧ OwnRs w' w.heap.size (.slice A n c) (readP b).1.rows) ∨
   (¬ IsRepL b ∧ e = .returned (.tuple #[.agg #[.int .i64 0, .int .i64 0, .string ⟨#[]⟩, .slice none 0 0], .int .i64 2])))
/-- Rows that were read are small. -/
def RwSmall (x : Rw) : Prop := SmallL x.l ∧ (-9223372036854775808 ≤ x.v ∧ x.v ≤ 9223372036854775807)
theorem tk1_lt (s : List UInt8 × Bool) : dvN (tkS 1 s).1 ≤ 255 := by
  have h1 := dvN_lt (tkS 1 s).1
  have h2 := (Rq.tkS_len 1 s).1
  have : 256 ^ (tkS 1 s).1.length ≤ 256 ^ 1 := Nat.pow_le_pow_right (by decide) h2
  omega
theorem tk4_lt (s : List UInt8 × Bool) : dvN (tkS 4 s).1 < 4294967296 := by
  have h1 := dvN_lt (tkS 4 s).1
  have h2 := (Rq.tkS_len 4 s).1
  have : 256 ^ (tkS 4 s).1.length ≤ 256 ^ 4 := Nat.pow_le_pow_right (by decide) h2
  omega
theorem rws_step (n : Nat) (out : List Rw) (s : List UInt8 × Bool) : rwsS (n + 1) out s = rwsS n (if (rwS s).2.2 = true then out else out ++ [(rwS s).1]) (rwS s).2 := rfl
/-- What a reply is read of, step by step. -/
theorem readP_eq (b : List UInt8) {s0 s1 s2 s3 s4 s5 : List UInt8 × Bool} {v1 v2 v3 v5 : Nat} {t : List UInt8} (h0 : s0 = openS b) (h1 : s1 = (tkS 1 s0).2) (g1 : v1 = dvN (tkS 1 s0).1) (h2 : s2 = (tkS 4 s1).2) (g2 : v2 = dvN (tkS 4 s1).1)
    (h3 : s3 = (tkS 1 s2).2) (g3 : v3 = dvN (tkS 1 s2).1) (h4 : s4 = (tkS v3 s3).2) (g4 : t = (tkS v3 s3).1) (h5 : s5 = (tkS 1 s4).2) (g5 : v5 = dvN (tkS 1 s4).1) :
    readP b = (⟨(v1 : Int), (v2 : Int), t, (rwsS v5 [] s5).1⟩, (rwsS v5 [] s5).2) := by
  subst h0 h1 g1 h2 g2 h3 g3 h4 g4 h5 g5
  rfl
theorem ownRs_snoc2 {w : World} {base : Nat} {A : Option Addr} {c : Nat} {rs : List Rw} (h : OwnRs w base (.slice A rs.length c) rs) : ∃ hs, OwnRows w base hs rs ∧ w.ownsRow base 34 2 (.slice A rs.length c) rs.length (sR hdC hs) := h
set_option maxHeartbeats 16000000 in
set_option maxRecDepth 100000 in
theorem readReply_any (b : List UInt8) (w : World) (hb : b.length ≤ 5000) : Calls Tryz.prog 10 #[.string (txt b)] w (RRPost b w) := by
  obtain ⟨ii, hi, hz0, hz1, hz2⟩ := info_parts infoRw4
  have hop := fun W => opened_any b W (by omega)
  unfold OpenPost at hop
  have hol := open_len b
  obtain ⟨s0, hs0⟩ : ∃ s, s = openS b := ⟨_, rfl⟩
  rw [← hs0] at hop hol
  obtain ⟨l0, b0⟩ := s0
  simp only at hop hol
  obtain ⟨s1, hs1⟩ : ∃ s, s = (tkS 1 (l0, b0)).2 := ⟨_, rfl⟩
  obtain ⟨v1, hv1⟩ : ∃ v, v = dvN (tkS 1 (l0, b0)).1 := ⟨_, rfl⟩
  have k1 := (Rq.tkS_len 1 (l0, b0)).2
  have c1 := tk1_lt (l0, b0)
  rw [← hv1] at c1
  rw [← hs1] at k1
  obtain ⟨l1, b1⟩ := s1
  obtain ⟨s2, hs2⟩ : ∃ s, s = (tkS 4 (l1, b1)).2 := ⟨_, rfl⟩
  obtain ⟨v2, hv2⟩ : ∃ v, v = dvN (tkS 4 (l1, b1)).1 := ⟨_, rfl⟩
  have k2 := (Rq.tkS_len 4 (l1, b1)).2
  have c2 := tk4_lt (l1, b1)
  rw [← hv2] at c2
  rw [← hs2] at k2
  obtain ⟨l2, b2⟩ := s2
  obtain ⟨s3, hs3⟩ : ∃ s, s = (tkS 1 (l2, b2)).2 := ⟨_, rfl⟩
  obtain ⟨v3, hv3⟩ : ∃ v, v = dvN (tkS 1 (l2, b2)).1 := ⟨_, rfl⟩
  have k3 := (Rq.tkS_len 1 (l2, b2)).2
  have c3 := tk1_lt (l2, b2)
  rw [← hv3] at c3
  rw [← hs3] at k3
  obtain ⟨l3, b3⟩ := s3
  obtain ⟨s4, hs4⟩ : ∃ s, s = (tkS v3 (l3, b3)).2 := ⟨_, rfl⟩
  obtain ⟨t, ht⟩ : ∃ v, v = (tkS v3 (l3, b3)).1 := ⟨_, rfl⟩
  have k4 := (Rq.tkS_len v3 (l3, b3)).2
  have ct := (Rq.tkS_len v3 (l3, b3)).1
  rw [← ht] at ct
  rw [← hs4] at k4
  obtain ⟨l4, b4⟩ := s4
  obtain ⟨s5, hs5⟩ : ∃ s, s = (tkS 1 (l4, b4)).2 := ⟨_, rfl⟩
  obtain ⟨v5, hv5⟩ : ∃ v, v = dvN (tkS 1 (l4, b4)).1 := ⟨_, rfl⟩
  have k5 := (Rq.tkS_len 1 (l4, b4)).2
  have c5 := tk1_lt (l4, b4)
  rw [← hv5] at c5
  rw [← hs5] at k5
  obtain ⟨l5, b5⟩ := s5
  simp only at k1 k2 k3 k4 k5 hol
  have hP := readP_eq b hs0 hs1 hv1 hs2 hv2 hs3 hv3 hs4 ht hs5 hv5
  have n1 := fun bb W (h : Rq.Rdr W bb l0 b0) => Rq.num_any bb 1 l0 b0 W h (by omega) (by omega)
  have n2 := fun bb W (h : Rq.Rdr W bb l1 b1) => Rq.num_any bb 4 l1 b1 W h (by omega) (by omega)
  have n3 := fun bb W (h : Rq.Rdr W bb l2 b2) => Rq.num_any bb 1 l2 b2 W h (by omega) (by omega)
  have n4 := fun bb W (h : Rq.Rdr W bb l3 b3) => Rq.take_any bb v3 l3 b3 W h (by omega) (by omega)
  have n5 := fun bb W (h : Rq.Rdr W bb l4 b4) => Rq.num_any bb 1 l4 b4 W h (by omega) (by omega)
  rw [← hs1, ← hv1] at n1
  rw [← hs2, ← hv2] at n2
  rw [← hs3, ← hv3] at n3
  rw [← hs4, ← ht] at n4
  rw [← hs5, ← hv5] at n5
  simp only at n1 n2 n3 n4 n5
  have b1' : l1.length ≤ 5000 := by omega
  have b5' : l5.length ≤ 5000 := by omega
  replace hop := Lib.hid hop
  replace n1 := Lib.hid n1
  replace n2 := Lib.hid n2
  replace n3 := Lib.hid n3
  replace n4 := Lib.hid n4
  replace n5 := Lib.hid n5
  replace hP := Lib.hid hP
  clear hs0 hs1 hs2 hs3 hs4 hs5 hv1 hv2 hv3 hv5 ht k1 k2 k3 k4 k5 hol
  obtain ⟨W1, hW1⟩ : ∃ W1, W1 = w.alloc (.cells #[.int .i64 0, .int .i64 0, .string ⟨#[]⟩, .slice none 0 0] 25) := ⟨_, rfl⟩
  have g1 : Gr w W1 := by rw [hW1]; exact gr_alloc _ _ _
  have hres : RpB2 W1 w.heap.size 0 0 [] (.slice none 0 0) := by rw [hW1]; exact blk_new w _
  have hs1 : W1.heap.size = w.heap.size + 1 := by rw [hW1]; simp
  replace hres := Lib.hid hres
  replace g1 := Lib.hid g1
  replace hs1 := Lib.hid hs1
  go_enter Tryz.func10, Tryz.ntmps10
  go_upto_region 1 with fail
  rw [← hW1]
  clear hW1
  go_wp2_with fail
  refine (hop.out _).mono ?_
  rintro e W2 ⟨bb, rfl, hbb, hrd2, g2⟩
  have hnum := n1.out bb W2 hrd2
  have hres2 : RpB2 W2 w.heap.size 0 0 [] (.slice none 0 0) := gr_blk g2 hres.out (by simp)
  have G2 := gr_trans g1.out g2
  replace hnum := Lib.hid hnum
  clear hop hrd2 g2 hres n1
  go_wp2_with fail
  refine hnum.out.mono ?_
  rintro e W3 ⟨rfl, hrd3, g3⟩
  obtain ⟨W4, hW4⟩ : ∃ W4, W4 = W3.alloc (.cells #[.int .i64 v1, .int .i64 0, .string ⟨#[]⟩, .slice none 0 0] 25) := ⟨_, rfl⟩
  have g4 : Gr W3 W4 := by rw [hW4]; exact gr_alloc _ _ _
  have st4 : R2At w W4 bb W3.heap.size l1 b1 v1 0 [] (.slice none 0 0) [] := by
    have hs := hs1.out
    refine ⟨gr_blk g4 (gr_blk g3 hres2 (by simp; omega)) (by simp), Rq.rdr_gr hrd3 g4, ?_, ownRs_nil _ _, ?_, by omega, lt_of_blk hrd3⟩
    · rw [hW4]; exact blk_new W3 _
    · have b2 := gr_below G2
      have b3 := below_gr b2 g3 b2.size (by intro k hk; cases hk; omega)
      exact below_gr b3 g4 b3.size (by simp)
  obtain ⟨p, hpp⟩ : ∃ p, p = W3.heap.size := ⟨_, rfl⟩
  rw [← hpp] at st4
  replace hpp := Lib.hid hpp
  replace st4 := Lib.hid st4
  clear hnum hrd3 g3 g4 hres2 G2 g1 hs1
  go_upto_region 3 with fail
  rw [← hW4, ← hpp.out]
  clear hW4 hpp
  have hnum := n2.out bb W4 st4.out.rdr
  replace hnum := Lib.hid hnum
  go_wp2_with fail
  refine hnum.out.mono ?_
  rintro e W5 ⟨rfl, hrd, g⟩
  have st5 := r2_rd st4.out hrd g
  obtain ⟨q0, q1, q2, q3⟩ := rpb2_cells st5.out
  have f1 : W5.frozen? ⟨p, 1, none⟩ = false := fzeroR st5.out 1
  have st6 := r2_set st5 1 (.int .i64 v2) (x2 := v1) (y2 := v2) (t2 := []) (blk_set st5.out 1 _)
  obtain ⟨W6, hW6⟩ : ∃ W6, W6 = W5.setCell ⟨p, 1, none⟩ (.int .i64 v2) := ⟨_, rfl⟩
  rw [← hW6] at st6
  replace st6 := Lib.hid st6
  clear hnum hrd g st5 st4 n2
  go_upto_region 4 with fail
  rw [← hW6]
  clear hW6 q0 q1 q2 q3 f1
  have hnum := n3.out bb W6 st6.out.rdr
  replace hnum := Lib.hid hnum
  go_wp2_with fail
  refine hnum.out.mono ?_
  rintro e W7 ⟨rfl, hrd, g⟩
  have st7 := r2_rd st6.out hrd g
  have htk := n4.out bb W7 st7.rdr
  replace htk := Lib.hid htk
  replace st7 := Lib.hid st7
  clear hnum hrd g st6 n3
  go_wp2_with fail
  refine htk.out.mono ?_
  rintro e W8 ⟨rfl, hrd, g⟩
  have st8 := r2_rd st7.out hrd g
  obtain ⟨q0, q1, q2, q3⟩ := rpb2_cells st8.out
  have f2 : W8.frozen? ⟨p, 2, none⟩ = false := fzeroR st8.out 2
  have st9 := r2_set st8 2 (.string (txt t)) (x2 := v1) (y2 := v2) (t2 := t) (blk_set st8.out 2 _)
  obtain ⟨W9, hW9⟩ : ∃ W9, W9 = W8.setCell ⟨p, 2, none⟩ (.string (txt t)) := ⟨_, rfl⟩
  rw [← hW9] at st9
  replace st9 := Lib.hid st9
  clear htk hrd g st8 st7 n4
  go_upto_region 5 with fail
  rw [← hW9]
  clear hW9 q0 q1 q2 q3 f2
  have hnum := n5.out bb W9 st9.out.rdr
  replace hnum := Lib.hid hnum
  go_wp2_with fail
  refine hnum.out.mono ?_
  rintro e W10 ⟨rfl, hrd, g⟩
  have st10 := r2_rd st9.out hrd g
  replace st10 := Lib.hid st10
  clear hnum hrd g st9 n5
  go_wp2
  go_loopw [24] (fun iv wr => ∃ (k : Nat) (l : List UInt8) (bad : Bool) (rs : List Rw) (A : Option Addr) (c : Nat), k ≤ v5 ∧ iv = .int .i64 k ∧ Hid (R2At w wr bb p l bad v1 v2 t (.slice A rs.length c) rs) ∧ l.length ≤ 5000 ∧ rs.length ≤ k ∧ Hid (rwsS v5 [] (l5, b5) = rwsS (v5 - k) rs (l, bad)) ∧ Hid (∀ x ∈ rs, RwSmall x)) (fun iv _ => v5 - (intOf iv).toNat)
  case atStart => exact ⟨0, l5, b5, [], none, 0, Nat.zero_le _, rfl, st10, b5', Nat.le_refl _, Lib.hid rfl, Lib.hid (by simp)⟩
  case round =>
    obtain ⟨k, l, bad, rs, A, c, hk, rfl, st, hll, hrk, hrw, hsm⟩ := hrel
    by_cases hlt : k < v5
    · have hki : (k : Int) < (v5 : Int) := by omega
      have hrr := rrow_any bb l bad wr st.out.rdr (by omega)
      unfold RwPost at hrr
      have hsml := rwS_small (l, bad)
      have hstep := rws_step (v5 - (k + 1)) rs (l, bad)
      rw [show v5 - (k + 1) + 1 = v5 - k by omega, ← hrw.out] at hstep
      obtain ⟨q, hq⟩ : ∃ q, q = rwS (l, bad) := ⟨_, rfl⟩
      rw [← hq] at hrr hsml hstep
      obtain ⟨r, l2, bad2⟩ := q
      simp only at hrr hsml hstep
      obtain ⟨sm1, sm2, sm3⟩ := hsml
      have hl2 : l2.length ≤ 5000 := by omega
      replace hrr := Lib.hid hrr
      replace hstep := Lib.hid hstep
      replace sm1 := Lib.hid sm1
      clear hq sm3
      go_wp2_with fail
      refine hrr.out.mono ?_
      rintro e w5 ⟨Ag, cg, rfl, hrd, hown, g5⟩
      have st5 := r2_rd st.out hrd g5
      obtain ⟨Wx, hWx⟩ : ∃ Wx, Wx = w5.alloc (.cells #[.slice Ag r.l.length cg, .int .i64 r.v] 34) := ⟨_, rfl⟩
      have gx : Gr w5 Wx := by rw [hWx]; exact gr_alloc _ _ _
      have x0 : Wx.cell? ⟨w5.heap.size, 0, none⟩ = some (.slice Ag r.l.length cg) := by rw [hWx, World.cell?_alloc_new]; rfl
      have x1 : Wx.cell? ⟨w5.heap.size, 1, none⟩ = some (.int .i64 r.v) := by rw [hWx, World.cell?_alloc_new]; rfl
      have st6 := r2_gr st5 gx
      have hrs := st.out.rdr
      have hpw : p + 1 ≤ wr.heap.size := lt_of_blk st.out.out
      have hk1 : OwnHd Wx (p + 1) ⟨Ag, r.l.length, cg, r.v⟩ r := ⟨rfl, rfl, (own_mono hown hpw).kept gx (Classical.em _)⟩
      obtain ⟨-, c1, -, -⟩ := Rq.rdr_cells st6.rdr
      replace st6 := Lib.hid st6
      replace hk1 := Lib.hid hk1
      clear hrr hrd hown g5 st5 st hrs hpw gx
      go_upto_region 8 with fail
      rw [← hWx]
      clear hWx
      cases bad2 with
      | true =>
        simp only [if_true] at hstep
        go_wp2
        go_roundw
        case rel => exact ⟨k + 1, l2, true, rs, A, c, by omega, by go_num, st6, hl2, by omega, hstep, hsm⟩
        case measure => simp [intOf]; omega
      | false =>
        simp only [Bool.false_eq_true, if_false] at hstep
        obtain ⟨-, -, -, q3⟩ := rpb2_cells st6.out.out
        have f3 : ∀ W, RpB2 W p v1 v2 t (.slice A rs.length c) → W.frozen? ⟨p, 3, none⟩ = false := fun W h => fzeroR h 3
        obtain ⟨hs2, hh, ho2⟩ := st6.out.own
        have hrs := ownRows_snoc hh hk1.out
        have ho6 : Wx.ownsRow (p + 1) 34 2 (.slice A rs.length c) rs.length (sR hdC hs2) := ho2
        have hs6 : p + 1 ≤ (Wx.alloc (.cells (hdC ⟨Ag, r.l.length, cg, r.v⟩).toArray 34)).heap.size := by have := lt_of_blk st6.out.out; simp; omega
        have hsm2 : ∀ x ∈ rs ++ [r], RwSmall x := fun x hx => by
          rcases List.mem_append.1 hx with hx | hx
          · exact hsm.out x hx
          · rw [List.mem_singleton.1 hx]; exact ⟨sm1.out, sm2⟩
        have st6a := r2_gr st6.out (gr_alloc Wx (.cells (hdC ⟨Ag, r.l.length, cg, r.v⟩).toArray 34) none)
        replace hrs := Lib.hid hrs
        replace ho6 := Lib.hid ho6
        replace hs6 := Lib.hid hs6
        replace hsm2 := Lib.hid hsm2
        replace st6a := Lib.hid st6a
        replace f3 := Lib.hid f3
        clear hh ho2 st6 hk1 hsm sm1
        go_wp2_with (at_builtin; refine wpList_append_row rfl _ _ 23 rfl (p + 1) 34 ii (.agg #[.slice none 0 0, .int .i64 0]) 2 32 Tryz.underlying23 hi hz0 hz1 hz2 rfl (by decide) (.slice A rs.length c) rs.length (sR hdC hs2) rfl (ho6.out.alloc _) (some ⟨Wx.heap.size, 0, none⟩) 1 1 (hdC ⟨Ag, r.l.length, cg, r.v⟩) rfl (by intro e; cases e) (row_newS hdC_len Wx ⟨Ag, r.l.length, cg, r.v⟩ 34) (hdC_ones _) (rs.length + 1) (sR hdC (hs2 ++ [⟨Ag, r.l.length, cg, r.v⟩])) rfl (by rw [sR_append, sR_one]) (by unfold maxLen; omega) (by omega) hs6.out ?_; intro v7 w7 hown7 hgrow7; obtain ⟨A7, c7, rfl, _, _, _⟩ := own_sliceS hown7; have st7 := r2_past st6a.out hgrow7 (fun q hq => (ho6.out.lt q hq).1); have q37 := st7.2.2.2; have f37 := f3.out w7 st7.2.1)
        have hr7 := ownRows_kept (ownRows_gr hrs.out (gr_alloc Wx (.cells (hdC ⟨Ag, r.l.length, cg, r.v⟩).toArray 34) none)) (ho6.out.alloc _) hgrow7
        have hfin : OwnRs w7 (p + 1) (.slice A7 (rs.length + 1) c7) (rs ++ [r]) := ⟨_, hr7, by rw [List.length_append]; exact hown7⟩
        have st8 := r2_push st6a.out hgrow7 (fun q hq => (ho6.out.lt q hq).1) hfin
        have hle : (rs ++ [r]).length = rs.length + 1 := by simp
        have hfst : R2At w (w7.setCell ⟨p, 3, none⟩ (.slice A7 (rs.length + 1) c7)) bb p l2 false v1 v2 t (.slice A7 (rs ++ [r]).length c7) (rs ++ [r]) := by rw [hle]; exact st8
        replace hfst := Lib.hid hfst
        clear hr7 hfin st8 st7 q37 f37 hown7 hgrow7 hrs ho6 hs6 st6a
        go_wp2
        go_roundw
        case rel => exact ⟨k + 1, l2, false, rs ++ [r], A7, c7, by omega, by go_num, hfst, hl2, by rw [hle]; omega, hstep, hsm2⟩
        case measure => simp [intOf]; omega
    · obtain rfl : k = v5 := by omega
      have hki : ((k : Int) < (k : Int)) = False := eq_false (by omega)
      have hPe : readP b = (⟨(v1 : Int), (v2 : Int), t, rs⟩, (l, bad)) := by
        rw [hP.out, hrw.out, Nat.sub_self]
        rfl
      obtain ⟨-, -, -, -⟩ := rpb2_cells st.out.out
      have hRp : RpOk wr A rs.length ⟨(v1 : Int), (v2 : Int), t, rs⟩ := by
        refine ⟨ownRs_rows st.out.own rfl, fun x hx => ?_, by (try simp only); omega, by (try simp only); omega, by (try simp only); omega, by (try simp only); omega⟩
        obtain ⟨z1, z2⟩ := hsm.out x hx
        exact ⟨small_short z1, by have := z1.1; omega, z2⟩
      have cRp := rep_any A rs.length c _ wr hRp
      unfold rpV RepPost at cRp
      simp only at cRp
      obtain ⟨q0, q1, q2, q3⟩ := rpb2_cells st.out.out
      obtain ⟨B, hB⟩ : ∃ B, B = repB? ⟨(v1 : Int), (v2 : Int), t, rs⟩ := ⟨_, rfl⟩
      obtain ⟨E, hE⟩ : ∃ E, E = repE ⟨(v1 : Int), (v2 : Int), t, rs⟩ := ⟨_, rfl⟩
      have hE0 : E = 8 ∨ E = 1 := by rw [hE]; unfold repE; split <;> simp
      rw [← hB, ← hE] at cRp
      have hRL : IsRepL b ↔ ((l, bad) = (([] : List UInt8), false) ∧ B = some b) := by
        unfold IsRepL
        rw [hPe]
        simp only
        rw [← hB]
      replace hRL := Lib.hid hRL
      replace cRp := Lib.hid cRp
      replace hPe := Lib.hid hPe
      replace hB := Lib.hid hB
      replace hE := Lib.hid hE
      clear hRp hsm hrw hP
      go_wp2_with fail
      refine cRp.out.mono ?_
      rintro e W11 ⟨rfl, g11⟩
      have st11 := r2_gr st.out g11
      clear cRp g11 st q0 q1 q2 q3
      obtain ⟨q0, q1, q2, q3⟩ := rpb2_cells st11.out
      obtain ⟨c0, c1, -, -⟩ := Rq.rdr_cells st11.rdr
      have hcases : (bad = true ∧ ¬ IsRepL b) ∨ (bad = false ∧ ((l.isEmpty = false ∧ ¬ IsRepL b) ∨ (l = [] ∧ ((B = none ∧ ¬ IsRepL b) ∨ (∃ b', B = some b' ∧ ((b' ≠ b ∧ ¬ IsRepL b) ∨ (b' = b ∧ IsRepL b))))))) := by
        cases bad with
        | true => exact .inl ⟨rfl, fun h => by have := (hRL.out.1 h).1; cases this⟩
        | false =>
          refine .inr ⟨rfl, ?_⟩
          cases l with
          | cons x y => exact .inl ⟨rfl, fun h => by have := (hRL.out.1 h).1; cases this⟩
          | nil =>
            refine .inr ⟨rfl, ?_⟩
            cases hb : B with
            | none => exact .inl ⟨rfl, fun h => by have := (hRL.out.1 h).2; rw [hb] at this; cases this⟩
            | some b' =>
              refine .inr ⟨b', rfl, ?_⟩
              by_cases e : b' = b
              · exact .inr ⟨e, hRL.out.2 ⟨rfl, by rw [hb, e]⟩⟩
              · exact .inl ⟨e, fun h => by have := (hRL.out.1 h).2; rw [hb] at this; exact e (Option.some.inj this)⟩
      replace hRL := Lib.hid hRL
      rcases hcases with ⟨rfl, hno⟩ | ⟨rfl, ⟨hle, hno⟩ | ⟨rfl, ⟨rfl, hno⟩ | ⟨b', rfl, ⟨hne, hno⟩ | ⟨rfl, hyes⟩⟩⟩⟩
      · replace hno := Lib.hid hno
        cases B with
        | none =>
          simp only
          have hth := rpb2_there st11.res
          have hsame := World.rangeAt_setCells_same W11 w.heap.size 0 [.int .i64 0, .int .i64 0, .string ⟨#[]⟩, .slice none 0 0] hth
          have r0 := hsame 0 _ rfl
          have r1 := hsame 1 _ rfl
          have r2 := hsame 2 _ rfl
          have r3 := hsame 3 _ rfl
          simp only [Nat.zero_add] at r0 r1 r2 r3
          have hgs := gr_setCells W11 w.heap.size 0 [.int .i64 0, .int .i64 0, .string ⟨#[]⟩, .slice none 0 0]
          have hgf : Gr w (W11.setCells w.heap.size 0 [.int .i64 0, .int .i64 0, .string ⟨#[]⟩, .slice none 0 0]) := gr_of_below (below_gr st11.bel hgs st11.bel.size (by intro k hk; cases hk; exact Nat.le_refl _)) (Nat.le_refl _)
          have hfinal : RRPost b w (.returned (.tuple #[.agg #[.int .i64 0, .int .i64 0, .string ⟨#[]⟩, .slice none 0 0], .int .i64 2])) (W11.setCells w.heap.size 0 [.int .i64 0, .int .i64 0, .string ⟨#[]⟩, .slice none 0 0]) := ⟨hgf, .inr ⟨hno.out, rfl⟩⟩
          replace hgf := Lib.hid hgf
          replace hfinal := Lib.hid hfinal
          clear hsame hgs st11
          go_wp2_with (refine wpList_store_mid (op := ⟨none, _, _, _, _, _⟩) rfl 25 _ _ rfl w.heap.size 0 #[.int .i64 0, .int .i64 0, .string ⟨#[]⟩, .slice none 0 0] rfl rfl hth infoRp (by simp [Value.oneCell']) ?_)
          (try simp only [Exit.inBlock, Exit.then])
          refine bodyPost_ret (by simp [results, Tryz.results10, go_sem, r0, r1, r2, r3]; try rfl) rfl ?_
          exact hfinal.out
        | some b' =>
          simp only
          have hth := rpb2_there st11.res
          have hsame := World.rangeAt_setCells_same W11 w.heap.size 0 [.int .i64 0, .int .i64 0, .string ⟨#[]⟩, .slice none 0 0] hth
          have r0 := hsame 0 _ rfl
          have r1 := hsame 1 _ rfl
          have r2 := hsame 2 _ rfl
          have r3 := hsame 3 _ rfl
          simp only [Nat.zero_add] at r0 r1 r2 r3
          have hgs := gr_setCells W11 w.heap.size 0 [.int .i64 0, .int .i64 0, .string ⟨#[]⟩, .slice none 0 0]
          have hgf : Gr w (W11.setCells w.heap.size 0 [.int .i64 0, .int .i64 0, .string ⟨#[]⟩, .slice none 0 0]) := gr_of_below (below_gr st11.bel hgs st11.bel.size (by intro k hk; cases hk; exact Nat.le_refl _)) (Nat.le_refl _)
          have hfinal : RRPost b w (.returned (.tuple #[.agg #[.int .i64 0, .int .i64 0, .string ⟨#[]⟩, .slice none 0 0], .int .i64 2])) (W11.setCells w.heap.size 0 [.int .i64 0, .int .i64 0, .string ⟨#[]⟩, .slice none 0 0]) := ⟨hgf, .inr ⟨hno.out, rfl⟩⟩
          replace hgf := Lib.hid hgf
          replace hfinal := Lib.hid hfinal
          clear hsame hgs st11
          go_wp2_with (refine wpList_store_mid (op := ⟨none, _, _, _, _, _⟩) rfl 25 _ _ rfl w.heap.size 0 #[.int .i64 0, .int .i64 0, .string ⟨#[]⟩, .slice none 0 0] rfl rfl hth infoRp (by simp [Value.oneCell']) ?_)
          (try simp only [Exit.inBlock, Exit.then])
          refine bodyPost_ret (by simp [results, Tryz.results10, go_sem, r0, r1, r2, r3]; try rfl) rfl ?_
          exact hfinal.out
      · replace hno := Lib.hid hno
        cases B with
        | none =>
          simp only
          have hth := rpb2_there st11.res
          have hsame := World.rangeAt_setCells_same W11 w.heap.size 0 [.int .i64 0, .int .i64 0, .string ⟨#[]⟩, .slice none 0 0] hth
          have r0 := hsame 0 _ rfl
          have r1 := hsame 1 _ rfl
          have r2 := hsame 2 _ rfl
          have r3 := hsame 3 _ rfl
          simp only [Nat.zero_add] at r0 r1 r2 r3
          have hgs := gr_setCells W11 w.heap.size 0 [.int .i64 0, .int .i64 0, .string ⟨#[]⟩, .slice none 0 0]
          have hgf : Gr w (W11.setCells w.heap.size 0 [.int .i64 0, .int .i64 0, .string ⟨#[]⟩, .slice none 0 0]) := gr_of_below (below_gr st11.bel hgs st11.bel.size (by intro k hk; cases hk; exact Nat.le_refl _)) (Nat.le_refl _)
          have hfinal : RRPost b w (.returned (.tuple #[.agg #[.int .i64 0, .int .i64 0, .string ⟨#[]⟩, .slice none 0 0], .int .i64 2])) (W11.setCells w.heap.size 0 [.int .i64 0, .int .i64 0, .string ⟨#[]⟩, .slice none 0 0]) := ⟨hgf, .inr ⟨hno.out, rfl⟩⟩
          replace hgf := Lib.hid hgf
          replace hfinal := Lib.hid hfinal
          clear hsame hgs st11
          go_wp2_with (refine wpList_store_mid (op := ⟨none, _, _, _, _, _⟩) rfl 25 _ _ rfl w.heap.size 0 #[.int .i64 0, .int .i64 0, .string ⟨#[]⟩, .slice none 0 0] rfl rfl hth infoRp (by simp [Value.oneCell']) ?_)
          (try simp only [Exit.inBlock, Exit.then])
          refine bodyPost_ret (by simp [results, Tryz.results10, go_sem, r0, r1, r2, r3]; try rfl) rfl ?_
          exact hfinal.out
        | some b' =>
          simp only
          have hth := rpb2_there st11.res
          have hsame := World.rangeAt_setCells_same W11 w.heap.size 0 [.int .i64 0, .int .i64 0, .string ⟨#[]⟩, .slice none 0 0] hth
          have r0 := hsame 0 _ rfl
          have r1 := hsame 1 _ rfl
          have r2 := hsame 2 _ rfl
          have r3 := hsame 3 _ rfl
          simp only [Nat.zero_add] at r0 r1 r2 r3
          have hgs := gr_setCells W11 w.heap.size 0 [.int .i64 0, .int .i64 0, .string ⟨#[]⟩, .slice none 0 0]
          have hgf : Gr w (W11.setCells w.heap.size 0 [.int .i64 0, .int .i64 0, .string ⟨#[]⟩, .slice none 0 0]) := gr_of_below (below_gr st11.bel hgs st11.bel.size (by intro k hk; cases hk; exact Nat.le_refl _)) (Nat.le_refl _)
          have hfinal : RRPost b w (.returned (.tuple #[.agg #[.int .i64 0, .int .i64 0, .string ⟨#[]⟩, .slice none 0 0], .int .i64 2])) (W11.setCells w.heap.size 0 [.int .i64 0, .int .i64 0, .string ⟨#[]⟩, .slice none 0 0]) := ⟨hgf, .inr ⟨hno.out, rfl⟩⟩
          replace hgf := Lib.hid hgf
          replace hfinal := Lib.hid hfinal
          clear hsame hgs st11
          go_wp2_with (refine wpList_store_mid (op := ⟨none, _, _, _, _, _⟩) rfl 25 _ _ rfl w.heap.size 0 #[.int .i64 0, .int .i64 0, .string ⟨#[]⟩, .slice none 0 0] rfl rfl hth infoRp (by simp [Value.oneCell']) ?_)
          (try simp only [Exit.inBlock, Exit.then])
          refine bodyPost_ret (by simp [results, Tryz.results10, go_sem, r0, r1, r2, r3]; try rfl) rfl ?_
          exact hfinal.out
      · replace hno := Lib.hid hno
        have hE1 : (E != 0) = true := by rcases hE0 with rfl | rfl <;> rfl
        simp only
        have hth := rpb2_there st11.res
        have hsame := World.rangeAt_setCells_same W11 w.heap.size 0 [.int .i64 0, .int .i64 0, .string ⟨#[]⟩, .slice none 0 0] hth
        have r0 := hsame 0 _ rfl
        have r1 := hsame 1 _ rfl
        have r2 := hsame 2 _ rfl
        have r3 := hsame 3 _ rfl
        simp only [Nat.zero_add] at r0 r1 r2 r3
        have hgs := gr_setCells W11 w.heap.size 0 [.int .i64 0, .int .i64 0, .string ⟨#[]⟩, .slice none 0 0]
        have hgf : Gr w (W11.setCells w.heap.size 0 [.int .i64 0, .int .i64 0, .string ⟨#[]⟩, .slice none 0 0]) := gr_of_below (below_gr st11.bel hgs st11.bel.size (by intro k hk; cases hk; exact Nat.le_refl _)) (Nat.le_refl _)
        have hfinal : RRPost b w (.returned (.tuple #[.agg #[.int .i64 0, .int .i64 0, .string ⟨#[]⟩, .slice none 0 0], .int .i64 2])) (W11.setCells w.heap.size 0 [.int .i64 0, .int .i64 0, .string ⟨#[]⟩, .slice none 0 0]) := ⟨hgf, .inr ⟨hno.out, rfl⟩⟩
        replace hgf := Lib.hid hgf
        replace hfinal := Lib.hid hfinal
        clear hsame hgs st11
        go_wp2_with (refine wpList_store_mid (op := ⟨none, _, _, _, _, _⟩) rfl 25 _ _ rfl w.heap.size 0 #[.int .i64 0, .int .i64 0, .string ⟨#[]⟩, .slice none 0 0] rfl rfl hth infoRp (by simp [Value.oneCell']) ?_)
        (try simp only [Exit.inBlock, Exit.then])
        refine bodyPost_ret (by simp [results, Tryz.results10, go_sem, r0, r1, r2, r3]; try rfl) rfl ?_
        exact hfinal.out
      · replace hno := Lib.hid hno
        have hneq : (b' == b) = false := by simpa using hne
        simp only
        have hth := rpb2_there st11.res
        have hsame := World.rangeAt_setCells_same W11 w.heap.size 0 [.int .i64 0, .int .i64 0, .string ⟨#[]⟩, .slice none 0 0] hth
        have r0 := hsame 0 _ rfl
        have r1 := hsame 1 _ rfl
        have r2 := hsame 2 _ rfl
        have r3 := hsame 3 _ rfl
        simp only [Nat.zero_add] at r0 r1 r2 r3
        have hgs := gr_setCells W11 w.heap.size 0 [.int .i64 0, .int .i64 0, .string ⟨#[]⟩, .slice none 0 0]
        have hgf : Gr w (W11.setCells w.heap.size 0 [.int .i64 0, .int .i64 0, .string ⟨#[]⟩, .slice none 0 0]) := gr_of_below (below_gr st11.bel hgs st11.bel.size (by intro k hk; cases hk; exact Nat.le_refl _)) (Nat.le_refl _)
        have hfinal : RRPost b w (.returned (.tuple #[.agg #[.int .i64 0, .int .i64 0, .string ⟨#[]⟩, .slice none 0 0], .int .i64 2])) (W11.setCells w.heap.size 0 [.int .i64 0, .int .i64 0, .string ⟨#[]⟩, .slice none 0 0]) := ⟨hgf, .inr ⟨hno.out, rfl⟩⟩
        replace hgf := Lib.hid hgf
        replace hfinal := Lib.hid hfinal
        clear hsame hgs st11
        go_wp2_with (refine wpList_store_mid (op := ⟨none, _, _, _, _, _⟩) rfl 25 _ _ rfl w.heap.size 0 #[.int .i64 0, .int .i64 0, .string ⟨#[]⟩, .slice none 0 0] rfl rfl hth infoRp (by simp [Value.oneCell']) ?_)
        (try simp only [Exit.inBlock, Exit.then])
        refine bodyPost_ret (by simp [results, Tryz.results10, go_sem, r0, r1, r2, r3]; try rfl) rfl ?_
        exact hfinal.out
      · replace hyes := Lib.hid hyes
        have heq : (b' == b') = true := by simp
        simp only
        have hth := rpb2_there st11.res
        have hsame := World.rangeAt_setCells_same W11 w.heap.size 0 [.int .i64 v1, .int .i64 v2, .string (txt t), .slice A rs.length c] hth
        have r0 := hsame 0 _ rfl
        have r1 := hsame 1 _ rfl
        have r2 := hsame 2 _ rfl
        have r3 := hsame 3 _ rfl
        simp only [Nat.zero_add] at r0 r1 r2 r3
        have hgs := gr_setCells W11 w.heap.size 0 [.int .i64 v1, .int .i64 v2, .string (txt t), .slice A rs.length c]
        have hgf : Gr w (W11.setCells w.heap.size 0 [.int .i64 v1, .int .i64 v2, .string (txt t), .slice A rs.length c]) := gr_of_below (below_gr st11.bel hgs st11.bel.size (by intro k hk; cases hk; exact Nat.le_refl _)) (Nat.le_refl _)
        have hown11 := st11.own
        have hfinal : RRPost b' w (.returned (.tuple #[.agg #[.int .i64 v1, .int .i64 v2, .string (txt t), .slice A rs.length c], .int .i64 0])) (W11.setCells w.heap.size 0 [.int .i64 v1, .int .i64 v2, .string (txt t), .slice A rs.length c]) := by
          refine ⟨hgf, .inl ⟨hyes.out, A, rs.length, c, ?_, ?_, ?_⟩⟩
          · rw [hPe.out]; rfl
          · rw [hPe.out]
          · rw [hPe.out]
            exact ownRs_base (ownRs_blk hown11 st11.res (by decide) (by decide) hgs) (by have := st11.hb; have := st11.hp; omega)
        replace hgf := Lib.hid hgf
        replace hfinal := Lib.hid hfinal
        clear hsame hgs st11
        go_wp2_with (refine wpList_store_mid (op := ⟨none, _, _, _, _, _⟩) rfl 25 _ _ rfl w.heap.size 0 #[.int .i64 v1, .int .i64 v2, .string (txt t), .slice A rs.length c] rfl rfl hth infoRp (by simp [Value.oneCell']) ?_)
        (try simp only [Exit.inBlock, Exit.then])
        refine bodyPost_ret (by simp [results, Tryz.results10, go_sem, r0, r1, r2, r3]; try rfl) rfl ?_
        exact hfinal.out
end Go.Proofs.YtbnacoakjhhndaaGreat
namespace Go.Proofs.YtbnacoakjhhndaaGreat
open Go.RowKit Go.ChangeShapes Go.WideShapes Go.ChangeAt Go.Deep

set_option maxRecDepth 100000
structure RpIn (w : World) (A : Option Addr) (n c : Nat) (r : Rep) : Prop where
  rows : IsRows w A n c r.rows
  slip : r.slip.length ≤ 9223372036854775807
  err : -9223372036854775808 ≤ r.err ∧ r.err ≤ 9223372036854775807
  id : -9223372036854775808 ≤ r.id ∧ r.id ≤ 9223372036854775807
def IsRepV (w : World) (v : Value) (r : Rep) : Prop := ∃ A n c, v = rpV A n c r ∧ RpIn w A n c r
section
variable {H : Type} {enc : TypeId × Value → H} {W : World} {base : Nat} {hd : Bool}
theorem rows_cells {fuel : Nat} {cs0 : List Value} {y : DataW H × List MemPlace} (hf : DataW.trod enc Tryz.prog W base (fun _ => true) hd fuel 23 cs0 = some y) : ∃ a len cap rs, cs0 = [.slice a len cap] ∧ IsRows W a len cap rs := by
  obtain ⟨a, len, cap, rfl⟩ : ∃ a len cap, cs0 = [.slice a len cap] := by
    rcases open_slice Tryz.underlying23 hf with ⟨hcs, _⟩ | ⟨ad, l, c, m, n, D, Pl, hcs, _⟩
    · exact ⟨none, 0, 0, hcs⟩
    · exact ⟨some ad, l, c, hcs⟩
  obtain ⟨rs, h⟩ := rows_open (d := y.1) (p := y.2) ⟨fuel, hf⟩
  exact ⟨a, len, cap, rs, rfl, h⟩
theorem rep_cells {n : Nat} {cs : List Value} {y : DataW H × List MemPlace} (h : DataW.trod enc Tryz.prog W base (fun _ => true) hd n 25 cs = some y) : ∃ A len cap q, cs = [.int .i64 q.err, .int .i64 q.id, .string (txt q.slip), .slice A len cap] ∧ RpIn W A len cap q := by
  obtain ⟨xs, n2, _, _, hl2, hx2, hf⟩ := DataW.trod_struct Tryz.underlying25 h
  have hx : ∀ i, i < 4 → ∃ z, xs[i]? = some z := fun i hi => ⟨_, List.getElem?_eq_getElem (by rw [hx2]; exact hi)⟩
  obtain ⟨z0, hz0⟩ := hx 0 (by decide)
  obtain ⟨z1, hz1⟩ := hx 1 (by decide)
  obtain ⟨z2, hz2⟩ := hx 2 (by decide)
  obtain ⟨z3, hz3⟩ := hx 3 (by decide)
  obtain ⟨k, e0, _, w0⟩ := DataW.trod_int Tryz.underlying22 ((hf 0 _ rfl).trans hz0)
  obtain ⟨a, e1, _, w1⟩ := DataW.trod_int Tryz.underlying3 ((hf 1 _ rfl).trans hz1)
  obtain ⟨s, e2, _, w2⟩ := DataW.trod_string Tryz.underlying9 ((hf 2 _ rfl).trans hz2)
  obtain ⟨A, len, cap, rs, e3, hls⟩ := rows_cells ((hf 3 _ rfl).trans hz3)
  have c22 : Tryz.prog.cellsOf 22 = 1 := by kernel_rfl
  have c3 : Tryz.prog.cellsOf 3 = 1 := by kernel_rfl
  have c9 : Tryz.prog.cellsOf 9 = 1 := by kernel_rfl
  have c23 : Tryz.prog.cellsOf 23 = 1 := by kernel_rfl
  have c25 : Tryz.prog.cellsOf 25 = 4 := by kernel_rfl
  rw [c25] at hl2
  refine ⟨A, len, cap, ⟨k, a, s.data.toList, rs⟩, ?_, hls, by unfold maxLen at w2; simpa using w2, rng_i64 w0, rng_i64 w1⟩
  match cs, hl2 with
  | [b0, b1, b2, b3], _ =>
    simp [c3, c9, c22, c23] at e0 e1 e2 e3
    subst e0 e1 e2 e3
    simp [txt_of]
theorem rep_open {v : Value} {base2 : Nat} {d : DataW H} {p : List MemPlace} (hv : Value.okWide Tryz.prog W .any base2 25 v) (h : DataW.Trod enc Tryz.prog W base (fun _ => true) hd 25 v d p) : ∃ q, IsRepV W v q := by
  obtain ⟨fuel, hf⟩ := h
  obtain ⟨cs, rfl, _⟩ := okWide_struct Tryz.underlying25 hv
  obtain ⟨A, len, cap, q, hk, hr⟩ := rep_cells hf
  refine ⟨q, A, len, cap, ?_, hr⟩
  have hk2 : cs.toList = [.int .i64 q.err, .int .i64 q.id, .string (txt q.slip), .slice A len cap] := by simpa [Value.cells] using hk
  unfold rpV
  rw [← hk2]
end
theorem rpIn_ok {w : World} {A : Option Addr} {n c : Nat} {q : Rep} (h : RpIn w A n c q) (hL : ∀ r ∈ q.rows, LightL r.l) : RpOk w A n q := by
  obtain ⟨h1, h2, h3, h4, _⟩ := h.rows
  exact ⟨h1, fun x hx => ⟨light_short (hL x hx), by have := (hL x hx).1; omega, (h4 x hx).1⟩, by omega, h.slip, h.err, h.id⟩
end Go.Proofs.YtbnacoakjhhndaaGreat
namespace Go.Proofs.YtbnacoakjhhndaaGreat
open Go.RowKit

def LabsIn (rs : List Rw) : Prop := ∀ r ∈ rs, r.l.length ≤ 1000000000 ∧ ∀ x ∈ r.l, x.n.length ≤ 1000000 ∧ x.v.length ≤ 1000000
set_option maxHeartbeats 8000000 in
set_option maxRecDepth 100000 in
theorem ref13Rows_any (A : Option Addr) (n c : Nat) (rs : List Rw) (w : World) (hn : n ≤ 2000) (hr : Rows w A n rs) (hs : LabsIn rs) :
    Calls Tryz.prog 7 #[.slice A n c] w fun e w' => e = .returned (.bool (decide (∀ r ∈ rs, okR r))) ∧ Gr w w' := by
  have hl : rs.length = n := hr.1
  obtain ⟨q, hq⟩ : ∃ q, q = decide (∀ r ∈ rs, okR r) := ⟨_, rfl⟩
  rw [← hq]
  have hq2 : q = true ↔ ∀ r ∈ rs, okR r := by rw [hq]; exact decide_eq_true_iff
  replace hq2 := Lib.hid hq2
  replace hq := Lib.hid hq
  replace hr := Lib.hid hr
  replace hl := Lib.hid hl
  replace hs := Lib.hid hs
  go_enter Tryz.func7, Tryz.ntmps7
  go_wp2
  go_loopw [3] (fun i wr => ∃ k : Nat, k ≤ n ∧ i = .int .i64 k ∧ Hid (∀ r ∈ rs.take k, okR r) ∧ Hid (Gr w wr)) (fun i _ => n - (intOf i).toNat)
  case atStart => exact ⟨0, Nat.zero_le _, rfl, Lib.hid (by intro x hx; simp at hx), Lib.hid (gr_refl _ _)⟩
  case round =>
    obtain ⟨k, hk, rfl, ht, hg⟩ := hrel
    by_cases hlt : k < n
    · obtain ⟨r, h, B, o, hx, hok, rfl, c0, c1⟩ := rows_at (rows_gr hr.out hg.out) hlt
      have hki : (k : Int) < (n : Int) := by omega
      have hk0 : (0 : Int) ≤ (k : Int) := by omega
      obtain ⟨s1, s2⟩ := hs.out r (List.mem_of_getElem? hx)
      have hrow := hok.row
      have hv := hok.v
      have hnn := hok.n
      have cR := fun W (g : Gr wr W) => refRow_any h.A h.n h.c r.l h.v W (by omega) (row_gr hrow g) s2
      have heq : (⟨r.l, h.v⟩ : Rw) = r := by rw [hv]
      rw [heq] at cR
      have hmem := List.mem_of_getElem? hx
      have hnext : okR r → ∀ y ∈ rs.take (k + 1), okR y := fun h y hy => by
        obtain ⟨h1, h2⟩ := List.getElem?_eq_some_iff.1 hx
        rw [List.take_succ_eq_append_getElem h1, h2] at hy
        rcases List.mem_append.1 hy with hy | hy
        · exact ht.out y hy
        · rw [List.mem_singleton.1 hy]; exact h
      replace hnext := Lib.hid hnext
      replace cR := Lib.hid cR
      replace hmem := Lib.hid hmem
      clear hok hx ht hrow hv hnn heq s1 s2
      by_cases ho : okR r
      · have hd : decide (okR r) = true := decide_eq_true ho
        rw [hd] at cR
        have hn2 := hnext.out ho
        replace hn2 := Lib.hid hn2
        replace ho := Lib.hid ho
        go_wp2_with fail
        refine (cR.out _ (gr_refl _ _)).mono ?_
        rintro e w3 ⟨rfl, g3⟩
        have G3 := Lib.hid (gr_trans hg.out g3)
        clear g3
        go_wp2
        go_roundw
        case rel => exact ⟨k + 1, by omega, by go_num, hn2, G3⟩
        case measure => simp [intOf]; omega
      · have hd : decide (okR r) = false := decide_eq_false ho
        rw [hd] at cR
        obtain rfl : q = false := by
          cases q with
          | false => rfl
          | true => exact absurd (hq2.out.1 rfl r hmem.out) ho
        replace ho := Lib.hid ho
        go_wp2_with fail
        refine (cR.out _ (gr_refl _ _)).mono ?_
        rintro e w3 ⟨rfl, g3⟩
        go_wp2
        go_ret
        exact ⟨rfl, gr_trans hg.out g3⟩
    · obtain rfl : k = n := by omega
      have hle : (k : Int) ≤ 2000 := by omega
      obtain rfl : q = true := hq2.out.2 (by
        have h1 := ht.out
        rwa [List.take_of_length_le (by rw [hl.out]; exact Nat.le_refl _)] at h1)
      go_wp2
      go_ret
      exact ⟨rfl, hg.out⟩
end Go.Proofs.YtbnacoakjhhndaaGreat
namespace Go.Proofs.YtbnacoakjhhndaaGreat
open Go.RowKit

def RLPost (rs : List Rw) (w : World) (e : Ending) (w' : World) : Prop := (∃ b, e = .returned (.bool b) ∧ (b = true → rs.length ≤ 60 ∧ ∀ r ∈ rs, LightL r.l)) ∧ w = w'
set_option maxHeartbeats 8000000 in
set_option maxRecDepth 100000 in
theorem rlight_any (A : Option Addr) (n c : Nat) (rs : List Rw) (w : World) (hn : n ≤ 9223372036854775807) (hr : Rows w A n rs) :
    Calls Tryz.prog 4 #[.slice A n c] w (RLPost rs w) := by
  have hl : rs.length = n := hr.1
  replace hr := Lib.hid hr
  replace hl := Lib.hid hl
  go_enter Tryz.func4, Tryz.ntmps4
  go_wp2
  go_loopw [3] (fun i wr => ∃ k : Nat, k ≤ n ∧ i = .int .i64 k ∧ Hid (∀ r ∈ rs.take k, LightL r.l) ∧ w = wr) (fun i _ => n - (intOf i).toNat)
  case atStart => exact ⟨0, Nat.zero_le _, rfl, (by intro x hx; simp at hx), rfl⟩
  case round =>
    obtain ⟨k, hk, rfl, ht, rfl⟩ := hrel
    by_cases hlt : k < n ∧ k < 100
    · obtain ⟨r, h, B, o, hx, hok, rfl, c0, c1⟩ := rows_at hr.out hlt.1
      have hki : (k : Int) < (n : Int) := by omega
      have hkj : (k : Int) < 100 := by omega
      have hk0 : (0 : Int) ≤ (k : Int) := by omega
      have hL := llight_any h.A h.n h.c r.l w (by have := hok.le; have := hok.small; omega) hok.row
      have hnext : LightL r.l → ∀ y ∈ rs.take (k + 1), LightL y.l := fun h y hy => by
        obtain ⟨h1, h2⟩ := List.getElem?_eq_some_iff.1 hx
        rw [List.take_succ_eq_append_getElem h1, h2] at hy
        rcases List.mem_append.1 hy with hy | hy
        · exact ht.out y hy
        · rw [List.mem_singleton.1 hy]; exact h
      replace hnext := Lib.hid hnext
      replace hL := Lib.hid hL
      clear hok hx ht
      go_wp2_with fail
      refine hL.out.mono ?_
      rintro e w3 ⟨⟨b, rfl, hb⟩, rfl⟩
      cases b with
      | false =>
        clear hb
        go_wp2
        go_ret
        exact ⟨⟨false, rfl, fun h => by cases h⟩, rfl⟩
      | true =>
        have hn2 := hnext.out (hb rfl)
        replace hn2 := Lib.hid hn2
        clear hb
        go_wp2
        go_roundw
        case rel => exact ⟨k + 1, by omega, by go_num, hn2.out, by first | rfl | trivial⟩
        case measure => simp [intOf]; omega
    · by_cases hkn : k < n
      · have hkj : ¬ (k : Int) < 100 := by omega
        have hki : (k : Int) < (n : Int) := by omega
        have hn60 : ((n : Int) ≤ 60) = False := eq_false (by omega)
        go_wp2
        go_ret
        exact ⟨⟨false, rfl, fun h => by cases h⟩, rfl⟩
      · obtain rfl : k = n := by omega
        by_cases h60 : k ≤ 60
        · have hn60 : (k : Int) ≤ 60 := by omega
          have hfull : rs.length ≤ 60 ∧ ∀ r ∈ rs, LightL r.l := ⟨by rw [hl.out]; exact h60, by
            have h1 := ht.out
            rwa [List.take_of_length_le (by rw [hl.out]; exact Nat.le_refl _)] at h1⟩
          replace hfull := Lib.hid hfull
          go_wp2
          go_ret
          exact ⟨⟨true, rfl, fun _ => hfull.out⟩, rfl⟩
        · have hn60 : ((k : Int) ≤ 60) = False := eq_false (by omega)
          go_wp2
          go_ret
          exact ⟨⟨false, rfl, fun h => by cases h⟩, rfl⟩
end Go.Proofs.YtbnacoakjhhndaaGreat
namespace Go.Proofs.YtbnacoakjhhndaaGreat
open Go.RowKit

theorem refHigh1 (v : Nat) (w : World) (hv : v < 256) : Calls Tryz.prog 8 #[.int .i64 v, .int .i64 1] w fun e w' => e = .returned (.string (txt [UInt8.ofNat v])) ∧ Gr w w' := by
  have h := refHigh_any v 1 w (by decide) (by omega)
  have h1 : Crc.be 1 v = [UInt8.ofNat v] := by simp [Crc.be]
  rw [h1] at h
  exact h
theorem lbsL_next {zs : List Lb} {k : Nat} {x : Lb} (hx : zs[k]? = some x) : lbsL (zs.take (k + 1)) = lbsL (zs.take k) ++ ([UInt8.ofNat x.n.length] ++ x.n ++ [UInt8.ofNat x.v.length] ++ x.v) := by
  obtain ⟨h1, h2⟩ := List.getElem?_eq_some_iff.1 hx
  rw [List.take_succ_eq_append_getElem h1, h2]
  simp [lbsL, lbL, lenT]
set_option maxHeartbeats 8000000 in
set_option maxRecDepth 100000 in
theorem refPut_any (A : Option Addr) (n c : Nat) (zs : List Lb) (v : Int) (w : World) (hok : okR ⟨zs, v⟩) (hr : Row w A n 2 (sR lblC zs)) :
    Calls Tryz.prog 9 #[.agg #[.slice A n c, .int .i64 v]] w fun e w' => e = .returned (.string (txt (rowL ⟨zs, v⟩))) ∧ Gr w w' := by
  have hl : zs.length = n := by have := hr.1; rw [sR_len lblC 2 lblC_len] at this; omega
  obtain ⟨W1, hW1⟩ : ∃ W1, W1 = w.alloc (.cells #[.slice A n c, .int .i64 v] 34) := ⟨_, rfl⟩
  have g1 : Gr w W1 := by rw [hW1]; exact gr_alloc _ _ _
  have b0 : W1.cell? ⟨w.heap.size, 0, none⟩ = some (.slice A n c) := by rw [hW1, World.cell?_alloc_new]; rfl
  have b1 : W1.cell? ⟨w.heap.size, 1, none⟩ = some (.int .i64 v) := by rw [hW1, World.cell?_alloc_new]; rfl
  have hr1 := row_gr hr g1
  have hn8 : n ≤ 8 := by rw [← hl]; exact hok.1.1
  have hlt9 := okLbs_light hok.1
  obtain ⟨M, hM⟩ : ∃ M : Nat, v + 1000000000000 = (M : Int) := ⟨(v + 1000000000000).toNat, by have := hok.2; unfold okV at this; simp only at this; omega⟩
  have hMb : M < 281474976710656 := by have := hok.2; unfold okV at this; simp only at this; omega
  have hfin : UInt8.ofNat n :: (lbsL zs ++ Crc.be 6 M) = rowL ⟨zs, v⟩ := by unfold rowL; simp only; rw [hl, hM]; rfl
  replace hfin := Lib.hid hfin
  replace hr1 := Lib.hid hr1
  replace hl := Lib.hid hl
  replace g1 := Lib.hid g1
  replace hlt9 := Lib.hid hlt9
  have hokz : Hid (okLbs zs) := hok.1
  replace hM := Lib.hid hM
  clear hr hok
  go_enter Tryz.func9, Tryz.ntmps9
  go_upto_region 1 with fail
  rw [← hW1]
  clear hW1
  go_wp2_with fail
  refine (refHigh1 n W1 (by omega)).mono ?_
  rintro e w2 ⟨rfl, g2⟩
  replace b0 := Lib.hid (gr_cell g2 b0)
  replace b1 := Lib.hid (gr_cell g2 b1)
  go_wp2
  go_loopw [3, 4] (fun s iv wr => ∃ k : Nat, k ≤ n ∧ iv = .int .i64 k ∧ s = .string (txt (UInt8.ofNat n :: lbsL (zs.take k))) ∧ Hid (Gr w2 wr)) (fun _ iv _ => n - (intOf iv).toNat)
  case atStart => exact ⟨0, Nat.zero_le _, rfl, rfl, gr_refl _ _⟩
  case round =>
    obtain ⟨k, hk, rfl, rfl, hg⟩ := hrel
    have bh := gr_cell hg.out b0.out
    by_cases hlt : k < n
    · obtain ⟨x, B, o, hx, rfl, hBlt, hc⟩ := rowS_elem lblC_len (row_gr (row_gr hr1.out g2) hg.out) (by decide) hlt
      obtain ⟨c0, c1⟩ := two_cells hc
      have hki : (k : Int) < (n : Int) := by omega
      have hk0 : (0 : Int) ≤ (k : Int) := by omega
      have hxl := hlt9.out.2 x (List.mem_of_getElem? hx)
      obtain ⟨hx1, hx2⟩ := hxl
      have hnx := lbsL_next hx
      replace hnx := Lib.hid hnx
      have hbd := lbsL_take_le hokz.out k
      have hbx : (UInt8.ofNat n :: lbsL (zs.take k)).length ≤ 1457 := by rw [List.length_cons]; omega
      have hs1 : (9223372036854775807 < (lbsL (zs.take k)).length + 1 + 1) = False := eq_false (by omega)
      have hs2 : (9223372036854775807 < (lbsL (zs.take k)).length + 1 + 1 + x.n.length) = False := eq_false (by omega)
      have hs3 : (9223372036854775807 < (lbsL (zs.take k)).length + (x.n.length + 1) + 1 + 1) = False := eq_false (by omega)
      have hs4 : (9223372036854775807 < (lbsL (zs.take k)).length + (x.n.length + (1 + 1)) + 1 + x.v.length) = False := eq_false (by omega)
      clear hx hc hbd
      go_upto_region 6 with fail
      obtain ⟨w5, hw5⟩ : ∃ w5, w5 = wr.alloc (.cells #[.string (txt x.n), .string (txt x.v)] 77) := ⟨_, rfl⟩
      have g5 : Gr wr w5 := by rw [hw5]; exact gr_alloc _ _ _
      have e0 : w5.cell? ⟨wr.heap.size, 0, none⟩ = some (.string (txt x.n)) := by rw [hw5, World.cell?_alloc_new]; rfl
      have e1 : w5.cell? ⟨wr.heap.size, 1, none⟩ = some (.string (txt x.v)) := by rw [hw5, World.cell?_alloc_new]; rfl
      have d0 : ∀ p : Grown w5, p.wd.cell? ⟨wr.heap.size, 0, none⟩ = some (.string (txt x.n)) := fun p => cell_to e0 p
      have d1 : ∀ p : Grown w5, p.wd.cell? ⟨wr.heap.size, 1, none⟩ = some (.string (txt x.v)) := fun p => cell_to e1 p
      rw [← hw5]
      clear hw5 e0 e1 c0 c1 bh
      refine wp_region_quiet_gr (by kernel_rfl) (by kernel_rfl) ?_
      repeat (go_big_quiet_step ((go_at_call 8; exact calls_gr (refHigh1 _ _ (by omega)))))
      refine wpQuiet_nil ?_
      intro wq hwq
      obtain ⟨⟨wp, gq⟩, rfl⟩ := hwq
      clear d0 d1
      go_wp2
      go_roundw
      case rel => exact ⟨k + 1, by omega, by go_num, by rw [hnx.out]; simp [List.append_assoc], gr_trans hg.out (gr_trans g5 gq)⟩
      case measure => simp [intOf]; omega
    · obtain rfl : k = n := by omega
      have hf2 := hfin.out
      have hz : zs.take k = zs := List.take_of_length_le (by rw [hl.out]; exact Nat.le_refl _)
      rw [hz]
      have bv := gr_cell hg.out b1.out
      have hM2 := hM.out
      have hw6 : IntKind.i64.wrap (M : Int) = (M : Int) := IntWalk.i64_in _ (by omega)
      have hbd := lbsL_take_le hokz.out k
      rw [hz] at hbd
      have hbe : (Crc.be 6 M).length = 6 := Crc.be_length 6 M
      have hs5 : (9223372036854775807 < (lbsL zs).length + 1 + (Crc.be 6 M).length) = False := eq_false (by omega)
      have hs6 : (9223372036854775807 < (lbsL zs).length + 1 + 6) = False := eq_false (by omega)
      clear hbd
      replace hf2 := Lib.hid hf2
      go_wp2_with fail
      refine (refHigh_any M 6 _ (by decide) hMb).mono ?_
      rintro e w6 ⟨rfl, g6⟩
      go_wp2
      go_ret
      exact ⟨by rw [← hf2.out]; simp, gr_trans g1.out (gr_trans g2 (gr_trans hg.out g6))⟩
end Go.Proofs.YtbnacoakjhhndaaGreat
namespace Go.Proofs.YtbnacoakjhhndaaGreat
open Go.RowKit

theorem and1b : ∀ n, n < 256 → bits .and .u8 ((n : Nat) : Int) 1 = ((n % 2 : Nat) : Int) := by decide +kernel
theorem ref_out (Y m : Nat) (b : UInt8) (hY : Y < 4294967296) : bits .xor .u32 ((Y : Int) / 2147483648) (bits .and .u8 ((b.toNat : Int) / 2 ^ (7 - m)) 1 % 4294967296) = (((Y / 2147483648 + b.toNat / 2 ^ (7 - m) % 2) % 2 : Nat) : Int) := by
  have hb := b.toNat_lt
  have h0 : ((b.toNat : Int) / 2 ^ (7 - m)) = ((b.toNat / 2 ^ (7 - m) : Nat) : Int) := by simp
  have h1 := and1b (b.toNat / 2 ^ (7 - m)) (Nat.lt_of_le_of_lt (Nat.div_le_self _ _) (by omega))
  rw [h0, h1]
  have h2 : (((b.toNat / 2 ^ (7 - m) % 2 : Nat) : Int) % 4294967296) = ((b.toNat / 2 ^ (7 - m) % 2 : Nat) : Int) := by omega
  rw [h2]
  have h3 := Crc.out_eq Y (b.toNat / 2 ^ (7 - m)) hY
  rw [Crc.and1] at h3
  have h4 : ((Y : Int) / 2147483648) = ((Y / 2147483648 : Nat) : Int) := rfl
  rw [h4]
  exact h3
set_option maxHeartbeats 1000000 in
set_option maxRecDepth 100000 in
theorem refSum_any (s : ByteArray) (w : World) (hs : s.size ≤ maxLen) :
    Calls Tryz.prog 32 #[.string s] w fun e w' => e = .returned (.int .u32 (Crc.sum s.data.toList)) ∧ w = w' := by
  unfold maxLen at hs
  go_enter Tryz.func32, Tryz.ntmps32
  go_wp2
  go_loop [3, 4] (fun x i => ∃ (k X : Nat), k ≤ s.size ∧ i = .int .i64 k ∧ x = .int .u32 X ∧ X < 4294967296 ∧ Hid (X = Crc.run 4294967295 (Crc.bitsL (s.data.toList.take k)))) (fun _ i => s.size - (intOf i).toNat)
  case atStart => exact ⟨0, 4294967295, Nat.zero_le _, rfl, rfl, by decide, Lib.hid rfl⟩
  case round =>
    obtain ⟨k, X, hk, rfl, rfl, hX, HX⟩ := hrel
    by_cases hlt : k < s.size
    · go_wp2
      go_loop [3, 5] (fun x j => ∃ (m Y : Nat), m ≤ 8 ∧ j = .int .i64 (7 - (m : Int)) ∧ x = .int .u32 Y ∧ Y < 4294967296 ∧ Hid (Y = Crc.run X ((Crc.bitsB s[k]).take m))) (fun _ j => (intOf j + 1).toNat)
      case atStart => exact ⟨0, X, Nat.zero_le _, rfl, rfl, hX, Lib.hid rfl⟩
      case round =>
        obtain ⟨m, Y, hm, rfl, rfl, hY, HY⟩ := hrel
        by_cases hlm : m < 8
        · have h70 : (0 : Int) ≤ 7 - (m : Int) := by omega
          have h7n : (7 - (m : Int)).toNat = 7 - m := by omega
          by_cases ho : (Y / 2147483648 + s[k].toNat / 2 ^ (7 - m) % 2) % 2 = 1
          · have hof : (bits .xor .u32 ((Y : Int) / 2147483648) (bits .and .u8 ((s[k].toNat : Int) / 2 ^ (7 - m)) 1 % 4294967296) == 1) = true := by
              rw [ref_out Y m s[k] hY, ho]; rfl
            have HO := Lib.hid ho
            clear ho
            go_wp2
            go_round
            case rel => exact ⟨m + 1, Crc.stp Y (s[k].toNat / 2 ^ (7 - m) % 2), by omega, by go_num, by rw [Crc.step_yes Y m _ HO.out, Crc.flip_walk], Crc.stp_lt, Lib.hid (by rw [Crc.run_bit _ _ _ hlm, HY.out])⟩
            case measure => simp [intOf]; omega
          · have hof : (bits .xor .u32 ((Y : Int) / 2147483648) (bits .and .u8 ((s[k].toNat : Int) / 2 ^ (7 - m)) 1 % 4294967296) == 1) = false := by
              rw [ref_out Y m s[k] hY]; exact Crc.not_one ho
            have HO := Lib.hid ho
            clear ho
            go_wp2
            go_round
            case rel => exact ⟨m + 1, Crc.stp Y (s[k].toNat / 2 ^ (7 - m) % 2), by omega, by go_num, by rw [Crc.step_no Y m _ HO.out]; rfl, Crc.stp_lt, Lib.hid (by rw [Crc.run_bit _ _ _ hlm, HY.out])⟩
            case measure => simp [intOf]; omega
        · obtain rfl : m = 8 := by omega
          go_wp2
          go_round
          case rel => exact ⟨k + 1, Y, by omega, by go_num, rfl, hY, Lib.hid (by rw [HY.out, HX.out]; exact (Crc.run_byte _ _ _ (by simpa using hlt)).symm)⟩
          case measure => simp [intOf]; omega
    · go_wp2
      go_ret
      refine ⟨?_, rfl⟩
      rw [HX.out, List.take_of_length_le (by simp; omega)]
      rfl
theorem refHigh2 (v : Nat) (w : World) (hv : v < 281474976710656) : Calls Tryz.prog 8 #[.int .i64 v, .int .i64 2] w fun e w' => e = .returned (.string (txt (Crc.be 2 v))) ∧ Gr w w' := refHigh_any v 2 w (by decide) hv
theorem refHigh4 (v : Nat) (w : World) (hv : v < 281474976710656) : Calls Tryz.prog 8 #[.int .i64 v, .int .i64 4] w fun e w' => e = .returned (.string (txt (Crc.be 4 v))) ∧ Gr w w' := refHigh_any v 4 w (by decide) hv

/-! ### Frame -/
set_option maxHeartbeats 2000000 in
set_option maxRecDepth 100000 in
theorem refFrame_any (l : List UInt8) (w : World) (hl : l.length ≤ 12000) : Calls Tryz.prog 12 #[.string (txt l)] w fun e w' => e = .returned (.string (txt (Crc.frm l))) ∧ Gr w w' := by
  have hm2 : (txt (Crc.be 2 l.length)).size ≤ maxLen := by rw [txt_size, Crc.be_length]; unfold maxLen; omega
  have hm : (txt l).size ≤ maxLen := by rw [txt_size]; unfold maxLen; omega
  have s1 := Crc.sum_lt (Crc.be 2 l.length)
  have s2 := Crc.sum_lt l
  have hc1 := refSum_any (txt (Crc.be 2 l.length)) 
  have hc2 := refSum_any (txt l)
  rw [txt_data] at hc1 hc2
  go_enter Tryz.func12, Tryz.ntmps12
  go_wp2_with fail
  refine (refHigh2 _ _ (by omega)).mono ?_
  rintro e w1 ⟨rfl, g1⟩
  go_wp2_with fail
  refine (hc1 _ hm2).mono ?_
  rintro e w2 ⟨rfl, rfl⟩
  go_wp2_with fail
  refine (refHigh4 _ _ (by omega)).mono ?_
  rintro e w2 ⟨rfl, g2⟩
  go_wp2_with fail
  refine (hc2 _ hm).mono ?_
  rintro e w3 ⟨rfl, rfl⟩
  go_wp2_with fail
  refine (refHigh4 _ _ (by omega)).mono ?_
  rintro e w3 ⟨rfl, g3⟩
  go_wp2
  go_ret
  refine ⟨?_, gr_trans (gr_trans g1 g2) g3⟩
  simp only [Crc.frm, Crc.head, List.append_assoc]
  rfl
end Go.Proofs.YtbnacoakjhhndaaGreat
