/-
  Several facts, one behind the other; no condition but bounds: A desk in memory; a desk of nothing. No condition. slices.IndexFunc of cursors at the desk's own test; slices.Index and Contains of ints. No condition but the row's own. (*Desk).Open of a desk with room. No condition but bounds. (*Desk).open, Find and Next of a desk. No condition but bounds. (*Desk).Find of any slip. No condition but bounds. (*Desk).Next of a cursor whose pages may be. No condition but bounds. A desk of the law's own: what its calls keep; alive of the desk laws. No condition but bounds.
-/
import Derived.Test.YtmldoeeangekoaaGreatDoorDiaryCur
import Derived.Test.YtmldoeeangekoaaGreatDoorSlipGet
import Derived.Test.YtmldoeeangekoaaGreatDoorSlipPages
import Derived.Test.YtmldoeeangekoaaGreatDoorQuietGr
import Derived.Test.YtmldoeeangekoaaGreatDoorRowMore
import Derived.Deep.RegionLaw
import Derived.Deep.RegionHeld3
namespace Go.Proofs.YtmldoeeangekoaaGreatDoor
open Go.RowKit

theorem fcellD {w : World} {b : Nat} {cs : Array Value} {t : TypeId} {fr : Nat × Nat} (h : w.heap[b]? = some (.cells cs t fr)) {j : Nat} {v : Value} (hj : cs[j]? = some v) : w.cell? ⟨b, j, none⟩ = some v := by
  unfold World.cell?
  rw [h]
  simpa using hj
theorem fzeroD {w : World} {b : Nat} {cs : Array Value} {t : TypeId} (h : w.heap[b]? = some (.cells cs t (0, 0))) (j : Nat) : w.frozen? ⟨b, j, none⟩ = false := by
  unfold World.frozen?
  rw [h]
  simp
def curV (x : Cur) : Value := .agg #[.int .i64 x.id, .int .i64 x.rows, .int .i64 x.size, .int .i64 x.tl, .string (txt x.file)]
/-- Block b is a cursor. -/
def CuB (w : World) (b : Nat) (x : Cur) : Prop := w.heap[b]? = some (.cells #[.int .i64 x.id, .int .i64 x.rows, .int .i64 x.size, .int .i64 x.tl, .string (txt x.file)] 52 (0, 0))
theorem cub_cells {w : World} {b : Nat} {x : Cur} (h : CuB w b x) : w.cell? ⟨b, 0, none⟩ = some (.int .i64 x.id) ∧ w.cell? ⟨b, 1, none⟩ = some (.int .i64 x.rows) ∧ w.cell? ⟨b, 2, none⟩ = some (.int .i64 x.size) ∧ w.cell? ⟨b, 3, none⟩ = some (.int .i64 x.tl) ∧ w.cell? ⟨b, 4, none⟩ = some (.string (txt x.file)) := ⟨fcellD h rfl, fcellD h rfl, fcellD h rfl, fcellD h rfl, fcellD h rfl⟩
theorem cub_there {w : World} {b : Nat} {x : Cur} (h : CuB w b x) : w.there b 0 5 := fun j hj => ⟨by
  obtain ⟨c0, c1, c2, c3, c4⟩ := cub_cells h
  match j, hj with
  | 0, _ => rw [c0]; rfl
  | 1, _ => rw [c1]; rfl
  | 2, _ => rw [c2]; rfl
  | 3, _ => rw [c3]; rfl
  | 4, _ => rw [c4]; rfl
  | j + 5, hj => omega, fzeroD h _⟩
theorem infoCu : (Tryz.prog.info? 52).map (·.size) = some 5 := by kernel_rfl
def cu0 : Cur := ⟨0, 0, 0, 0, []⟩
/-- A desk's state. -/
structure DkS where
  nx : Int
  now : Int
  op : List Cur
  seg : List UInt8
  pts : Int
/-- Block D is a desk. -/
def DkB (w : World) (D : Nat) (nx now : Int) (op : Value) (seg : List UInt8) (pts : Int) : Prop := w.heap[D]? = some (.cells #[.int .i64 nx, .int .i64 now, op, .string (txt seg), .int .i64 pts] 80 (0, 0))
theorem dkb_cells {w : World} {D : Nat} {nx now pts : Int} {op : Value} {seg : List UInt8} (h : DkB w D nx now op seg pts) : w.cell? ⟨D, 0, none⟩ = some (.int .i64 nx) ∧ w.cell? ⟨D, 1, none⟩ = some (.int .i64 now) ∧ w.cell? ⟨D, 2, none⟩ = some op ∧ w.cell? ⟨D, 3, none⟩ = some (.string (txt seg)) ∧ w.cell? ⟨D, 4, none⟩ = some (.int .i64 pts) := ⟨fcellD h rfl, fcellD h rfl, fcellD h rfl, fcellD h rfl, fcellD h rfl⟩
/-- Desk D is in that state; its list is its own. -/
structure DkIs (w : World) (D base : Nat) (s : DkS) (A : Option Addr) (n c : Nat) : Prop where
  blk : DkB w D s.nx s.now (.slice A n c) s.seg s.pts
  own : w.ownsRow base 52 5 (.slice A n c) n (sR curC s.op)
theorem dkIs_gr {w w' : World} {D base : Nat} {s : DkS} {A : Option Addr} {n c : Nat} (h : DkIs w D base s A n c) (g : Gr w w') : DkIs w' D base s A n c := ⟨gr_blk g h.blk (by simp), h.own.kept g (Classical.em _)⟩
theorem dkIs_len {w : World} {D base : Nat} {s : DkS} {A : Option Addr} {n c : Nat} (h : DkIs w D base s A n c) : s.op.length = n := by have := h.own.1; rw [sR_len curC 5 curC_len] at this; omega
set_option maxRecDepth 100000 in
theorem run_eql_dk0 (W : World) : (binOp .eql 28 (.slice none 0 0) (.slice none 0 0)).run Tryz.prog W = .ok (.bool true) W := rfl
set_option maxRecDepth 100000 in
theorem clone0 (w : World) : Calls Tryz.prog 90 #[.slice none 0 0] w fun e w' => e = .returned (.slice none 0 0) ∧ w = w' := by
  have he := run_eql_dk0
  go_enter Tryz.func90, Tryz.ntmps90
  go_wp2
  go_ret
  exact ⟨rfl, rfl⟩
set_option maxRecDepth 100000 in
theorem own0 (nx now pts : Int) (seg : List UInt8) (w : World) : Calls Tryz.prog 30 #[.agg #[.int .i64 nx, .int .i64 now, .slice none 0 0, .string (txt seg), .int .i64 pts]] w fun e w' => e = .returned (.agg #[.int .i64 nx, .int .i64 now, .slice none 0 0, .string (txt seg), .int .i64 pts]) ∧ Gr w w' := by
  go_enter Tryz.func30, Tryz.ntmps30
  go_wp2_with fail
  refine (clone0 _).mono ?_
  rintro e w' ⟨rfl, rfl⟩
  go_wp2
  refine bodyPost_ret (by simp [results, Tryz.results30, go_sem]; try rfl) rfl ?_
  exact ⟨rfl, gr_trans (gr_alloc _ _ _) (gr_alloc _ _ _)⟩
set_option maxRecDepth 100000 in
theorem new0 (nx now pts : Int) (seg : List UInt8) (w : World) : Calls Tryz.prog 6 #[.agg #[.int .i64 nx, .int .i64 now, .slice none 0 0, .string (txt seg), .int .i64 pts]] w fun e w' => (∃ D, e = .returned (.pointer (some ⟨D, 0, none⟩)) ∧ w.heap.size ≤ D ∧ DkB w' D nx now (.slice none 0 0) seg pts) ∧ Gr w w' := by
  have cO := fun W => own0 nx now pts seg W
  replace cO := Lib.hid cO
  go_enter Tryz.func6, Tryz.ntmps6
  go_wp2_with fail
  refine (cO.out _).mono ?_
  rintro e w2 ⟨rfl, g2⟩
  have G2 := gr_trans (gr_alloc w (.cells #[.int .i64 nx, .int .i64 now, .slice none 0 0, .string (txt seg), .int .i64 pts] 30) none) g2
  clear g2
  replace G2 := Lib.hid G2
  go_wp2
  go_ret
  exact ⟨⟨_, rfl, G2.out.size, blk_new w2 _⟩, gr_trans G2.out (gr_alloc _ _ _)⟩
set_option maxHeartbeats 4000000 in
set_option maxRecDepth 100000 in
theorem fold0 (w : World) : Calls Tryz.prog 7 #[.slice none 0 0] w fun e w' => e = .returned (.agg #[.int .i64 1, .int .i64 0, .slice none 0 0, .string (txt []), .int .i64 0]) ∧ Gr w w' := by
  go_enter Tryz.func7, Tryz.ntmps7
  go_wp2
  refine wp_loop_rounds 1 ?_
  rw [rounds_succ]
  go_wp2
  refine bodyPost_ret (by simp [results, Tryz.results7, go_sem]; try rfl) rfl ?_
  exact ⟨rfl, gr_trans (gr_alloc _ _ _) (gr_alloc _ _ _)⟩
set_option maxHeartbeats 4000000 in
set_option maxRecDepth 100000 in
theorem may_ok (D : Nat) (nx now pts : Int) (A : Option Addr) (n c : Nat) (seg : List UInt8) (rows size ticks : Nat) (w : World) (h : DkB w D nx now (.slice A n c) seg pts) (hr : rows ≤ 2000) (hs : 1 ≤ size) (hs2 : size ≤ 100) (ht : ticks ≤ 100000) (hnow : 0 ≤ now ∧ now + ticks ≤ 1000000000) (hn : n < 20) (hnx : nx ≤ 1000000) :
    Calls Tryz.prog 10 #[.pointer (some ⟨D, 0, none⟩), .int .i64 rows, .int .i64 size, .int .i64 ticks] w fun e w' => e = .returned (.int .i64 0) ∧ w = w' := by
  obtain ⟨c0, c1, c2, c3, c4⟩ := dkb_cells h
  have e1 : ((2000 : Int) < (rows : Int)) = False := eq_false (by omega)
  have e2 : ((size : Int) < 1) = False := eq_false (by omega)
  have e3 : ((100 : Int) < (size : Int)) = False := eq_false (by omega)
  have e4 : ((100000 : Int) < (ticks : Int)) = False := eq_false (by omega)
  have e5 : ((1000000000 : Int) - (ticks : Int) < now) = False := eq_false (by omega)
  have e5' : IntKind.i64.wrap ((1000000000 : Int) - (ticks : Int)) = (1000000000 : Int) - (ticks : Int) := IntWalk.i64_in _ (by omega)
  have e6 : ((20 : Int) ≤ (n : Int)) = False := eq_false (by omega)
  have e6' : (20 ≤ n) = False := eq_false (by omega)
  have e7 : ((1000000 : Int) < nx) = False := eq_false (by omega)
  have e8 : ((rows : Int) < 0) = False := eq_false (by omega)
  have e9 : ((ticks : Int) < 0) = False := eq_false (by omega)
  clear h
  go_enter Tryz.func10, Tryz.ntmps10
  go_wp2
  go_ret
  exact ⟨rfl, rfl⟩
end Go.Proofs.YtmldoeeangekoaaGreatDoor
namespace Go.Proofs.YtmldoeeangekoaaGreatDoor
open Go.RowKit

/-- Where the first of them is. -/
def IdxP (p : Cur → Bool) (zs : List Cur) (r : Int) : Prop := (r = -1 ∧ ∀ y ∈ zs, p y = false) ∨ ∃ (k : Nat) (x : Cur), r = k ∧ zs[k]? = some x ∧ p x = true ∧ ∀ y ∈ zs.take k, p y = false
theorem take_step {α : Type} {zs : List α} {k : Nat} {x : α} (h : zs[k]? = some x) : zs.take (k + 1) = zs.take k ++ [x] := by
  obtain ⟨h1, h2⟩ := List.getElem?_eq_some_iff.1 h
  rw [List.take_succ_eq_append_getElem h1, h2]
theorem all_step {α : Type} {p : α → Bool} {zs : List α} {k : Nat} {x : α} (h : zs[k]? = some x) (ha : ∀ y ∈ zs.take k, p y = false) (hx : p x = false) : ∀ y ∈ zs.take (k + 1), p y = false := by
  rw [take_step h]
  intro y hy
  rcases List.mem_append.1 hy with hy | hy
  · exact ha y hy
  · rw [List.mem_singleton.1 hy]; exact hx
set_option maxHeartbeats 4000000 in
set_option maxRecDepth 100000 in
theorem didx_desk (H : World → Prop) (p : Cur → Bool) (cv : Value) (hp : ∀ x W, H W → Calls Tryz.prog 102 #[curV x, cv] W fun e W' => e = .returned (.bool (p x)) ∧ Gr W W') (hH : ∀ W W', H W → Gr W W' → H W')
    (A : Option Addr) (n c : Nat) (zs : List Cur) (w : World) (hr : Row w A n 5 (sR curC zs)) (hn : n ≤ 9223372036854775807) (hw : H w) :
    Calls Tryz.prog 101 #[.slice A n c, .func (.func 102) #[] #[cv]] w fun e w' => (∃ r, e = .returned (.int .i64 r) ∧ IdxP p zs r) ∧ Gr w w' := by
  have hl : zs.length = n := by have := hr.1; rw [sR_len curC 5 curC_len] at this; omega
  unfold curV at hp
  replace hr := Lib.hid hr
  replace hw := Lib.hid hw
  replace hp := Lib.hid hp
  replace hH := Lib.hid hH
  replace hl := Lib.hid hl
  go_enter Tryz.func101, Tryz.ntmps101
  go_wp2
  go_loopw [8] (fun i wr => ∃ k : Nat, k ≤ n ∧ i = .int .i64 k ∧ Hid (∀ y ∈ zs.take k, p y = false) ∧ Hid (Gr w wr)) (fun i _ => n - (intOf i).toNat)
  case atStart => exact ⟨0, Nat.zero_le _, rfl, by show ∀ y ∈ zs.take 0, _; simp, gr_refl _ _⟩
  case round =>
    obtain ⟨k, hk, rfl, hno, hg⟩ := hrel
    by_cases hlt : k < n
    · obtain ⟨x, B, o, hx, rfl, _, hc⟩ := rowS_elem curC_len (row_gr hr.out hg.out) (by decide) hlt
      have hki : (k : Int) < (n : Int) := by omega
      have hk0 : (0 : Int) ≤ (k : Int) := by omega
      have d0 : wr.cell? ⟨B, o + k * 5, none⟩ = some (.int .i64 x.id) := hc 0 (by decide)
      have d1 : wr.cell? ⟨B, o + k * 5 + 1, none⟩ = some (.int .i64 x.rows) := hc 1 (by decide)
      have d2 : wr.cell? ⟨B, o + k * 5 + 2, none⟩ = some (.int .i64 x.size) := hc 2 (by decide)
      have d3 : wr.cell? ⟨B, o + k * 5 + 3, none⟩ = some (.int .i64 x.tl) := hc 3 (by decide)
      have d4 : wr.cell? ⟨B, o + k * 5 + 4, none⟩ = some (.string (txt x.file)) := hc 4 (by decide)
      clear hc
      go_wp2_with fail
      refine (hp.out x _ (hH.out _ _ hw.out hg.out)).mono ?_
      rintro e W2 ⟨rfl, g2⟩
      replace g2 := Lib.hid g2
      replace hx := Lib.hid hx
      cases hpx : p x with
      | true =>
        go_wp2
        go_ret
        exact ⟨⟨_, rfl, .inr ⟨k, x, rfl, hx.out, hpx, hno.out⟩⟩, gr_trans hg.out g2.out⟩
      | false =>
        go_wp2
        go_roundw
        case rel => exact ⟨k + 1, by omega, by go_num, all_step hx.out hno.out hpx, gr_trans hg.out g2.out⟩
        case measure => simp [intOf]; omega
    · obtain rfl : k = n := by omega
      go_wp2
      go_ret
      exact ⟨⟨_, rfl, .inl ⟨rfl, by have := hno.out; rwa [← hl.out, List.take_length] at this⟩⟩, hg.out⟩
set_option maxRecDepth 100000 in
theorem pdesk_any (x : Cur) (b : Nat) (v : Int) (W : World) (h : W.cell? ⟨b, 0, none⟩ = some (.int .i64 v)) : Calls Tryz.prog 102 #[curV x, .pointer (some ⟨b, 0, none⟩)] W fun e W' => e = .returned (.bool (x.id == v)) ∧ Gr W W' := by
  unfold curV
  have h2 := gr_cell (gr_alloc W (.cells #[.int .i64 x.id, .int .i64 x.rows, .int .i64 x.size, .int .i64 x.tl, .string (txt x.file)] 52) none) h
  go_enter Tryz.func102, Tryz.ntmps102
  go_wp2
  go_ret
  exact ⟨rfl, gr_alloc _ _ _⟩

theorem not_step {v y : Int} {xs : List Int} {k : Nat} (h : xs[k]? = some y) (hno : v ∉ xs.take k) (hne : ¬ v = y) : v ∉ xs.take (k + 1) := by
  rw [take_step h]
  intro hm
  rcases List.mem_append.1 hm with hm | hm
  · exact hno hm
  · exact hne (List.mem_singleton.1 hm)
def IntIdx (v : Int) (xs : List Int) (r : Int) : Prop := (r = -1 ∧ v ∉ xs) ∨ ∃ k : Nat, r = k ∧ xs[k]? = some v
set_option maxHeartbeats 4000000 in
set_option maxRecDepth 100000 in
theorem index_any (v : Int) (A : Option Addr) (n c : Nat) (xs : List Int) (w : World) (hr : Row w A n 1 (xs.map (.int .i64))) (hn : n ≤ 9223372036854775807) :
    Calls Tryz.prog 106 #[.slice A n c, .int .i64 v] w fun e w' => (∃ r, e = .returned (.int .i64 r) ∧ IntIdx v xs r) ∧ Gr w w' := by
  have hl : xs.length = n := by have := hr.1; simpa using this
  replace hr := Lib.hid hr
  replace hl := Lib.hid hl
  go_enter Tryz.func106, Tryz.ntmps106
  go_wp2
  go_loopw [8] (fun i wr => ∃ k : Nat, k ≤ n ∧ i = .int .i64 k ∧ Hid (v ∉ xs.take k) ∧ Hid (Gr w wr)) (fun i _ => n - (intOf i).toNat)
  case atStart => exact ⟨0, Nat.zero_le _, rfl, by show v ∉ xs.take 0; simp, gr_refl _ _⟩
  case round =>
    obtain ⟨k, hk, rfl, hno, hg⟩ := hrel
    by_cases hlt : k < n
    · obtain ⟨y, B, o, hy, rfl, hc⟩ := row_elem (row_gr hr.out hg.out) hlt
      have hki : (k : Int) < (n : Int) := by omega
      have hk0 : (0 : Int) ≤ (k : Int) := by omega
      replace hy := Lib.hid hy
      by_cases hyv : v = y
      · subst hyv
        go_wp2
        go_ret
        exact ⟨⟨_, rfl, .inr ⟨k, rfl, hy.out⟩⟩, hg.out⟩
      · have hyv2 : (v == y) = false := by simpa using hyv
        go_wp2
        go_roundw
        case rel => exact ⟨k + 1, by omega, by go_num, not_step hy.out hno.out hyv, hg.out⟩
        case measure => simp [intOf]; omega
    · obtain rfl : k = n := by omega
      go_wp2
      go_ret
      exact ⟨⟨_, rfl, .inl ⟨rfl, by have := hno.out; rwa [← hl.out, List.take_length] at this⟩⟩, hg.out⟩
set_option maxHeartbeats 4000000 in
set_option maxRecDepth 100000 in
theorem contains_any (v : Int) (A : Option Addr) (n c : Nat) (xs : List Int) (w : World) (hr : Row w A n 1 (xs.map (.int .i64))) (hn : n ≤ 9223372036854775807) :
    Calls Tryz.prog 43 #[.slice A n c, .int .i64 v] w fun e w' => e = .returned (.bool (decide (v ∈ xs))) ∧ Gr w w' := by
  have cI := index_any v A n c xs w hr hn
  clear hr
  go_enter Tryz.func43, Tryz.ntmps43
  go_wp2_with fail
  refine cI.mono ?_
  rintro e w1 ⟨⟨r, rfl, hix⟩, g1⟩
  clear cI
  have hd : decide (0 ≤ r) = decide (v ∈ xs) := by
    rcases hix with ⟨rfl, h⟩ | ⟨k, rfl, h⟩
    · simp [h]
    · have h2 := List.mem_of_getElem? h
      simp [h2]
  clear hix
  go_wp2
  go_ret
  exact ⟨by simp [hd], g1⟩
end Go.Proofs.YtmldoeeangekoaaGreatDoor
namespace Go.Proofs.YtmldoeeangekoaaGreatDoor
open Go.RowKit

theorem own_farD {w w' : World} {base size n b : Nat} {e t : TypeId} {v : Value} {xs : List Value} {cs : Array Value} {fr : Nat × Nat} (h : w.ownsRow base e size v n xs) (hb : w.heap[b]? = some (.cells cs t fr)) (he : e ≠ t) (g : GrB b w w') : w'.ownsRow base e size v n xs := by
  refine h.kept g ?_
  rcases h.2 with ⟨rfl, _⟩ | ⟨g', cap, cur, rfl, _, hg, _⟩
  · exact .inl rfl
  · right
    intro e2
    have : g' = b := by simpa [Value.ownBlock] using e2
    subst this
    rw [hb] at hg
    injection hg with h1
    injection h1 with _ h2
    exact he h2.symm
theorem dk_apart {w : World} {D base n c : Nat} {A : Option Addr} {nx now pts : Int} {op : Value} {seg : List UInt8} {xs : List Value} (h : DkB w D nx now op seg pts) (ho : w.ownsRow base 52 5 (.slice A n c) n xs) : (Value.slice A n c).ownBlock ≠ some D := by
  intro e
  rcases ho.2 with ⟨hv, _⟩ | ⟨g, cap, cur, hv, _, hg, _⟩
  · rw [hv] at e; cases e
  · rw [hv] at e
    have : g = D := by simpa [Value.ownBlock] using e
    subst this
    unfold DkB at h
    rw [hg] at h
    injection h with h1
    injection h1 with _ h2
    exact absurd h2 (by decide)
def runL (id : Nat) : List UInt8 := [114, 117, 110, 45] ++ Lib.decDigits id
theorem infoCuE : (Tryz.prog.info? 52).map (fun i => (i.zero, i.size, i.bytes)) = some (some (.agg #[.int .i64 0, .int .i64 0, .int .i64 0, .int .i64 0, .string ⟨#[]⟩]), 5, 48) := by kernel_rfl
/-- What may turn: the desk's block and the list's own. -/
def TnD (D : Nat) (ob : Option Nat) (k : Nat) : Prop := k = D ∨ ob = some k
/-- The block is the one that it was, or a new one. -/
def NewOr (ob : Option Nat) (H : Nat) (ob2 : Option Nat) : Prop := ∀ b, ob2 = some b → ob = some b ∨ H ≤ b
def OpenPostS (D base : Nat) (s : DkS) (A : Option Addr) (n c : Nat) (C : Cur) (w : World) (e : Ending) (w' : World) : Prop :=
  e = .returned (.tuple #[curV C, .int .i64 0]) ∧ (∃ A' c', DkIs w' D base ⟨C.id + 1, s.now, s.op ++ [C], s.seg, s.pts⟩ A' (n + 1) c' ∧ NewOr (Value.slice A n c).ownBlock w.heap.size (Value.slice A' (n + 1) c').ownBlock) ∧ GrS (TnD D (Value.slice A n c).ownBlock) w w'
def OpenPost (D base : Nat) (s : DkS) (A : Option Addr) (n c : Nat) (C : Cur) (w : World) (e : Ending) (w' : World) : Prop :=
  e = .returned (.tuple #[curV C, .int .i64 0]) ∧ (∃ A' c', DkIs w' D base ⟨C.id + 1, s.now, s.op ++ [C], s.seg, s.pts⟩ A' (n + 1) c') ∧ GrS (TnD D (Value.slice A n c).ownBlock) w w'
set_option maxHeartbeats 16000000 in
set_option maxRecDepth 100000 in
theorem dopen_anyS (D base : Nat) (s : DkS) (A : Option Addr) (n c rows size ticks id : Nat) (w : World) (h : DkIs w D base s A n c) (hv : Vars w) (hbw : base ≤ w.heap.size) (hr : rows ≤ 2000) (hs : 1 ≤ size) (hs2 : size ≤ 100) (ht : ticks ≤ 100000) (hnow : 0 ≤ s.now ∧ s.now + ticks ≤ 1000000000) (hn : n < 20) (hid : s.nx = (id : Int)) (hid2 : 1 ≤ id ∧ id ≤ 1000000) :
    Calls Tryz.prog 11 #[.pointer (some ⟨D, 0, none⟩), .int .i64 rows, .int .i64 size, .int .i64 ticks] w (OpenPostS D base s A n c ⟨id, rows, size, s.now + ticks, runL id⟩ w) := by
  obtain ⟨nx, now, op, seg, pts⟩ := s
  simp only at h hnow hid
  subst hid
  obtain ⟨ii, hi, hz0, hz1, hz2⟩ := info_parts infoCuE
  obtain ⟨W1, hW1⟩ : ∃ W1, W1 = w.alloc (.cells #[.int .i64 0, .int .i64 0, .int .i64 0, .int .i64 0, .string ⟨#[]⟩] 52) := ⟨_, rfl⟩
  have g1 : Gr w W1 := by rw [hW1]; exact gr_alloc _ _ _
  have hres : CuB W1 w.heap.size cu0 := by rw [hW1]; exact blk_new w _
  have h1 := dkIs_gr h g1
  have hDw := lt_of_blk h.blk
  have hob : ∀ k, (Value.slice A n c).ownBlock = some k → k < w.heap.size := fun k hk => (h.own.lt k hk).2
  have hs1w : w.heap.size < W1.heap.size := lt_of_blk hres
  have hDlt := lt_of_blk h1.blk
  have hmay := may_ok D (id : Int) now pts A n c seg rows size ticks W1 h1.blk hr hs hs2 ht hnow hn (by omega)
  obtain ⟨T, hT⟩ : ∃ T : Int, T = now + (ticks : Int) := ⟨_, rfl⟩
  have hTw : IntKind.i64.wrap (now + (ticks : Int)) = T := by rw [hT]; exact IntWalk.i64_in _ (by omega)
  have hTw2 : wrap64 (now + (ticks : Int)) = T := by rw [hT]; unfold wrap64; omega
  obtain ⟨F, hF⟩ : ∃ F, F = runL id := ⟨_, rfl⟩
  have hdl := dec_len id hid2.2
  have hap : [114, 117, 110, 45] ++ Lib.decDigits id = F := by rw [hF]; rfl
  have cI := fun W (g : Gr W1 W) => itoa_any id W hid2.2 (vars_gr hv (gr_trans g1 g))
  have hlen : n < 20 := hn
  obtain ⟨c0, c1, c2, c3, c4⟩ := dkb_cells h1.blk
  have st : ∀ w', Gr W1 w' → w'.cell? ⟨D, 1, none⟩ = some (.int .i64 now) := fun w' g => gr_cell g c1
  have hT64 : -9223372036854775808 ≤ T ∧ T ≤ 9223372036854775807 := by omega
  rw [← hT, ← hF]
  generalize Lib.decDigits id = dd at *
  have hs1 : (9223372036854775807 < 4 + dd.length) = False := eq_false (by omega)
  have hap2 : (⟨#[114, 117, 110, 45]⟩ : ByteArray) ++ txt dd = txt F := by rw [← hap]; exact txt_append [114, 117, 110, 45] dd
  replace st := Lib.hid st
  replace h1 := Lib.hid h1
  replace hres := Lib.hid hres
  replace hmay := Lib.hid hmay
  replace cI := Lib.hid cI
  replace hDw := Lib.hid hDw
  replace hob := Lib.hid hob
  replace hDlt := Lib.hid hDlt
  replace g1 := Lib.hid g1
  replace hT := Lib.hid hT
  clear h hv hF
  go_enter Tryz.func11, Tryz.ntmps11
  go_upto_region 1 with fail
  rw [← hW1]
  clear hW1
  go_wp2_with fail
  refine hmay.out.mono ?_
  rintro e w2 ⟨rfl, rfl⟩
  clear hmay
  go_upto_region 5 with fail
  clear c0 c1 c2 c3 c4
  refine wp_region_held_drew (S := (fun w' => w'.cell? ⟨D, 1, none⟩ = some (.int .i64 now))) (by kernel_rfl) (st.out _ (gr_drew _ _)) (fun hHeld => ?_)
  have hG : Gr W1 W1.drew := gr_drew W1 none
  generalize W1.drew = wd at *
  refine wpAnyH_take (i := 0) (oi := ⟨some 27, _, _, _, _, _⟩) (v := ?_) rfl (by kernel_rfl) (by kernel_rfl) (by kernel_rfl) (fun _ _ _ h => h) (Or.inl ⟨by rfl, ?_⟩) hHeld ?_
  rotate_left
  · intro w hSw
    try dsimp only at hSw
    go_simp
    first | done | with_reducible rfl
  try simp only [Act.put, List.setIfInBounds_toArray, List.set_cons_zero, List.set_cons_succ]
  refine wpAnyH_take (i := 1) (oi := ⟨some 28, _, _, _, _, _⟩) (v := ?_) rfl (by kernel_rfl) (by kernel_rfl) (by kernel_rfl) (fun _ _ _ h => h) (Or.inl ⟨by rfl, ?_⟩) hHeld ?_
  rotate_left
  · intro w hSw
    try dsimp only at hSw
    go_simp
    first | done | with_reducible rfl
  try simp only [Act.put, List.setIfInBounds_toArray, List.set_cons_zero, List.set_cons_succ]
  refine wpAnyH_take (i := 2) (oi := ⟨some 29, _, _, _, _, _⟩) (v := ?_) rfl (by kernel_rfl) (by kernel_rfl) (by kernel_rfl) (fun _ _ _ h => h) (Or.inl ⟨by rfl, ?_⟩) hHeld ?_
  rotate_left
  · intro w hSw
    try dsimp only at hSw
    go_simp
    first | done | with_reducible rfl
  try simp only [Act.put, List.setIfInBounds_toArray, List.set_cons_zero, List.set_cons_succ]
  refine wpAnyH_take (i := 3) (oi := ⟨some 30, _, _, _, _, _⟩) (v := ?_) rfl (by kernel_rfl) (by kernel_rfl) (by kernel_rfl) (fun _ _ _ h => h) (Or.inl ⟨by rfl, ?_⟩) hHeld ?_
  rotate_left
  · intro w hSw
    try dsimp only at hSw
    go_simp
    first | done | with_reducible rfl
  try simp only [Act.put, List.setIfInBounds_toArray, List.set_cons_zero, List.set_cons_succ]
  refine wpAnyH_take (i := 4) (oi := ⟨some 31, _, _, _, _, _⟩) (v := ?_) rfl (by kernel_rfl) (by kernel_rfl) (by kernel_rfl) (fun _ _ _ h => h) (Or.inl ⟨by rfl, ?_⟩) hHeld ?_
  rotate_left
  · intro w hSw
    try dsimp only at hSw
    go_simp
    first | done | with_reducible rfl
  try simp only [Act.put, List.setIfInBounds_toArray, List.set_cons_zero, List.set_cons_succ]
  refine wpAnyH_take (i := 5) (oi := ⟨some 32, _, _, _, _, _⟩) (v := ?_) rfl (by kernel_rfl) (by kernel_rfl) (by kernel_rfl) (fun _ _ _ h => h) (Or.inl ⟨by rfl, ?_⟩) hHeld ?_
  rotate_left
  · intro w hSw
    try dsimp only at hSw
    go_simp
    first | done | with_reducible rfl
  try simp only [Act.put, List.setIfInBounds_toArray, List.set_cons_zero, List.set_cons_succ]
  refine wpAnyH_take (i := 6) (oi := ⟨some 33, _, _, _, _, _⟩) (v := ?_) rfl (by kernel_rfl) (by kernel_rfl) (by kernel_rfl) (fun _ _ _ h => h) (Or.inl ⟨by rfl, ?_⟩) hHeld ?_
  rotate_left
  · intro w hSw
    try dsimp only at hSw
    go_simp
    first | done | with_reducible rfl
  try simp only [Act.put, List.setIfInBounds_toArray, List.set_cons_zero, List.set_cons_succ]
  refine wpAnyH_take (i := 7) (oi := ⟨some 34, _, _, _, _, _⟩) (v := ?_) rfl (by kernel_rfl) (by kernel_rfl) (by kernel_rfl) (fun _ _ _ h => h) (Or.inl ⟨by rfl, ?_⟩) hHeld ?_
  rotate_left
  · intro w hSw
    try dsimp only at hSw
    go_simp
    first | done | with_reducible rfl
  try simp only [Act.put, List.setIfInBounds_toArray, List.set_cons_zero, List.set_cons_succ]
  refine wpAnyH_take (i := 8) (oi := ⟨some 35, _, _, _, _, _⟩) (v := ?_) rfl (by kernel_rfl) (by kernel_rfl) (by kernel_rfl) (fun _ _ _ h => h) (Or.inl ⟨by rfl, ?_⟩) hHeld ?_
  rotate_left
  · intro w hSw
    try dsimp only at hSw
    go_simp
    first | done | with_reducible rfl
  try simp only [Act.put, List.setIfInBounds_toArray, List.set_cons_zero, List.set_cons_succ]
  refine wpAnyH_take (i := 9) (oi := ⟨some 36, _, _, _, _, _⟩) (v := ?_) rfl (by kernel_rfl) (by kernel_rfl) (by kernel_rfl) (fun _ _ _ h => h) (Or.inl ⟨by rfl, ?_⟩) hHeld ?_
  rotate_left
  · intro w hSw
    try dsimp only at hSw
    go_simp
    first | done | with_reducible rfl
  try simp only [Act.put, List.setIfInBounds_toArray, List.set_cons_zero, List.set_cons_succ]
  refine wpAnyH_take (i := 10) (oi := ⟨some 37, _, _, _, _, _⟩) (v := ?_) rfl (by kernel_rfl) (by kernel_rfl) (by kernel_rfl) (fun _ _ _ h => h) (Or.inl ⟨by rfl, ?_⟩) hHeld ?_
  rotate_left
  · intro w hSw
    try dsimp only at hSw
    go_simp
    first | done | with_reducible rfl
  try simp only [Act.put, List.setIfInBounds_toArray, List.set_cons_zero, List.set_cons_succ]
  refine wpAnyH_ready (rs := [11, 14]) (by kernel_rfl) (by simp) (AllReadyH.cons (o := _) rfl (fun K hK => ?_) (AllReadyH.cons (o := _) rfl (fun K hK => ?_) AllReadyH.nil))
  · skip
    go_simp
    refine (cI.out _ hG).mono ?_
    rintro e wz ⟨rfl, gz⟩
    try (go_wp2_with fail)
    have hG := gr_trans hG gz
    refine hK.out _ _ ?_ (fun hHeld => ?_)
    · exact st.out _ hG
    clear hK K gz
    try simp only [Act.put, List.setIfInBounds_toArray, List.set_cons_zero, List.set_cons_succ]
    refine wpAnyH_take (i := 12) (oi := ⟨some 39, _, _, _, _, _⟩) (v := ?_) rfl (by kernel_rfl) (by kernel_rfl) (by kernel_rfl) (fun _ _ _ h => h) (Or.inl ⟨by rfl, ?_⟩) hHeld ?_
    rotate_left
    · intro w hSw
      try dsimp only at hSw
      go_simp
      first | done | with_reducible rfl
    try simp only [Act.put, List.setIfInBounds_toArray, List.set_cons_zero, List.set_cons_succ]
    refine wpAnyH_take (i := 13) (oi := ⟨some 40, _, _, _, _, _⟩) (v := ?_) rfl (by kernel_rfl) (by kernel_rfl) (by kernel_rfl) (fun _ _ _ h => h) (Or.inl ⟨by rfl, ?_⟩) hHeld ?_
    rotate_left
    · intro w hSw
      try dsimp only at hSw
      go_simp
      first | done | with_reducible rfl
    try simp only [Act.put, List.setIfInBounds_toArray, List.set_cons_zero, List.set_cons_succ]
    refine wpAnyH_ready (rs := [14]) (by kernel_rfl) (by simp) (AllReadyH.cons (o := _) rfl (fun K hK => ?_) AllReadyH.nil)
    go_simp
    refine hK.out _ _ ?_ (fun hHeld => ?_)
    · exact st.out _ (gr_trans hG (gr_alloc _ _ _))
    clear hK K
    try simp only [Act.put, List.setIfInBounds_toArray, List.set_cons_zero, List.set_cons_succ]
    have hal := blk_new wz (.cells #[.int .i64 0, .int .i64 0, .int .i64 0, .int .i64 0, .string ⟨#[]⟩] 52)
    have hXg := hG.size
    have hG := gr_trans hG (gr_alloc wz (.cells #[.int .i64 0, .int .i64 0, .int .i64 0, .int .i64 0, .string ⟨#[]⟩] 52) none)
    obtain ⟨wn, hN⟩ : ∃ wn, wn = wz.alloc (.cells #[.int .i64 0, .int .i64 0, .int .i64 0, .int .i64 0, .string ⟨#[]⟩] 52) := ⟨_, rfl⟩
    obtain ⟨X, hX⟩ : ∃ X, X = wz.heap.size := ⟨_, rfl⟩
    rw [← hN] at hal hG hHeld ⊢
    rw [← hX] at hal hXg ⊢
    replace hal : CuB wn X cu0 := hal
    clear hN hX
    refine wpAnyH_ready (rs := [15]) (by kernel_rfl) (by simp) (AllReadyH.cons (o := _) rfl (fun K hK => ?_) AllReadyH.nil)
    have hth := cub_there hal
    have gS := gr_setCells wn X 0 [.int .i64 (id : Int), .int .i64 (rows : Int), .int .i64 (size : Int), .int .i64 T, .string (txt F)]
    have hGf : Gr W1 (wn.setCells X 0 [.int .i64 (id : Int), .int .i64 (rows : Int), .int .i64 (size : Int), .int .i64 T, .string (txt F)]) := gr_of_below ((gr_below hG).grown gS hG.size (by intro k hk; cases hk; exact hXg)) (Nat.le_refl _)
    have hCu : CuB (wn.setCells X 0 [.int .i64 (id : Int), .int .i64 (rows : Int), .int .i64 (size : Int), .int .i64 T, .string (txt F)]) X ⟨(id : Int), (rows : Int), (size : Int), T, F⟩ := blk_set (blk_set (blk_set (blk_set (blk_set hal 0 _) 1 _) 2 _) 3 _) 4 _
    refine step_store_mid rfl 52 _ _ rfl X 0 #[.int .i64 (id : Int), .int .i64 (rows : Int), .int .i64 (size : Int), .int .i64 T, .string (txt F)] rfl rfl hth infoCu (by simp [Value.oneCell']) ?_
    refine hK.out _ _ ?_ (fun hHeld => ?_)
    · exact st.out _ hGf
    clear hK K hHeld
    try simp only [Act.put, List.setIfInBounds_toArray, List.set_cons_zero, List.set_cons_succ]
    refine wpAnyH_done (by kernel_rfl) ?_ _
    replace hGf := Lib.hid hGf
    replace hCu := Lib.hid hCu
    generalize wn.setCells X 0 [.int .i64 (id : Int), .int .i64 (rows : Int), .int .i64 (size : Int), .int .i64 T, .string (txt F)] = V1 at *
    have hd2 := dkIs_gr h1.out hGf.out
    obtain ⟨c0, c1, c2, c3, c4⟩ := dkb_cells hd2.blk
    have f0 : V1.frozen? ⟨D, 0, none⟩ = false := fzeroD hd2.blk 0
    have hDX : D < X := Nat.lt_of_lt_of_le hDlt.out hXg
    have hR1 : CuB V1 w.heap.size cu0 := gr_blk hGf.out hres.out (by simp)
    obtain ⟨V2, hV2⟩ : ∃ V2, V2 = V1.setCell ⟨D, 0, none⟩ (.int .i64 ((id : Int) + 1)) := ⟨_, rfl⟩
    have gV2 : GrB D V1 V2 := by rw [hV2]; exact gr_set V1 ⟨D, 0, none⟩ _
    have hb2 : DkB V2 D ((id : Int) + 1) now (.slice A n c) seg pts := by rw [hV2]; exact blk_set hd2.blk 0 _
    have ho2 : V2.ownsRow base 52 5 (.slice A n c) n (sR curC op) := own_farD hd2.own hd2.blk (by decide) gV2
    have hC2 : CuB V2 X ⟨(id : Int), (rows : Int), (size : Int), T, F⟩ := gr_blk gV2 hCu.out (by simp; omega)
    have hR2 : CuB V2 w.heap.size cu0 := gr_blk gV2 hR1 (by simp; have := hDw.out; omega)
    have hV2s := gV2.size
    have hV1s := hGf.out.size
    replace hb2 := Lib.hid hb2
    replace ho2 := Lib.hid ho2
    replace hC2 := Lib.hid hC2
    replace hR2 := Lib.hid hR2
    replace gV2 := Lib.hid gV2
    clear hd2 hR1 hCu
    go_upto_region 7 with fail
    rw [← hV2]
    clear hV2 c0 c1 c2 c3 c4 f0
    obtain ⟨c0, c1, c2, c3, c4⟩ := dkb_cells hb2.out
    obtain ⟨x0, x1, x2, x3, x4⟩ := cub_cells hC2.out
    simp only at x0 x1 x2 x3 x4
    have st7 : ∀ w', CuB w' X ⟨(id : Int), (rows : Int), (size : Int), T, F⟩ → (w'.cell? ⟨X, 0, none⟩ = some (.int .i64 (id : Int)) ∧ w'.cell? ⟨X, 1, none⟩ = some (.int .i64 (rows : Int)) ∧ w'.cell? ⟨X, 2, none⟩ = some (.int .i64 (size : Int)) ∧ w'.cell? ⟨X, 3, none⟩ = some (.int .i64 T) ∧ w'.cell? ⟨X, 4, none⟩ = some (.string (txt F))) := fun w' h => cub_cells h
    replace st7 := Lib.hid st7
    clear c0 c1 c2 c3 c4 x0 x1 x2 x3 x4
    have hCd : CuB V2.drew X ⟨(id : Int), (rows : Int), (size : Int), T, F⟩ := gr_blk (gr_drew V2 none) hC2.out (by simp)
    refine wp_region_held_drew (S := (fun w' => w'.cell? ⟨X, 0, none⟩ = some (.int .i64 (id : Int)) ∧ w'.cell? ⟨X, 1, none⟩ = some (.int .i64 (rows : Int)) ∧ w'.cell? ⟨X, 2, none⟩ = some (.int .i64 (size : Int)) ∧ w'.cell? ⟨X, 3, none⟩ = some (.int .i64 T) ∧ w'.cell? ⟨X, 4, none⟩ = some (.string (txt F)))) (by kernel_rfl) (st7.out _ hCd) (fun hHeld => ?_)
    have gd : Gr V2 V2.drew := gr_drew V2 none
    generalize V2.drew = wd7 at *
    have hbd : DkB wd7 D ((id : Int) + 1) now (.slice A n c) seg pts := gr_blk gd hb2.out (by simp)
    have c2 := (dkb_cells hbd).2.2.1
    have hod := ho2.out.kept gd (Classical.em _)
    have hRd : CuB wd7 w.heap.size cu0 := gr_blk gd hR2.out (by simp)
    refine wpAnyH_take (i := 0) (oi := ⟨some 50, _, _, _, _, _⟩) (v := ?_) rfl (by kernel_rfl) (by kernel_rfl) (by kernel_rfl) (fun _ _ _ h => h) (Or.inl ⟨by rfl, ?_⟩) hHeld ?_
    rotate_left
    · intro w hSw
      try dsimp only at hSw
      go_simp
      first | done | with_reducible rfl
    try simp only [Act.put, List.setIfInBounds_toArray, List.set_cons_zero, List.set_cons_succ]
    refine wpAnyH_take (i := 1) (oi := ⟨some 51, _, _, _, _, _⟩) (v := ?_) rfl (by kernel_rfl) (by kernel_rfl) (by kernel_rfl) (fun _ _ _ h => h) (Or.inl ⟨by rfl, ?_⟩) hHeld ?_
    rotate_left
    · intro w hSw
      try dsimp only at hSw
      go_simp
      first | done | with_reducible rfl
    try simp only [Act.put, List.setIfInBounds_toArray, List.set_cons_zero, List.set_cons_succ]
    refine wpAnyH_take (i := 2) (oi := ⟨some 52, _, _, _, _, _⟩) (v := ?_) rfl (by kernel_rfl) (by kernel_rfl) (by kernel_rfl) (fun _ _ _ h => h) (Or.inl ⟨by rfl, ?_⟩) hHeld ?_
    rotate_left
    · intro w hSw
      try dsimp only at hSw
      go_simp
      first | done | with_reducible rfl
    try simp only [Act.put, List.setIfInBounds_toArray, List.set_cons_zero, List.set_cons_succ]
    refine wpAnyH_take (i := 3) (oi := ⟨some 53, _, _, _, _, _⟩) (v := ?_) rfl (by kernel_rfl) (by kernel_rfl) (by kernel_rfl) (fun _ _ _ h => h) (Or.inl ⟨by rfl, ?_⟩) hHeld ?_
    rotate_left
    · intro w hSw
      try dsimp only at hSw
      go_simp
      first | done | with_reducible rfl
    try simp only [Act.put, List.setIfInBounds_toArray, List.set_cons_zero, List.set_cons_succ]
    refine wpAnyH_take (i := 4) (oi := ⟨some 54, _, _, _, _, _⟩) (v := ?_) rfl (by kernel_rfl) (by kernel_rfl) (by kernel_rfl) (fun _ _ _ h => h) (Or.inl ⟨by rfl, ?_⟩) hHeld ?_
    rotate_left
    · intro w hSw
      try dsimp only at hSw
      go_simp
      first | done | with_reducible rfl
    try simp only [Act.put, List.setIfInBounds_toArray, List.set_cons_zero, List.set_cons_succ]
    refine wpAnyH_take (i := 6) (oi := ⟨some 56, _, _, _, _, _⟩) (v := ?_) rfl (by kernel_rfl) (by kernel_rfl) (by kernel_rfl) (fun _ _ _ h => h) (Or.inl ⟨by rfl, ?_⟩) hHeld ?_
    rotate_left
    · intro w hSw
      try dsimp only at hSw
      go_simp
      first | done | with_reducible rfl
    try simp only [Act.put, List.setIfInBounds_toArray, List.set_cons_zero, List.set_cons_succ]
    refine wpAnyH_ready (rs := [5, 7]) (by kernel_rfl) (by simp) (AllReadyH.cons (o := _) rfl (fun K hK => ?_) (AllReadyH.cons (o := _) rfl (fun K hK => ?_) AllReadyH.nil))
    · go_simp
      refine hK.out _ _ ?_ (fun hHeld => ?_)
      · exact st7.out _ hCd
      clear hK K c2
      try clear c2b
      try simp only [Act.put, List.setIfInBounds_toArray, List.set_cons_zero, List.set_cons_succ]
      refine wpAnyH_ready (rs := [7]) (by kernel_rfl) (by simp) (AllReadyH.cons (o := _) rfl (fun K hK => ?_) AllReadyH.nil)
      go_simp
      have gA := gr_alloc wd7 (.cells #[.int .i64 (id : Int), .int .i64 (rows : Int), .int .i64 (size : Int), .int .i64 T, .string (txt F)] 52) none
      have hCa : CuB (wd7.alloc (.cells #[.int .i64 (id : Int), .int .i64 (rows : Int), .int .i64 (size : Int), .int .i64 T, .string (txt F)] 52)) X ⟨(id : Int), (rows : Int), (size : Int), T, F⟩ := gr_blk gA hCd (by simp)
      refine hK.out _ _ ?_ (fun hHeld => ?_)
      · exact st7.out _ hCa
      clear hK K
      try simp only [Act.put, List.setIfInBounds_toArray, List.set_cons_zero, List.set_cons_succ]
      have hoa := hod.kept gA (Classical.em _)
      have hba : DkB (wd7.alloc (.cells #[.int .i64 (id : Int), .int .i64 (rows : Int), .int .i64 (size : Int), .int .i64 T, .string (txt F)] 52)) D ((id : Int) + 1) now (.slice A n c) seg pts := gr_blk gA hbd (by simp)
      have hRa : CuB (wd7.alloc (.cells #[.int .i64 (id : Int), .int .i64 (rows : Int), .int .i64 (size : Int), .int .i64 T, .string (txt F)] 52)) w.heap.size cu0 := gr_blk gA hRd (by simp)
      have hnew : ∀ (j : Nat) (u : Value), ([.int .i64 (id : Int), .int .i64 (rows : Int), .int .i64 (size : Int), .int .i64 T, .string (txt F)] : List Value)[j]? = some u → (wd7.alloc (.cells #[.int .i64 (id : Int), .int .i64 (rows : Int), .int .i64 (size : Int), .int .i64 T, .string (txt F)] 52)).cell? ((⟨wd7.heap.size, 0, none⟩ : Addr).add j) = some u := fun j u hj => by
        rw [add_plain, Nat.zero_add, World.cell?_alloc_new]
        exact (show (#[.int .i64 (id : Int), .int .i64 (rows : Int), .int .i64 (size : Int), .int .i64 T, .string (txt F)] : Array Value)[j]? = some u by rw [← List.getElem?_toArray] at hj; exact hj)
      have hones : ∀ u ∈ ([.int .i64 (id : Int), .int .i64 (rows : Int), .int .i64 (size : Int), .int .i64 T, .string (txt F)] : List Value), u.oneCell' = true := by
        intro u hu
        simp only [List.mem_cons, List.not_mem_nil, or_false] at hu
        rcases hu with rfl | rfl | rfl | rfl | rfl <;> rfl
      have hszw : w.heap.size ≤ (wd7.alloc (.cells #[.int .i64 (id : Int), .int .i64 (rows : Int), .int .i64 (size : Int), .int .i64 T, .string (txt F)] 52)).heap.size := (Nat.le_trans (Nat.le_of_lt hs1w) (Nat.le_trans hV1s (Nat.le_trans hV2s (Nat.le_trans gd.size gA.size))))
      have hsz7 : base ≤ (wd7.alloc (.cells #[.int .i64 (id : Int), .int .i64 (rows : Int), .int .i64 (size : Int), .int .i64 T, .string (txt F)] 52)).heap.size := Nat.le_trans hbw (Nat.le_trans (Nat.le_of_lt hs1w) (Nat.le_trans hV1s (Nat.le_trans hV2s (Nat.le_trans gd.size gA.size))))
      obtain ⟨N7, hN7⟩ : ∃ N7, N7 = wd7.heap.size := ⟨_, rfl⟩
      obtain ⟨wa, hwa⟩ : ∃ wa, wa = wd7.alloc (.cells #[.int .i64 (id : Int), .int .i64 (rows : Int), .int .i64 (size : Int), .int .i64 T, .string (txt F)] 52) := ⟨_, rfl⟩
      rw [← hwa] at gA hCa hHeld hoa hba hRa hnew hsz7 hszw ⊢
      rw [← hN7] at hnew ⊢
      refine wpAnyH_ready (rs := [8]) (by kernel_rfl) (by simp) (AllReadyH.cons (o := _) rfl (fun K hK => ?_) AllReadyH.nil)
      refine step_append_strong rfl _ _ 28 rfl base 52 ii (.agg #[.int .i64 0, .int .i64 0, .int .i64 0, .int .i64 0, .string ⟨#[]⟩]) 5 48 Tryz.underlying28 hi hz0 hz1 hz2 rfl (by decide) (.slice A n c) n (sR curC op) rfl hoa ⟨N7, 0, none⟩ 1 1 [.int .i64 (id : Int), .int .i64 (rows : Int), .int .i64 (size : Int), .int .i64 T, .string (txt F)] rfl rfl hnew hones (by decide) (n + 1) rfl (by unfold maxLen; omega) (by omega) hsz7 ?_
      intro g cap W6 hown6 hat6
      have hgX : ∀ k, (Value.slice A n c).ownBlock = some k → k < w.heap.size := hob.out
      have g6 : wa.grownBy W6 (Value.slice A n c).ownBlock := by
        rcases hat6 with ⟨e6, h6⟩ | ⟨_, h6⟩
        · rw [e6]; exact h6
        · exact gr_more _ h6
      have hob6 : (Value.slice A n c).ownBlock = some g ∨ w.heap.size ≤ g := by
        rcases hat6 with ⟨e6, _⟩ | ⟨e6, _⟩
        · exact .inl e6
        · exact .inr (by rw [e6]; exact hszw)
      replace hob6 := Lib.hid hob6
      clear hszw
      have hC6 : CuB W6 X ⟨(id : Int), (rows : Int), (size : Int), T, F⟩ := gr_blk g6 hCa (fun e => by have := hgX X e.symm; omega)
      have hR6 : CuB W6 w.heap.size cu0 := gr_blk g6 hRa (fun e => by have := hgX _ e.symm; omega)
      have hDg : some D ≠ (Value.slice A n c).ownBlock := fun e => dk_apart hba hoa e.symm
      have hb6 : DkB W6 D ((id : Int) + 1) now (.slice A n c) seg pts := gr_blk g6 hba hDg
      refine hK.out _ _ ?_ (fun hHeld => ?_)
      · exact st7.out _ hC6
      clear hK K
      try simp only [Act.put, List.setIfInBounds_toArray, List.set_cons_zero, List.set_cons_succ]
      
      refine wpAnyH_take (i := 9) (oi := ⟨some 59, _, _, _, _, _⟩) (v := ?_) rfl (by kernel_rfl) (by kernel_rfl) (by kernel_rfl) (fun _ _ _ h => h) (Or.inl ⟨by rfl, ?_⟩) hHeld ?_
      rotate_left
      · intro w hSw
        try dsimp only at hSw
        go_simp
        first | done | with_reducible rfl
      try simp only [Act.put, List.setIfInBounds_toArray, List.set_cons_zero, List.set_cons_succ]
      refine wpAnyH_take (i := 10) (oi := ⟨some 60, _, _, _, _, _⟩) (v := ?_) rfl (by kernel_rfl) (by kernel_rfl) (by kernel_rfl) (fun _ _ _ h => h) (Or.inl ⟨by rfl, ?_⟩) hHeld ?_
      rotate_left
      · intro w hSw
        try dsimp only at hSw
        go_simp
        first | done | with_reducible rfl
      try simp only [Act.put, List.setIfInBounds_toArray, List.set_cons_zero, List.set_cons_succ]
      refine wpAnyH_take (i := 11) (oi := ⟨some 61, _, _, _, _, _⟩) (v := ?_) rfl (by kernel_rfl) (by kernel_rfl) (by kernel_rfl) (fun _ _ _ h => h) (Or.inl ⟨by rfl, ?_⟩) hHeld ?_
      rotate_left
      · intro w hSw
        try dsimp only at hSw
        go_simp
        first | done | with_reducible rfl
      try simp only [Act.put, List.setIfInBounds_toArray, List.set_cons_zero, List.set_cons_succ]
      have d2 := (dkb_cells hb6).2.2.1
      have f2 : W6.frozen? ⟨D, 2, none⟩ = false := fzeroD hb6 2
      refine wpAnyH_ready (rs := [12]) (by kernel_rfl) (by simp) (AllReadyH.cons (o := _) rfl (fun K hK => ?_) AllReadyH.nil)
      go_simp
      obtain ⟨V5, hV5⟩ : ∃ V5, V5 = W6.setCell ⟨D, 2, none⟩ (.slice (some ⟨g, 0, none⟩) (n + 1) cap) := ⟨_, rfl⟩
      have g5 : GrB D W6 V5 := by rw [hV5]; exact gr_set W6 ⟨D, 2, none⟩ _
      have hb5 : DkB V5 D ((id : Int) + 1) now (.slice (some ⟨g, 0, none⟩) (n + 1) cap) seg pts := by rw [hV5]; exact blk_set hb6 2 _
      have hC5 : CuB V5 X ⟨(id : Int), (rows : Int), (size : Int), T, F⟩ := gr_blk g5 hC6 (by simp; omega)
      have hR5 : CuB V5 w.heap.size cu0 := gr_blk g5 hR6 (by simp; have := hDw.out; omega)
      have ho5 := own_farD hown6 hb6 (by decide) g5
      rw [← hV5]
      refine hK.out _ _ ?_ (fun hHeld => ?_)
      · exact st7.out _ hC5
      clear hK K hHeld hV5 d2 f2
      try simp only [Act.put, List.setIfInBounds_toArray, List.set_cons_zero, List.set_cons_succ]
      refine wpAnyH_done (by kernel_rfl) ?_ _
      have gS0 : GrS (TnD D (Value.slice A n c).ownBlock) w V5 := by
        have q1 : GrS (TnD D (Value.slice A n c).ownBlock) w V1 := grs_gr _ (gr_trans g1.out hGf.out)
        have q2 := grs_then q1 gV2.out (fun k hk _ => .inl (Option.some.inj hk).symm)
        have q3 := grs_then q2 (gr_trans gd gA) (by simp)
        have q4 := grs_then q3 g6 (fun k hk _ => .inr hk)
        exact grs_then q4 g5 (fun k hk _ => .inl (Option.some.inj hk).symm)
      have hth5 := cub_there hR5
      obtain ⟨x0, x1, x2, x3, x4⟩ := cub_cells hC5
      simp only at x0 x1 x2 x3 x4
      have hsame := World.rangeAt_setCells_same V5 w.heap.size 0 [.int .i64 (id : Int), .int .i64 (rows : Int), .int .i64 (size : Int), .int .i64 T, .string (txt F)] hth5
      have r0 := hsame 0 _ rfl
      have r1 := hsame 1 _ rfl
      have r2 := hsame 2 _ rfl
      have r3 := hsame 3 _ rfl
      have r4 := hsame 4 _ rfl
      simp only [Nat.zero_add] at r0 r1 r2 r3 r4
      have hgs := gr_setCells V5 w.heap.size 0 [.int .i64 (id : Int), .int .i64 (rows : Int), .int .i64 (size : Int), .int .i64 T, .string (txt F)]
      have hbF : DkB (V5.setCells w.heap.size 0 [.int .i64 (id : Int), .int .i64 (rows : Int), .int .i64 (size : Int), .int .i64 T, .string (txt F)]) D ((id : Int) + 1) now (.slice (some ⟨g, 0, none⟩) (n + 1) cap) seg pts := gr_blk hgs hb5 (by simp; have := hDw.out; omega)
      have hgR : (Value.slice (some ⟨g, 0, none⟩) (n + 1) cap).ownBlock ≠ some w.heap.size := by
        rcases hat6 with ⟨e6, _⟩ | ⟨e6, _⟩
        · intro e; have h7 := hgX g e6; have h8 : g = w.heap.size := by simpa [Value.ownBlock] using e
          omega
        · intro e; have h9 := lt_of_blk hRa; have h8 : g = w.heap.size := by simpa [Value.ownBlock] using e
          omega
      have hoF := ho5.kept hgs (.inr hgR)
      have gSF := grs_then gS0 hgs (fun k hk hlt => by have := Option.some.inj hk; omega)
      replace hbF := Lib.hid hbF
      replace hoF := Lib.hid hoF
      replace gSF := Lib.hid gSF
      clear hsame hgs hat6 g6 g5 hgX hDg
      go_wp2_with (refine wpList_store_mid (op := ⟨none, _, _, _, _, _⟩) rfl 52 _ _ rfl w.heap.size 0 #[.int .i64 (id : Int), .int .i64 (rows : Int), .int .i64 (size : Int), .int .i64 T, .string (txt F)] rfl rfl hth5 infoCu (by simp [Value.oneCell']) ?_)
      (try simp only [Exit.inBlock, Exit.then])
      refine bodyPost_ret (by simp [results, Tryz.results11, go_sem, r0, r1, r2, r3, r4]; try rfl) rfl ?_
      refine ⟨rfl, ⟨some ⟨g, 0, none⟩, cap, ⟨hbF.out, ?_⟩, fun b hb => ?_⟩, gSF.out⟩
      rotate_left
      · obtain rfl : g = b := by simpa [Value.ownBlock] using hb
        exact hob6.out
      have := hoF.out
      rw [sR_append, sR_one]
      exact this
    · go_simp
      have gA := gr_alloc wd7 (.cells #[.int .i64 (id : Int), .int .i64 (rows : Int), .int .i64 (size : Int), .int .i64 T, .string (txt F)] 52) none
      have hCa : CuB (wd7.alloc (.cells #[.int .i64 (id : Int), .int .i64 (rows : Int), .int .i64 (size : Int), .int .i64 T, .string (txt F)] 52)) X ⟨(id : Int), (rows : Int), (size : Int), T, F⟩ := gr_blk gA hCd (by simp)
      refine hK.out _ _ ?_ (fun hHeld => ?_)
      · exact st7.out _ hCa
      clear hK K
      try simp only [Act.put, List.setIfInBounds_toArray, List.set_cons_zero, List.set_cons_succ]
      have hoa := hod.kept gA (Classical.em _)
      have hba : DkB (wd7.alloc (.cells #[.int .i64 (id : Int), .int .i64 (rows : Int), .int .i64 (size : Int), .int .i64 T, .string (txt F)] 52)) D ((id : Int) + 1) now (.slice A n c) seg pts := gr_blk gA hbd (by simp)
      have hRa : CuB (wd7.alloc (.cells #[.int .i64 (id : Int), .int .i64 (rows : Int), .int .i64 (size : Int), .int .i64 T, .string (txt F)] 52)) w.heap.size cu0 := gr_blk gA hRd (by simp)
      have hnew : ∀ (j : Nat) (u : Value), ([.int .i64 (id : Int), .int .i64 (rows : Int), .int .i64 (size : Int), .int .i64 T, .string (txt F)] : List Value)[j]? = some u → (wd7.alloc (.cells #[.int .i64 (id : Int), .int .i64 (rows : Int), .int .i64 (size : Int), .int .i64 T, .string (txt F)] 52)).cell? ((⟨wd7.heap.size, 0, none⟩ : Addr).add j) = some u := fun j u hj => by
        rw [add_plain, Nat.zero_add, World.cell?_alloc_new]
        exact (show (#[.int .i64 (id : Int), .int .i64 (rows : Int), .int .i64 (size : Int), .int .i64 T, .string (txt F)] : Array Value)[j]? = some u by rw [← List.getElem?_toArray] at hj; exact hj)
      have hones : ∀ u ∈ ([.int .i64 (id : Int), .int .i64 (rows : Int), .int .i64 (size : Int), .int .i64 T, .string (txt F)] : List Value), u.oneCell' = true := by
        intro u hu
        simp only [List.mem_cons, List.not_mem_nil, or_false] at hu
        rcases hu with rfl | rfl | rfl | rfl | rfl <;> rfl
      have hszw : w.heap.size ≤ (wd7.alloc (.cells #[.int .i64 (id : Int), .int .i64 (rows : Int), .int .i64 (size : Int), .int .i64 T, .string (txt F)] 52)).heap.size := (Nat.le_trans (Nat.le_of_lt hs1w) (Nat.le_trans hV1s (Nat.le_trans hV2s (Nat.le_trans gd.size gA.size))))
      have hsz7 : base ≤ (wd7.alloc (.cells #[.int .i64 (id : Int), .int .i64 (rows : Int), .int .i64 (size : Int), .int .i64 T, .string (txt F)] 52)).heap.size := Nat.le_trans hbw (Nat.le_trans (Nat.le_of_lt hs1w) (Nat.le_trans hV1s (Nat.le_trans hV2s (Nat.le_trans gd.size gA.size))))
      have c2 := (dkb_cells hba).2.2.1
      refine wpAnyH_ready (rs := [5]) (by kernel_rfl) (by simp) (AllReadyH.cons (o := _) rfl (fun K hK => ?_) AllReadyH.nil)
      go_simp
      refine hK.out _ _ ?_ (fun hHeld => ?_)
      · exact st7.out _ hCa
      clear hK K c2
      try clear c2b
      try simp only [Act.put, List.setIfInBounds_toArray, List.set_cons_zero, List.set_cons_succ]
      obtain ⟨N7, hN7⟩ : ∃ N7, N7 = wd7.heap.size := ⟨_, rfl⟩
      obtain ⟨wa, hwa⟩ : ∃ wa, wa = wd7.alloc (.cells #[.int .i64 (id : Int), .int .i64 (rows : Int), .int .i64 (size : Int), .int .i64 T, .string (txt F)] 52) := ⟨_, rfl⟩
      rw [← hwa] at gA hCa hHeld hoa hba hRa hnew hsz7 hszw ⊢
      rw [← hN7] at hnew ⊢
      refine wpAnyH_ready (rs := [8]) (by kernel_rfl) (by simp) (AllReadyH.cons (o := _) rfl (fun K hK => ?_) AllReadyH.nil)
      refine step_append_strong rfl _ _ 28 rfl base 52 ii (.agg #[.int .i64 0, .int .i64 0, .int .i64 0, .int .i64 0, .string ⟨#[]⟩]) 5 48 Tryz.underlying28 hi hz0 hz1 hz2 rfl (by decide) (.slice A n c) n (sR curC op) rfl hoa ⟨N7, 0, none⟩ 1 1 [.int .i64 (id : Int), .int .i64 (rows : Int), .int .i64 (size : Int), .int .i64 T, .string (txt F)] rfl rfl hnew hones (by decide) (n + 1) rfl (by unfold maxLen; omega) (by omega) hsz7 ?_
      intro g cap W6 hown6 hat6
      have hgX : ∀ k, (Value.slice A n c).ownBlock = some k → k < w.heap.size := hob.out
      have g6 : wa.grownBy W6 (Value.slice A n c).ownBlock := by
        rcases hat6 with ⟨e6, h6⟩ | ⟨_, h6⟩
        · rw [e6]; exact h6
        · exact gr_more _ h6
      have hob6 : (Value.slice A n c).ownBlock = some g ∨ w.heap.size ≤ g := by
        rcases hat6 with ⟨e6, _⟩ | ⟨e6, _⟩
        · exact .inl e6
        · exact .inr (by rw [e6]; exact hszw)
      replace hob6 := Lib.hid hob6
      clear hszw
      have hC6 : CuB W6 X ⟨(id : Int), (rows : Int), (size : Int), T, F⟩ := gr_blk g6 hCa (fun e => by have := hgX X e.symm; omega)
      have hR6 : CuB W6 w.heap.size cu0 := gr_blk g6 hRa (fun e => by have := hgX _ e.symm; omega)
      have hDg : some D ≠ (Value.slice A n c).ownBlock := fun e => dk_apart hba hoa e.symm
      have hb6 : DkB W6 D ((id : Int) + 1) now (.slice A n c) seg pts := gr_blk g6 hba hDg
      refine hK.out _ _ ?_ (fun hHeld => ?_)
      · exact st7.out _ hC6
      clear hK K
      try simp only [Act.put, List.setIfInBounds_toArray, List.set_cons_zero, List.set_cons_succ]
      
      refine wpAnyH_take (i := 9) (oi := ⟨some 59, _, _, _, _, _⟩) (v := ?_) rfl (by kernel_rfl) (by kernel_rfl) (by kernel_rfl) (fun _ _ _ h => h) (Or.inl ⟨by rfl, ?_⟩) hHeld ?_
      rotate_left
      · intro w hSw
        try dsimp only at hSw
        go_simp
        first | done | with_reducible rfl
      try simp only [Act.put, List.setIfInBounds_toArray, List.set_cons_zero, List.set_cons_succ]
      refine wpAnyH_take (i := 10) (oi := ⟨some 60, _, _, _, _, _⟩) (v := ?_) rfl (by kernel_rfl) (by kernel_rfl) (by kernel_rfl) (fun _ _ _ h => h) (Or.inl ⟨by rfl, ?_⟩) hHeld ?_
      rotate_left
      · intro w hSw
        try dsimp only at hSw
        go_simp
        first | done | with_reducible rfl
      try simp only [Act.put, List.setIfInBounds_toArray, List.set_cons_zero, List.set_cons_succ]
      refine wpAnyH_take (i := 11) (oi := ⟨some 61, _, _, _, _, _⟩) (v := ?_) rfl (by kernel_rfl) (by kernel_rfl) (by kernel_rfl) (fun _ _ _ h => h) (Or.inl ⟨by rfl, ?_⟩) hHeld ?_
      rotate_left
      · intro w hSw
        try dsimp only at hSw
        go_simp
        first | done | with_reducible rfl
      try simp only [Act.put, List.setIfInBounds_toArray, List.set_cons_zero, List.set_cons_succ]
      have d2 := (dkb_cells hb6).2.2.1
      have f2 : W6.frozen? ⟨D, 2, none⟩ = false := fzeroD hb6 2
      refine wpAnyH_ready (rs := [12]) (by kernel_rfl) (by simp) (AllReadyH.cons (o := _) rfl (fun K hK => ?_) AllReadyH.nil)
      go_simp
      obtain ⟨V5, hV5⟩ : ∃ V5, V5 = W6.setCell ⟨D, 2, none⟩ (.slice (some ⟨g, 0, none⟩) (n + 1) cap) := ⟨_, rfl⟩
      have g5 : GrB D W6 V5 := by rw [hV5]; exact gr_set W6 ⟨D, 2, none⟩ _
      have hb5 : DkB V5 D ((id : Int) + 1) now (.slice (some ⟨g, 0, none⟩) (n + 1) cap) seg pts := by rw [hV5]; exact blk_set hb6 2 _
      have hC5 : CuB V5 X ⟨(id : Int), (rows : Int), (size : Int), T, F⟩ := gr_blk g5 hC6 (by simp; omega)
      have hR5 : CuB V5 w.heap.size cu0 := gr_blk g5 hR6 (by simp; have := hDw.out; omega)
      have ho5 := own_farD hown6 hb6 (by decide) g5
      rw [← hV5]
      refine hK.out _ _ ?_ (fun hHeld => ?_)
      · exact st7.out _ hC5
      clear hK K hHeld hV5 d2 f2
      try simp only [Act.put, List.setIfInBounds_toArray, List.set_cons_zero, List.set_cons_succ]
      refine wpAnyH_done (by kernel_rfl) ?_ _
      have gS0 : GrS (TnD D (Value.slice A n c).ownBlock) w V5 := by
        have q1 : GrS (TnD D (Value.slice A n c).ownBlock) w V1 := grs_gr _ (gr_trans g1.out hGf.out)
        have q2 := grs_then q1 gV2.out (fun k hk _ => .inl (Option.some.inj hk).symm)
        have q3 := grs_then q2 (gr_trans gd gA) (by simp)
        have q4 := grs_then q3 g6 (fun k hk _ => .inr hk)
        exact grs_then q4 g5 (fun k hk _ => .inl (Option.some.inj hk).symm)
      have hth5 := cub_there hR5
      obtain ⟨x0, x1, x2, x3, x4⟩ := cub_cells hC5
      simp only at x0 x1 x2 x3 x4
      have hsame := World.rangeAt_setCells_same V5 w.heap.size 0 [.int .i64 (id : Int), .int .i64 (rows : Int), .int .i64 (size : Int), .int .i64 T, .string (txt F)] hth5
      have r0 := hsame 0 _ rfl
      have r1 := hsame 1 _ rfl
      have r2 := hsame 2 _ rfl
      have r3 := hsame 3 _ rfl
      have r4 := hsame 4 _ rfl
      simp only [Nat.zero_add] at r0 r1 r2 r3 r4
      have hgs := gr_setCells V5 w.heap.size 0 [.int .i64 (id : Int), .int .i64 (rows : Int), .int .i64 (size : Int), .int .i64 T, .string (txt F)]
      have hbF : DkB (V5.setCells w.heap.size 0 [.int .i64 (id : Int), .int .i64 (rows : Int), .int .i64 (size : Int), .int .i64 T, .string (txt F)]) D ((id : Int) + 1) now (.slice (some ⟨g, 0, none⟩) (n + 1) cap) seg pts := gr_blk hgs hb5 (by simp; have := hDw.out; omega)
      have hgR : (Value.slice (some ⟨g, 0, none⟩) (n + 1) cap).ownBlock ≠ some w.heap.size := by
        rcases hat6 with ⟨e6, _⟩ | ⟨e6, _⟩
        · intro e; have h7 := hgX g e6; have h8 : g = w.heap.size := by simpa [Value.ownBlock] using e
          omega
        · intro e; have h9 := lt_of_blk hRa; have h8 : g = w.heap.size := by simpa [Value.ownBlock] using e
          omega
      have hoF := ho5.kept hgs (.inr hgR)
      have gSF := grs_then gS0 hgs (fun k hk hlt => by have := Option.some.inj hk; omega)
      replace hbF := Lib.hid hbF
      replace hoF := Lib.hid hoF
      replace gSF := Lib.hid gSF
      clear hsame hgs hat6 g6 g5 hgX hDg
      go_wp2_with (refine wpList_store_mid (op := ⟨none, _, _, _, _, _⟩) rfl 52 _ _ rfl w.heap.size 0 #[.int .i64 (id : Int), .int .i64 (rows : Int), .int .i64 (size : Int), .int .i64 T, .string (txt F)] rfl rfl hth5 infoCu (by simp [Value.oneCell']) ?_)
      (try simp only [Exit.inBlock, Exit.then])
      refine bodyPost_ret (by simp [results, Tryz.results11, go_sem, r0, r1, r2, r3, r4]; try rfl) rfl ?_
      refine ⟨rfl, ⟨some ⟨g, 0, none⟩, cap, ⟨hbF.out, ?_⟩, fun b hb => ?_⟩, gSF.out⟩
      rotate_left
      · obtain rfl : g = b := by simpa [Value.ownBlock] using hb
        exact hob6.out
      have := hoF.out
      rw [sR_append, sR_one]
      exact this
  · skip
    go_simp
    refine hK.out _ _ ?_ (fun hHeld => ?_)
    · exact st.out _ (gr_trans hG (gr_alloc _ _ _))
    clear hK K
    try simp only [Act.put, List.setIfInBounds_toArray, List.set_cons_zero, List.set_cons_succ]
    have hal := blk_new wd (.cells #[.int .i64 0, .int .i64 0, .int .i64 0, .int .i64 0, .string ⟨#[]⟩] 52)
    have hXg := hG.size
    have hG := gr_trans hG (gr_alloc wd (.cells #[.int .i64 0, .int .i64 0, .int .i64 0, .int .i64 0, .string ⟨#[]⟩] 52) none)
    obtain ⟨wn, hN⟩ : ∃ wn, wn = wd.alloc (.cells #[.int .i64 0, .int .i64 0, .int .i64 0, .int .i64 0, .string ⟨#[]⟩] 52) := ⟨_, rfl⟩
    obtain ⟨X, hX⟩ : ∃ X, X = wd.heap.size := ⟨_, rfl⟩
    rw [← hN] at hal hG hHeld ⊢
    rw [← hX] at hal hXg ⊢
    replace hal : CuB wn X cu0 := hal
    clear hN hX
    refine wpAnyH_ready (rs := [11]) (by kernel_rfl) (by simp) (AllReadyH.cons (o := _) rfl (fun K hK => ?_) AllReadyH.nil)
    go_simp
    refine (cI.out _ hG).mono ?_
    rintro e wz ⟨rfl, gz⟩
    try (go_wp2_with fail)
    have hG := gr_trans hG gz
    have hal : CuB wz X cu0 := gr_blk gz hal (by simp)
    refine hK.out _ _ ?_ (fun hHeld => ?_)
    · exact st.out _ hG
    clear hK K gz
    try simp only [Act.put, List.setIfInBounds_toArray, List.set_cons_zero, List.set_cons_succ]
    refine wpAnyH_take (i := 12) (oi := ⟨some 39, _, _, _, _, _⟩) (v := ?_) rfl (by kernel_rfl) (by kernel_rfl) (by kernel_rfl) (fun _ _ _ h => h) (Or.inl ⟨by rfl, ?_⟩) hHeld ?_
    rotate_left
    · intro w hSw
      try dsimp only at hSw
      go_simp
      first | done | with_reducible rfl
    try simp only [Act.put, List.setIfInBounds_toArray, List.set_cons_zero, List.set_cons_succ]
    refine wpAnyH_take (i := 13) (oi := ⟨some 40, _, _, _, _, _⟩) (v := ?_) rfl (by kernel_rfl) (by kernel_rfl) (by kernel_rfl) (fun _ _ _ h => h) (Or.inl ⟨by rfl, ?_⟩) hHeld ?_
    rotate_left
    · intro w hSw
      try dsimp only at hSw
      go_simp
      first | done | with_reducible rfl
    try simp only [Act.put, List.setIfInBounds_toArray, List.set_cons_zero, List.set_cons_succ]
    refine wpAnyH_ready (rs := [15]) (by kernel_rfl) (by simp) (AllReadyH.cons (o := _) rfl (fun K hK => ?_) AllReadyH.nil)
    have hth := cub_there hal
    have gS := gr_setCells wz X 0 [.int .i64 (id : Int), .int .i64 (rows : Int), .int .i64 (size : Int), .int .i64 T, .string (txt F)]
    have hGf : Gr W1 (wz.setCells X 0 [.int .i64 (id : Int), .int .i64 (rows : Int), .int .i64 (size : Int), .int .i64 T, .string (txt F)]) := gr_of_below ((gr_below hG).grown gS hG.size (by intro k hk; cases hk; exact hXg)) (Nat.le_refl _)
    have hCu : CuB (wz.setCells X 0 [.int .i64 (id : Int), .int .i64 (rows : Int), .int .i64 (size : Int), .int .i64 T, .string (txt F)]) X ⟨(id : Int), (rows : Int), (size : Int), T, F⟩ := blk_set (blk_set (blk_set (blk_set (blk_set hal 0 _) 1 _) 2 _) 3 _) 4 _
    refine step_store_mid rfl 52 _ _ rfl X 0 #[.int .i64 (id : Int), .int .i64 (rows : Int), .int .i64 (size : Int), .int .i64 T, .string (txt F)] rfl rfl hth infoCu (by simp [Value.oneCell']) ?_
    refine hK.out _ _ ?_ (fun hHeld => ?_)
    · exact st.out _ hGf
    clear hK K hHeld
    try simp only [Act.put, List.setIfInBounds_toArray, List.set_cons_zero, List.set_cons_succ]
    refine wpAnyH_done (by kernel_rfl) ?_ _
    replace hGf := Lib.hid hGf
    replace hCu := Lib.hid hCu
    generalize wz.setCells X 0 [.int .i64 (id : Int), .int .i64 (rows : Int), .int .i64 (size : Int), .int .i64 T, .string (txt F)] = V1 at *
    have hd2 := dkIs_gr h1.out hGf.out
    obtain ⟨c0, c1, c2, c3, c4⟩ := dkb_cells hd2.blk
    have f0 : V1.frozen? ⟨D, 0, none⟩ = false := fzeroD hd2.blk 0
    have hDX : D < X := Nat.lt_of_lt_of_le hDlt.out hXg
    have hR1 : CuB V1 w.heap.size cu0 := gr_blk hGf.out hres.out (by simp)
    obtain ⟨V2, hV2⟩ : ∃ V2, V2 = V1.setCell ⟨D, 0, none⟩ (.int .i64 ((id : Int) + 1)) := ⟨_, rfl⟩
    have gV2 : GrB D V1 V2 := by rw [hV2]; exact gr_set V1 ⟨D, 0, none⟩ _
    have hb2 : DkB V2 D ((id : Int) + 1) now (.slice A n c) seg pts := by rw [hV2]; exact blk_set hd2.blk 0 _
    have ho2 : V2.ownsRow base 52 5 (.slice A n c) n (sR curC op) := own_farD hd2.own hd2.blk (by decide) gV2
    have hC2 : CuB V2 X ⟨(id : Int), (rows : Int), (size : Int), T, F⟩ := gr_blk gV2 hCu.out (by simp; omega)
    have hR2 : CuB V2 w.heap.size cu0 := gr_blk gV2 hR1 (by simp; have := hDw.out; omega)
    have hV2s := gV2.size
    have hV1s := hGf.out.size
    replace hb2 := Lib.hid hb2
    replace ho2 := Lib.hid ho2
    replace hC2 := Lib.hid hC2
    replace hR2 := Lib.hid hR2
    replace gV2 := Lib.hid gV2
    clear hd2 hR1 hCu
    go_upto_region 7 with fail
    rw [← hV2]
    clear hV2 c0 c1 c2 c3 c4 f0
    obtain ⟨c0, c1, c2, c3, c4⟩ := dkb_cells hb2.out
    obtain ⟨x0, x1, x2, x3, x4⟩ := cub_cells hC2.out
    simp only at x0 x1 x2 x3 x4
    have st7 : ∀ w', CuB w' X ⟨(id : Int), (rows : Int), (size : Int), T, F⟩ → (w'.cell? ⟨X, 0, none⟩ = some (.int .i64 (id : Int)) ∧ w'.cell? ⟨X, 1, none⟩ = some (.int .i64 (rows : Int)) ∧ w'.cell? ⟨X, 2, none⟩ = some (.int .i64 (size : Int)) ∧ w'.cell? ⟨X, 3, none⟩ = some (.int .i64 T) ∧ w'.cell? ⟨X, 4, none⟩ = some (.string (txt F))) := fun w' h => cub_cells h
    replace st7 := Lib.hid st7
    clear c0 c1 c2 c3 c4 x0 x1 x2 x3 x4
    have hCd : CuB V2.drew X ⟨(id : Int), (rows : Int), (size : Int), T, F⟩ := gr_blk (gr_drew V2 none) hC2.out (by simp)
    refine wp_region_held_drew (S := (fun w' => w'.cell? ⟨X, 0, none⟩ = some (.int .i64 (id : Int)) ∧ w'.cell? ⟨X, 1, none⟩ = some (.int .i64 (rows : Int)) ∧ w'.cell? ⟨X, 2, none⟩ = some (.int .i64 (size : Int)) ∧ w'.cell? ⟨X, 3, none⟩ = some (.int .i64 T) ∧ w'.cell? ⟨X, 4, none⟩ = some (.string (txt F)))) (by kernel_rfl) (st7.out _ hCd) (fun hHeld => ?_)
    have gd : Gr V2 V2.drew := gr_drew V2 none
    generalize V2.drew = wd7 at *
    have hbd : DkB wd7 D ((id : Int) + 1) now (.slice A n c) seg pts := gr_blk gd hb2.out (by simp)
    have c2 := (dkb_cells hbd).2.2.1
    have hod := ho2.out.kept gd (Classical.em _)
    have hRd : CuB wd7 w.heap.size cu0 := gr_blk gd hR2.out (by simp)
    refine wpAnyH_take (i := 0) (oi := ⟨some 50, _, _, _, _, _⟩) (v := ?_) rfl (by kernel_rfl) (by kernel_rfl) (by kernel_rfl) (fun _ _ _ h => h) (Or.inl ⟨by rfl, ?_⟩) hHeld ?_
    rotate_left
    · intro w hSw
      try dsimp only at hSw
      go_simp
      first | done | with_reducible rfl
    try simp only [Act.put, List.setIfInBounds_toArray, List.set_cons_zero, List.set_cons_succ]
    refine wpAnyH_take (i := 1) (oi := ⟨some 51, _, _, _, _, _⟩) (v := ?_) rfl (by kernel_rfl) (by kernel_rfl) (by kernel_rfl) (fun _ _ _ h => h) (Or.inl ⟨by rfl, ?_⟩) hHeld ?_
    rotate_left
    · intro w hSw
      try dsimp only at hSw
      go_simp
      first | done | with_reducible rfl
    try simp only [Act.put, List.setIfInBounds_toArray, List.set_cons_zero, List.set_cons_succ]
    refine wpAnyH_take (i := 2) (oi := ⟨some 52, _, _, _, _, _⟩) (v := ?_) rfl (by kernel_rfl) (by kernel_rfl) (by kernel_rfl) (fun _ _ _ h => h) (Or.inl ⟨by rfl, ?_⟩) hHeld ?_
    rotate_left
    · intro w hSw
      try dsimp only at hSw
      go_simp
      first | done | with_reducible rfl
    try simp only [Act.put, List.setIfInBounds_toArray, List.set_cons_zero, List.set_cons_succ]
    refine wpAnyH_take (i := 3) (oi := ⟨some 53, _, _, _, _, _⟩) (v := ?_) rfl (by kernel_rfl) (by kernel_rfl) (by kernel_rfl) (fun _ _ _ h => h) (Or.inl ⟨by rfl, ?_⟩) hHeld ?_
    rotate_left
    · intro w hSw
      try dsimp only at hSw
      go_simp
      first | done | with_reducible rfl
    try simp only [Act.put, List.setIfInBounds_toArray, List.set_cons_zero, List.set_cons_succ]
    refine wpAnyH_take (i := 4) (oi := ⟨some 54, _, _, _, _, _⟩) (v := ?_) rfl (by kernel_rfl) (by kernel_rfl) (by kernel_rfl) (fun _ _ _ h => h) (Or.inl ⟨by rfl, ?_⟩) hHeld ?_
    rotate_left
    · intro w hSw
      try dsimp only at hSw
      go_simp
      first | done | with_reducible rfl
    try simp only [Act.put, List.setIfInBounds_toArray, List.set_cons_zero, List.set_cons_succ]
    refine wpAnyH_take (i := 6) (oi := ⟨some 56, _, _, _, _, _⟩) (v := ?_) rfl (by kernel_rfl) (by kernel_rfl) (by kernel_rfl) (fun _ _ _ h => h) (Or.inl ⟨by rfl, ?_⟩) hHeld ?_
    rotate_left
    · intro w hSw
      try dsimp only at hSw
      go_simp
      first | done | with_reducible rfl
    try simp only [Act.put, List.setIfInBounds_toArray, List.set_cons_zero, List.set_cons_succ]
    refine wpAnyH_ready (rs := [5, 7]) (by kernel_rfl) (by simp) (AllReadyH.cons (o := _) rfl (fun K hK => ?_) (AllReadyH.cons (o := _) rfl (fun K hK => ?_) AllReadyH.nil))
    · go_simp
      refine hK.out _ _ ?_ (fun hHeld => ?_)
      · exact st7.out _ hCd
      clear hK K c2
      try clear c2b
      try simp only [Act.put, List.setIfInBounds_toArray, List.set_cons_zero, List.set_cons_succ]
      refine wpAnyH_ready (rs := [7]) (by kernel_rfl) (by simp) (AllReadyH.cons (o := _) rfl (fun K hK => ?_) AllReadyH.nil)
      go_simp
      have gA := gr_alloc wd7 (.cells #[.int .i64 (id : Int), .int .i64 (rows : Int), .int .i64 (size : Int), .int .i64 T, .string (txt F)] 52) none
      have hCa : CuB (wd7.alloc (.cells #[.int .i64 (id : Int), .int .i64 (rows : Int), .int .i64 (size : Int), .int .i64 T, .string (txt F)] 52)) X ⟨(id : Int), (rows : Int), (size : Int), T, F⟩ := gr_blk gA hCd (by simp)
      refine hK.out _ _ ?_ (fun hHeld => ?_)
      · exact st7.out _ hCa
      clear hK K
      try simp only [Act.put, List.setIfInBounds_toArray, List.set_cons_zero, List.set_cons_succ]
      have hoa := hod.kept gA (Classical.em _)
      have hba : DkB (wd7.alloc (.cells #[.int .i64 (id : Int), .int .i64 (rows : Int), .int .i64 (size : Int), .int .i64 T, .string (txt F)] 52)) D ((id : Int) + 1) now (.slice A n c) seg pts := gr_blk gA hbd (by simp)
      have hRa : CuB (wd7.alloc (.cells #[.int .i64 (id : Int), .int .i64 (rows : Int), .int .i64 (size : Int), .int .i64 T, .string (txt F)] 52)) w.heap.size cu0 := gr_blk gA hRd (by simp)
      have hnew : ∀ (j : Nat) (u : Value), ([.int .i64 (id : Int), .int .i64 (rows : Int), .int .i64 (size : Int), .int .i64 T, .string (txt F)] : List Value)[j]? = some u → (wd7.alloc (.cells #[.int .i64 (id : Int), .int .i64 (rows : Int), .int .i64 (size : Int), .int .i64 T, .string (txt F)] 52)).cell? ((⟨wd7.heap.size, 0, none⟩ : Addr).add j) = some u := fun j u hj => by
        rw [add_plain, Nat.zero_add, World.cell?_alloc_new]
        exact (show (#[.int .i64 (id : Int), .int .i64 (rows : Int), .int .i64 (size : Int), .int .i64 T, .string (txt F)] : Array Value)[j]? = some u by rw [← List.getElem?_toArray] at hj; exact hj)
      have hones : ∀ u ∈ ([.int .i64 (id : Int), .int .i64 (rows : Int), .int .i64 (size : Int), .int .i64 T, .string (txt F)] : List Value), u.oneCell' = true := by
        intro u hu
        simp only [List.mem_cons, List.not_mem_nil, or_false] at hu
        rcases hu with rfl | rfl | rfl | rfl | rfl <;> rfl
      have hszw : w.heap.size ≤ (wd7.alloc (.cells #[.int .i64 (id : Int), .int .i64 (rows : Int), .int .i64 (size : Int), .int .i64 T, .string (txt F)] 52)).heap.size := (Nat.le_trans (Nat.le_of_lt hs1w) (Nat.le_trans hV1s (Nat.le_trans hV2s (Nat.le_trans gd.size gA.size))))
      have hsz7 : base ≤ (wd7.alloc (.cells #[.int .i64 (id : Int), .int .i64 (rows : Int), .int .i64 (size : Int), .int .i64 T, .string (txt F)] 52)).heap.size := Nat.le_trans hbw (Nat.le_trans (Nat.le_of_lt hs1w) (Nat.le_trans hV1s (Nat.le_trans hV2s (Nat.le_trans gd.size gA.size))))
      obtain ⟨N7, hN7⟩ : ∃ N7, N7 = wd7.heap.size := ⟨_, rfl⟩
      obtain ⟨wa, hwa⟩ : ∃ wa, wa = wd7.alloc (.cells #[.int .i64 (id : Int), .int .i64 (rows : Int), .int .i64 (size : Int), .int .i64 T, .string (txt F)] 52) := ⟨_, rfl⟩
      rw [← hwa] at gA hCa hHeld hoa hba hRa hnew hsz7 hszw ⊢
      rw [← hN7] at hnew ⊢
      refine wpAnyH_ready (rs := [8]) (by kernel_rfl) (by simp) (AllReadyH.cons (o := _) rfl (fun K hK => ?_) AllReadyH.nil)
      refine step_append_strong rfl _ _ 28 rfl base 52 ii (.agg #[.int .i64 0, .int .i64 0, .int .i64 0, .int .i64 0, .string ⟨#[]⟩]) 5 48 Tryz.underlying28 hi hz0 hz1 hz2 rfl (by decide) (.slice A n c) n (sR curC op) rfl hoa ⟨N7, 0, none⟩ 1 1 [.int .i64 (id : Int), .int .i64 (rows : Int), .int .i64 (size : Int), .int .i64 T, .string (txt F)] rfl rfl hnew hones (by decide) (n + 1) rfl (by unfold maxLen; omega) (by omega) hsz7 ?_
      intro g cap W6 hown6 hat6
      have hgX : ∀ k, (Value.slice A n c).ownBlock = some k → k < w.heap.size := hob.out
      have g6 : wa.grownBy W6 (Value.slice A n c).ownBlock := by
        rcases hat6 with ⟨e6, h6⟩ | ⟨_, h6⟩
        · rw [e6]; exact h6
        · exact gr_more _ h6
      have hob6 : (Value.slice A n c).ownBlock = some g ∨ w.heap.size ≤ g := by
        rcases hat6 with ⟨e6, _⟩ | ⟨e6, _⟩
        · exact .inl e6
        · exact .inr (by rw [e6]; exact hszw)
      replace hob6 := Lib.hid hob6
      clear hszw
      have hC6 : CuB W6 X ⟨(id : Int), (rows : Int), (size : Int), T, F⟩ := gr_blk g6 hCa (fun e => by have := hgX X e.symm; omega)
      have hR6 : CuB W6 w.heap.size cu0 := gr_blk g6 hRa (fun e => by have := hgX _ e.symm; omega)
      have hDg : some D ≠ (Value.slice A n c).ownBlock := fun e => dk_apart hba hoa e.symm
      have hb6 : DkB W6 D ((id : Int) + 1) now (.slice A n c) seg pts := gr_blk g6 hba hDg
      refine hK.out _ _ ?_ (fun hHeld => ?_)
      · exact st7.out _ hC6
      clear hK K
      try simp only [Act.put, List.setIfInBounds_toArray, List.set_cons_zero, List.set_cons_succ]
      
      refine wpAnyH_take (i := 9) (oi := ⟨some 59, _, _, _, _, _⟩) (v := ?_) rfl (by kernel_rfl) (by kernel_rfl) (by kernel_rfl) (fun _ _ _ h => h) (Or.inl ⟨by rfl, ?_⟩) hHeld ?_
      rotate_left
      · intro w hSw
        try dsimp only at hSw
        go_simp
        first | done | with_reducible rfl
      try simp only [Act.put, List.setIfInBounds_toArray, List.set_cons_zero, List.set_cons_succ]
      refine wpAnyH_take (i := 10) (oi := ⟨some 60, _, _, _, _, _⟩) (v := ?_) rfl (by kernel_rfl) (by kernel_rfl) (by kernel_rfl) (fun _ _ _ h => h) (Or.inl ⟨by rfl, ?_⟩) hHeld ?_
      rotate_left
      · intro w hSw
        try dsimp only at hSw
        go_simp
        first | done | with_reducible rfl
      try simp only [Act.put, List.setIfInBounds_toArray, List.set_cons_zero, List.set_cons_succ]
      refine wpAnyH_take (i := 11) (oi := ⟨some 61, _, _, _, _, _⟩) (v := ?_) rfl (by kernel_rfl) (by kernel_rfl) (by kernel_rfl) (fun _ _ _ h => h) (Or.inl ⟨by rfl, ?_⟩) hHeld ?_
      rotate_left
      · intro w hSw
        try dsimp only at hSw
        go_simp
        first | done | with_reducible rfl
      try simp only [Act.put, List.setIfInBounds_toArray, List.set_cons_zero, List.set_cons_succ]
      have d2 := (dkb_cells hb6).2.2.1
      have f2 : W6.frozen? ⟨D, 2, none⟩ = false := fzeroD hb6 2
      refine wpAnyH_ready (rs := [12]) (by kernel_rfl) (by simp) (AllReadyH.cons (o := _) rfl (fun K hK => ?_) AllReadyH.nil)
      go_simp
      obtain ⟨V5, hV5⟩ : ∃ V5, V5 = W6.setCell ⟨D, 2, none⟩ (.slice (some ⟨g, 0, none⟩) (n + 1) cap) := ⟨_, rfl⟩
      have g5 : GrB D W6 V5 := by rw [hV5]; exact gr_set W6 ⟨D, 2, none⟩ _
      have hb5 : DkB V5 D ((id : Int) + 1) now (.slice (some ⟨g, 0, none⟩) (n + 1) cap) seg pts := by rw [hV5]; exact blk_set hb6 2 _
      have hC5 : CuB V5 X ⟨(id : Int), (rows : Int), (size : Int), T, F⟩ := gr_blk g5 hC6 (by simp; omega)
      have hR5 : CuB V5 w.heap.size cu0 := gr_blk g5 hR6 (by simp; have := hDw.out; omega)
      have ho5 := own_farD hown6 hb6 (by decide) g5
      rw [← hV5]
      refine hK.out _ _ ?_ (fun hHeld => ?_)
      · exact st7.out _ hC5
      clear hK K hHeld hV5 d2 f2
      try simp only [Act.put, List.setIfInBounds_toArray, List.set_cons_zero, List.set_cons_succ]
      refine wpAnyH_done (by kernel_rfl) ?_ _
      have gS0 : GrS (TnD D (Value.slice A n c).ownBlock) w V5 := by
        have q1 : GrS (TnD D (Value.slice A n c).ownBlock) w V1 := grs_gr _ (gr_trans g1.out hGf.out)
        have q2 := grs_then q1 gV2.out (fun k hk _ => .inl (Option.some.inj hk).symm)
        have q3 := grs_then q2 (gr_trans gd gA) (by simp)
        have q4 := grs_then q3 g6 (fun k hk _ => .inr hk)
        exact grs_then q4 g5 (fun k hk _ => .inl (Option.some.inj hk).symm)
      have hth5 := cub_there hR5
      obtain ⟨x0, x1, x2, x3, x4⟩ := cub_cells hC5
      simp only at x0 x1 x2 x3 x4
      have hsame := World.rangeAt_setCells_same V5 w.heap.size 0 [.int .i64 (id : Int), .int .i64 (rows : Int), .int .i64 (size : Int), .int .i64 T, .string (txt F)] hth5
      have r0 := hsame 0 _ rfl
      have r1 := hsame 1 _ rfl
      have r2 := hsame 2 _ rfl
      have r3 := hsame 3 _ rfl
      have r4 := hsame 4 _ rfl
      simp only [Nat.zero_add] at r0 r1 r2 r3 r4
      have hgs := gr_setCells V5 w.heap.size 0 [.int .i64 (id : Int), .int .i64 (rows : Int), .int .i64 (size : Int), .int .i64 T, .string (txt F)]
      have hbF : DkB (V5.setCells w.heap.size 0 [.int .i64 (id : Int), .int .i64 (rows : Int), .int .i64 (size : Int), .int .i64 T, .string (txt F)]) D ((id : Int) + 1) now (.slice (some ⟨g, 0, none⟩) (n + 1) cap) seg pts := gr_blk hgs hb5 (by simp; have := hDw.out; omega)
      have hgR : (Value.slice (some ⟨g, 0, none⟩) (n + 1) cap).ownBlock ≠ some w.heap.size := by
        rcases hat6 with ⟨e6, _⟩ | ⟨e6, _⟩
        · intro e; have h7 := hgX g e6; have h8 : g = w.heap.size := by simpa [Value.ownBlock] using e
          omega
        · intro e; have h9 := lt_of_blk hRa; have h8 : g = w.heap.size := by simpa [Value.ownBlock] using e
          omega
      have hoF := ho5.kept hgs (.inr hgR)
      have gSF := grs_then gS0 hgs (fun k hk hlt => by have := Option.some.inj hk; omega)
      replace hbF := Lib.hid hbF
      replace hoF := Lib.hid hoF
      replace gSF := Lib.hid gSF
      clear hsame hgs hat6 g6 g5 hgX hDg
      go_wp2_with (refine wpList_store_mid (op := ⟨none, _, _, _, _, _⟩) rfl 52 _ _ rfl w.heap.size 0 #[.int .i64 (id : Int), .int .i64 (rows : Int), .int .i64 (size : Int), .int .i64 T, .string (txt F)] rfl rfl hth5 infoCu (by simp [Value.oneCell']) ?_)
      (try simp only [Exit.inBlock, Exit.then])
      refine bodyPost_ret (by simp [results, Tryz.results11, go_sem, r0, r1, r2, r3, r4]; try rfl) rfl ?_
      refine ⟨rfl, ⟨some ⟨g, 0, none⟩, cap, ⟨hbF.out, ?_⟩, fun b hb => ?_⟩, gSF.out⟩
      rotate_left
      · obtain rfl : g = b := by simpa [Value.ownBlock] using hb
        exact hob6.out
      have := hoF.out
      rw [sR_append, sR_one]
      exact this
    · go_simp
      have gA := gr_alloc wd7 (.cells #[.int .i64 (id : Int), .int .i64 (rows : Int), .int .i64 (size : Int), .int .i64 T, .string (txt F)] 52) none
      have hCa : CuB (wd7.alloc (.cells #[.int .i64 (id : Int), .int .i64 (rows : Int), .int .i64 (size : Int), .int .i64 T, .string (txt F)] 52)) X ⟨(id : Int), (rows : Int), (size : Int), T, F⟩ := gr_blk gA hCd (by simp)
      refine hK.out _ _ ?_ (fun hHeld => ?_)
      · exact st7.out _ hCa
      clear hK K
      try simp only [Act.put, List.setIfInBounds_toArray, List.set_cons_zero, List.set_cons_succ]
      have hoa := hod.kept gA (Classical.em _)
      have hba : DkB (wd7.alloc (.cells #[.int .i64 (id : Int), .int .i64 (rows : Int), .int .i64 (size : Int), .int .i64 T, .string (txt F)] 52)) D ((id : Int) + 1) now (.slice A n c) seg pts := gr_blk gA hbd (by simp)
      have hRa : CuB (wd7.alloc (.cells #[.int .i64 (id : Int), .int .i64 (rows : Int), .int .i64 (size : Int), .int .i64 T, .string (txt F)] 52)) w.heap.size cu0 := gr_blk gA hRd (by simp)
      have hnew : ∀ (j : Nat) (u : Value), ([.int .i64 (id : Int), .int .i64 (rows : Int), .int .i64 (size : Int), .int .i64 T, .string (txt F)] : List Value)[j]? = some u → (wd7.alloc (.cells #[.int .i64 (id : Int), .int .i64 (rows : Int), .int .i64 (size : Int), .int .i64 T, .string (txt F)] 52)).cell? ((⟨wd7.heap.size, 0, none⟩ : Addr).add j) = some u := fun j u hj => by
        rw [add_plain, Nat.zero_add, World.cell?_alloc_new]
        exact (show (#[.int .i64 (id : Int), .int .i64 (rows : Int), .int .i64 (size : Int), .int .i64 T, .string (txt F)] : Array Value)[j]? = some u by rw [← List.getElem?_toArray] at hj; exact hj)
      have hones : ∀ u ∈ ([.int .i64 (id : Int), .int .i64 (rows : Int), .int .i64 (size : Int), .int .i64 T, .string (txt F)] : List Value), u.oneCell' = true := by
        intro u hu
        simp only [List.mem_cons, List.not_mem_nil, or_false] at hu
        rcases hu with rfl | rfl | rfl | rfl | rfl <;> rfl
      have hszw : w.heap.size ≤ (wd7.alloc (.cells #[.int .i64 (id : Int), .int .i64 (rows : Int), .int .i64 (size : Int), .int .i64 T, .string (txt F)] 52)).heap.size := (Nat.le_trans (Nat.le_of_lt hs1w) (Nat.le_trans hV1s (Nat.le_trans hV2s (Nat.le_trans gd.size gA.size))))
      have hsz7 : base ≤ (wd7.alloc (.cells #[.int .i64 (id : Int), .int .i64 (rows : Int), .int .i64 (size : Int), .int .i64 T, .string (txt F)] 52)).heap.size := Nat.le_trans hbw (Nat.le_trans (Nat.le_of_lt hs1w) (Nat.le_trans hV1s (Nat.le_trans hV2s (Nat.le_trans gd.size gA.size))))
      have c2 := (dkb_cells hba).2.2.1
      refine wpAnyH_ready (rs := [5]) (by kernel_rfl) (by simp) (AllReadyH.cons (o := _) rfl (fun K hK => ?_) AllReadyH.nil)
      go_simp
      refine hK.out _ _ ?_ (fun hHeld => ?_)
      · exact st7.out _ hCa
      clear hK K c2
      try clear c2b
      try simp only [Act.put, List.setIfInBounds_toArray, List.set_cons_zero, List.set_cons_succ]
      obtain ⟨N7, hN7⟩ : ∃ N7, N7 = wd7.heap.size := ⟨_, rfl⟩
      obtain ⟨wa, hwa⟩ : ∃ wa, wa = wd7.alloc (.cells #[.int .i64 (id : Int), .int .i64 (rows : Int), .int .i64 (size : Int), .int .i64 T, .string (txt F)] 52) := ⟨_, rfl⟩
      rw [← hwa] at gA hCa hHeld hoa hba hRa hnew hsz7 hszw ⊢
      rw [← hN7] at hnew ⊢
      refine wpAnyH_ready (rs := [8]) (by kernel_rfl) (by simp) (AllReadyH.cons (o := _) rfl (fun K hK => ?_) AllReadyH.nil)
      refine step_append_strong rfl _ _ 28 rfl base 52 ii (.agg #[.int .i64 0, .int .i64 0, .int .i64 0, .int .i64 0, .string ⟨#[]⟩]) 5 48 Tryz.underlying28 hi hz0 hz1 hz2 rfl (by decide) (.slice A n c) n (sR curC op) rfl hoa ⟨N7, 0, none⟩ 1 1 [.int .i64 (id : Int), .int .i64 (rows : Int), .int .i64 (size : Int), .int .i64 T, .string (txt F)] rfl rfl hnew hones (by decide) (n + 1) rfl (by unfold maxLen; omega) (by omega) hsz7 ?_
      intro g cap W6 hown6 hat6
      have hgX : ∀ k, (Value.slice A n c).ownBlock = some k → k < w.heap.size := hob.out
      have g6 : wa.grownBy W6 (Value.slice A n c).ownBlock := by
        rcases hat6 with ⟨e6, h6⟩ | ⟨_, h6⟩
        · rw [e6]; exact h6
        · exact gr_more _ h6
      have hob6 : (Value.slice A n c).ownBlock = some g ∨ w.heap.size ≤ g := by
        rcases hat6 with ⟨e6, _⟩ | ⟨e6, _⟩
        · exact .inl e6
        · exact .inr (by rw [e6]; exact hszw)
      replace hob6 := Lib.hid hob6
      clear hszw
      have hC6 : CuB W6 X ⟨(id : Int), (rows : Int), (size : Int), T, F⟩ := gr_blk g6 hCa (fun e => by have := hgX X e.symm; omega)
      have hR6 : CuB W6 w.heap.size cu0 := gr_blk g6 hRa (fun e => by have := hgX _ e.symm; omega)
      have hDg : some D ≠ (Value.slice A n c).ownBlock := fun e => dk_apart hba hoa e.symm
      have hb6 : DkB W6 D ((id : Int) + 1) now (.slice A n c) seg pts := gr_blk g6 hba hDg
      refine hK.out _ _ ?_ (fun hHeld => ?_)
      · exact st7.out _ hC6
      clear hK K
      try simp only [Act.put, List.setIfInBounds_toArray, List.set_cons_zero, List.set_cons_succ]
      
      refine wpAnyH_take (i := 9) (oi := ⟨some 59, _, _, _, _, _⟩) (v := ?_) rfl (by kernel_rfl) (by kernel_rfl) (by kernel_rfl) (fun _ _ _ h => h) (Or.inl ⟨by rfl, ?_⟩) hHeld ?_
      rotate_left
      · intro w hSw
        try dsimp only at hSw
        go_simp
        first | done | with_reducible rfl
      try simp only [Act.put, List.setIfInBounds_toArray, List.set_cons_zero, List.set_cons_succ]
      refine wpAnyH_take (i := 10) (oi := ⟨some 60, _, _, _, _, _⟩) (v := ?_) rfl (by kernel_rfl) (by kernel_rfl) (by kernel_rfl) (fun _ _ _ h => h) (Or.inl ⟨by rfl, ?_⟩) hHeld ?_
      rotate_left
      · intro w hSw
        try dsimp only at hSw
        go_simp
        first | done | with_reducible rfl
      try simp only [Act.put, List.setIfInBounds_toArray, List.set_cons_zero, List.set_cons_succ]
      refine wpAnyH_take (i := 11) (oi := ⟨some 61, _, _, _, _, _⟩) (v := ?_) rfl (by kernel_rfl) (by kernel_rfl) (by kernel_rfl) (fun _ _ _ h => h) (Or.inl ⟨by rfl, ?_⟩) hHeld ?_
      rotate_left
      · intro w hSw
        try dsimp only at hSw
        go_simp
        first | done | with_reducible rfl
      try simp only [Act.put, List.setIfInBounds_toArray, List.set_cons_zero, List.set_cons_succ]
      have d2 := (dkb_cells hb6).2.2.1
      have f2 : W6.frozen? ⟨D, 2, none⟩ = false := fzeroD hb6 2
      refine wpAnyH_ready (rs := [12]) (by kernel_rfl) (by simp) (AllReadyH.cons (o := _) rfl (fun K hK => ?_) AllReadyH.nil)
      go_simp
      obtain ⟨V5, hV5⟩ : ∃ V5, V5 = W6.setCell ⟨D, 2, none⟩ (.slice (some ⟨g, 0, none⟩) (n + 1) cap) := ⟨_, rfl⟩
      have g5 : GrB D W6 V5 := by rw [hV5]; exact gr_set W6 ⟨D, 2, none⟩ _
      have hb5 : DkB V5 D ((id : Int) + 1) now (.slice (some ⟨g, 0, none⟩) (n + 1) cap) seg pts := by rw [hV5]; exact blk_set hb6 2 _
      have hC5 : CuB V5 X ⟨(id : Int), (rows : Int), (size : Int), T, F⟩ := gr_blk g5 hC6 (by simp; omega)
      have hR5 : CuB V5 w.heap.size cu0 := gr_blk g5 hR6 (by simp; have := hDw.out; omega)
      have ho5 := own_farD hown6 hb6 (by decide) g5
      rw [← hV5]
      refine hK.out _ _ ?_ (fun hHeld => ?_)
      · exact st7.out _ hC5
      clear hK K hHeld hV5 d2 f2
      try simp only [Act.put, List.setIfInBounds_toArray, List.set_cons_zero, List.set_cons_succ]
      refine wpAnyH_done (by kernel_rfl) ?_ _
      have gS0 : GrS (TnD D (Value.slice A n c).ownBlock) w V5 := by
        have q1 : GrS (TnD D (Value.slice A n c).ownBlock) w V1 := grs_gr _ (gr_trans g1.out hGf.out)
        have q2 := grs_then q1 gV2.out (fun k hk _ => .inl (Option.some.inj hk).symm)
        have q3 := grs_then q2 (gr_trans gd gA) (by simp)
        have q4 := grs_then q3 g6 (fun k hk _ => .inr hk)
        exact grs_then q4 g5 (fun k hk _ => .inl (Option.some.inj hk).symm)
      have hth5 := cub_there hR5
      obtain ⟨x0, x1, x2, x3, x4⟩ := cub_cells hC5
      simp only at x0 x1 x2 x3 x4
      have hsame := World.rangeAt_setCells_same V5 w.heap.size 0 [.int .i64 (id : Int), .int .i64 (rows : Int), .int .i64 (size : Int), .int .i64 T, .string (txt F)] hth5
      have r0 := hsame 0 _ rfl
      have r1 := hsame 1 _ rfl
      have r2 := hsame 2 _ rfl
      have r3 := hsame 3 _ rfl
      have r4 := hsame 4 _ rfl
      simp only [Nat.zero_add] at r0 r1 r2 r3 r4
      have hgs := gr_setCells V5 w.heap.size 0 [.int .i64 (id : Int), .int .i64 (rows : Int), .int .i64 (size : Int), .int .i64 T, .string (txt F)]
      have hbF : DkB (V5.setCells w.heap.size 0 [.int .i64 (id : Int), .int .i64 (rows : Int), .int .i64 (size : Int), .int .i64 T, .string (txt F)]) D ((id : Int) + 1) now (.slice (some ⟨g, 0, none⟩) (n + 1) cap) seg pts := gr_blk hgs hb5 (by simp; have := hDw.out; omega)
      have hgR : (Value.slice (some ⟨g, 0, none⟩) (n + 1) cap).ownBlock ≠ some w.heap.size := by
        rcases hat6 with ⟨e6, _⟩ | ⟨e6, _⟩
        · intro e; have h7 := hgX g e6; have h8 : g = w.heap.size := by simpa [Value.ownBlock] using e
          omega
        · intro e; have h9 := lt_of_blk hRa; have h8 : g = w.heap.size := by simpa [Value.ownBlock] using e
          omega
      have hoF := ho5.kept hgs (.inr hgR)
      have gSF := grs_then gS0 hgs (fun k hk hlt => by have := Option.some.inj hk; omega)
      replace hbF := Lib.hid hbF
      replace hoF := Lib.hid hoF
      replace gSF := Lib.hid gSF
      clear hsame hgs hat6 g6 g5 hgX hDg
      go_wp2_with (refine wpList_store_mid (op := ⟨none, _, _, _, _, _⟩) rfl 52 _ _ rfl w.heap.size 0 #[.int .i64 (id : Int), .int .i64 (rows : Int), .int .i64 (size : Int), .int .i64 T, .string (txt F)] rfl rfl hth5 infoCu (by simp [Value.oneCell']) ?_)
      (try simp only [Exit.inBlock, Exit.then])
      refine bodyPost_ret (by simp [results, Tryz.results11, go_sem, r0, r1, r2, r3, r4]; try rfl) rfl ?_
      refine ⟨rfl, ⟨some ⟨g, 0, none⟩, cap, ⟨hbF.out, ?_⟩, fun b hb => ?_⟩, gSF.out⟩
      rotate_left
      · obtain rfl : g = b := by simpa [Value.ownBlock] using hb
        exact hob6.out
      have := hoF.out
      rw [sR_append, sR_one]
      exact this
theorem dopen_any (D base : Nat) (s : DkS) (A : Option Addr) (n c rows size ticks id : Nat) (w : World) (h : DkIs w D base s A n c) (hv : Vars w) (hbw : base ≤ w.heap.size) (hr : rows ≤ 2000) (hs : 1 ≤ size) (hs2 : size ≤ 100) (ht : ticks ≤ 100000) (hnow : 0 ≤ s.now ∧ s.now + ticks ≤ 1000000000) (hn : n < 20) (hid : s.nx = (id : Int)) (hid2 : 1 ≤ id ∧ id ≤ 1000000) :
    Calls Tryz.prog 11 #[.pointer (some ⟨D, 0, none⟩), .int .i64 rows, .int .i64 size, .int .i64 ticks] w (OpenPost D base s A n c ⟨id, rows, size, s.now + ticks, runL id⟩ w) := by
  refine (dopen_anyS D base s A n c rows size ticks id w h hv hbw hr hs hs2 ht hnow hn hid hid2).mono ?_
  rintro e w' ⟨h1, ⟨A', c', h2, _⟩, h3⟩
  exact ⟨h1, ⟨A', c', h2⟩, h3⟩
end Go.Proofs.YtmldoeeangekoaaGreatDoor
namespace Go.Proofs.YtmldoeeangekoaaGreatDoor
open Go.RowKit

theorem cell0_new (w : World) (v : Value) (t : TypeId) : (w.alloc (.cells #[v] t)).cell? ⟨w.heap.size, 0, none⟩ = some v := by
  rw [World.cell?_alloc_new]; rfl
/-- Where the open cursor is. -/
def DkAt (nx : Int) (op : List Cur) (id v e : Int) : Prop :=
  ((id < 1 ∨ nx ≤ id) ∧ v = 0 ∧ e = 11) ∨ (1 ≤ id ∧ id < nx ∧ (∀ y ∈ op, y.id ≠ id) ∧ v = 0 ∧ e = 12) ∨ (1 ≤ id ∧ id < nx ∧ e = 0 ∧ ∃ (k : Nat) (x : Cur), v = k ∧ op[k]? = some x ∧ x.id = id)
set_option maxHeartbeats 4000000 in
set_option maxRecDepth 100000 in
theorem dplace_any (D : Nat) (s : DkS) (A : Option Addr) (n c : Nat) (id : Int) (w : World) (hb : DkB w D s.nx s.now (.slice A n c) s.seg s.pts) (hr : Row w A n 5 (sR curC s.op)) (hn : n ≤ 9223372036854775807) :
    Calls Tryz.prog 36 #[.pointer (some ⟨D, 0, none⟩), .int .i64 id] w fun e w' => (∃ v k, e = .returned (.tuple #[.int .i64 v, .int .i64 k]) ∧ DkAt s.nx s.op id v k) ∧ Gr w w' := by
  obtain ⟨nx, now, op, seg, pts⟩ := s
  simp only at hb hr ⊢
  obtain ⟨W0, hW0⟩ : ∃ W0, W0 = w.alloc (.cells #[.int .i64 id] 3) := ⟨_, rfl⟩
  have g0 : Gr w W0 := by rw [hW0]; exact gr_alloc _ _ _
  have e0 : W0.cell? ⟨w.heap.size, 0, none⟩ = some (.int .i64 id) := by rw [hW0]; exact cell0_new _ _ _
  have hb0 := gr_blk g0 hb (by simp)
  obtain ⟨c0, c1, c2, c3, c4⟩ := dkb_cells (show DkB W0 D nx now (.slice A n c) seg pts from hb0)
  have cI := fun W (gW : Gr W0 W) => didx_desk (fun W => W.cell? ⟨w.heap.size, 0, none⟩ = some (.int .i64 id)) (fun y => y.id == id) (.pointer (some ⟨w.heap.size, 0, none⟩)) (fun x W hW => pdesk_any x w.heap.size id W hW) (fun W W' h g => gr_cell g h) A n c op W (row_gr hr (gr_trans g0 gW)) hn (gr_cell gW e0)
  replace cI := Lib.hid cI
  replace g0 := Lib.hid g0
  replace hW0 := Lib.hid hW0
  clear hb hb0 hr c1 c3 c4
  by_cases h1 : id < 1
  · go_enter Tryz.func36, Tryz.ntmps36
    go_upto_region 3 with fail
    rw [← hW0.out]
    go_quiet (fail)
    go_wp2
    (try simp only [Exit.inBlock, Exit.then])
    refine bodyPost_ret (by simp [results, Tryz.results36, go_sem]; try rfl) rfl ?_
    exact ⟨⟨_, _, rfl, .inl ⟨.inl h1, rfl, rfl⟩⟩, gr_trans g0.out (gr_drewN _ _ _)⟩
  · go_enter Tryz.func36, Tryz.ntmps36
    go_upto_region 3 with fail
    rw [← hW0.out]
    go_quiet (fail)
    rename_i nq
    have gd := gr_drewN W0 nq none
    have f0 := gr_cell gd c0
    have f2 := gr_cell gd c2
    have fe := gr_cell gd e0
    generalize W0.drewN nq = wd at *
    replace gd := Lib.hid gd
    clear c0 c2 e0
    by_cases h2 : nx ≤ id
    · go_wp2
      (try simp only [Exit.inBlock, Exit.then])
      refine bodyPost_ret (by simp [results, Tryz.results36, go_sem]; try rfl) rfl ?_
      exact ⟨⟨_, _, rfl, .inl ⟨.inr h2, rfl, rfl⟩⟩, gr_trans g0.out gd.out⟩
    · go_wp2_with fail
      refine (cI.out _ gd.out).mono ?_
      rintro e w1 ⟨⟨r, rfl, hix⟩, g1⟩
      clear cI
      rcases hix with ⟨rfl, hall⟩ | ⟨k, x, rfl, hx, hpx⟩
      · replace hall := Lib.hid hall
        go_wp2
        (try simp only [Exit.inBlock, Exit.then])
        refine bodyPost_ret (by simp [results, Tryz.results36, go_sem]; try rfl) rfl ?_
        exact ⟨⟨_, _, rfl, .inr (.inl ⟨by omega, by omega, fun y hy => by have := hall.out y hy; simpa using this, rfl, rfl⟩)⟩, gr_trans g0.out (gr_trans gd.out g1)⟩
      · replace hx := Lib.hid hx
        replace hpx := Lib.hid hpx
        have hk : ((k : Int) < 0) = False := eq_false (by omega)
        go_wp2
        (try simp only [Exit.inBlock, Exit.then])
        refine bodyPost_ret (by simp [results, Tryz.results36, go_sem]; try rfl) rfl ?_
        exact ⟨⟨_, _, rfl, .inr (.inr ⟨by omega, by omega, rfl, k, x, rfl, hx.out, by simpa using hpx.out.1⟩)⟩, gr_trans g0.out (gr_trans gd.out g1)⟩
end Go.Proofs.YtmldoeeangekoaaGreatDoor
namespace Go.Proofs.YtmldoeeangekoaaGreatDoor
open Go.RowKit

/-- A cursor whose pages may be. -/
def PgOk (x : Cur) : Prop := ∃ R S : Nat, x.rows = R ∧ x.size = S ∧ R ≤ 2000 ∧ 0 < S ∧ S ≤ 100
/-- What Find answers. -/
def FindIs (nx : Int) (op : List Cur) (l : List UInt8) (x : Cur) (fr e : Int) : Prop :=
  ((∀ m n : Nat, SlipOk m n → l ≠ slipL m n) ∧ x = cu0 ∧ fr = 0 ∧ e = 11) ∨
  ∃ m n : Nat, SlipOk m n ∧ l = slipL m n ∧
    ((∃ v, DkAt nx op m v e ∧ e ≠ 0 ∧ x = cu0 ∧ fr = 0) ∨
     ∃ (k : Nat) (y : Cur), (m : Int) < nx ∧ op[k]? = some y ∧ y.id = m ∧
       (((n : Int) ∈ pagesL y.size.toNat (pagesN y.rows.toNat y.size.toNat) ∧ x = y ∧ fr = n ∧ e = 0) ∨ ((n : Int) ∉ pagesL y.size.toNat (pagesN y.rows.toNat y.size.toNat) ∧ x = cu0 ∧ fr = 0 ∧ e = 11)))
def FindPost (nx : Int) (op : List Cur) (l : List UInt8) (w : World) (e : Ending) (w' : World) : Prop := ∃ x fr k, e = .returned (.tuple #[curV x, .int .i64 fr, .int .i64 k]) ∧ FindIs nx op l x fr k ∧ Gr w w'
theorem gr_over {w V V' : World} {b : Nat} (h : Gr w V) (k : GrB b V V') (hb : w.heap.size ≤ b) : Gr w V' :=
  ⟨by rw [k.os, h.os], by rw [k.tape, h.tape], by rw [k.output, h.output], Nat.le_trans h.size k.size, fun i hi hn => by rw [k.block i (Nat.lt_of_lt_of_le hi h.size) (by simp; omega), h.block i hi hn]⟩
set_option maxHeartbeats 8000000 in
set_option maxRecDepth 100000 in
theorem dfind_any (D : Nat) (s : DkS) (A : Option Addr) (n c : Nat) (l : List UInt8) (w : World) (hb : DkB w D s.nx s.now (.slice A n c) s.seg s.pts) (hr : Row w A n 5 (sR curC s.op)) (hn : n ≤ 9223372036854775807) (hv : Vars w) (hl : l.length ≤ 1000000) (hop : ∀ y ∈ s.op, PgOk y) :
    Calls Tryz.prog 22 #[.pointer (some ⟨D, 0, none⟩), .string (txt l)] w (FindPost s.nx s.op l w) := by
  obtain ⟨W1, hW1⟩ : ∃ W1, W1 = w.alloc (.cells #[.int .i64 0, .int .i64 0, .int .i64 0, .int .i64 0, .string ⟨#[]⟩] 52) := ⟨_, rfl⟩
  have g0 : Gr w W1 := by rw [hW1]; exact gr_alloc _ _ _
  have hres : CuB W1 w.heap.size cu0 := by rw [hW1]; exact blk_new w _
  have cG := get_any l W1 hl (vars_gr hv g0)
  have cO := fun (id : Int) W (g : Gr W1 W) => dplace_any D s A n c id W (gr_blk (gr_trans g0 g) hb (by simp)) (row_gr hr (gr_trans g0 g)) hn
  obtain ⟨nx, now, op, seg, pts⟩ := s
  simp only at hb hr hop cO ⊢
  have hB := fun W (g : Gr W1 W) => (dkb_cells (show DkB W D nx now (.slice A n c) seg pts from gr_blk (gr_trans g0 g) hb (by simp))).2.2.1
  have hR := fun W (g : Gr W1 W) => row_gr hr (gr_trans g0 g)
  replace cO := Lib.hid cO
  replace hB := Lib.hid hB
  replace hR := Lib.hid hR
  replace hop := Lib.hid hop
  replace hres := Lib.hid hres
  replace g0 := Lib.hid g0
  clear hb hr hv
  go_enter Tryz.func22, Tryz.ntmps22
  go_upto_region 1 with fail
  rw [← hW1]
  clear hW1
  go_wp2_with fail
  refine cG.mono ?_
  rintro e w1 ⟨a, b, cc, rfl, hget, g1⟩
  clear cG
  rcases hget with ⟨m, k, hok, rfl, rfl, rfl, rfl⟩ | ⟨hno, rfl, rfl, rfl⟩
  · replace hok := Lib.hid hok
    go_wp2_with fail
    refine (cO.out (m : Int) _ g1).mono ?_
    rintro e w2 ⟨⟨v, cd, rfl, hat⟩, g2⟩
    clear cO
    have g12 := gr_trans g1 g2
    clear g1 g2
    by_cases hcd : cd = 0
    · subst hcd
      obtain ⟨j, y, rfl, hj, hid, hm⟩ : ∃ (j : Nat) (y : Cur), v = j ∧ op[j]? = some y ∧ y.id = m ∧ (m : Int) < nx := by
        rcases hat with ⟨_, _, h⟩ | ⟨_, _, _, _, h⟩ | ⟨_, h, _, k, x, h1, h2, h3⟩
        · cases h
        · cases h
        · exact ⟨k, x, h1, h2, h3, h⟩
      have hy := List.mem_of_getElem? hj
      obtain ⟨R, S, hyr, hys, hR2, hS, hS2⟩ := hop.out y hy
      have hlen : op.length = n := by have := (hR.out _ g12).1; rw [sR_len curC 5 curC_len] at this; omega
      have hjn : j < n := by have := (List.getElem?_eq_some_iff.1 hj).1; omega
      obtain ⟨x, B, o, hx, rfl, _, hc⟩ := rowS_elem curC_len (hR.out _ g12) (by decide) hjn
      obtain rfl : x = y := by rw [hx] at hj; exact Option.some.inj hj
      have hji : (j : Int) < (n : Int) := by omega
      have hj0 : (0 : Int) ≤ (j : Int) := by omega
      have d0 : w2.cell? ⟨B, o + j * 5, none⟩ = some (.int .i64 x.id) := hc 0 (by decide)
      have d1 : w2.cell? ⟨B, o + j * 5 + 1, none⟩ = some (.int .i64 x.rows) := hc 1 (by decide)
      have d2 : w2.cell? ⟨B, o + j * 5 + 2, none⟩ = some (.int .i64 x.size) := hc 2 (by decide)
      have d3 : w2.cell? ⟨B, o + j * 5 + 3, none⟩ = some (.int .i64 x.tl) := hc 3 (by decide)
      have d4 : w2.cell? ⟨B, o + j * 5 + 4, none⟩ = some (.string (txt x.file)) := hc 4 (by decide)
      have c2 := hB.out _ g12
      have cP := fun W => pages_any R S W hR2 hS hS2
      have hpe : pagesL x.size.toNat (pagesN x.rows.toNat x.size.toNat) = pagesL S (pagesN R S) := by rw [hyr, hys]; rfl
      have hN0 : 0 < pagesN R S := by unfold pagesN; omega
      have hN1 := (pages_small hR2 hS hS2 hN0 (Nat.le_refl _)).2
      have fin : ∀ w', Gr w w' → ∀ (z : Cur) (fr ee : Int), (((k : Int) ∈ pagesL S (pagesN R S) ∧ z = x ∧ fr = k ∧ ee = 0) ∨ ((k : Int) ∉ pagesL S (pagesN R S) ∧ z = cu0 ∧ fr = 0 ∧ ee = 11)) → FindPost nx op (slipL m k) w (.returned (.tuple #[curV z, .int .i64 fr, .int .i64 ee])) w' := fun w' g z fr ee h =>
        ⟨z, fr, ee, rfl, .inr ⟨m, k, hok.out, rfl, .inr ⟨j, x, hm, hx, hid, by rw [hpe]; exact h⟩⟩, g⟩
      replace fin := Lib.hid fin
      replace cP := Lib.hid cP
      replace g12 := Lib.hid g12
      obtain ⟨xi, xr, xs, xt, xf⟩ := x
      simp only at hyr hys d0 d1 d2 d3 d4 fin
      subst hyr hys
      clear hc hx hj hy hat hid hlen hpe hop hR hB
      go_wp2_with fail
      refine (cP.out _).mono ?_
      rintro e w3 ⟨v, rfl, hown, g3⟩
      obtain ⟨A2, c2', rfl, _, _⟩ := own_open hown
      have hrow := row_own hown
      have cK := contains_any (k : Int) A2 _ c2' _ w3 hrow (by omega)
      clear hown hrow cP
      go_wp2_with fail
      refine cK.mono ?_
      rintro e w4 ⟨rfl, g4⟩
      have g34 := gr_trans g3 g4
      have hX : CuB w4 w2.heap.size ⟨xi, (R : Int), (S : Int), xt, xf⟩ := gr_blk g34 (blk_new w2 _) (by simp)
      obtain ⟨x0, x1, x2, x3, x4⟩ := cub_cells hX
      simp only at x0 x1 x2 x3 x4
      have g14 := gr_trans g12.out (gr_trans (gr_alloc _ _ _) g34)
      replace g14 := Lib.hid g14
      clear cK g3 g4 g12 g34 hX d0 d1 d2 d3 d4 c2
      by_cases hin : (k : Int) ∈ pagesL S (pagesN R S)
      · rw [decide_eq_true hin]
        replace hin := Lib.hid hin
        have hRf := gr_blk (g14.out) hres.out (by simp)
        have hth := cub_there (show CuB w4 w.heap.size cu0 from hRf)
        have hsame := World.rangeAt_setCells_same w4 w.heap.size 0 [.int .i64 xi, .int .i64 (R : Int), .int .i64 (S : Int), .int .i64 xt, .string (txt xf)] hth
        have r0 := hsame 0 _ rfl
        have r1 := hsame 1 _ rfl
        have r2 := hsame 2 _ rfl
        have r3 := hsame 3 _ rfl
        have r4 := hsame 4 _ rfl
        simp only [Nat.zero_add] at r0 r1 r2 r3 r4
        have hgs := gr_over (gr_trans g0.out (g14.out)) (gr_setCells w4 w.heap.size 0 [.int .i64 xi, .int .i64 (R : Int), .int .i64 (S : Int), .int .i64 xt, .string (txt xf)]) (Nat.le_refl _)
        replace hgs := Lib.hid hgs
        clear hsame hRf
        go_wp2_with (refine wpList_store_mid (op := ⟨none, _, _, _, _, _⟩) rfl 52 _ _ rfl w.heap.size 0 #[.int .i64 xi, .int .i64 (R : Int), .int .i64 (S : Int), .int .i64 xt, .string (txt xf)] rfl rfl hth infoCu (by simp [Value.oneCell']) ?_)
        (try simp only [Exit.inBlock, Exit.then])
        refine bodyPost_ret (by simp [results, Tryz.results22, go_sem, r0, r1, r2, r3, r4]; try rfl) rfl ?_
        exact fin.out _ hgs.out _ _ _ (.inl ⟨hin.out, rfl, rfl, rfl⟩)
      · rw [decide_eq_false hin]
        replace hin := Lib.hid hin
        have hRf := gr_blk (g14.out) hres.out (by simp)
        have hth := cub_there (show CuB w4 w.heap.size cu0 from hRf)
        have hsame := World.rangeAt_setCells_same w4 w.heap.size 0 [.int .i64 0, .int .i64 0, .int .i64 0, .int .i64 0, .string ⟨#[]⟩] hth
        have r0 := hsame 0 _ rfl
        have r1 := hsame 1 _ rfl
        have r2 := hsame 2 _ rfl
        have r3 := hsame 3 _ rfl
        have r4 := hsame 4 _ rfl
        simp only [Nat.zero_add] at r0 r1 r2 r3 r4
        have hgs := gr_over (gr_trans g0.out (g14.out)) (gr_setCells w4 w.heap.size 0 [.int .i64 0, .int .i64 0, .int .i64 0, .int .i64 0, .string ⟨#[]⟩]) (Nat.le_refl _)
        replace hgs := Lib.hid hgs
        clear hsame hRf
        go_wp2_with (refine wpList_store_mid (op := ⟨none, _, _, _, _, _⟩) rfl 52 _ _ rfl w.heap.size 0 #[.int .i64 0, .int .i64 0, .int .i64 0, .int .i64 0, .string ⟨#[]⟩] rfl rfl hth infoCu (by simp [Value.oneCell']) ?_)
        (try simp only [Exit.inBlock, Exit.then])
        refine bodyPost_ret (by simp [results, Tryz.results22, go_sem, r0, r1, r2, r3, r4]; try rfl) rfl ?_
        exact fin.out _ hgs.out _ _ _ (.inr ⟨hin.out, rfl, rfl, rfl⟩)
    · have hcF : (cd == 0) = false := eqF hcd
      have hcN : (cd != 0) = true := by simp [hcd]
      replace hcd := Lib.hid hcd
      replace hat := Lib.hid hat
      replace g12 := Lib.hid g12
      have hRf := gr_blk (g12.out) hres.out (by simp)
      have hth := cub_there (show CuB w2 w.heap.size cu0 from hRf)
      have hsame := World.rangeAt_setCells_same w2 w.heap.size 0 [.int .i64 0, .int .i64 0, .int .i64 0, .int .i64 0, .string ⟨#[]⟩] hth
      have r0 := hsame 0 _ rfl
      have r1 := hsame 1 _ rfl
      have r2 := hsame 2 _ rfl
      have r3 := hsame 3 _ rfl
      have r4 := hsame 4 _ rfl
      simp only [Nat.zero_add] at r0 r1 r2 r3 r4
      have hgs := gr_over (gr_trans g0.out (g12.out)) (gr_setCells w2 w.heap.size 0 [.int .i64 0, .int .i64 0, .int .i64 0, .int .i64 0, .string ⟨#[]⟩]) (Nat.le_refl _)
      replace hgs := Lib.hid hgs
      clear hsame hRf
      go_wp2_with (refine wpList_store_mid (op := ⟨none, _, _, _, _, _⟩) rfl 52 _ _ rfl w.heap.size 0 #[.int .i64 0, .int .i64 0, .int .i64 0, .int .i64 0, .string ⟨#[]⟩] rfl rfl hth infoCu (by simp [Value.oneCell']) ?_)
      (try simp only [Exit.inBlock, Exit.then])
      refine bodyPost_ret (by simp [results, Tryz.results22, go_sem, r0, r1, r2, r3, r4]; try rfl) rfl ?_
      exact ⟨cu0, 0, _, rfl, .inr ⟨m, k, hok.out, rfl, .inl ⟨_, hat.out, hcd.out, rfl, rfl⟩⟩, hgs.out⟩
  · replace hno := Lib.hid hno
    replace g1 := Lib.hid g1
    have hRf := gr_blk (g1.out) hres.out (by simp)
    have hth := cub_there (show CuB w1 w.heap.size cu0 from hRf)
    have hsame := World.rangeAt_setCells_same w1 w.heap.size 0 [.int .i64 0, .int .i64 0, .int .i64 0, .int .i64 0, .string ⟨#[]⟩] hth
    have r0 := hsame 0 _ rfl
    have r1 := hsame 1 _ rfl
    have r2 := hsame 2 _ rfl
    have r3 := hsame 3 _ rfl
    have r4 := hsame 4 _ rfl
    simp only [Nat.zero_add] at r0 r1 r2 r3 r4
    have hgs := gr_over (gr_trans g0.out (g1.out)) (gr_setCells w1 w.heap.size 0 [.int .i64 0, .int .i64 0, .int .i64 0, .int .i64 0, .string ⟨#[]⟩]) (Nat.le_refl _)
    replace hgs := Lib.hid hgs
    clear hsame hRf
    go_wp2_with (refine wpList_store_mid (op := ⟨none, _, _, _, _, _⟩) rfl 52 _ _ rfl w.heap.size 0 #[.int .i64 0, .int .i64 0, .int .i64 0, .int .i64 0, .string ⟨#[]⟩] rfl rfl hth infoCu (by simp [Value.oneCell']) ?_)
    (try simp only [Exit.inBlock, Exit.then])
    refine bodyPost_ret (by simp [results, Tryz.results22, go_sem, r0, r1, r2, r3, r4]; try rfl) rfl ?_
    exact ⟨cu0, 0, _, rfl, .inl ⟨hno.out, rfl, rfl, rfl⟩, hgs.out⟩
end Go.Proofs.YtmldoeeangekoaaGreatDoor
namespace Go.Proofs.YtmldoeeangekoaaGreatDoor
open Go.RowKit

def NxtIs (m R S : Nat) (fr : Int) (l : List UInt8) : Prop := (∃ k : Nat, fr = (k * S : Nat) ∧ k + 1 < pagesN R S ∧ l = slipL m ((k + 1) * S)) ∨ ((∀ k : Nat, k + 1 < pagesN R S → fr ≠ (k * S : Nat)) ∧ l = [])
set_option maxHeartbeats 4000000 in
set_option maxRecDepth 100000 in
theorem dnext_any (D m R S : Nat) (tl : Int) (F : List UInt8) (fr : Int) (w : World) (hm : 1 ≤ m ∧ m ≤ 1000000) (hR : R ≤ 2000) (hS : 0 < S) (hS2 : S ≤ 100) (hv : Vars w) :
    Calls Tryz.prog 24 #[.pointer (some ⟨D, 0, none⟩), .agg #[.int .i64 m, .int .i64 R, .int .i64 S, .int .i64 tl, .string (txt F)], .int .i64 fr] w fun e w' => (∃ l, e = .returned (.string (txt l)) ∧ NxtIs m R S fr l) ∧ Gr w w' := by
  have cN := fun W => next_any R S fr W hR hS hS2
  obtain ⟨W1, hW1⟩ : ∃ W1, W1 = w.alloc (.cells #[.int .i64 m, .int .i64 R, .int .i64 S, .int .i64 tl, .string (txt F)] 52) := ⟨_, rfl⟩
  have g0 : Gr w W1 := by rw [hW1]; exact gr_alloc _ _ _
  have hX : CuB W1 w.heap.size ⟨m, R, S, tl, F⟩ := by rw [hW1]; exact blk_new w _
  obtain ⟨x0, x1, x2, x3, x4⟩ := cub_cells hX
  simp only at x0 x1 x2 x3 x4
  replace cN := Lib.hid cN
  replace hX := Lib.hid hX
  replace hv := Lib.hid hv
  go_enter Tryz.func24, Tryz.ntmps24
  go_upto_region 1 with fail
  rw [← hW1]
  clear hW1
  replace g0 := Lib.hid g0
  go_wp2_with fail
  refine (cN.out _).mono ?_
  rintro e w1 ⟨v, b, rfl, hnx, g1⟩
  clear cN x0 x1 x2 x3 x4
  obtain ⟨y0, y1, y2, y3, y4⟩ := cub_cells (show CuB w1 w.heap.size ⟨m, R, S, tl, F⟩ from gr_blk g1 hX.out (by simp))
  simp only at y0 y1 y2 y3 y4
  rcases hnx with ⟨k, rfl, hk, rfl, rfl⟩ | ⟨hno, rfl, rfl⟩
  · have hlt : (k + 1) * S < R := (pages_more hS (Nat.succ_pos k)).1 hk
    have hok : SlipOk m ((k + 1) * S) := ⟨hm.1, hm.2, by omega⟩
    have hv1 := vars_gr hv.out (gr_trans g0.out g1)
    have cP := fun W (g : Gr w1 W) => put_ok m ((k + 1) * S) W hok (vars_gr hv1 g)
    have fin : NxtIs m R S ((k * S : Nat) : Int) (slipL m ((k + 1) * S)) := .inl ⟨k, rfl, hk, rfl⟩
    generalize ((k + 1) * S : Nat) = V at *
    generalize slipL m V = L at *
    replace cP := Lib.hid cP
    replace fin := Lib.hid fin
    replace g1 := Lib.hid g1
    clear hk hlt hok
    go_wp2_with fail
    refine (cP.out _ (by first | exact gr_refl _ _ | exact gr_drew _ _ | exact gr_drewN _ _ _)).mono ?_
    rintro e w2 ⟨rfl, g2⟩
    clear cP
    go_wp2
    go_ret
    exact ⟨⟨_, rfl, fin.out⟩, gr_trans g0.out (gr_trans g1.out g2)⟩
  · replace hno := Lib.hid hno
    go_wp2
    go_ret
    exact ⟨⟨[], rfl, .inr ⟨hno.out, rfl⟩⟩, gr_trans g0.out g1⟩
end Go.Proofs.YtmldoeeangekoaaGreatDoor
namespace Go.Proofs.YtmldoeeangekoaaGreatDoor
open Go.RowKit

theorem gr_overS {S : Nat → Prop} {w V V' : World} (h : Gr w V) (k : GrS S V V') (hs : ∀ i, S i → w.heap.size ≤ i) : Gr w V' :=
  ⟨by rw [k.os, h.os], by rw [k.tape, h.tape], by rw [k.output, h.output], Nat.le_trans h.size k.size, fun i hi hn => by rw [k.block i (Nat.lt_of_lt_of_le hi h.size) (fun e => by have := hs i e; omega), h.block i hi hn]⟩
/-- Behind world w came a desk D, in that state. -/
structure DkIn (w wi : World) (D : Nat) (s : DkS) (A : Option Addr) (n c : Nat) : Prop where
  gr : Gr w wi
  dk : DkIs wi D w.heap.size s A n c
  le : w.heap.size ≤ D
theorem dkIn_gr {w wi w' : World} {D : Nat} {s : DkS} {A : Option Addr} {n c : Nat} (h : DkIn w wi D s A n c) (g : Gr wi w') : DkIn w w' D s A n c := ⟨gr_trans h.gr g, dkIs_gr h.dk g, h.le⟩
theorem dkIn_tn {w wi : World} {D : Nat} {s : DkS} {A : Option Addr} {n c : Nat} (h : DkIn w wi D s A n c) : ∀ i, TnD D (Value.slice A n c).ownBlock i → w.heap.size ≤ i := by
  intro i hi
  rcases hi with rfl | hi
  · exact h.le
  · exact (h.dk.own.lt i hi).1
theorem dkin_new (w wi : World) (hg : Gr w wi) : Calls Tryz.prog 6 #[.agg #[.int .i64 1, .int .i64 0, .slice none 0 0, .string (txt []), .int .i64 0]] wi fun e w' => ∃ D, e = .returned (.pointer (some ⟨D, 0, none⟩)) ∧ DkIn w w' D ⟨1, 0, [], [], 0⟩ none 0 0 := by
  refine (new0 1 0 0 [] wi).mono ?_
  rintro e w' ⟨⟨D, rfl, hD, hb⟩, g⟩
  exact ⟨D, rfl, gr_trans hg g, ⟨hb, World.ownsRow_nil _ _ _ _⟩, Nat.le_trans hg.size hD⟩
theorem dkin_open {w wi : World} {D : Nat} {s : DkS} {A : Option Addr} {n c : Nat} (h : DkIn w wi D s A n c) (hv : Vars w) (rows size ticks id : Nat) (hr : rows ≤ 2000) (hs : 1 ≤ size) (hs2 : size ≤ 100) (ht : ticks ≤ 100000) (hnow : 0 ≤ s.now ∧ s.now + ticks ≤ 1000000000) (hn : n < 20) (hid : s.nx = (id : Int)) (hid2 : 1 ≤ id ∧ id ≤ 1000000) :
    Calls Tryz.prog 11 #[.pointer (some ⟨D, 0, none⟩), .int .i64 rows, .int .i64 size, .int .i64 ticks] wi fun e w' => e = .returned (.tuple #[curV ⟨id, rows, size, s.now + ticks, runL id⟩, .int .i64 0]) ∧ (∃ A' c', DkIn w w' D ⟨id + 1, s.now, s.op ++ [⟨id, rows, size, s.now + ticks, runL id⟩], s.seg, s.pts⟩ A' (n + 1) c') ∧ GrS (TnD D (Value.slice A n c).ownBlock) wi w' := by
  refine (dopen_any D w.heap.size s A n c rows size ticks id wi h.dk (vars_gr hv h.gr) h.gr.size hr hs hs2 ht hnow hn hid hid2).mono ?_
  rintro e w' ⟨rfl, ⟨A', c', hd⟩, g⟩
  exact ⟨rfl, ⟨A', c', gr_overS h.gr g (dkIn_tn h), hd, h.le⟩, g⟩
theorem dkin_find {w wi : World} {D : Nat} {s : DkS} {A : Option Addr} {n c : Nat} (h : DkIn w wi D s A n c) (hv : Vars w) (hn : n ≤ 9223372036854775807) (hop : ∀ y ∈ s.op, PgOk y) (l : List UInt8) (hl : l.length ≤ 1000000) :
    Calls Tryz.prog 22 #[.pointer (some ⟨D, 0, none⟩), .string (txt l)] wi (FindPost s.nx s.op l wi) :=
  dfind_any D s A n c l wi h.dk.blk (row_own h.dk.own) hn (vars_gr hv h.gr) hl hop
/-! What Find answers at a slip of a desk of one cursor -/
theorem mem_pages {R S n : Nat} (h : (n : Int) ∈ pagesL S (pagesN R S)) : ∃ k, k < pagesN R S ∧ n = k * S := by
  unfold pagesL at h
  rw [List.mem_map] at h
  obtain ⟨k, hk, e⟩ := h
  exact ⟨k, List.mem_range.1 hk, by omega⟩
theorem pages_mem {R S k : Nat} (h : k < pagesN R S) : ((k * S : Nat) : Int) ∈ pagesL S (pagesN R S) := by
  unfold pagesL
  exact List.mem_map.2 ⟨k, List.mem_range.2 h, rfl⟩
theorem find_one {C x : Cur} {R S m n : Nat} {fr e : Int} (h : FindIs 2 [C] (slipL m n) x fr e) (hid : C.id = 1) (hR : C.rows = R) (hS : C.size = S) (hok : SlipOk m n) :
    (m = 1 ∧ (((n : Int) ∈ pagesL S (pagesN R S) ∧ x = C ∧ fr = n ∧ e = 0) ∨ ((n : Int) ∉ pagesL S (pagesN R S) ∧ x = cu0 ∧ fr = 0 ∧ e = 11))) ∨ (m ≠ 1 ∧ x = cu0 ∧ fr = 0 ∧ e = 11) := by
  rcases h with ⟨h, _⟩ | ⟨m', n', hok', hsl, h⟩
  · exact absurd rfl (h m n hok)
  · obtain ⟨rfl, rfl⟩ := slip_inj hsl
    rcases h with ⟨v, hat, hne, rfl, rfl⟩ | ⟨k, y, hm, hy, hyid, h⟩
    · rcases hat with ⟨h1, _, rfl⟩ | ⟨h1, h2, h3, _⟩ | ⟨_, _, h3, _⟩
      · right; have := hok.1; exact ⟨by omega, rfl, rfl, rfl⟩
      · exfalso; have := h3 C (by simp); omega
      · exact absurd h3 hne
    · obtain rfl : y = C := by simpa using List.mem_of_getElem? hy
      left
      rw [hR, hS] at h
      exact ⟨by omega, h⟩
theorem slip_1_20 : slipL 1 20 = [112, 49, 46, 50, 48] := by
  unfold slipL
  rw [Go.Lib.decDigits_one (show 1 < 10 by omega), Go.Lib.decDigits_two (show ¬ 20 < 10 by omega) (show 20 < 100 by omega)]
  rfl
theorem slip_1_5 : slipL 1 5 = [112, 49, 46, 53] := by
  unfold slipL
  rw [Go.Lib.decDigits_one (show 1 < 10 by omega), Go.Lib.decDigits_one (show 5 < 10 by omega)]
  rfl
theorem slip_2_0 : slipL 2 0 = [112, 50, 46, 48] := by
  unfold slipL
  rw [Go.Lib.decDigits_one (show 2 < 10 by omega), Go.Lib.decDigits_one (show 0 < 10 by omega)]
  rfl
theorem run_1 : runL 1 = [114, 117, 110, 45, 49] := by
  unfold runL
  rw [Go.Lib.decDigits_one (show 1 < 10 by omega)]
  rfl
set_option maxHeartbeats 8000000 in
set_option maxRecDepth 100000 in
theorem alive_any (w : World) (hv : Vars w) : Calls Tryz.prog 5 #[] w fun e w' => e = .returned (.bool true) ∧ Gr w w' := by
  have cF := fun W => fold0 W
  replace cF := Lib.hid cF
  replace hv := Lib.hid hv
  go_enter Tryz.func5, Tryz.ntmps5
  go_wp2_with fail
  refine (cF.out _).mono ?_
  rintro e w1 ⟨rfl, g1⟩
  go_wp2_with fail
  refine (dkin_new w w1 g1).mono ?_
  rintro e w2 ⟨D, rfl, h2⟩
  clear cF g1
  replace h2 := Lib.hid h2
  go_wp2_with fail
  refine (dkin_open (dkIn_gr h2.out (by first | exact gr_refl _ _ | exact gr_alloc _ _ _)) hv.out 25 10 5 1 (by omega) (by omega) (by omega) (by omega) (by simp only; omega) (by omega) rfl (by omega)).mono ?_
  rintro e w3 ⟨rfl, ⟨A, c, h3⟩, gS⟩
  have h3' : DkIn w w3 D ⟨2, 0, [⟨1, 25, 10, 5, runL 1⟩], [], 0⟩ A 1 c := h3
  have hop : ∀ y ∈ ([⟨1, 25, 10, 5, runL 1⟩] : List Cur), PgOk y := fun y hy => by
    rw [List.mem_singleton.1 hy]
    exact ⟨25, 10, rfl, rfl, by omega, by omega, by omega⟩
  have e20 : txt (slipL 1 20) = ⟨#[112, 49, 46, 50, 48]⟩ := by rw [slip_1_20]; rfl
  have e5 : txt (slipL 1 5) = ⟨#[112, 49, 46, 53]⟩ := by rw [slip_1_5]; rfl
  have e0 : txt (slipL 2 0) = ⟨#[112, 50, 46, 48]⟩ := by rw [slip_2_0]; rfl
  have er : txt (runL 1) = ⟨#[114, 117, 110, 45, 49]⟩ := by rw [run_1]; rfl
  have len : ∀ m n, SlipOk m n → (slipL m n).length ≤ 1000000 := fun m n h => by have := (slip_len h).1; omega
  have k1 : SlipOk 1 20 := by unfold SlipOk; omega
  have k2 : SlipOk 1 5 := by unfold SlipOk; omega
  have k3 : SlipOk 2 0 := by unfold SlipOk; omega
  have f1 := fun W (g : Gr w3 W) => dkin_find (dkIn_gr h3' g) hv.out (by omega) hop (slipL 1 20) (len _ _ k1)
  have f2 := fun W (g : Gr w3 W) => dkin_find (dkIn_gr h3' g) hv.out (by omega) hop (slipL 1 5) (len _ _ k2)
  have f3 := fun W (g : Gr w3 W) => dkin_find (dkIn_gr h3' g) hv.out (by omega) hop (slipL 2 0) (len _ _ k3)
  have n1 := fun W (g : Gr w3 W) => dnext_any D 1 25 10 5 (runL 1) 10 W (by omega) (by omega) (by omega) (by omega) (vars_gr hv.out (gr_trans h3'.gr g))
  have n2 := fun W (g : Gr w3 W) => dnext_any D 1 25 10 5 (runL 1) 20 W (by omega) (by omega) (by omega) (by omega) (vars_gr hv.out (gr_trans h3'.gr g))
  have gw := h3'.gr
  rw [e20] at f1
  rw [e5] at f2
  rw [e0] at f3
  unfold curV
  simp only [er] at n1 n2 ⊢
  clear h3 gS hop h2
  replace h3' := Lib.hid h3'
  replace f1 := Lib.hid f1
  replace f2 := Lib.hid f2
  replace f3 := Lib.hid f3
  replace n1 := Lib.hid n1
  replace n2 := Lib.hid n2
  replace gw := Lib.hid gw
  have hX := blk_new w3 (.cells #[.int .i64 1, .int .i64 25, .int .i64 10, .int .i64 5, .string ⟨#[114, 117, 110, 45, 49]⟩] 52)
  have gX := gr_alloc w3 (.cells #[.int .i64 1, .int .i64 25, .int .i64 10, .int .i64 5, .string ⟨#[114, 117, 110, 45, 49]⟩] 52) none
  replace hX := Lib.hid hX
  go_wp2_with fail
  refine (f1.out _ gX).mono ?_
  rintro e w4 ⟨x, fr, k, rfl, hf, g4⟩
  have hX4 := gr_blk g4 hX.out (by simp)
  replace g4 := gr_trans gX g4
  clear hX gX
  replace hX4 := Lib.hid hX4
  have cu : curV cu0 = .agg #[.int .i64 0, .int .i64 0, .int .i64 0, .int .i64 0, .string ⟨#[]⟩] := rfl
  obtain ⟨rfl, rfl, rfl⟩ : x = ⟨1, 25, 10, 5, runL 1⟩ ∧ fr = 20 ∧ k = 0 := by
    rcases find_one (R := 25) (S := 10) hf rfl rfl rfl k1 with ⟨_, ⟨_, e1, e2, e3⟩ | ⟨h, _⟩⟩ | ⟨h, _⟩
    · exact ⟨e1, e2, e3⟩
    · exact absurd (pages_mem (R := 25) (S := 10) (k := 2) (by decide)) h
    · exact absurd rfl h
  unfold curV
  simp only [er]
  clear hf
  go_wp2_with fail
  refine (f2.out _ (gr_trans g4 (gr_alloc _ _ _))).mono ?_
  rintro e w5 ⟨x, fr, k, rfl, hf, g5⟩
  obtain ⟨rfl, rfl, rfl⟩ : x = cu0 ∧ fr = 0 ∧ k = 11 := by
    rcases find_one (R := 25) (S := 10) hf rfl rfl rfl k2 with ⟨_, ⟨h, _⟩ | ⟨_, h⟩⟩ | ⟨h, _⟩
    · obtain ⟨q, _, hq⟩ := mem_pages h
      omega
    · exact h
    · exact absurd rfl h
  clear hf
  rw [cu]
  go_wp2_with fail
  refine (f3.out _ (gr_trans (gr_trans g4 (gr_alloc _ _ _)) (gr_trans g5 (gr_alloc _ _ _)))).mono ?_
  rintro e w6 ⟨x, fr, k, rfl, hf, g6⟩
  obtain ⟨rfl, rfl, rfl⟩ : x = cu0 ∧ fr = 0 ∧ k = 11 := by
    rcases find_one (R := 25) (S := 10) hf rfl rfl rfl k3 with ⟨h, _⟩ | ⟨_, h⟩
    · cases h
    · exact h
  clear hf
  rw [cu]
  have g36 := gr_trans (gr_trans (gr_trans g4 (gr_alloc w4 (.cells #[.int .i64 1, .int .i64 25, .int .i64 10, .int .i64 5, .string ⟨#[114, 117, 110, 45, 49]⟩] 52) none)) (gr_trans g5 (gr_alloc w5 (.cells #[.int .i64 0, .int .i64 0, .int .i64 0, .int .i64 0, .string ⟨#[]⟩] 52) none))) (gr_trans g6 (gr_alloc w6 (.cells #[.int .i64 0, .int .i64 0, .int .i64 0, .int .i64 0, .string ⟨#[]⟩] 52) none))
  have hX6 := gr_blk (gr_trans (gr_trans (gr_alloc w4 (.cells #[.int .i64 1, .int .i64 25, .int .i64 10, .int .i64 5, .string ⟨#[114, 117, 110, 45, 49]⟩] 52) none) (gr_trans g5 (gr_alloc w5 (.cells #[.int .i64 0, .int .i64 0, .int .i64 0, .int .i64 0, .string ⟨#[]⟩] 52) none))) (gr_trans g6 (gr_alloc w6 (.cells #[.int .i64 0, .int .i64 0, .int .i64 0, .int .i64 0, .string ⟨#[]⟩] 52) none))) hX4.out (by simp)
  clear g4 g5 g6 f1 f2 f3 hX4
  go_upto_region 8 with fail
  generalize w6.alloc (.cells #[.int .i64 0, .int .i64 0, .int .i64 0, .int .i64 0, .string ⟨#[]⟩] 52) = W6 at g36 hX6 ⊢
  have x0 : W6.cell? ⟨w3.heap.size, 0, none⟩ = some (.int .i64 1) := fcellD hX6 rfl
  have x1 : W6.cell? ⟨w3.heap.size, 1, none⟩ = some (.int .i64 25) := fcellD hX6 rfl
  have x2 : W6.cell? ⟨w3.heap.size, 2, none⟩ = some (.int .i64 10) := fcellD hX6 rfl
  have x3 : W6.cell? ⟨w3.heap.size, 3, none⟩ = some (.int .i64 5) := fcellD hX6 rfl
  have x4 : W6.cell? ⟨w3.heap.size, 4, none⟩ = some (.string ⟨#[114, 117, 110, 45, 49]⟩) := fcellD hX6 rfl
  replace hX6 := Lib.hid hX6
  go_wp2_with fail
  refine (n1.out _ (by first | exact g36 | exact gr_trans g36 (gr_drew _ _) | exact gr_trans g36 (gr_drewN _ _ _))).mono ?_
  rintro e w7 ⟨⟨l, rfl, hl⟩, g7⟩
  obtain rfl : l = slipL 1 20 := by
    rcases hl with ⟨q, hq, _, hl⟩ | ⟨h, _⟩
    · have : q = 1 := by omega
      subst this
      exact hl
    · exact absurd rfl (h 1 (by decide))
  rw [e20]
  clear hl
  have y0 := gr_cell g7 x0
  have y1 := gr_cell g7 x1
  have y2 := gr_cell g7 x2
  have y3 := gr_cell g7 x3
  have y4 := gr_cell g7 x4
  clear x0 x1 x2 x3 x4
  go_wp2_with fail
  refine (n2.out _ (by first | exact gr_trans g36 g7 | exact gr_trans g36 (gr_trans (gr_drew _ _) g7) | exact gr_trans g36 (gr_trans (gr_drewN _ _ _) g7))).mono ?_
  rintro e w8 ⟨⟨l, rfl, hl⟩, g8⟩
  obtain rfl : l = [] := by
    rcases hl with ⟨q, hq, h, _⟩ | ⟨_, h⟩
    · have : q = 2 := by omega
      subst this
      exact absurd h (by decide)
    · exact h
  clear hl
  go_wp2
  go_ret
  exact ⟨rfl, gr_trans gw.out (gr_trans g36 (gr_trans g7 g8))⟩
end Go.Proofs.YtmldoeeangekoaaGreatDoor
