/-
  A chest in memory; whether names may be; a deed's beginning and its end. No condition but bounds.
-/
import Derived.Test.YtbkhopfoabdeiaaChestMap
import Derived.Test.YtbkhopfoabdeiaaBookMath
import Derived.Test.YtbkhopfoabdeiaaAppendRow
import Derived.Test.YtbkhopfoabdeiaaQuietGr
import Derived.Deep.RegionLaw
namespace Go.Proofs.Ytbkhopfoabdeiaa
open Go.RowKit Go.Maps

theorem fcellC {w : World} {b : Nat} {cs : Array Value} {t : TypeId} {fr : Nat × Nat} (h : w.heap[b]? = some (.cells cs t fr)) {j : Nat} {v : Value} (hj : cs[j]? = some v) : w.cell? ⟨b, j, none⟩ = some v := by
  unfold World.cell?
  rw [h]
  simpa using hj
theorem fzeroC {w : World} {b : Nat} {cs : Array Value} {t : TypeId} (h : w.heap[b]? = some (.cells cs t (0, 0))) (j : Nat) : w.frozen? ⟨b, j, none⟩ = false := by
  unfold World.frozen?
  rw [h]
  simp
/-- Block C is a chest. -/
def ChB (w : World) (C M : Nat) (q : Int) (off : Bool) (dd : Int) : Prop := w.heap[C]? = some (.cells #[.int .i64 q, .map (some M), .bool off, .bool false, .int .i64 0, .slice none 0 0, .int .i64 dd] 44 (0, 0))
theorem chb_cells {w : World} {C M : Nat} {q dd : Int} {off : Bool} (h : ChB w C M q off dd) : w.cell? ⟨C, 0, none⟩ = some (.int .i64 q) ∧ w.cell? ⟨C, 1, none⟩ = some (.map (some M)) ∧ w.cell? ⟨C, 2, none⟩ = some (.bool off) ∧ w.cell? ⟨C, 3, none⟩ = some (.bool false) ∧ w.cell? ⟨C, 4, none⟩ = some (.int .i64 0) ∧ w.cell? ⟨C, 5, none⟩ = some (.slice none 0 0) ∧ w.cell? ⟨C, 6, none⟩ = some (.int .i64 dd) :=
  ⟨fcellC h rfl, fcellC h rfl, fcellC h rfl, fcellC h rfl, fcellC h rfl, fcellC h rfl, fcellC h rfl⟩
/-- Behind world w came a chest C, with map M: just these files. -/
structure ChIs (w wi : World) (C M : Nat) (q : Int) (fs : Fs) (off : Bool) (dd : Int) : Prop where
  gr : Gr w wi
  blk : ChB wi C M q off dd
  map : MapF wi M fs
  le : w.heap.size ≤ C ∧ w.heap.size ≤ M
theorem ch_ne {w wi : World} {C M : Nat} {q dd : Int} {fs : Fs} {off : Bool} (h : ChIs w wi C M q fs off dd) : C ≠ M := by
  intro e
  subst e
  obtain ⟨es, clock, hb, _⟩ := h.map
  have := h.blk
  unfold ChB at this
  rw [this] at hb
  cases hb
/-- What may turn. -/
def TnC (C M : Nat) (k : Nat) : Prop := k = C ∨ k = M
theorem ch_gr {w wi w' : World} {C M : Nat} {q dd : Int} {fs : Fs} {off : Bool} (h : ChIs w wi C M q fs off dd) (g : Gr wi w') : ChIs w w' C M q fs off dd :=
  ⟨gr_trans h.gr g, gr_blk g h.blk (by simp), mapF_gr h.map g, h.le⟩
theorem gr_overC {w V V' : World} {b : Nat} (h : Gr w V) (k : GrB b V V') (hb : w.heap.size ≤ b) : Gr w V' :=
  ⟨by rw [k.os, h.os], by rw [k.tape, h.tape], by rw [k.output, h.output], Nat.le_trans h.size k.size, fun i hi hn => by rw [k.block i (Nat.lt_of_lt_of_le hi h.size) (by simp; omega), h.block i hi hn]⟩
/-- The map alone has turned. -/
theorem ch_map {w wi w' : World} {C M : Nat} {q dd : Int} {fs fs' : Fs} {off : Bool} (h : ChIs w wi C M q fs off dd) (g : GrB M wi w') (hm : MapF w' M fs') : ChIs w w' C M q fs' off dd :=
  ⟨gr_overC h.gr g h.le.2, gr_blk g h.blk (by have := ch_ne h; simp; omega), hm, h.le⟩
/-- The chest's own block alone has turned. -/
theorem ch_blk {w wi w' : World} {C M : Nat} {q dd dd' : Int} {fs : Fs} {off off' : Bool} (h : ChIs w wi C M q fs off dd) (g : GrB C wi w') (hb : ChB w' C M q off' dd') : ChIs w w' C M q fs off' dd' :=
  ⟨gr_overC h.gr g h.le.1, hb, mapF_grB h.map g (ch_ne h), h.le⟩
theorem tnC_gr {C M : Nat} {w w' : World} (h : Gr w w') : GrS (TnC C M) w w' := ⟨h.os, h.tape, h.output, h.size, fun i hi _ => h.block i hi (by simp)⟩
theorem tnC_M {C M : Nat} {w w' : World} (h : GrB M w w') : GrS (TnC C M) w w' := ⟨h.os, h.tape, h.output, h.size, fun i hi hn => h.block i hi (by simp; exact fun e => hn (.inr e))⟩
theorem tnC_C {C M : Nat} {w w' : World} (h : GrB C w w') : GrS (TnC C M) w w' := ⟨h.os, h.tape, h.output, h.size, fun i hi hn => h.block i hi (by simp; exact fun e => hn (.inl e))⟩
/-- m[n] = f in a plain region. -/
theorem wpList_store1 {w : World} {ops : Array Oper} {rest : List Oper} {o : Oper} {a : Act} {Q : Exit → Act → World → Prop} (hg : o.guard = none) (m x v : Operand) (hop : o.op = Op.mapUpdate 41 m x v)
    (M : Nat) (fs : Fs) (hm : a.eval m = .map (some M)) (h : MapF w M fs) (n : List UInt8) (f : Fl) (hx : a.eval x = .string (txt n)) (hv : a.eval v = flV f) (hn : n.length ≤ 1000000) (hf : fs.length < 1000000)
    (hK : ∀ w', MapF w' M (putF n f fs) → GrB M w w' → wpList Try.prog ops Q rest (a.put o.dst undef) w') : wpList Try.prog ops Q (o :: rest) a w := by
  refine wpList_plain hg fun K' hK' => ?_
  obtain ⟨w', hrun, r1, r2⟩ := store1 h n f hn hf
  unfold Oper.wp
  simp [execOp, hop, hm, hx, hv, hrun, Result.andThen]
  exact hK' _ _ (hK w' r1 r2)
/-- m[n] = f as a step of a region that draws its order. -/
theorem step_store1 {w : World} {ops : Array Oper} {o : Oper} {a : Act} {K : Act → World → Prop} {Q : Exit → Act → World → Prop} {E : Prop} (hg : o.guard = none) (m x v : Operand) (hop : o.op = Op.mapUpdate 41 m x v)
    (M : Nat) (fs : Fs) (hm : a.eval m = .map (some M)) (h : MapF w M fs) (n : List UInt8) (f : Fl) (hx : a.eval x = .string (txt n)) (hv : a.eval v = flV f) (hn : n.length ≤ 1000000) (hf : fs.length < 1000000)
    (hK : ∀ w', MapF w' M (putF n f fs) → GrB M w w' → K (a.put o.dst undef) w') : if Region.wanted o (yielded ops a.tmps) = true then Oper.wp Try.prog o a w K Q else E := by
  have hw : Region.wanted o (yielded ops a.tmps) = true := by simp [Region.wanted, hg]
  rw [if_pos hw]
  obtain ⟨w', hrun, r1, r2⟩ := store1 h n f hn hf
  unfold Oper.wp
  simp [execOp, hop, hm, hx, hv, hrun, Result.andThen]
  exact hK w' r1 r2
/-- delete(m, n) in a plain region. -/
theorem wpList_drop1 {w : World} {ops : Array Oper} {rest : List Oper} {o : Oper} {a : Act} {Q : Exit → Act → World → Prop} (hg : o.guard = none) (m x : Operand) (hop : o.op = Op.call { callee := Callee.builtin Builtin.delete, args := #[m, x], argTypes := #[41, 9] })
    (M : Nat) (fs : Fs) (hm : a.eval m = .map (some M)) (h : MapF w M fs) (n : List UInt8) (hx : a.eval x = .string (txt n)) (hn : n.length ≤ 1000000)
    (hK : ∀ w', MapF w' M (delF n fs) → GrB M w w' → wpList Try.prog ops Q rest (a.put o.dst (.tuple #[])) w') : wpList Try.prog ops Q (o :: rest) a w := by
  refine wpList_plain hg fun K' hK' => ?_
  obtain ⟨w', hrun, r1, r2⟩ := drop1 h n hn o.type
  unfold Oper.wp
  simp [execOp, hop, resolve, invoke, builtin, hm, hx, hrun, Result.andThen]
  exact hK' _ _ (hK w' r1 r2)
set_option maxRecDepth 100000 in
theorem none_any (C M : Nat) (q dd : Int) (off : Bool) (W : World) (h : ChB W C M q off dd) : Calls Try.prog 29 #[.pointer (some ⟨C, 0, none⟩)] W fun e w' => e = .returned (.bool false) ∧ W = w' := by
  obtain ⟨c0, c1, c2, c3, c4, c5, c6⟩ := chb_cells h
  clear h
  have he : (binOp .eql 41 (.map (some M)) (.map none)).run Try.prog W = .ok (.bool false) W := rfl
  go_enter Try.func29, Try.ntmps29
  go_wp2
  go_ret
  exact ⟨rfl, rfl⟩
/-- Whether a name may be. -/
def okNm (l : List UInt8) : Bool := decide (l ≠ [] ∧ l.length ≤ 60)
set_option maxRecDepth 100000 in
theorem nright_any (l : List UInt8) (W : World) (hl : l.length ≤ 9223372036854775807) : Calls Try.prog 30 #[.string (txt l)] W fun e w' => e = .returned (.bool (okNm l)) ∧ W = w' := by
  have hs := txt_size l
  by_cases h1 : l = []
  · subst h1
    have e1 : okNm [] = false := rfl
    rw [e1]
    go_enter Try.func30, Try.ntmps30
    go_wp2
    go_ret
    exact ⟨rfl, rfl⟩
  · have h2 : l.isEmpty = false := by cases l with | nil => exact absurd rfl h1 | cons _ _ => rfl
    by_cases h3 : l.length ≤ 60
    · have e1 : okNm l = true := by unfold okNm; simp [h1, h3]
      have e2 : (l.length : Int) ≤ 60 := by omega
      rw [e1]
      go_enter Try.func30, Try.ntmps30
      go_wp2
      go_ret
      exact ⟨rfl, rfl⟩
    · have e1 : okNm l = false := by unfold okNm; simp [h3]
      have e2 : ¬ (l.length : Int) ≤ 60 := by omega
      rw [e1]
      go_enter Try.func30, Try.ntmps30
      go_wp2
      go_ret
      exact ⟨rfl, rfl⟩
theorem all_snocC {a b : List (List UInt8)} {x : List UInt8} (h : b = a ++ [x]) (ha : a.all okNm = true) (hx : okNm x = true) : b.all okNm = true := by
  rw [h, List.all_append, ha]
  simp [hx]
def strV (l : List UInt8) : Value := .string (txt l)
set_option maxHeartbeats 4000000 in
set_option maxRecDepth 100000 in
/-- may, of a chest with power. -/
theorem may_any (C M : Nat) (q dd : Int) (A : Option Addr) (n c : Nat) (ss : List (List UInt8)) (W : World) (h : ChB W C M q false dd) (hr : Row W A n 1 (ss.map strV)) (hn : n ≤ 1000000) (hl : ∀ s ∈ ss, s.length ≤ 1000000) :
    Calls Try.prog 23 #[.pointer (some ⟨C, 0, none⟩), .slice A n c] W fun e w' => e = .returned (.int .i64 (if ss.all okNm then 0 else 1)) ∧ W = w' := by
  have hlen : ss.length = n := by have := hr.1; simpa using this
  obtain ⟨res, hres⟩ : ∃ res : Int, res = if ss.all okNm then 0 else 1 := ⟨_, rfl⟩
  rw [← hres]
  replace hres := Lib.hid hres
  have cN := none_any C M q dd false W h
  obtain ⟨c0, c1, c2, c3, c4, c5, c6⟩ := chb_cells h
  clear h c0 c1 c3 c4 c5 c6
  replace hr := Lib.hid hr
  replace cN := Lib.hid cN
  replace hl := Lib.hid hl
  replace hlen := Lib.hid hlen
  go_enter Try.func23, Try.ntmps23
  go_wp2_with fail
  refine cN.out.mono ?_
  rintro e w' ⟨rfl, rfl⟩
  go_wp2_with fail
  go_loopw [17] (fun iv wr => ∃ k : Nat, k ≤ n ∧ iv = .int .i64 k ∧ W = wr ∧ Hid ((ss.take k).all okNm = true)) (fun i _ => n - (intOf i).toNat)
  case atStart => exact ⟨0, Nat.zero_le _, rfl, rfl, rfl⟩
  case round =>
    obtain ⟨k, hk, rfl, rfl, ha⟩ := hrel
    by_cases hlt : k < n
    · obtain ⟨x, B, o, hx, rfl, hc⟩ := row_elem hr.out hlt
      have hki : (k : Int) < (n : Int) := by omega
      have hk0 : (0 : Int) ≤ (k : Int) := by omega
      unfold strV at hc
      have hxl := hl.out x (List.mem_of_getElem? hx)
      have htk : ss.take (k + 1) = ss.take k ++ [x] := by
        obtain ⟨h1, h2⟩ := List.getElem?_eq_some_iff.1 hx
        rw [List.take_succ_eq_append_getElem h1, h2]
      have cR := nright_any x W (by omega)
      by_cases hox : okNm x = true
      · rw [hox] at cR
        replace cR := Lib.hid cR
        replace htk := Lib.hid htk
        replace hox := Lib.hid hox
        clear hx
        go_wp2_with fail
        refine cR.out.mono ?_
        rintro e w' ⟨rfl, rfl⟩
        go_wp2
        go_roundw
        case rel => exact ⟨k + 1, by omega, by go_num, trivial, all_snocC htk.out ha.out hox.out⟩
        case measure => simp [intOf]; omega
      · have hox : okNm x = false := by simpa using hox
        rw [hox] at cR
        have hall : ss.all okNm = false := by
          rw [List.all_eq_false]
          exact ⟨x, List.mem_of_getElem? hx, by simp [hox]⟩
        replace hall := Lib.hid hall
        replace cR := Lib.hid cR
        clear hx htk hox
        go_wp2_with fail
        refine cR.out.mono ?_
        rintro e w' ⟨rfl, rfl⟩
        go_wp2
        go_ret
        exact ⟨by rw [hres.out, hall.out]; rfl, rfl⟩
    · obtain rfl : k = n := by omega
      have hall : ss.all okNm = true := by
        have := ha.out
        rwa [List.take_of_length_le (by have := hlen.out; omega)] at this
      replace hall := Lib.hid hall
      clear ha
      go_wp2
      go_ret
      exact ⟨by rw [hres.out, hall.out]; rfl, rfl⟩
set_option maxRecDepth 100000 in
theorem snags_any (C M : Nat) (q dd : Int) (off : Bool) (W : World) (h : ChB W C M q off dd) : Calls Try.prog 24 #[.pointer (some ⟨C, 0, none⟩)] W fun e w' => e = .returned (.bool false) ∧ W = w' := by
  obtain ⟨c0, c1, c2, c3, c4, c5, c6⟩ := chb_cells h
  clear h
  go_enter Try.func24, Try.ntmps24
  go_wp2
  go_ret
  exact ⟨rfl, rfl⟩
set_option maxRecDepth 100000 in
/-- A deed is done. -/
theorem done_any {w wi : World} {C M : Nat} {q dd : Int} {fs : Fs} {off : Bool} (h : ChIs w wi C M q fs off dd) (hd : 0 ≤ dd ∧ dd ≤ 1000000000) : Calls Try.prog 25 #[.pointer (some ⟨C, 0, none⟩), .bool false] wi fun e w' => e = .returned (.int .i64 0) ∧ ChIs w w' C M q fs off (dd + 1) ∧ GrS (TnC C M) wi w' := by
  obtain ⟨c0, c1, c2, c3, c4, c5, c6⟩ := chb_cells h.blk
  have f6 := fzeroC h.blk 6
  have hw : IntKind.i64.wrap (dd + 1) = dd + 1 := IntWalk.i64_in _ (by omega)
  have hg : GrB C wi (wi.setCell ⟨C, 6, none⟩ (.int .i64 (dd + 1))) := gr_set wi ⟨C, 6, none⟩ _
  have hb : ChB (wi.setCell ⟨C, 6, none⟩ (.int .i64 (dd + 1))) C M q off (dd + 1) := blk_set h.blk 6 _
  have hfin := ch_blk h hg hb
  have hgs : GrS (TnC C M) wi _ := tnC_C hg
  replace hfin := Lib.hid hfin
  replace hgs := Lib.hid hgs
  clear h c0 c1 c2 c3 c4 c5 hg hb
  go_enter Try.func25, Try.ntmps25
  go_wp2
  go_ret
  exact ⟨rfl, hfin.out, hgs.out⟩
end Go.Proofs.Ytbkhopfoabdeiaa
