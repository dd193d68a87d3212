/-
  Several facts, one behind the other; no condition but bounds: The document's Matcher: may it be? And a matcher that came in by value. No condition but bounds. The document's Matchers: may they be? No condition but bounds. store.Right of matchers: may they be? No condition but bounds. What a store that is nil answers. No condition. A label that a series has not is as if it were empty: plain; and Select of one matcher. No condition. Matchers, come in as a slice: each has three cells. No condition.
-/
import Derived.Test.YtccmekdmnkmhlaaGreatAPX
import Derived.Test.YtccmekdmnkmhlaaGreatSqStoreX
import Derived.Test.YtccmekdmnkmhlaaGreatGlyphRefName
import Derived.Test.YtccmekdmnkmhlaaGreatAJX
namespace Go.Proofs.YtccmekdmnkmhlaaGreat
open Go.RowKit Go.ChangeShapes Go.WideShapes Go.ChangeAt Go.Deep

set_option maxHeartbeats 4000000 in
set_option maxRecDepth 100000 in
theorem refMatcher_any (m : Mt) (w : World) (hn : m.n.length ≤ 2000000) (hv : m.v.length ≤ 1000000) :
    Calls Tryz.prog 38 #[.agg #[.string (txt m.n), .int .i64 m.op, .string (txt m.v)]] w fun e w' => e = .returned (.bool (decide (okMt m))) ∧ Gr w w' := by
  obtain ⟨nm, op, v⟩ := m
  simp only at hn hv
  obtain ⟨q, hq⟩ : ∃ q, q = decide (okMt ⟨nm, op, v⟩) := ⟨_, rfl⟩
  rw [← hq]
  obtain ⟨W1, hW1⟩ : ∃ W1, W1 = w.alloc (.cells #[.string (txt nm), .int .i64 op, .string (txt v)] 27) := ⟨_, rfl⟩
  have g1 : Gr w W1 := by rw [hW1]; exact gr_alloc _ _ _
  have hb : W1.heap[w.heap.size]? = some (.cells #[.string (txt nm), .int .i64 op, .string (txt v)] 27 (0, 0)) := by rw [hW1]; exact blk_new _ _
  have k0 : W1.cell? ⟨w.heap.size, 0, none⟩ = some (.string (txt nm)) := blk_cell hb rfl
  have kk1 : ∀ W, Gr W1 W → W.cell? ⟨w.heap.size, 1, none⟩ = some (.int .i64 op) := fun W g => blk_cell (gr_blk g hb (by simp)) rfl
  have kk2 : ∀ W, Gr W1 W → W.cell? ⟨w.heap.size, 2, none⟩ = some (.string (txt v)) := fun W g => blk_cell (gr_blk g hb (by simp)) rfl
  have cN := refName_any nm W1 hn
  have cS := fun W => refSpell_runes v W hv
  replace cS := Lib.hid cS
  replace hb := Lib.hid hb
  replace g1 := Lib.hid g1
  have hok : q = true ↔ okMt ⟨nm, op, v⟩ := by rw [hq]; exact decide_eq_true_iff
  replace hok := Lib.hid hok
  replace hq := Lib.hid hq
  go_enter Tryz.func38, Tryz.ntmps38
  go_upto_region 1 with fail
  rw [← hW1]
  replace hW1 := Lib.hid hW1
  cases hnm : isName nm with
  | false =>
    rw [hnm] at cN
    obtain rfl : q = false := by
      cases q with
      | false => rfl
      | true =>
        have := (hok.out.1 rfl).1
        simp only at this
        rw [hnm] at this
        cases this
    replace cN := Lib.hid cN
    clear kk1 kk2
    go_wp2_with fail
    refine cN.out.mono ?_
    rintro e w2 ⟨rfl, g2⟩
    go_wp2
    go_ret
    exact ⟨rfl, gr_trans g1.out g2⟩
  | true =>
    rw [hnm] at cN
    replace cN := Lib.hid cN
    by_cases h1 : op < 1
    · obtain rfl : q = false := by
        cases q with
        | false => rfl
        | true => have := (hok.out.1 rfl).2.1; simp only at this; omega
      go_wp2_with fail
      refine cN.out.mono ?_
      rintro e w2 ⟨rfl, g2⟩
      have k1 := kk1 _ g2
      clear kk1 kk2
      go_wp2
      go_ret
      exact ⟨rfl, gr_trans g1.out g2⟩
    by_cases h4 : 4 < op
    · obtain rfl : q = false := by
        cases q with
        | false => rfl
        | true => have := (hok.out.1 rfl).2.2.1; simp only at this; omega
      have h1F : (op < 1) = False := eq_false h1
      go_wp2_with fail
      refine cN.out.mono ?_
      rintro e w2 ⟨rfl, g2⟩
      have k1 := kk1 _ g2
      clear kk1 kk2
      go_wp2
      go_ret
      exact ⟨rfl, gr_trans g1.out g2⟩
    have h1F : (op < 1) = False := eq_false h1
    have h4F : (4 < op) = False := eq_false h4
    by_cases h3 : op < 3
    · obtain rfl : q = true := hok.out.2 ⟨hnm, by simp only; omega, by simp only; omega, fun e => by simp only at e; omega⟩
      go_wp2_with fail
      refine cN.out.mono ?_
      rintro e w2 ⟨rfl, g2⟩
      have k1 := kk1 _ g2
      clear kk1 kk2
      go_wp2
      go_ret
      exact ⟨rfl, gr_trans g1.out g2⟩
    have h3F : (op < 3) = False := eq_false h3
    have hqp : q = (patOf v).isSome := by
      cases hs : (patOf v).isSome with
      | true => exact hok.out.2 ⟨hnm, by simp only; omega, by simp only; omega, fun _ => hs⟩
      | false =>
        cases q with
        | false => rfl
        | true =>
          have := (hok.out.1 rfl).2.2.2 (by simp only; omega)
          simp only at this
          rw [hs] at this
          cases this
    replace hqp := Lib.hid hqp
    go_wp2_with fail
    refine cN.out.mono ?_
    rintro e w2 ⟨rfl, g2⟩
    have k1 := kk1 _ g2
    have k2 := kk2 _ g2
    go_wp2_with fail
    refine (cS.out _).mono ?_
    rintro e w3 ⟨A, c, rfl, ho, g3⟩
    have k3 := kk2 _ (gr_trans g2 g3)
    have gw := gr_trans g1.out (gr_trans g2 g3)
    clear ho k1 k2 kk1 kk2
    by_cases h40 : (runesOf v).length ≤ 40
    · have cC := rcompile_any v w3 hv h40
      have h40I : ((runesOf v).length : Int) ≤ 40 := by omega
      replace cC := Lib.hid cC
      go_wp2_with fail
      refine cC.out.mono ?_
      rintro e w4 ⟨g4, ⟨x, b, root, ps, hx, rfl, -, -⟩ | ⟨hno, rfl⟩⟩
      · obtain rfl : q = true := by rw [hqp.out, patOf_yes h40 hx]; rfl
        replace hx := Lib.hid hx
        go_wp2
        go_ret
        exact ⟨rfl, gr_trans gw g4⟩
      · obtain rfl : q = false := by rw [hqp.out, patOf_no hno]; rfl
        replace hno := Lib.hid hno
        go_wp2
        go_ret
        exact ⟨rfl, gr_trans gw g4⟩
    · obtain rfl : q = false := by rw [hqp.out, patOf_long (by omega)]; rfl
      have h40I : (((runesOf v).length : Int) ≤ 40) = False := eq_false (by omega)
      go_wp2
      go_ret
      exact ⟨rfl, gw⟩
/-- A matcher by value. -/
structure IsMtV {H : Type} (v : Value) (d : DataW H) (m : Mt) : Prop where
  v : v = .agg #[.string (txt m.n), .int .i64 m.op, .string (txt m.v)]
  d : d = .agg [.lit (.string m.n), .lit (.int .i64 m.op), .lit (.string m.v)]
section
variable {H : Type} {enc : TypeId × Value → H} {W : World} {base : Nat} {hd : Bool}
set_option maxRecDepth 100000 in
theorem mt_cells {n : Nat} {cs : List Value} {y : DataW H × List MemPlace} (h : DataW.trod enc Tryz.prog W base (fun _ => true) hd n 27 cs = some y) : ∃ m : Mt, cs = [.string (txt m.n), .int .i64 m.op, .string (txt m.v)] ∧ y.1 = .agg [.lit (.string m.n), .lit (.int .i64 m.op), .lit (.string m.v)] := by
  obtain ⟨xs, n2, _, hy, hl2, hx2, hf⟩ := DataW.trod_struct Tryz.underlying27 h
  have hx2' : xs.length = 3 := hx2
  match xs, hx2' with
  | [z0, z1, z2], _ =>
  obtain ⟨s, e0, f0, _⟩ := DataW.trod_string Tryz.underlying9 ((hf 0 _ rfl).trans rfl : _ = some z0)
  obtain ⟨a, e1, f1, _⟩ := DataW.trod_int Tryz.underlying3 ((hf 1 _ rfl).trans rfl : _ = some z1)
  obtain ⟨t, e2, f2, _⟩ := DataW.trod_string Tryz.underlying9 ((hf 2 _ rfl).trans rfl : _ = some z2)
  have c3 : Tryz.prog.cellsOf 3 = 1 := by kernel_rfl
  have c9 : Tryz.prog.cellsOf 9 = 1 := by kernel_rfl
  have c24 : Tryz.prog.cellsOf 27 = 3 := by kernel_rfl
  rw [c24] at hl2
  refine ⟨⟨s.data.toList, a, t.data.toList⟩, ?_, by rw [hy, f0, f1, f2]; rfl⟩
  match cs, hl2 with
  | [b0, b1, b2], _ =>
    simp [c3, c9] at e0 e1 e2
    subst e0 e1 e2
    simp [txt_of]
set_option maxRecDepth 100000 in
theorem mt_open {v : Value} {base2 : Nat} {d : DataW H} {p : List MemPlace} (hv : Value.okWide Tryz.prog W .any base2 27 v) (h : DataW.Trod enc Tryz.prog W base (fun _ => true) hd 27 v d p) : ∃ m, IsMtV v d m := by
  obtain ⟨fuel, hf⟩ := h
  obtain ⟨cs, rfl, _⟩ := okWide_struct Tryz.underlying27 hv
  obtain ⟨m, hk, hr⟩ := mt_cells hf
  refine ⟨m, ?_, hr⟩
  have hk2 : cs.toList = [.string (txt m.n), .int .i64 m.op, .string (txt m.v)] := by simpa [Value.cells] using hk
  rw [← hk2]
end
end Go.Proofs.YtccmekdmnkmhlaaGreat
namespace Go.Proofs.YtccmekdmnkmhlaaGreat
open Go.RowKit

set_option maxHeartbeats 8000000 in
set_option maxRecDepth 100000 in
theorem rmatchers_any (A : Option Addr) (n c : Nat) (ms : List Mt) (w : World) (hn : n ≤ 1000000) (hr : Row w A n 3 (sR mtC ms)) (hb : ∀ m ∈ ms, m.n.length ≤ 1000000 ∧ m.v.length ≤ 1000000) :
    Calls Tryz.prog 16 #[.slice A n c] w fun e w' => e = .returned (.bool (decide ((∀ m ∈ ms, okMt m) ∧ n ≤ 10))) ∧ Gr w w' := by
  have hl : ms.length = n := by have := hr.1; rw [sR_len mtC 3 mtC_len] at this; omega
  obtain ⟨R, hR⟩ : ∃ R, R = decide ((∀ m ∈ ms, okMt m) ∧ n ≤ 10) := ⟨_, rfl⟩
  rw [← hR]
  replace hR := Lib.hid hR
  replace hl := Lib.hid hl
  replace hr := Lib.hid hr
  replace hb := Lib.hid hb
  go_enter Tryz.func16, Tryz.ntmps16
  go_wp2
  go_loopw [3] (fun i wr => ∃ k : Nat, k ≤ n ∧ i = .int .i64 k ∧ Hid (∀ m ∈ ms.take k, okMt m) ∧ Hid (Gr w wr)) (fun i _ => n - (intOf i).toNat)
  case atStart => exact ⟨0, Nat.zero_le _, rfl, Lib.hid (by simp), gr_refl _ _⟩
  case round =>
    obtain ⟨k, hk, rfl, hok, hg⟩ := hrel
    by_cases hlt : k < n
    · obtain ⟨x, B, o, hx, rfl, _, hc⟩ := rowS_elem mtC_len (row_gr hr.out hg.out) (by decide) hlt
      have hbx := hb.out x (List.mem_of_getElem? hx)
      have cM := fun W => refMatcher_any x W (by omega) hbx.2
      have hki : (k : Int) < (n : Int) := by omega
      have hk0 : (0 : Int) ≤ (k : Int) := by omega
      have d0 : wr.cell? ⟨B, o + k * 3, none⟩ = some (.string (txt x.n)) := hc 0 (by decide)
      have d1 : wr.cell? ⟨B, o + k * 3 + 1, none⟩ = some (.int .i64 x.op) := hc 1 (by decide)
      have d2 : wr.cell? ⟨B, o + k * 3 + 2, none⟩ = some (.string (txt x.v)) := hc 2 (by decide)
      have htk : ms.take (k + 1) = ms.take k ++ [x] := by rw [List.take_add_one, show ms[k]? = some x from hx]; rfl
      by_cases ho : okMt x
      · rw [decide_eq_true ho] at cM
        have hok2 : Hid (∀ m ∈ ms.take (k + 1), okMt m) := by
          rw [htk]
          intro m hm
          rcases List.mem_append.1 hm with hm | hm
          · exact hok.out m hm
          · rw [List.mem_singleton.1 hm]; exact ho
        replace cM := Lib.hid cM
        replace htk := Lib.hid htk
        replace hx := Lib.hid hx
        replace ho := Lib.hid ho
        replace hbx := Lib.hid hbx
        clear hc
        go_wp2_with fail
        refine (cM.out _).mono ?_
        rintro e W2 ⟨rfl, g2⟩
        have hg2 := gr_trans hg.out g2
        replace hg2 := Lib.hid hg2
        clear g2 d0 d1 d2 cM
        go_wp2
        go_roundw
        case rel => exact ⟨k + 1, by omega, by go_num, hok2, hg2⟩
        case measure => simp [intOf]; omega
      · rw [decide_eq_false ho] at cM
        obtain rfl : R = false := by rw [hR.out]; exact decide_eq_false (fun h => ho (h.1 x (List.mem_of_getElem? hx)))
        replace cM := Lib.hid cM
        replace htk := Lib.hid htk
        replace hx := Lib.hid hx
        replace ho := Lib.hid ho
        replace hbx := Lib.hid hbx
        clear hc
        go_wp2_with fail
        refine (cM.out _).mono ?_
        rintro e W2 ⟨rfl, g2⟩
        have hg2 := gr_trans hg.out g2
        replace hg2 := Lib.hid hg2
        clear g2 d0 d1 d2 cM
        go_wp2
        go_ret
        exact ⟨rfl, hg2.out⟩
    · have hki : ((k : Int) < (n : Int)) = False := eq_false (by omega)
      have htk : ms.take k = ms := List.take_of_length_le (by rw [hl.out]; omega)
      have hall := hok.out
      rw [htk] at hall
      by_cases h10 : n ≤ 10
      · obtain rfl : R = true := by rw [hR.out]; exact decide_eq_true ⟨hall, h10⟩
        have h10i : (n : Int) ≤ 10 := by omega
        clear hall htk
        go_wp2
        go_ret
        exact ⟨rfl, hg.out⟩
      · obtain rfl : R = false := by rw [hR.out]; exact decide_eq_false (fun h => h10 h.2)
        have h10i : ((n : Int) ≤ 10) = False := eq_false (by omega)
        clear hall htk
        go_wp2
        go_ret
        exact ⟨rfl, hg.out⟩
end Go.Proofs.YtccmekdmnkmhlaaGreat
namespace Go.Proofs.YtccmekdmnkmhlaaGreat
open Go.RowKit

set_option maxHeartbeats 4000000 in
set_option maxRecDepth 100000 in
theorem smts_right (A : Option Addr) (n c : Nat) (ms : List Mt) (w : World) (hn : n ≤ 1000) (hr : Row w A n 3 (sR mtC ms)) (hb : ∀ m ∈ ms, m.n.length ≤ 1000000 ∧ m.v.length ≤ 1000000) :
    Calls Tryz.prog 15 #[.slice A n c] w fun e w' => e = .returned (.bool (decide ((∀ m ∈ ms, okMt m) ∧ n ≤ 10))) ∧ Gr w w' := by
  have hl : ms.length = n := by have := hr.1; rw [sR_len mtC 3 mtC_len] at this; omega
  have cA := sall_ready A n c ms w hn hr hb
  unfold AllPost at cA
  obtain ⟨R, hR⟩ : ∃ R, R = decide ((∀ m ∈ ms, okMt m) ∧ n ≤ 10) := ⟨_, rfl⟩
  rw [← hR]
  replace hR := Lib.hid hR
  replace cA := Lib.hid cA
  go_enter Tryz.func15, Tryz.ntmps15
  go_wp2_with fail
  refine cA.out.mono ?_
  rintro e W1 ⟨g1, ⟨hall, A1, c1, tvs, rfl, -, -⟩ | ⟨hno, rfl⟩⟩
  · have hq : decide (ms.length ≤ 10) = R := by
      rw [hR.out, hl]
      by_cases h10 : n ≤ 10
      · rw [decide_eq_true h10, decide_eq_true ⟨hall, h10⟩]
      · rw [decide_eq_false h10, decide_eq_false (fun h => h10 h.2)]
    rw [hq]
    replace hq := Lib.hid hq
    replace g1 := Lib.hid g1
    replace hall := Lib.hid hall
    go_wp2
    go_ret
    exact ⟨rfl, g1.out⟩
  · obtain rfl : R = false := by
      rw [hR.out]
      obtain ⟨m, h1, h2⟩ := hno
      exact decide_eq_false (fun h => h2 (h.1 m h1))
    replace g1 := Lib.hid g1
    replace hno := Lib.hid hno
    go_wp2
    go_ret
    exact ⟨rfl, g1.out⟩
end Go.Proofs.YtccmekdmnkmhlaaGreat
namespace Go.Proofs.YtccmekdmnkmhlaaGreat
open Go.RowKit

set_option maxRecDepth 100000 in
theorem snil_all (w : World) : Calls Tryz.prog 12 #[.pointer none] w fun e w' => e = .returned (.slice none 0 0) ∧ Gr w w' := by
  go_enter Tryz.func12, Tryz.ntmps12
  go_wp2
  go_ret
  first | exact ⟨rfl, gr_refl _ _⟩ | exact gr_refl _ _
set_option maxRecDepth 100000 in
theorem snil_put (w : World) : Calls Tryz.prog 7 #[.pointer none, .slice none 0 0, .int .i64 1, .int .i64 1] w fun e w' => e = .returned (.int .i64 1) ∧ Gr w w' := by
  go_enter Tryz.func7, Tryz.ntmps7
  go_wp2
  go_ret
  first | exact ⟨rfl, gr_refl _ _⟩ | exact gr_refl _ _
set_option maxRecDepth 100000 in
theorem snil_select (w : World) : Calls Tryz.prog 17 #[.pointer none, .slice none 0 0] w fun e w' => e = .returned (.tuple #[.slice none 0 0, .int .i64 1]) ∧ Gr w w' := by
  have cA := fun W => sall_ready none 0 0 [] W (by omega) (row_nil _ _ _) (by simp)
  unfold AllPost at cA
  replace cA := Lib.hid cA
  go_enter Tryz.func17, Tryz.ntmps17
  go_wp2_with fail
  refine (cA.out _).mono ?_
  rintro e W1 ⟨g1, ⟨_, A1, c1, tvs, rfl, -, -⟩ | ⟨⟨m, hm, _⟩, _⟩⟩
  rotate_left
  · simp at hm
  replace g1 := Lib.hid g1
  go_wp2
  go_ret2
  exact ⟨rfl, g1.out⟩
set_option maxRecDepth 100000 in
theorem snil_points (w : World) : Calls Tryz.prog 10 #[.pointer none] w fun e w' => e = .returned (.int .i64 0) ∧ Gr w w' := by
  go_enter Tryz.func10, Tryz.ntmps10
  go_wp2_with fail
  refine (snil_all _).mono ?_
  rintro e w1 ⟨rfl, g⟩
  replace g := Lib.hid g
  go_wp2_with fail
  go_loopw [3, 9] (fun nv iv wr => iv = .int .i64 0 ∧ nv = .int .i64 0 ∧ Hid (Gr w1 wr)) (fun _ _ _ => 0)
  case atStart => exact ⟨rfl, rfl, Lib.hid (gr_refl _ _)⟩
  case round =>
    obtain ⟨rfl, rfl, hg⟩ := hrel
    go_wp2
    go_ret
    exact ⟨rfl, gr_trans g.out hg.out⟩
set_option maxRecDepth 100000 in
theorem snil_copy (w : World) : Calls Tryz.prog 6 #[.pointer none] w fun e w' => (∃ b, e = .returned (.pointer (some ⟨b, 0, none⟩)) ∧ w.heap.size ≤ b ∧ w'.heap[b]? = some (.cells #[.slice none 0 0] 31 (0, 0))) ∧ Gr w w' := by
  go_enter Tryz.func6, Tryz.ntmps6
  go_wp2_with fail
  refine (snil_all _).mono ?_
  rintro e w1 ⟨rfl, g⟩
  have hb := blk_new w1 (.cells #[.slice none 0 0] 31)
  have G := gr_trans g (gr_alloc w1 (.cells #[.slice none 0 0] 31) none)
  have hs := g.size
  replace hb := Lib.hid hb
  replace G := Lib.hid G
  replace hs := Lib.hid hs
  go_wp2
  go_ret
  exact ⟨⟨_, rfl, hs.out, hb.out⟩, G.out⟩
end Go.Proofs.YtccmekdmnkmhlaaGreat
namespace Go.Proofs.YtccmekdmnkmhlaaGreat
open Go.RowKit

theorem eName_len {l : List UInt8} (h : isName l = true) : l.length ≤ 120 := by
  have h1 := chunks_le4 l
  unfold isName at h
  rw [Bool.and_eq_true] at h
  have h2 := of_decide_eq_true h.2
  omega
def e3T : T := .alt1 (.rowS .row0 (.rep (.one dotS) false true))
theorem pat_e2 : patOf [] = some (.alt1 .row0) := patOf_yes (by decide) (by
  have h : pAlt 5 [] = some (T.alt1 .row0, []) := by rfl
  exact pAlt_more h (by omega))
theorem pat_e3 : patOf [46, 43] = some e3T := by
  have r1 : runesOf [46, 43] = [46, 43] := (runes_ascii _ (by decide)).trans rfl
  exact patOf_yes (by rw [r1]; decide) (by
    rw [r1]
    have h : pAlt 40 [46, 43] = some (e3T, []) := by rfl
    exact pAlt_more h (by omega))
theorem star_dots (u : List Int) : Star (Lang (.one dotS)) u := by
  induction u with
  | nil => exact .nil
  | cons r t ih => exact .cons (u := [r]) ⟨r, rfl, rfl⟩ ih
theorem lang_e3 (u : List Int) : Lang e3T u ↔ u ≠ [] := by
  constructor
  · rintro ⟨a, b, rfl, rfl, a', b', rfl, ⟨r, rfl, _⟩, _⟩ h
    simp at h
  · intro h
    cases u with
    | nil => exact absurd rfl h
    | cons r t => exact ⟨[], r :: t, rfl, rfl, [r], t, rfl, ⟨r, rfl, rfl⟩, star_dots t⟩
theorem eRunes (l : List UInt8) : runesOf l = [] ↔ l = [] := by
  constructor
  · intro h
    have h1 : (chunks l).length = 0 := by rw [← runes_len, h]; rfl
    have h2 := chunks_join l
    rw [List.eq_nil_of_length_eq_zero h1] at h2
    exact h2.symm
  · rintro rfl; rfl
theorem hold_e2 {H : T → List Int → Bool} (hH : Holds H) (nm : List UInt8) (l : List Lb) : holdM H ⟨nm, 3, []⟩ l = decide (getL l nm = []) := by
  unfold holdM
  rw [if_neg (show ¬ (3 : Int) = 1 by decide), if_neg (show ¬ (3 : Int) = 2 by decide)]
  simp only [pat_e2, if_pos]
  rw [Bool.eq_iff_iff, hH, decide_eq_true_iff, ← eRunes]
  exact Iff.rfl
theorem hold_e3 {H : T → List Int → Bool} (hH : Holds H) (nm : List UInt8) (l : List Lb) : holdM H ⟨nm, 3, [46, 43]⟩ l = !decide (getL l nm = []) := by
  unfold holdM
  rw [if_neg (show ¬ (3 : Int) = 1 by decide), if_neg (show ¬ (3 : Int) = 2 by decide)]
  simp only [pat_e3, if_pos]
  rw [Bool.eq_iff_iff, hH, lang_e3, Bool.not_eq_true', decide_eq_false_iff_not, Ne, eRunes]
theorem hold_e1 {H : T → List Int → Bool} (nm : List UInt8) (l : List Lb) : holdM H ⟨nm, 1, []⟩ l = decide (getL l nm = []) := by
  unfold holdM
  rw [if_pos rfl]
theorem all_one {H : T → List Int → Bool} (m : Mt) (l : List Lb) : allM H [m] l = holdM H m l := by
  unfold allM
  simp
theorem sel_e1 {H : T → List Int → Bool} (nm : List UInt8) (ss : List Ser) : selS H [⟨nm, 1, []⟩] ss = ss.filter fun s => decide (getL s.l nm = []) := by
  unfold selS
  exact List.filter_congr fun s _ => by rw [all_one, hold_e1]
theorem sel_e2 {H : T → List Int → Bool} (hH : Holds H) (nm : List UInt8) (ss : List Ser) : selS H [⟨nm, 3, []⟩] ss = ss.filter fun s => decide (getL s.l nm = []) := by
  unfold selS
  exact List.filter_congr fun s _ => by rw [all_one, hold_e2 hH]
theorem sel_e3 {H : T → List Int → Bool} (hH : Holds H) (nm : List UInt8) (ss : List Ser) : selS H [⟨nm, 3, [46, 43]⟩] ss = ss.filter fun s => !decide (getL s.l nm = []) := by
  unfold selS
  exact List.filter_congr fun s _ => by rw [all_one, hold_e3 hH]
theorem filter_two {α : Type} (p : α → Bool) (l : List α) : (l.filter p).length + (l.filter fun x => !p x).length = l.length := by
  induction l with
  | nil => rfl
  | cons a t ih => cases h : p a <;> simp [h] <;> omega
theorem okM_one {nm v : List UInt8} {op : Int} (h : isName nm = true) (h1 : op = 1 ∨ op = 3) (h2 : op = 3 → (patOf v).isSome = true) : okMs [⟨nm, op, v⟩] := ⟨fun m hm => by
  rw [List.mem_singleton.1 hm]
  exact ⟨h, by simp only; omega, by simp only; omega, fun q => h2 (by simp only at q; omega)⟩, by show 1 ≤ 10; decide⟩
set_option maxRecDepth 100000 in
theorem sel_one (H : T → List Int → Bool) (hH : Holds H) (base : Nat) (m : StoM) (ss : List Ser) (nm v : List UInt8) (vb : ByteArray) (hvb : vb = txt v) (op : Int) (W : World) (h : StoHas W base m ss) (hn : isName nm = true) (h1 : op = 1 ∨ op = 3) (h2 : op = 3 → (patOf v).isSome = true) (hv : v.length ≤ 1000000) :
    Calls Tryz.prog 17 #[.pointer (some ⟨m.St, 0, none⟩), .slice (some ⟨W.heap.size, 0, none⟩) 1 1] (W.alloc (.cells #[.string (txt nm), .int .i64 op, .string vb] 27)) fun e w' => ∃ A c hs, e = .returned (.tuple #[.slice A (selS H [⟨nm, op, v⟩] ss).length c, .int .i64 0]) ∧ SersOf w' A (selS H [⟨nm, op, v⟩] ss).length hs (selS H [⟨nm, op, v⟩] ss) ∧ Gr W w' := by
  subst hvb
  have g := gr_alloc W (.cells #[.string (txt nm), .int .i64 op, .string (txt v)] 27) none
  have hr : Row (W.alloc (.cells #[.string (txt nm), .int .i64 op, .string (txt v)] 27)) (some ⟨W.heap.size, 0, none⟩) 1 3 (sR mtC [⟨nm, op, v⟩]) :=
    row_blk (cs := sR mtC [⟨nm, op, v⟩]) (blk_new W (.cells #[.string (txt nm), .int .i64 op, .string (txt v)] 27)) rfl
  have hk := eName_len hn
  refine (select_any H hH base m ss (some ⟨W.heap.size, 0, none⟩) 1 1 [⟨nm, op, v⟩] _ (stoAt_gr h.sat g) h.inv (by decide) hr (fun x hx => by rw [List.mem_singleton.1 hx]; exact ⟨by simp only; omega, hv⟩)).mono ?_
  rintro e w' ⟨g2, ⟨_, A, c, hs, rfl, hF⟩ | ⟨hno, _⟩⟩
  · exact ⟨A, c, hs, rfl, sersIn_rd hF, gr_trans g g2⟩
  · exact absurd (okM_one hn h1 h2) hno
end Go.Proofs.YtccmekdmnkmhlaaGreat
namespace Go.Proofs.YtccmekdmnkmhlaaGreat
open Go.RowKit Go.ChangeShapes Go.WideShapes Go.ChangeAt Go.Deep

def MtWf (m : Mt) : Prop := m.n.length ≤ 9223372036854775807 ∧ (-9223372036854775808 ≤ m.op ∧ m.op ≤ 9223372036854775807) ∧ m.v.length ≤ 9223372036854775807
/-- Matchers in memory. -/
def IsMts (w : World) (a : Option Addr) (len cap : Nat) (zs : List Mt) : Prop :=
  Row w a len 3 (sR mtC zs) ∧ len ≤ cap ∧ cap ≤ 9223372036854775807 ∧ (∀ x ∈ zs, MtWf x) ∧ (a = none → cap = 0)
section
variable {H : Type} {enc : TypeId × Value → H} {W : World} {base : Nat} {hd : Bool}
set_option maxRecDepth 100000 in
theorem mts_cells {n : Nat} {cs : List Value} {y : DataW H × List MemPlace} (h : DataW.trod enc Tryz.prog W base (fun _ => true) hd n 27 cs = some y) : ∃ x : Mt, MtWf x ∧ cs = mtC x := by
  obtain ⟨xs, n2, _, _, hl2, hx2, hf⟩ := DataW.trod_struct Tryz.underlying27 h
  have hx : ∀ i, i < 3 → ∃ z, xs[i]? = some z := fun i hi => ⟨_, List.getElem?_eq_getElem (by rw [hx2]; exact hi)⟩
  obtain ⟨z0, hz0⟩ := hx 0 (by decide)
  obtain ⟨z1, hz1⟩ := hx 1 (by decide)
  obtain ⟨z2, hz2⟩ := hx 2 (by decide)
  obtain ⟨s, e0, _, w0⟩ := DataW.trod_string Tryz.underlying9 ((hf 0 _ rfl).trans hz0)
  obtain ⟨a, e1, _, w1⟩ := DataW.trod_int Tryz.underlying3 ((hf 1 _ rfl).trans hz1)
  obtain ⟨t, e2, _, w2⟩ := DataW.trod_string Tryz.underlying9 ((hf 2 _ rfl).trans hz2)
  have c3 : Tryz.prog.cellsOf 3 = 1 := by kernel_rfl
  have c9 : Tryz.prog.cellsOf 9 = 1 := by kernel_rfl
  have c24 : Tryz.prog.cellsOf 27 = 3 := by kernel_rfl
  rw [c24] at hl2
  try simp only [c3] at e0 e1 e2
  refine ⟨⟨s.data.toList, a, t.data.toList⟩, ⟨by unfold maxLen at w0; simpa using w0, rng_i64 w1, by unfold maxLen at w2; simpa using w2⟩, ?_⟩
  match cs, hl2 with
  | [b0, b1, b2], _ =>
    simp [c3, c9] at e0 e1 e2
    subst e0 e1 e2
    simp [mtC, txt_of]
set_option maxRecDepth 100000 in
theorem mts_open {a : Option Addr} {len cap : Nat} {d : DataW H} {p : List MemPlace}
    (h : DataW.Trod enc Tryz.prog W base (fun _ => true) hd 23 (.slice a len cap) d p) : ∃ zs, IsMts W a len cap zs := by
  obtain ⟨fuel, hf⟩ := h
  have c24 : Tryz.prog.cellsOf 27 = 3 := by kernel_rfl
  rcases open_slice Tryz.underlying23 hf with ⟨hcs, _⟩ | ⟨ad, l, c, m, n, D, Pl, hcs, _, hl, hm, hmm, _, hi⟩
  · simp [Value.cells] at hcs
    obtain ⟨rfl, rfl, rfl⟩ := hcs
    exact ⟨[], row_nil _ _ _, Nat.le_refl _, by omega, by simp, fun _ => rfl⟩
  · simp [Value.cells] at hcs
    obtain ⟨rfl, rfl, rfl⟩ := hcs
    have hml : m = cap := by simpa using hmm
    have hP : ∀ i, i < len → ∃ x : Mt, MtWf x ∧ ∃ B o, some ad = some ⟨B, o, none⟩ ∧ B < W.heap.size ∧ ∀ j, j < 3 → W.cell? ⟨B, o + i * 3 + j, none⟩ = (mtC x)[j]? := by
      intro i hil
      obtain ⟨cs, hc, ht⟩ := hi i (by omega)
      rw [c24] at hc
      obtain ⟨x, hwf, rfl⟩ := mts_cells ht
      obtain ⟨_, _, hat⟩ := World.cells?_some hc
      obtain ⟨cs0, hc0, ht0⟩ := hi 0 (by omega)
      rw [c24] at hc0
      obtain ⟨x0, _, rfl⟩ := mts_cells ht0
      obtain ⟨_, _, hat0⟩ := World.cells?_some hc0
      have h00 := hat0 0 (by decide)
      obtain ⟨B, o, rfl, hb, hadd⟩ := addr_plain (a := ad) (v := .string (txt x0.n)) (by
        have := h00
        simp only [Nat.zero_mul] at this
        show W.cell? ad = (mtC x0)[0]?
        simpa [Addr.add] using this)
      refine ⟨x, hwf, B, o, rfl, hb, fun j hj => ?_⟩
      have h1 := hat j hj
      rw [Go.Deep.add_add, hadd] at h1
      rw [← h1, Nat.add_assoc]
    obtain ⟨zs, h1, h2⟩ := list_of hP
    refine ⟨zs, rowS_mk mtC_len (by decide) h1 (fun i x hx => (h2 i x hx).2), by omega, by unfold maxLen at hm; omega, fun x hx => ?_, fun e => by cases e⟩
    obtain ⟨i, hi2⟩ := List.getElem?_of_mem hx
    exact (h2 i x hi2).1
end
end Go.Proofs.YtccmekdmnkmhlaaGreat
