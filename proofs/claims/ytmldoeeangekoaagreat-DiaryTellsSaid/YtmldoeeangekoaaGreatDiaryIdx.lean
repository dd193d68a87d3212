/-
  slices.IndexFunc, ContainsFunc, DeleteFunc of cursors, at the program's own tests. No condition but the row's own.
-/
import Derived.Test.YtmldoeeangekoaaGreatDiaryFold2
import Derived.Test.YtmldoeeangekoaaGreatRowMore
namespace Go.Proofs.YtmldoeeangekoaaGreat
open Go.RowKit

def curV (x : Cur) : Value := .agg #[.int .i64 x.id, .int .i64 x.rows, .int .i64 x.size, .int .i64 x.tl, .string (txt x.file)]
/-- Where the first of them is. -/
def IdxP (p : Cur → Bool) (zs : List Cur) (r : Int) : Prop := (r = -1 ∧ ∀ y ∈ zs, p y = false) ∨ ∃ (k : Nat) (x : Cur), r = k ∧ zs[k]? = some x ∧ p x = true ∧ ∀ y ∈ zs.take k, p y = false
theorem take_step {α : Type} {zs : List α} {k : Nat} {x : α} (h : zs[k]? = some x) : zs.take (k + 1) = zs.take k ++ [x] := by
  obtain ⟨h1, h2⟩ := List.getElem?_eq_some_iff.1 h
  rw [List.take_succ_eq_append_getElem h1, h2]
theorem all_step {α : Type} {p : α → Bool} {zs : List α} {k : Nat} {x : α} (h : zs[k]? = some x) (ha : ∀ y ∈ zs.take k, p y = false) (hx : p x = false) : ∀ y ∈ zs.take (k + 1), p y = false := by
  rw [take_step h]
  intro y hy
  rcases List.mem_append.1 hy with hy | hy
  · exact ha y hy
  · rw [List.mem_singleton.1 hy]; exact hx
theorem keep_all {p : Cur → Bool} {zs : List Cur} (h : ∀ y ∈ zs, p y = false) : zs.filter (fun y => !p y) = zs := List.filter_eq_self.2 fun y hy => by rw [h y hy]; rfl
theorem keep_not {p : Cur → Bool} {zs : List Cur} {j : Nat} {x : Cur} (h : zs[j]? = some x) (hp : p x = true) : (zs.take (j + 1)).filter (fun y => !p y) = (zs.take j).filter (fun y => !p y) := by
  rw [take_step h, List.filter_append]; simp [hp]
theorem keep_yes {p : Cur → Bool} {zs : List Cur} {j : Nat} {x : Cur} (h : zs[j]? = some x) (hp : p x = false) : (zs.take (j + 1)).filter (fun y => !p y) = (zs.take j).filter (fun y => !p y) ++ [x] := by
  rw [take_step h, List.filter_append]; simp [hp]
theorem at_drop {α : Type} {ws zs : List α} {j : Nat} (h : ws.drop j = zs.drop j) : ws[j]? = zs[j]? := by
  have := congrArg (fun l => l[0]?) h
  simpa [List.getElem?_drop] using this
theorem set_takes {α : Type} {ws : List α} {i : Nat} (x : α) (hi : i < ws.length) : (ws.set i x).take (i + 1) = ws.take i ++ [x] := by
  rw [take_step (x := x) (by rw [List.getElem?_set_self hi]), List.take_set_of_le (Nat.le_refl i)]
theorem set_drops {α : Type} {ws : List α} {i j : Nat} (x : α) (hi : i < j) : (ws.set i x).drop j = ws.drop j := List.drop_set_of_lt hi
theorem drop_step {α : Type} {ws zs : List α} {j : Nat} (h : ws.drop j = zs.drop j) : ws.drop (j + 1) = zs.drop (j + 1) := by
  rw [← List.drop_drop, h, List.drop_drop]
theorem infoCurS : (Tryz.prog.info? 28).map (·.size) = some 5 := by kernel_rfl
set_option maxHeartbeats 4000000 in
set_option maxRecDepth 100000 in
theorem didx_close (H : World → Prop) (p : Cur → Bool) (cv : Value) (hp : ∀ x W, H W → Calls Tryz.prog 167 #[curV x, cv] W fun e W' => e = .returned (.bool (p x)) ∧ Gr W W') (hH : ∀ W W', H W → Gr W W' → H W')
    (A : Option Addr) (n c : Nat) (zs : List Cur) (w : World) (hr : Row w A n 5 (sR curC zs)) (hn : n ≤ 9223372036854775807) (hw : H w) :
    Calls Tryz.prog 134 #[.slice A n c, .func (.func 167) #[] #[cv]] w fun e w' => (∃ r, e = .returned (.int .i64 r) ∧ IdxP p zs r) ∧ Gr w w' := by
  have hl : zs.length = n := by have := hr.1; rw [sR_len curC 5 curC_len] at this; omega
  unfold curV at hp
  replace hr := Lib.hid hr
  replace hw := Lib.hid hw
  replace hp := Lib.hid hp
  replace hH := Lib.hid hH
  replace hl := Lib.hid hl
  go_enter Tryz.func134, Tryz.ntmps134
  go_wp2
  go_loopw [8] (fun i wr => ∃ k : Nat, k ≤ n ∧ i = .int .i64 k ∧ Hid (∀ y ∈ zs.take k, p y = false) ∧ Hid (Gr w wr)) (fun i _ => n - (intOf i).toNat)
  case atStart => exact ⟨0, Nat.zero_le _, rfl, by show ∀ y ∈ zs.take 0, _; simp, gr_refl _ _⟩
  case round =>
    obtain ⟨k, hk, rfl, hno, hg⟩ := hrel
    by_cases hlt : k < n
    · obtain ⟨x, B, o, hx, rfl, _, hc⟩ := rowS_elem curC_len (row_gr hr.out hg.out) (by decide) hlt
      have hki : (k : Int) < (n : Int) := by omega
      have hk0 : (0 : Int) ≤ (k : Int) := by omega
      have d0 : wr.cell? ⟨B, o + k * 5, none⟩ = some (.int .i64 x.id) := hc 0 (by decide)
      have d1 : wr.cell? ⟨B, o + k * 5 + 1, none⟩ = some (.int .i64 x.rows) := hc 1 (by decide)
      have d2 : wr.cell? ⟨B, o + k * 5 + 2, none⟩ = some (.int .i64 x.size) := hc 2 (by decide)
      have d3 : wr.cell? ⟨B, o + k * 5 + 3, none⟩ = some (.int .i64 x.tl) := hc 3 (by decide)
      have d4 : wr.cell? ⟨B, o + k * 5 + 4, none⟩ = some (.string (txt x.file)) := hc 4 (by decide)
      clear hc
      go_wp2_with fail
      refine (hp.out x _ (hH.out _ _ hw.out hg.out)).mono ?_
      rintro e W2 ⟨rfl, g2⟩
      replace g2 := Lib.hid g2
      replace hx := Lib.hid hx
      cases hpx : p x with
      | true =>
        go_wp2
        go_ret
        exact ⟨⟨_, rfl, .inr ⟨k, x, rfl, hx.out, hpx, hno.out⟩⟩, gr_trans hg.out g2.out⟩
      | false =>
        go_wp2
        go_roundw
        case rel => exact ⟨k + 1, by omega, by go_num, all_step hx.out hno.out hpx, gr_trans hg.out g2.out⟩
        case measure => simp [intOf]; omega
    · obtain rfl : k = n := by omega
      go_wp2
      go_ret
      exact ⟨⟨_, rfl, .inl ⟨rfl, by have := hno.out; rwa [← hl.out, List.take_length] at this⟩⟩, hg.out⟩
set_option maxHeartbeats 8000000 in
set_option maxRecDepth 100000 in
theorem ddel_close (H : World → Prop) (p : Cur → Bool) (cv : Value) (hp : ∀ x W, H W → Calls Tryz.prog 167 #[curV x, cv] W fun e W' => e = .returned (.bool (p x)) ∧ Gr W W')
    (A : Option Addr) (n c : Nat) (base : Nat) (hH : ∀ W W', H W → W.grownBy W' (Value.slice A n c).ownBlock → H W') (zs : List Cur) (w : World) (hr : w.ownsRow base 28 5 (.slice A n c) n (sR curC zs)) (hn : n ≤ 9223372036854775807) (hw : H w) :
    Calls Tryz.prog 132 #[.slice A n c, .func (.func 167) #[] #[cv]] w fun e w' => ∃ k, e = .returned (.slice A k c) ∧ w'.ownsRow base 28 5 (.slice A k c) k (sR curC (zs.filter fun y => !p y)) ∧ w.grownBy w' (Value.slice A n c).ownBlock := by
  have hl : zs.length = n := by have := hr.1; rw [sR_len curC 5 curC_len] at this; omega
  have cI := didx_close H p cv hp (fun W W' h g => hH W W' h (gr_any g _)) A n c zs w (row_own hr) hn hw
  unfold curV at hp
  replace hr := Lib.hid hr
  replace hw := Lib.hid hw
  replace hp := Lib.hid hp
  replace hH := Lib.hid hH
  replace hl := Lib.hid hl
  go_enter Tryz.func132, Tryz.ntmps132
  go_wp2_with fail
  refine cI.mono ?_
  rintro e w1 ⟨⟨r, rfl, hix⟩, g1⟩
  clear cI
  rcases hix with ⟨rfl, hall⟩ | ⟨k, x0, rfl, hx0, hpx0, hno⟩
  · replace g1 := Lib.hid g1
    replace hall := Lib.hid hall
    go_wp2
    go_ret
    exact ⟨n, rfl, by rw [keep_all hall.out]; exact hr.out.kept g1.out (Classical.em _), gr_any g1.out _⟩
  · have hkn : k < n := by have := (List.getElem?_eq_some_iff.1 hx0).1; have := hl.out; omega
    have hr1 := hr.out.kept g1 (Classical.em _)
    obtain ⟨g, cap, hv, hbg, hgl⟩ := hr1.form (by omega)
    injection hv with h1 h2 h3
    subst h1 h3
    have hcn : n ≤ c ∧ c ≤ 9223372036854775807 := by obtain ⟨A', c', hv', h4, h5⟩ := own_openS hr1; injection hv' with _ _ h6; subst h6; unfold maxLen at h5; exact ⟨h4, by omega⟩
    have hkne : ((k : Int) == -1) = false := eqF (by omega)
    have hkw : IntKind.i64.wrap ((k : Int) + 1) = ((k + 1 : Nat) : Int) := by rw [IntWalk.i64_in _ (by omega)]; omega
    replace hr1 := Lib.hid hr1
    replace g1 := Lib.hid g1
    replace hx0 := Lib.hid hx0
    replace hpx0 := Lib.hid hpx0
    replace hno := Lib.hid hno
    clear hbg
    go_wp2
    go_loopw [5, 6] (fun iv jv wr => ∃ (i j : Nat) (ws : List Cur), i < j ∧ j ≤ n ∧ iv = .int .i64 i ∧ jv = .int .i64 j ∧ Hid (wr.ownsRow base 28 5 (.slice (some ⟨g, 0, none⟩) n c) n (sR curC ws)) ∧ Hid (ws.length = n ∧ ws.take i = (zs.take j).filter (fun y => !p y) ∧ ws.drop j = zs.drop j) ∧ Hid (w.grownBy wr (some g))) (fun _ jv _ => n - (intOf jv).toNat)
    case atStart =>
      refine ⟨k, k + 1, zs, Nat.lt_succ_self _, hkn, rfl, by first | rfl | rw [hkw], hr1.out, ⟨hl.out, ?_, rfl⟩, gr_any g1.out _⟩
      rw [keep_not hx0.out hpx0.out]
      exact (keep_all hno.out).symm
    case round =>
      clear hr1 hx0 hpx0 hno hkw hkne hkn
      obtain ⟨i, j, ws, hij, hjn, rfl, rfl, hro, hws, hg⟩ := hrel
      by_cases hlt : j < n
      · obtain ⟨x, hxz⟩ : ∃ x, zs[j]? = some x := ⟨_, List.getElem?_eq_getElem (by have := hl.out; omega)⟩
        have hxw : ws[j]? = some x := by rw [at_drop hws.out.2.2]; exact hxz
        have hjle : j * 5 + 5 ≤ n * 5 := by omega
        have hcl := fun (q : Nat) (hq : q < 5) => (hro.out.cellAt (j * 5 + q) (by omega)).trans (sR_at curC 5 curC_len hxw hq)
        have hji : (j : Int) < (n : Int) := by omega
        have hj0 : (0 : Int) ≤ (j : Int) := by omega
        have hii : (i : Int) < (n : Int) := by omega
        have hi0 : (0 : Int) ≤ (i : Int) := by omega
        have d0 : wr.cell? ⟨g, j * 5, none⟩ = some (.int .i64 x.id) := hcl 0 (by decide)
        have d1 : wr.cell? ⟨g, j * 5 + 1, none⟩ = some (.int .i64 x.rows) := hcl 1 (by decide)
        have d2 : wr.cell? ⟨g, j * 5 + 2, none⟩ = some (.int .i64 x.size) := hcl 2 (by decide)
        have d3 : wr.cell? ⟨g, j * 5 + 3, none⟩ = some (.int .i64 x.tl) := hcl 3 (by decide)
        have d4 : wr.cell? ⟨g, j * 5 + 4, none⟩ = some (.string (txt x.file)) := hcl 4 (by decide)
        obtain ⟨W2, hW2⟩ : ∃ W2, W2 = wr.alloc (.cells #[.int .i64 x.id, .int .i64 x.rows, .int .i64 x.size, .int .i64 x.tl, .string (txt x.file)] 28) := ⟨_, rfl⟩
        have g2 : Gr wr W2 := by rw [hW2]; exact gr_alloc _ _ _
        have q2 : ∀ q v, (#[.int .i64 x.id, .int .i64 x.rows, .int .i64 x.size, .int .i64 x.tl, .string (txt x.file)] : Array Value)[q]? = some v → W2.cell? ⟨wr.heap.size, q, none⟩ = some v := fun q v hq => by rw [hW2, World.cell?_alloc_new]; exact hq
        have e0 := q2 0 _ rfl
        have e1 := q2 1 _ rfl
        have e2 := q2 2 _ rfl
        have e3 := q2 3 _ rfl
        have e4 := q2 4 _ rfl
        have hH2 := hH.out _ _ hw.out (hg.out.trans (gr_any g2 (some g)))
        have hro2 := hro.out.kept g2 (Classical.em _)
        replace hW2 := Lib.hid hW2
        replace hro2 := Lib.hid hro2
        replace g2 := Lib.hid g2
        replace q2 := Lib.hid q2
        replace hxz := Lib.hid hxz
        replace hxw := Lib.hid hxw
        clear hcl
        go_wp2_with (rw [← hW2.out])
        refine (hp.out x _ hH2).mono ?_
        rintro e W3 ⟨rfl, g3⟩
        have hro3 := hro2.out.kept g3 (Classical.em _)
        have f0 := gr_cell g3 (q2.out 0 _ rfl)
        have f1 := gr_cell g3 (q2.out 1 _ rfl)
        have f2 := gr_cell g3 (q2.out 2 _ rfl)
        have f3 := gr_cell g3 (q2.out 3 _ rfl)
        have f4 := gr_cell g3 (q2.out 4 _ rfl)
        have hg3 : w.grownBy W3 (some g) := (hg.out.trans (gr_any g2.out _)).trans (gr_any g3 _)
        have hfx := own_setB curC_len hro3 (by decide) (show i < n by omega) x
        have hgs3 := gr_setCells W3 g (i * 5) (curC x)
        replace hro3 := Lib.hid hro3
        replace hg3 := Lib.hid hg3
        replace hgs3 := Lib.hid hgs3
        clear g3 hro2 hH2 e0 e1 e2 e3 e4 d0 d1 d2 d3 d4
        cases hpx : p x with
        | true =>
          clear hfx
          go_wp2
          go_roundw
          case rel => exact ⟨i, j + 1, ws, by omega, by omega, rfl, by go_num, hro3.out, ⟨hws.out.1, by rw [keep_not hxz.out hpx]; exact hws.out.2.1, drop_step hws.out.2.2⟩, hg3.out⟩
          case measure => simp [intOf]; omega
        | false =>
          obtain ⟨hfz, hso, hset⟩ := hfx
          have hth : W3.there g (i * 5) 5 := fun q hq => ⟨hso q hq, hfz _⟩
          replace hset := Lib.hid hset
          clear hfz hso
          go_wp2_with (refine wpList_store_mid (op := ⟨none, _, _, _, _, _⟩) rfl 28 _ _ rfl g (i * 5) #[.int .i64 x.id, .int .i64 x.rows, .int .i64 x.size, .int .i64 x.tl, .string (txt x.file)] rfl rfl hth infoCurS (by simp [Value.oneCell']) ?_)
          go_wp2
          go_roundw
          case rel => exact ⟨i + 1, j + 1, ws.set i x, by omega, by omega, by go_num, by go_num, hset.out, ⟨by rw [List.length_set]; exact hws.out.1, by rw [set_takes x (by rw [hws.out.1]; omega), keep_yes hxz.out hpx, hws.out.2.1], by rw [set_drops x (by omega)]; exact drop_step hws.out.2.2⟩, hg3.out.trans hgs3.out⟩
          case measure => simp [intOf]; omega
      · obtain rfl : j = n := by omega
        have hsome : ∀ q, q < (j - i) * 5 → (wr.cell? ⟨g, i * 5 + q, none⟩).isSome = true := fun q hq => own_some hro.out (by omega)
        obtain ⟨vs, hvl, hcl⟩ := run_clearK (P := Tryz.prog) wr 52 28 0 (.agg #[.int .i64 0, .int .i64 0, .int .i64 0, .int .i64 0, .string ⟨#[]⟩]) 5 Tryz.underlying52 (fun w => Tryz.zeroValue28 w) rfl (by simp [Value.cells, Value.oneCell']) (by decide) g (i * 5) (j - i) (c - i) (by omega) hsome (fun q hq => hro.out.frozenAt _)
        have hci : (c = i) = False := eq_false (by omega)
        have hii : (i : Int) ≤ (j : Int) := by omega
        have hi0 : (0 : Int) ≤ (i : Int) := by omega
        have hic : (i : Int) ≤ (c : Int) := by omega
        have hst := stored_all hro.out (i * 5) vs
        replace hst := Lib.hid hst
        replace hvl := Lib.hid hvl
        clear hsome
        go_wp2_with (at_builtin; refine wpList_clear_run _ rfl _ _ rfl _ rfl hcl ?_)
        all_goals
          go_ret
          refine ⟨i, rfl, ?_, hg.out.trans hst.out.2⟩
          have h9 := own_short hst.out.1 (show i ≤ j by omega)
          rw [setAll_take, ← sR_take curC 5 curC_len, hws.out.2.1] at h9
          have h8 : zs.take j = zs := by rw [← hl.out, List.take_length]
          rwa [h8] at h9
set_option maxHeartbeats 4000000 in
set_option maxRecDepth 100000 in
theorem didx_fold (H : World → Prop) (p : Cur → Bool) (cv : Value) (hp : ∀ x W, H W → Calls Tryz.prog 133 #[curV x, cv] W fun e W' => e = .returned (.bool (p x)) ∧ Gr W W') (hH : ∀ W W', H W → Gr W W' → H W')
    (A : Option Addr) (n c : Nat) (zs : List Cur) (w : World) (hr : Row w A n 5 (sR curC zs)) (hn : n ≤ 9223372036854775807) (hw : H w) :
    Calls Tryz.prog 134 #[.slice A n c, .func (.func 133) #[] #[cv]] w fun e w' => (∃ r, e = .returned (.int .i64 r) ∧ IdxP p zs r) ∧ Gr w w' := by
  have hl : zs.length = n := by have := hr.1; rw [sR_len curC 5 curC_len] at this; omega
  unfold curV at hp
  replace hr := Lib.hid hr
  replace hw := Lib.hid hw
  replace hp := Lib.hid hp
  replace hH := Lib.hid hH
  replace hl := Lib.hid hl
  go_enter Tryz.func134, Tryz.ntmps134
  go_wp2
  go_loopw [8] (fun i wr => ∃ k : Nat, k ≤ n ∧ i = .int .i64 k ∧ Hid (∀ y ∈ zs.take k, p y = false) ∧ Hid (Gr w wr)) (fun i _ => n - (intOf i).toNat)
  case atStart => exact ⟨0, Nat.zero_le _, rfl, by show ∀ y ∈ zs.take 0, _; simp, gr_refl _ _⟩
  case round =>
    obtain ⟨k, hk, rfl, hno, hg⟩ := hrel
    by_cases hlt : k < n
    · obtain ⟨x, B, o, hx, rfl, _, hc⟩ := rowS_elem curC_len (row_gr hr.out hg.out) (by decide) hlt
      have hki : (k : Int) < (n : Int) := by omega
      have hk0 : (0 : Int) ≤ (k : Int) := by omega
      have d0 : wr.cell? ⟨B, o + k * 5, none⟩ = some (.int .i64 x.id) := hc 0 (by decide)
      have d1 : wr.cell? ⟨B, o + k * 5 + 1, none⟩ = some (.int .i64 x.rows) := hc 1 (by decide)
      have d2 : wr.cell? ⟨B, o + k * 5 + 2, none⟩ = some (.int .i64 x.size) := hc 2 (by decide)
      have d3 : wr.cell? ⟨B, o + k * 5 + 3, none⟩ = some (.int .i64 x.tl) := hc 3 (by decide)
      have d4 : wr.cell? ⟨B, o + k * 5 + 4, none⟩ = some (.string (txt x.file)) := hc 4 (by decide)
      clear hc
      go_wp2_with fail
      refine (hp.out x _ (hH.out _ _ hw.out hg.out)).mono ?_
      rintro e W2 ⟨rfl, g2⟩
      replace g2 := Lib.hid g2
      replace hx := Lib.hid hx
      cases hpx : p x with
      | true =>
        go_wp2
        go_ret
        exact ⟨⟨_, rfl, .inr ⟨k, x, rfl, hx.out, hpx, hno.out⟩⟩, gr_trans hg.out g2.out⟩
      | false =>
        go_wp2
        go_roundw
        case rel => exact ⟨k + 1, by omega, by go_num, all_step hx.out hno.out hpx, gr_trans hg.out g2.out⟩
        case measure => simp [intOf]; omega
    · obtain rfl : k = n := by omega
      go_wp2
      go_ret
      exact ⟨⟨_, rfl, .inl ⟨rfl, by have := hno.out; rwa [← hl.out, List.take_length] at this⟩⟩, hg.out⟩
set_option maxHeartbeats 8000000 in
set_option maxRecDepth 100000 in
theorem ddel_fold (H : World → Prop) (p : Cur → Bool) (cv : Value) (hp : ∀ x W, H W → Calls Tryz.prog 133 #[curV x, cv] W fun e W' => e = .returned (.bool (p x)) ∧ Gr W W')
    (A : Option Addr) (n c : Nat) (base : Nat) (hH : ∀ W W', H W → W.grownBy W' (Value.slice A n c).ownBlock → H W') (zs : List Cur) (w : World) (hr : w.ownsRow base 28 5 (.slice A n c) n (sR curC zs)) (hn : n ≤ 9223372036854775807) (hw : H w) :
    Calls Tryz.prog 132 #[.slice A n c, .func (.func 133) #[] #[cv]] w fun e w' => ∃ k, e = .returned (.slice A k c) ∧ w'.ownsRow base 28 5 (.slice A k c) k (sR curC (zs.filter fun y => !p y)) ∧ w.grownBy w' (Value.slice A n c).ownBlock := by
  have hl : zs.length = n := by have := hr.1; rw [sR_len curC 5 curC_len] at this; omega
  have cI := didx_fold H p cv hp (fun W W' h g => hH W W' h (gr_any g _)) A n c zs w (row_own hr) hn hw
  unfold curV at hp
  replace hr := Lib.hid hr
  replace hw := Lib.hid hw
  replace hp := Lib.hid hp
  replace hH := Lib.hid hH
  replace hl := Lib.hid hl
  go_enter Tryz.func132, Tryz.ntmps132
  go_wp2_with fail
  refine cI.mono ?_
  rintro e w1 ⟨⟨r, rfl, hix⟩, g1⟩
  clear cI
  rcases hix with ⟨rfl, hall⟩ | ⟨k, x0, rfl, hx0, hpx0, hno⟩
  · replace g1 := Lib.hid g1
    replace hall := Lib.hid hall
    go_wp2
    go_ret
    exact ⟨n, rfl, by rw [keep_all hall.out]; exact hr.out.kept g1.out (Classical.em _), gr_any g1.out _⟩
  · have hkn : k < n := by have := (List.getElem?_eq_some_iff.1 hx0).1; have := hl.out; omega
    have hr1 := hr.out.kept g1 (Classical.em _)
    obtain ⟨g, cap, hv, hbg, hgl⟩ := hr1.form (by omega)
    injection hv with h1 h2 h3
    subst h1 h3
    have hcn : n ≤ c ∧ c ≤ 9223372036854775807 := by obtain ⟨A', c', hv', h4, h5⟩ := own_openS hr1; injection hv' with _ _ h6; subst h6; unfold maxLen at h5; exact ⟨h4, by omega⟩
    have hkne : ((k : Int) == -1) = false := eqF (by omega)
    have hkw : IntKind.i64.wrap ((k : Int) + 1) = ((k + 1 : Nat) : Int) := by rw [IntWalk.i64_in _ (by omega)]; omega
    replace hr1 := Lib.hid hr1
    replace g1 := Lib.hid g1
    replace hx0 := Lib.hid hx0
    replace hpx0 := Lib.hid hpx0
    replace hno := Lib.hid hno
    clear hbg
    go_wp2
    go_loopw [5, 6] (fun iv jv wr => ∃ (i j : Nat) (ws : List Cur), i < j ∧ j ≤ n ∧ iv = .int .i64 i ∧ jv = .int .i64 j ∧ Hid (wr.ownsRow base 28 5 (.slice (some ⟨g, 0, none⟩) n c) n (sR curC ws)) ∧ Hid (ws.length = n ∧ ws.take i = (zs.take j).filter (fun y => !p y) ∧ ws.drop j = zs.drop j) ∧ Hid (w.grownBy wr (some g))) (fun _ jv _ => n - (intOf jv).toNat)
    case atStart =>
      refine ⟨k, k + 1, zs, Nat.lt_succ_self _, hkn, rfl, by first | rfl | rw [hkw], hr1.out, ⟨hl.out, ?_, rfl⟩, gr_any g1.out _⟩
      rw [keep_not hx0.out hpx0.out]
      exact (keep_all hno.out).symm
    case round =>
      clear hr1 hx0 hpx0 hno hkw hkne hkn
      obtain ⟨i, j, ws, hij, hjn, rfl, rfl, hro, hws, hg⟩ := hrel
      by_cases hlt : j < n
      · obtain ⟨x, hxz⟩ : ∃ x, zs[j]? = some x := ⟨_, List.getElem?_eq_getElem (by have := hl.out; omega)⟩
        have hxw : ws[j]? = some x := by rw [at_drop hws.out.2.2]; exact hxz
        have hjle : j * 5 + 5 ≤ n * 5 := by omega
        have hcl := fun (q : Nat) (hq : q < 5) => (hro.out.cellAt (j * 5 + q) (by omega)).trans (sR_at curC 5 curC_len hxw hq)
        have hji : (j : Int) < (n : Int) := by omega
        have hj0 : (0 : Int) ≤ (j : Int) := by omega
        have hii : (i : Int) < (n : Int) := by omega
        have hi0 : (0 : Int) ≤ (i : Int) := by omega
        have d0 : wr.cell? ⟨g, j * 5, none⟩ = some (.int .i64 x.id) := hcl 0 (by decide)
        have d1 : wr.cell? ⟨g, j * 5 + 1, none⟩ = some (.int .i64 x.rows) := hcl 1 (by decide)
        have d2 : wr.cell? ⟨g, j * 5 + 2, none⟩ = some (.int .i64 x.size) := hcl 2 (by decide)
        have d3 : wr.cell? ⟨g, j * 5 + 3, none⟩ = some (.int .i64 x.tl) := hcl 3 (by decide)
        have d4 : wr.cell? ⟨g, j * 5 + 4, none⟩ = some (.string (txt x.file)) := hcl 4 (by decide)
        obtain ⟨W2, hW2⟩ : ∃ W2, W2 = wr.alloc (.cells #[.int .i64 x.id, .int .i64 x.rows, .int .i64 x.size, .int .i64 x.tl, .string (txt x.file)] 28) := ⟨_, rfl⟩
        have g2 : Gr wr W2 := by rw [hW2]; exact gr_alloc _ _ _
        have q2 : ∀ q v, (#[.int .i64 x.id, .int .i64 x.rows, .int .i64 x.size, .int .i64 x.tl, .string (txt x.file)] : Array Value)[q]? = some v → W2.cell? ⟨wr.heap.size, q, none⟩ = some v := fun q v hq => by rw [hW2, World.cell?_alloc_new]; exact hq
        have e0 := q2 0 _ rfl
        have e1 := q2 1 _ rfl
        have e2 := q2 2 _ rfl
        have e3 := q2 3 _ rfl
        have e4 := q2 4 _ rfl
        have hH2 := hH.out _ _ hw.out (hg.out.trans (gr_any g2 (some g)))
        have hro2 := hro.out.kept g2 (Classical.em _)
        replace hW2 := Lib.hid hW2
        replace hro2 := Lib.hid hro2
        replace g2 := Lib.hid g2
        replace q2 := Lib.hid q2
        replace hxz := Lib.hid hxz
        replace hxw := Lib.hid hxw
        clear hcl
        go_wp2_with (rw [← hW2.out])
        refine (hp.out x _ hH2).mono ?_
        rintro e W3 ⟨rfl, g3⟩
        have hro3 := hro2.out.kept g3 (Classical.em _)
        have f0 := gr_cell g3 (q2.out 0 _ rfl)
        have f1 := gr_cell g3 (q2.out 1 _ rfl)
        have f2 := gr_cell g3 (q2.out 2 _ rfl)
        have f3 := gr_cell g3 (q2.out 3 _ rfl)
        have f4 := gr_cell g3 (q2.out 4 _ rfl)
        have hg3 : w.grownBy W3 (some g) := (hg.out.trans (gr_any g2.out _)).trans (gr_any g3 _)
        have hfx := own_setB curC_len hro3 (by decide) (show i < n by omega) x
        have hgs3 := gr_setCells W3 g (i * 5) (curC x)
        replace hro3 := Lib.hid hro3
        replace hg3 := Lib.hid hg3
        replace hgs3 := Lib.hid hgs3
        clear g3 hro2 hH2 e0 e1 e2 e3 e4 d0 d1 d2 d3 d4
        cases hpx : p x with
        | true =>
          clear hfx
          go_wp2
          go_roundw
          case rel => exact ⟨i, j + 1, ws, by omega, by omega, rfl, by go_num, hro3.out, ⟨hws.out.1, by rw [keep_not hxz.out hpx]; exact hws.out.2.1, drop_step hws.out.2.2⟩, hg3.out⟩
          case measure => simp [intOf]; omega
        | false =>
          obtain ⟨hfz, hso, hset⟩ := hfx
          have hth : W3.there g (i * 5) 5 := fun q hq => ⟨hso q hq, hfz _⟩
          replace hset := Lib.hid hset
          clear hfz hso
          go_wp2_with (refine wpList_store_mid (op := ⟨none, _, _, _, _, _⟩) rfl 28 _ _ rfl g (i * 5) #[.int .i64 x.id, .int .i64 x.rows, .int .i64 x.size, .int .i64 x.tl, .string (txt x.file)] rfl rfl hth infoCurS (by simp [Value.oneCell']) ?_)
          go_wp2
          go_roundw
          case rel => exact ⟨i + 1, j + 1, ws.set i x, by omega, by omega, by go_num, by go_num, hset.out, ⟨by rw [List.length_set]; exact hws.out.1, by rw [set_takes x (by rw [hws.out.1]; omega), keep_yes hxz.out hpx, hws.out.2.1], by rw [set_drops x (by omega)]; exact drop_step hws.out.2.2⟩, hg3.out.trans hgs3.out⟩
          case measure => simp [intOf]; omega
      · obtain rfl : j = n := by omega
        have hsome : ∀ q, q < (j - i) * 5 → (wr.cell? ⟨g, i * 5 + q, none⟩).isSome = true := fun q hq => own_some hro.out (by omega)
        obtain ⟨vs, hvl, hcl⟩ := run_clearK (P := Tryz.prog) wr 52 28 0 (.agg #[.int .i64 0, .int .i64 0, .int .i64 0, .int .i64 0, .string ⟨#[]⟩]) 5 Tryz.underlying52 (fun w => Tryz.zeroValue28 w) rfl (by simp [Value.cells, Value.oneCell']) (by decide) g (i * 5) (j - i) (c - i) (by omega) hsome (fun q hq => hro.out.frozenAt _)
        have hci : (c = i) = False := eq_false (by omega)
        have hii : (i : Int) ≤ (j : Int) := by omega
        have hi0 : (0 : Int) ≤ (i : Int) := by omega
        have hic : (i : Int) ≤ (c : Int) := by omega
        have hst := stored_all hro.out (i * 5) vs
        replace hst := Lib.hid hst
        replace hvl := Lib.hid hvl
        clear hsome
        go_wp2_with (at_builtin; refine wpList_clear_run _ rfl _ _ rfl _ rfl hcl ?_)
        all_goals
          go_ret
          refine ⟨i, rfl, ?_, hg.out.trans hst.out.2⟩
          have h9 := own_short hst.out.1 (show i ≤ j by omega)
          rw [setAll_take, ← sR_take curC 5 curC_len, hws.out.2.1] at h9
          have h8 : zs.take j = zs := by rw [← hl.out, List.take_length]
          rwa [h8] at h9
set_option maxHeartbeats 4000000 in
set_option maxRecDepth 100000 in
theorem didx_notes (H : World → Prop) (p : Cur → Bool) (cv : Value) (hp : ∀ x W, H W → Calls Tryz.prog 55 #[curV x, cv] W fun e W' => e = .returned (.bool (p x)) ∧ Gr W W') (hH : ∀ W W', H W → Gr W W' → H W')
    (A : Option Addr) (n c : Nat) (zs : List Cur) (w : World) (hr : Row w A n 5 (sR curC zs)) (hn : n ≤ 9223372036854775807) (hw : H w) :
    Calls Tryz.prog 134 #[.slice A n c, .func (.func 55) #[] #[cv]] w fun e w' => (∃ r, e = .returned (.int .i64 r) ∧ IdxP p zs r) ∧ Gr w w' := by
  have hl : zs.length = n := by have := hr.1; rw [sR_len curC 5 curC_len] at this; omega
  unfold curV at hp
  replace hr := Lib.hid hr
  replace hw := Lib.hid hw
  replace hp := Lib.hid hp
  replace hH := Lib.hid hH
  replace hl := Lib.hid hl
  go_enter Tryz.func134, Tryz.ntmps134
  go_wp2
  go_loopw [8] (fun i wr => ∃ k : Nat, k ≤ n ∧ i = .int .i64 k ∧ Hid (∀ y ∈ zs.take k, p y = false) ∧ Hid (Gr w wr)) (fun i _ => n - (intOf i).toNat)
  case atStart => exact ⟨0, Nat.zero_le _, rfl, by show ∀ y ∈ zs.take 0, _; simp, gr_refl _ _⟩
  case round =>
    obtain ⟨k, hk, rfl, hno, hg⟩ := hrel
    by_cases hlt : k < n
    · obtain ⟨x, B, o, hx, rfl, _, hc⟩ := rowS_elem curC_len (row_gr hr.out hg.out) (by decide) hlt
      have hki : (k : Int) < (n : Int) := by omega
      have hk0 : (0 : Int) ≤ (k : Int) := by omega
      have d0 : wr.cell? ⟨B, o + k * 5, none⟩ = some (.int .i64 x.id) := hc 0 (by decide)
      have d1 : wr.cell? ⟨B, o + k * 5 + 1, none⟩ = some (.int .i64 x.rows) := hc 1 (by decide)
      have d2 : wr.cell? ⟨B, o + k * 5 + 2, none⟩ = some (.int .i64 x.size) := hc 2 (by decide)
      have d3 : wr.cell? ⟨B, o + k * 5 + 3, none⟩ = some (.int .i64 x.tl) := hc 3 (by decide)
      have d4 : wr.cell? ⟨B, o + k * 5 + 4, none⟩ = some (.string (txt x.file)) := hc 4 (by decide)
      clear hc
      go_wp2_with fail
      refine (hp.out x _ (hH.out _ _ hw.out hg.out)).mono ?_
      rintro e W2 ⟨rfl, g2⟩
      replace g2 := Lib.hid g2
      replace hx := Lib.hid hx
      cases hpx : p x with
      | true =>
        go_wp2
        go_ret
        exact ⟨⟨_, rfl, .inr ⟨k, x, rfl, hx.out, hpx, hno.out⟩⟩, gr_trans hg.out g2.out⟩
      | false =>
        go_wp2
        go_roundw
        case rel => exact ⟨k + 1, by omega, by go_num, all_step hx.out hno.out hpx, gr_trans hg.out g2.out⟩
        case measure => simp [intOf]; omega
    · obtain rfl : k = n := by omega
      go_wp2
      go_ret
      exact ⟨⟨_, rfl, .inl ⟨rfl, by have := hno.out; rwa [← hl.out, List.take_length] at this⟩⟩, hg.out⟩
set_option maxHeartbeats 4000000 in
set_option maxRecDepth 100000 in
theorem dcon_notes (H : World → Prop) (p : Cur → Bool) (cv : Value) (hp : ∀ x W, H W → Calls Tryz.prog 55 #[curV x, cv] W fun e W' => e = .returned (.bool (p x)) ∧ Gr W W') (hH : ∀ W W', H W → Gr W W' → H W')
    (A : Option Addr) (n c : Nat) (zs : List Cur) (w : World) (hr : Row w A n 5 (sR curC zs)) (hn : n ≤ 9223372036854775807) (hw : H w) :
    Calls Tryz.prog 54 #[.slice A n c, .func (.func 55) #[] #[cv]] w fun e w' => e = .returned (.bool (zs.any p)) ∧ Gr w w' := by
  have cI := didx_notes H p cv hp hH A n c zs w hr hn hw
  go_enter Tryz.func54, Tryz.ntmps54
  go_wp2_with fail
  refine cI.mono ?_
  rintro e w1 ⟨⟨r, rfl, hix⟩, g1⟩
  rcases hix with ⟨rfl, hall⟩ | ⟨k, x0, rfl, hx0, hpx0, hno⟩
  · have ha : zs.any p = false := List.any_eq_false.2 fun y hy => by rw [hall y hy]; decide
    replace ha := Lib.hid ha
    clear hall hp hH
    go_wp2
    go_ret
    exact ⟨by rw [ha.out]; rfl, g1⟩
  · have ha : zs.any p = true := List.any_eq_true.2 ⟨x0, List.mem_of_getElem? hx0, hpx0⟩
    replace ha := Lib.hid ha
    have hk : (0 : Int) ≤ (k : Int) := by omega
    clear hno hp hH
    go_wp2
    go_ret
    exact ⟨by rw [ha.out]; simp, g1⟩
set_option maxRecDepth 100000 in
theorem pclose_any (x : Cur) (b : Nat) (v : Int) (W : World) (h : W.cell? ⟨b, 0, none⟩ = some (.int .i64 v)) : Calls Tryz.prog 167 #[curV x, .pointer (some ⟨b, 0, none⟩)] W fun e W' => e = .returned (.bool (x.id == v)) ∧ Gr W W' := by
  unfold curV
  have h2 := gr_cell (gr_alloc W (.cells #[.int .i64 x.id, .int .i64 x.rows, .int .i64 x.size, .int .i64 x.tl, .string (txt x.file)] 28) none) h
  go_enter Tryz.func167, Tryz.ntmps167
  go_wp2
  go_ret
  exact ⟨rfl, gr_alloc _ _ _⟩
set_option maxRecDepth 100000 in
theorem pnotes_any (x : Cur) (b : Nat) (v : Int) (W : World) (h : W.cell? ⟨b, 0, none⟩ = some (.int .i64 v)) : Calls Tryz.prog 55 #[curV x, .pointer (some ⟨b, 0, none⟩)] W fun e W' => e = .returned (.bool (x.id == v)) ∧ Gr W W' := by
  unfold curV
  have h2 := gr_cell (gr_alloc W (.cells #[.int .i64 x.id, .int .i64 x.rows, .int .i64 x.size, .int .i64 x.tl, .string (txt x.file)] 28) none) h
  go_enter Tryz.func55, Tryz.ntmps55
  go_wp2
  go_ret
  exact ⟨rfl, gr_alloc _ _ _⟩
set_option maxRecDepth 100000 in
theorem pfold_any (x : Cur) (b St : Nat) (v : Int) (W : World) (h : W.cell? ⟨b, 0, none⟩ = some (.pointer (some ⟨St, 0, none⟩))) (hs : W.cell? ⟨St, 1, none⟩ = some (.int .i64 v)) : Calls Tryz.prog 133 #[curV x, .pointer (some ⟨b, 0, none⟩)] W fun e W' => e = .returned (.bool (decide (x.tl < v))) ∧ Gr W W' := by
  unfold curV
  have gA := gr_alloc W (.cells #[.int .i64 x.id, .int .i64 x.rows, .int .i64 x.size, .int .i64 x.tl, .string (txt x.file)] 28) none
  have h2 := gr_cell gA h
  have h3 := gr_cell gA hs
  have h4 := World.cell?_alloc_new W #[.int .i64 x.id, .int .i64 x.rows, .int .i64 x.size, .int .i64 x.tl, .string (txt x.file)] 28 3
  have h5 : (W.alloc (.cells #[.int .i64 x.id, .int .i64 x.rows, .int .i64 x.size, .int .i64 x.tl, .string (txt x.file)] 28)).cell? ⟨W.heap.size, 3, none⟩ = some (.int .i64 x.tl) := h4
  clear h4
  go_enter Tryz.func133, Tryz.ntmps133
  go_wp2_with fail
  go_quiet (fail)
  go_wp2
  go_ret
  exact ⟨rfl, gr_trans (gr_alloc _ _ _) (gr_drewN _ _ _)⟩
end Go.Proofs.YtmldoeeangekoaaGreat
