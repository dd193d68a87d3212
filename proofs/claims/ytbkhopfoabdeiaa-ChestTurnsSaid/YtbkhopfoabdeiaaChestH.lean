/-
  Fall of a chest of one file. No condition but bounds.
-/
import Derived.Test.YtbkhopfoabdeiaaChestG
namespace Go.Proofs.Ytbkhopfoabdeiaa
open Go.RowKit Go.Maps Go.Sort

theorem ext_take (f : List UInt8) (a : Nat) : (txt f).extract 0 a = txt (f.take a) := by
  apply str_eq
  simp [txt]
theorem put_one (l : List UInt8) (f g : Fl) : putF l g [(l, f)] = [(l, g)] := by
  unfold putF delF
  rw [List.filter_cons_of_neg (by simp)]
  rfl
theorem get_one (l : List UInt8) (f : Fl) : getF [(l, f)] l = some f := by rw [get_cons, if_pos rfl]
theorem own_grC {w w' : World} {base n C M : Nat} {v : Value} {xs : List Value} {q dd : Int} {fs : Fs} {off : Bool} (ho : w.ownsRow base 9 1 v n xs) (hb : ChB w C M q off dd) (hm : MapF w M fs) (g : GrS (TnC C M) w w') : w'.ownsRow base 9 1 v n xs := by
  refine own_grs ho g fun k hk hT => ?_
  rcases hT with rfl | rfl
  · rcases ho.2 with ⟨hv, _⟩ | ⟨g', cap, cur, hv, _, hg, _⟩
    · rw [hv] at hk; cases hk
    · rw [hv] at hk
      have : g' = k := by simpa [Value.ownBlock] using hk
      subst this
      unfold ChB at hb
      rw [hb] at hg
      injection hg with h1
      injection h1 with _ h2
      exact absurd h2 (by decide)
  · rcases ho.2 with ⟨hv, _⟩ | ⟨g', cap, cur, hv, _, hg, _⟩
    · rw [hv] at hk; cases hk
    · rw [hv] at hk
      have : g' = k := by simpa [Value.ownBlock] using hk
      subst this
      obtain ⟨es, clock, hbm, _⟩ := hm
      rw [hbm] at hg
      cases hg
/-- How much of what is wet lasts. -/
def keptC (zs : List Int) (wet : Nat) : Nat := match zs with | [] => 0 | z :: _ => (min (max z 0) (wet : Int)).toNat
theorem keptC_le (zs : List Int) (wet : Nat) : keptC zs wet ≤ wet := by
  unfold keptC
  cases zs with
  | nil => exact Nat.zero_le _
  | cons z _ => show (min (max z 0) (wet : Int)).toNat ≤ wet; omega
set_option maxHeartbeats 16000000 in
set_option maxRecDepth 100000 in
theorem fall_one {w wi : World} {C M : Nat} {q dd : Int} {l fb : List UInt8} {x : Nat} (h : ChIs w wi C M q [(l, ⟨fb, (x : Int)⟩)] false dd) (hl : l.length ≤ 1000000) (hx : x ≤ fb.length) (hfl : fb.length ≤ 1000000000000) (A : Option Addr) (n c : Nat) (zs : List Int) (hr : Row wi A n 1 (zs.map (.int .i64))) (hn : n ≤ 1000) :
    Calls Try.prog 12 #[.pointer (some ⟨C, 0, none⟩), .slice A n c] wi fun e w' => e = .returned (.int .i64 ((fb.length - x - keptC zs (fb.length - x) : Nat) : Int)) ∧ ChIs w w' C M q [(l, ⟨fb.take (x + keptC zs (fb.length - x)), ((x + keptC zs (fb.length - x) : Nat) : Int)⟩)] true dd ∧ GrS (TnC C M) wi w' := by
  obtain ⟨k, hk⟩ : ∃ k, k = keptC zs (fb.length - x) := ⟨_, rfl⟩
  have hkw := keptC_le zs (fb.length - x)
  rw [← hk] at hkw ⊢
  have hzl : zs.length = n := by have := hr.1; simpa using this
  have cO := on_any C M q dd false _ h.blk
  have cN := names_any C M q dd false _ _ h.blk h.map (by simp)
  replace cO := Lib.hid cO
  replace cN := Lib.hid cN
  replace h := Lib.hid h
  replace hr := Lib.hid hr
  replace hk := Lib.hid hk
  replace hzl := Lib.hid hzl
  go_enter Try.func12, Try.ntmps12
  go_wp2_with fail
  refine cO.out.mono ?_
  rintro e w' ⟨rfl, rfl⟩
  go_wp2_with fail
  refine cN.out.mono ?_
  rintro e W2 ⟨A2, n2, c2, ss, rfl, hp, hl2, ho2, g2⟩
  have hss : ss = [l] := List.perm_singleton.1 hp
  subst hss
  obtain rfl : 1 = n2 := hl2
  have h2 := ch_gr h.out g2
  have hr2 := row_gr hr.out g2
  have hg2 := tnC_gr (C := C) (M := M) g2
  replace h2 := Lib.hid h2
  replace hr2 := Lib.hid hr2
  replace ho2 := Lib.hid ho2
  replace hg2 := Lib.hid hg2
  clear cO cN h hr g2 hp
  go_wp2_with fail
  go_loopw [5, 6, 18] (fun lv av iv wr => (iv = .int .i64 0 ∧ lv = .int .i64 0 ∧ av = .int .i64 0 ∧ W2 = wr) ∨ (∃ a : Int, iv = .int .i64 1 ∧ lv = .int .i64 ((fb.length - x - k : Nat) : Int) ∧ av = .int .i64 a ∧ Hid (ChIs w wr C M q [(l, ⟨fb.take (x + k), ((x + k : Nat) : Int)⟩)] false dd) ∧ Hid (GrS (TnC C M) W2 wr))) (fun _ _ iv _ => 1 - (intOf iv).toNat)
  case atStart => exact .inl ⟨rfl, rfl, rfl, rfl⟩
  case round =>
    rcases hrel with ⟨rfl, rfl, rfl, rfl⟩ | ⟨a, rfl, rfl, rfl, h3, g3⟩
    · obtain ⟨y, B, o, hy, rfl, hc⟩ := row_elem (row_own ho2.out) (show 0 < 1 by decide)
      obtain rfl : l = y := by simpa using hy
      unfold strV at hc
      rw [Nat.add_zero] at hc
      have hlk := look1 h2.out.map l hl
      rw [get_one] at hlk
      simp only [Option.getD_some] at hlk
      unfold flV at hlk
      simp only at hlk
      have c1 := (chb_cells h2.out.blk).2.1
      have hsub : IntKind.i64.wrap ((fb.length : Int) - (x : Int)) = ((fb.length - x : Nat) : Int) := by rw [IntWalk.i64_in _ (by omega)]; omega
      by_cases hwet : fb.length - x = 0
      · have hxe : x = fb.length := by omega
        have hk0 : k = 0 := by omega
        replace hxe := Lib.hid hxe
        replace hk0 := Lib.hid hk0
        rw [hwet] at hsub
        clear hwet hy
        go_wp2
        go_roundw
        case rel =>
          refine .inr ⟨0, by go_num, ?_, rfl, ?_, tnC_gr (gr_alloc _ _ _)⟩
          · have := hxe.out
            have := hk0.out
            congr 1
            omega
          · have e1 : fb.take (x + k) = fb := List.take_of_length_le (by have := hxe.out; omega)
            have e2 : ((x + k : Nat) : Int) = (x : Int) := by have := hk0.out; omega
            rw [e1, e2]
            exact ch_gr h2.out (gr_alloc _ _ _)
        case measure => simp [intOf]
      · have hwI : (((fb.length - x : Nat) : Int) == 0) = false := eqF (by omega)
        have hadd : IntKind.i64.wrap ((x : Int) + (k : Int)) = ((x + k : Nat) : Int) := by rw [IntWalk.i64_in _ (by omega)]; omega
        have hsub2 : IntKind.i64.wrap (((fb.length - x : Nat) : Int) - (k : Int)) = ((fb.length - x - k : Nat) : Int) := by rw [IntWalk.i64_in _ (by omega)]; omega
        have hxk : x + k ≤ fb.length := by omega
        have hxk0 : (0 : Int) ≤ ((x + k : Nat) : Int) := by omega
        have hxk1 : ((x + k : Nat) : Int) ≤ (fb.length : Int) := by omega
        cases zs with
        | nil =>
          obtain rfl : 0 = n := by have := hzl.out; simpa using this
          have hk0 : k = 0 := hk.out
          subst hk0
          clear hwet hy
          go_upto_region 16 with fail
          rw [ext_take fb x]
          have g4 : Gr W2 (W2.alloc (.cells #[.string (txt (fb.take x)), .int .i64 x] 47)) := gr_alloc _ _ _
          have a0 : (W2.alloc (.cells #[.string (txt (fb.take x)), .int .i64 x] 47)).heap[W2.heap.size]? = some (.cells #[.string (txt (fb.take x)), .int .i64 x] 47 (0, 0)) := blk_new W2 _
          have h4 := ch_gr h2.out g4
          have hg4 : GrS (TnC C M) W2 _ := tnC_gr g4
          generalize W2.alloc (.cells #[.string (txt (fb.take x)), .int .i64 x] 47) = W4 at *
          have c1 := (chb_cells h4.blk).2.1
          have b0 : W4.cell? ⟨W2.heap.size, 0, none⟩ = some (.string (txt (fb.take x))) := fcellC a0 rfl
          have b1 : W4.cell? ⟨W2.heap.size, 1, none⟩ = some (.int .i64 x) := fcellC a0 rfl
          obtain ⟨W5, hrun, hm5, g5⟩ := store1 (mapF_gr h4.map (gr_drew W4 none)) l ⟨fb.take x, x⟩ hl (by simp)
          unfold flV at hrun
          simp only at hrun
          rw [put_one] at hm5
          have h5 := ch_map (ch_gr h4 (gr_drew W4 none)) g5 hm5
          have hg5 := grS_step (grS_step hg4 (tnC_gr (gr_drew W4 none))) (tnC_M g5)
          have cX := fix_any h5 (by simp) l ⟨fb.take x, x⟩ hl (get_one _ _) (by show (fb.take x).length ≤ _; rw [List.length_take]; omega)
          rw [put_one] at cX
          replace cX := Lib.hid cX
          replace hg5 := Lib.hid hg5
          clear hm5 g5 h4 hg4 a0 g4 hlk h5
          go_region
          go_wp2_with fail
          refine cX.out.mono ?_
          rintro e W6 ⟨rfl, h6, g6⟩
          try simp only at h6
          rw [List.length_take, Nat.min_eq_left (show x ≤ fb.length by omega)] at h6
          replace h6 := Lib.hid h6
          replace g6 := Lib.hid g6
          go_wp2
          go_roundw
          case rel => exact .inr ⟨1, by go_num, rfl, rfl, h6.out, grS_step hg5.out g6.out⟩
          case measure => simp [intOf]
        | cons z zr =>
          obtain ⟨y2, B2, o2, hy2, rfl, hc2⟩ := row_elem hr2.out (show 0 < n by have := hzl.out; simp at this; omega)
          obtain rfl : z = y2 := by simpa using hy2
          rw [Nat.add_zero] at hc2
          have hc3 : (W2.alloc (.cells #[.string (txt fb), .int .i64 x] 47)).cell? ⟨B2, o2, none⟩ = some (.int .i64 z) := gr_cell (gr_alloc _ _ none) hc2
          have h0n : (0 : Int) < (n : Int) := by have := hzl.out; simp at this; omega
          have hkI : min (max z 0) ((fb.length - x : Nat) : Int) = (k : Int) := by have := hk.out; unfold keptC at this; simp only at this; omega
          obtain ⟨m, hm⟩ : ∃ m, m = x + k := ⟨_, rfl⟩
          rw [← hm] at hadd hxk hxk0 hxk1
          have hmI : (m : Int) = ((x + k : Nat) : Int) := by omega
          clear hwet hy hy2
          replace hm := Lib.hid hm
          replace hmI := Lib.hid hmI
          go_upto_region 16 with fail
          rw [ext_take fb m]
          have g4 : Gr W2 (W2.alloc (.cells #[.string (txt (fb.take m)), .int .i64 x] 47)) := gr_alloc _ _ _
          have a0 : (W2.alloc (.cells #[.string (txt (fb.take m)), .int .i64 x] 47)).heap[W2.heap.size]? = some (.cells #[.string (txt (fb.take m)), .int .i64 x] 47 (0, 0)) := blk_new W2 _
          have h4 := ch_gr h2.out g4
          have hg4 : GrS (TnC C M) W2 _ := tnC_gr g4
          generalize W2.alloc (.cells #[.string (txt (fb.take m)), .int .i64 x] 47) = W4 at *
          have c1 := (chb_cells h4.blk).2.1
          have b0 : W4.cell? ⟨W2.heap.size, 0, none⟩ = some (.string (txt (fb.take m))) := fcellC a0 rfl
          have b1 : W4.cell? ⟨W2.heap.size, 1, none⟩ = some (.int .i64 x) := fcellC a0 rfl
          obtain ⟨W5, hrun, hm5, g5⟩ := store1 (mapF_gr h4.map (gr_drew W4 none)) l ⟨fb.take m, x⟩ hl (by simp)
          unfold flV at hrun
          simp only at hrun
          rw [put_one] at hm5
          have h5 := ch_map (ch_gr h4 (gr_drew W4 none)) g5 hm5
          have hg5 := grS_step (grS_step hg4 (tnC_gr (gr_drew W4 none))) (tnC_M g5)
          have cX := fix_any h5 (by simp) l ⟨fb.take m, x⟩ hl (get_one _ _) (by show (fb.take m).length ≤ _; rw [List.length_take]; omega)
          rw [put_one] at cX
          replace cX := Lib.hid cX
          replace hg5 := Lib.hid hg5
          clear hm5 g5 h4 hg4 a0 g4 hlk h5
          go_region
          go_wp2_with fail
          refine cX.out.mono ?_
          rintro e W6 ⟨rfl, h6, g6⟩
          try simp only at h6
          rw [List.length_take, Nat.min_eq_left (show m ≤ fb.length by omega)] at h6
          replace h6 := Lib.hid h6
          replace g6 := Lib.hid g6
          go_wp2
          go_roundw
          case rel => exact .inr ⟨1, by go_num, rfl, rfl, by rw [← hm.out]; exact h6.out, grS_step hg5.out g6.out⟩
          case measure => simp [intOf]
    · obtain ⟨c0, c1, c2', c3, c4, c5, c6⟩ := chb_cells h3.out.blk
      have f2 := fzeroC h3.out.blk 2
      have f3 := fzeroC h3.out.blk 3
      have f5 := fzeroC h3.out.blk 5
      have hb1 : ChB (wr.setCell ⟨C, 2, none⟩ (.bool true)) C M q true dd := blk_set h3.out.blk 2 _
      have hb2 : ChB ((wr.setCell ⟨C, 2, none⟩ (.bool true)).setCell ⟨C, 3, none⟩ (.bool false)) C M q true dd := blk_set hb1 3 _
      have hb3 : ChB (((wr.setCell ⟨C, 2, none⟩ (.bool true)).setCell ⟨C, 3, none⟩ (.bool false)).setCell ⟨C, 5, none⟩ (.slice none 0 0)) C M q true dd := blk_set hb2 5 _
      have hs : GrB C wr (((wr.setCell ⟨C, 2, none⟩ (.bool true)).setCell ⟨C, 3, none⟩ (.bool false)).setCell ⟨C, 5, none⟩ (.slice none 0 0)) := gr_trans (gr_trans (gr_set wr ⟨C, 2, none⟩ _) (gr_set _ ⟨C, 3, none⟩ _)) (gr_set _ ⟨C, 5, none⟩ _)
      have hfin := ch_blk h3.out hs hb3
      have hgfin := grS_step (grS_step hg2.out g3.out) (tnC_C hs)
      replace hfin := Lib.hid hfin
      replace hgfin := Lib.hid hgfin
      clear hb1 hb2 hb3 hs h3 g3 c0 c1 c4 c6
      go_wp2
      go_ret
      exact ⟨rfl, hfin.out, hgfin.out⟩
end Go.Proofs.Ytbkhopfoabdeiaa
