/-
  slices.Clone and slices.SortFunc of labels. No condition but bounds on the lengths.
-/
import Derived.Test.YtccmekdmnkmhlaaGreatLabelSort
import Derived.Test.YtccmekdmnkmhlaaGreatAppendRow
namespace Go.Proofs.YtccmekdmnkmhlaaGreat
open Go.RowKit

theorem own_empty (w : World) (e : TypeId) (size : Nat) : (w.alloc (.cells #[] e)).ownsRow w.heap.size e size (.slice (some ⟨w.heap.size, 0, none⟩) 0 0) 0 [] :=
  ⟨by simp, .inr ⟨w.heap.size, 0, #[], rfl, Nat.le_refl _, blk_new w _, Nat.le_refl _, Nat.zero_le _, by simp, by simp⟩⟩
set_option maxHeartbeats 4000000 in
set_option maxRecDepth 100000 in
theorem lclone_any (A : Option Addr) (n c : Nat) (zs : List Lb) (w : World) (hn : n ≤ 1000000000) (hA : A = none → n = 0 ∧ c = 0) (hz : Row w A n 2 (sR lblC zs)) :
    Calls Tryz.prog 27 #[.slice A n c] w fun e w' => ∃ v, e = .returned v ∧ w'.ownsRow w.heap.size 58 2 v n (sR lblC zs) ∧ Gr w w' := by
  obtain ⟨ii, hi, hz0, hz1, hz2⟩ := info_parts infoLb
  cases A with
  | none =>
    obtain ⟨rfl, rfl⟩ := hA rfl
    have hzs : sR lblC zs = [] := by
      have := hz.1
      simpa using this
    rw [hzs]
    have he : ∀ w : World, (binOp .eql 46 (.slice none 0 0) (.slice none 0 0)).run Tryz.prog w = .ok (.bool true) w := fun _ => rfl
    go_enter Tryz.func27, Tryz.ntmps27
    go_wp2
    go_ret
    exact ⟨_, rfl, World.ownsRow_nil _ _ _ _, gr_refl _ _⟩
  | some a =>
    have hoe := own_empty w 58 2
    have ge : Gr w (w.alloc (.cells #[] 58)) := gr_alloc _ _ _
    have hz2' := row_gr hz ge
    have hsz : w.heap.size ≤ (w.alloc (.cells #[] 58)).heap.size := ge.size
    replace hz2' := Lib.hid hz2'
    replace hoe := Lib.hid hoe
    replace ge := Lib.hid ge
    clear hz
    have he : ∀ w : World, (binOp .eql 46 (.slice (some a) n c) (.slice none 0 0)).run Tryz.prog w = .ok (.bool false) w := fun _ => rfl
    go_enter Tryz.func27, Tryz.ntmps27
    go_wp2_with (at_builtin; refine wpList_append_row rfl _ _ 46 rfl w.heap.size 58 ii (.agg #[.string ⟨#[]⟩, .string ⟨#[]⟩]) 2 32 Tryz.underlying46 hi hz0 hz1 hz2 rfl (by decide) (.slice (some ⟨w.heap.size, 0, none⟩) 0 0) 0 [] rfl hoe.out (some a) n c (sR lblC zs) rfl (fun e => by cases e) hz2'.out (lbls_ones zs) n (sR lblC zs) (Nat.zero_add n) rfl ?c1 ?c2 hsz ?_; rotate_right; intro v' W5 hown5 hgrow; replace hown5 := Lib.hid hown5; replace hgrow := Lib.hid hgrow)
    case c1 => unfold maxLen; omega
    case c2 => omega
    go_ret
    exact ⟨_, rfl, hown5.out, gr_of_below (below_gr (gr_below ge.out) hgrow.out ge.out.size (by intro q hq; cases hq; exact Nat.le_refl _)) (Nat.le_refl _)⟩
set_option maxHeartbeats 4000000 in
set_option maxRecDepth 100000 in
theorem lsort_any (A : Option Addr) (n c base : Nat) (zs : List Lb) (w : World) (hn : n ≤ 12) (h : w.ownsRow base 58 2 (.slice A n c) n (sR lblC zs)) :
    Calls Tryz.prog 130 #[.slice A n c, .func (.func 97) #[] #[]] w fun e w' =>
      e = .returned (.tuple #[]) ∧ ∃ zs' : List Lb, zs'.Perm zs ∧ Srt zs' ∧ w'.ownsRow base 58 2 (.slice A n c) n (sR lblC zs') ∧ w.grownBy w' (Value.slice A n c).ownBlock := by
  have hb : (Lib.bitLen ((n : Int).toNat) : Int) ≤ 100 := by
    have := Lib.bitLen_le n 62 (by omega) (by omega)
    simp only [Int.toNat_natCast]
    omega
  have hb0 : (0 : Int) ≤ (Lib.bitLen ((n : Int).toNat) : Int) := by omega
  have hw : IntKind.u64.wrap (n : Int) = n := by simp [IntKind.wrap, IntKind.bits, IntKind.signed]; omega
  have hlen : ∀ W, Calls Tryz.prog 145 #[.int .u64 (n : Int)] W fun e w' => e = .returned (.int .i64 (Lib.bitLen ((n : Int).toNat))) ∧ w' = W := fun W => Tryz.bits_Len n W (by omega) (by omega)
  generalize (Lib.bitLen ((n : Int).toNat) : Int) = L at *
  have hpdq : Calls Tryz.prog 144 #[.slice A n c, .int .i64 0, .int .i64 n, .int .i64 L, .func (.func 97) #[] #[]] w fun e w' =>
      e = .returned (.tuple #[]) ∧ ∃ zs' : List Lb, zs'.Perm zs ∧ Srt zs' ∧ w'.ownsRow base 58 2 (.slice A n c) n (sR lblC zs') ∧ w.grownBy w' (Value.slice A n c).ownBlock := by
    have hins : Calls Tryz.prog 151 #[.slice A n c, .int .i64 0, .int .i64 n, .func (.func 97) #[] #[]] w fun e w' =>
      e = .returned (.tuple #[]) ∧ ∃ zs' : List Lb, zs'.Perm zs ∧ Srt zs' ∧ w'.ownsRow base 58 2 (.slice A n c) n (sR lblC zs') ∧ w.grownBy w' (Value.slice A n c).ownBlock := by
      rcases h.2 with ⟨hv, h0⟩ | ⟨g, cap, cur, hv, _⟩
      · injection hv with h1 h2 h3
        subst h1 h2 h3
        have hzs : zs = [] := by
          have := h.1
          rw [sR_len lblC 2 lblC_len] at this
          exact List.eq_nil_of_length_eq_zero (by omega)
        subst hzs
        replace h := Lib.hid h
        clear hlen
        go_enter Tryz.func151, Tryz.ntmps151
        go_wp2
        go_loopw [8] (fun iv wr => iv = .int .i64 1 ∧ w = wr) (fun _ _ => 0)
        case atStart => exact ⟨rfl, rfl⟩
        case round =>
          obtain ⟨rfl, rfl⟩ := hrel
          go_wp2
          go_end0
          exact ⟨rfl, [], List.Perm.refl _, List.Pairwise.nil, h.out, World.grownBy.refl _ _⟩
      · injection hv with h1 h2 h3
        subst h1
        exact lsort_ins g n c base zs w h hn
    have hn12 : (n : Int) ≤ 12 := by omega
    replace hins := Lib.hid hins
    clear h hlen
    go_enter Tryz.func144, Tryz.ntmps144
    go_wp2
    go_loopw [1, 2] (fun av bv wr => av = .int .i64 0 ∧ bv = .int .i64 n ∧ w = wr) (fun _ _ _ => 0)
    case atStart => exact ⟨rfl, rfl, rfl⟩
    case round =>
      obtain ⟨rfl, rfl, rfl⟩ := hrel
      go_wp2_with fail
      refine hins.out.mono ?_
      rintro e w3 ⟨rfl, h3⟩
      replace h3 := Lib.hid h3
      go_wp2
      (try simp only [Exit.inBlock, Exit.then])
      refine bodyPost_ret (results_none rfl _ _ _) rfl ?_
      exact ⟨rfl, h3.out⟩
  replace hpdq := Lib.hid hpdq
  replace hlen := Lib.hid hlen
  clear h
  go_enter Tryz.func130, Tryz.ntmps130
  go_wp2_with fail
  refine (hlen.out _).mono ?_
  rintro e w3 ⟨rfl, rfl⟩
  go_wp2_with fail
  refine hpdq.out.mono ?_
  rintro e w3 ⟨rfl, h3⟩
  replace h3 := Lib.hid h3
  go_wp2
  go_end0
  exact ⟨rfl, h3.out⟩
end Go.Proofs.YtccmekdmnkmhlaaGreat
