/-
  The chapter's first call answers true. No condition.
-/
import Derived.Test.YtdccmmibfacpkaaPatWhole
namespace Go.Proofs.Ytdccmmibfacpkaa
open Go.RowKit

theorem runes_ascii : ∀ (l : List UInt8), (∀ c ∈ l, c.toNat < 128) → runesOf l = l.map fun c => (c.toNat : Int) := by
  intro l
  induction l with
  | nil => intro _; rfl
  | cons c t ih =>
    intro h
    rw [runes_cons c (h c (by simp)), ih (fun d hd => h d (by simp [hd])), List.map_cons]
set_option maxHeartbeats 4000000 in
set_option maxRecDepth 100000 in
theorem alive_any (w : World) : Calls Try.prog 10 #[] w fun e w' => e = .returned (.bool true) ∧ Gr w w' := by
  obtain ⟨H, hH⟩ := holds_ex
  have r1 : runesOf [97, 40, 98, 124, 99, 41, 42] = [97, 40, 98, 124, 99, 41, 42] := (runes_ascii _ (by decide)).trans rfl
  have r2 : runesOf [97, 40, 98] = [97, 40, 98] := (runes_ascii _ (by decide)).trans rfl
  have r3 : runesOf [97, 98, 99, 98] = [97, 98, 99, 98] := (runes_ascii _ (by decide)).trans rfl
  have r4 : runesOf [97, 98, 100] = [97, 98, 100] := (runes_ascii _ (by decide)).trans rfl
  have r5 : runesOf [97, 99, 120] = [97, 99, 120] := (runes_ascii _ (by decide)).trans rfl
  have cP := fun w => compile_any 200 (by omega) [97, 40, 98, 124, 99, 41, 42] w (by decide)
  have cQ := fun w => compile_any 200 (by omega) [97, 40, 98] w (by decide)
  have hp1 := al_parse 160
  replace cP := Lib.hid cP
  replace cQ := Lib.hid cQ
  replace r1 := Lib.hid r1
  replace r2 := Lib.hid r2
  replace hp1 := Lib.hid hp1
  go_enter Try.func10, Try.ntmps10
  go_wp2_with fail
  refine (show Calls Try.prog 11 #[.string ⟨#[97, 40, 98, 124, 99, 41, 42]⟩] _ _ from cP.out _).mono ?_
  rintro e W1 ⟨g1, ⟨hbig, rfl⟩ | ⟨_, hno, rfl⟩ | ⟨_, p, x, hx, hpw, rfl, hpat⟩⟩
  · exfalso
    rw [r1.out] at hbig
    simp at hbig
  · exfalso
    rw [r1.out] at hno
    exact hno _ hp1.out
  rw [r1.out] at hx
  have hx2 : x = alT := by
    have := hx.symm.trans hp1.out
    simpa using this
  subst hx2
  replace hx := Lib.hid hx
  go_wp2_with fail
  refine (show Calls Try.prog 11 #[.string ⟨#[97, 40, 98]⟩] _ _ from cQ.out _).mono ?_
  rintro e W2 ⟨g2, ⟨hbig, rfl⟩ | ⟨_, hno, rfl⟩ | ⟨_, p2, x2, hx2, _, rfl, hpat2⟩⟩
  · exfalso
    rw [r2.out] at hbig
    simp at hbig
  · have hpat2 := pat_gr hpat g2
    have cW1 := fun w hp => whole_any H hH p [97, 40, 98, 124, 99, 41, 42] alT [97, 98, 99, 98] w hp (by decide)
    have cW2 := fun w hp => whole_any H hH p [97, 40, 98, 124, 99, 41, 42] alT [97, 98, 100] w hp (by decide)
    have cB := fun w hp => begins_any p [97, 40, 98, 124, 99, 41, 42] alT [97, 99, 120] w hp (by decide)
    have cT := fun w hp => text_any p [97, 40, 98, 124, 99, 41, 42] alT w hp
    rw [r3, holds_yes hH al_yes] at cW1
    rw [r4, holds_no hH al_no] at cW2
    rw [r5] at cB
    have hdt : txt [97, 40, 98, 124, 99, 41, 42] = ⟨#[97, 40, 98, 124, 99, 41, 42]⟩ := rfl
    rw [hdt] at cT
    replace cW1 := Lib.hid cW1
    replace cW2 := Lib.hid cW2
    replace cB := Lib.hid cB
    replace cT := Lib.hid cT
    replace hpat := Lib.hid hpat
    replace hpat2 := Lib.hid hpat2
    replace hno := Lib.hid hno
    clear r3 r4 r5 hdt
    go_wp2_with fail
    refine (show Calls Try.prog 12 #[_, .string ⟨#[97, 98, 99, 98]⟩] _ _ from cW1.out _ hpat2.out).mono ?_
    rintro e W3 ⟨rfl, g3⟩
    have hpat3 := pat_gr hpat2.out g3
    replace hpat3 := Lib.hid hpat3
    go_wp2_with fail
    refine (show Calls Try.prog 12 #[_, .string ⟨#[97, 98, 100]⟩] _ _ from cW2.out _ hpat3.out).mono ?_
    rintro e W4 ⟨rfl, g4⟩
    have hpat4 := pat_gr hpat3.out g4
    replace hpat4 := Lib.hid hpat4
    go_wp2_with fail
    refine (show Calls Try.prog 13 #[_, .string ⟨#[97, 99, 120]⟩] _ _ from cB.out _ hpat4.out).mono ?_
    rintro e W5 ⟨m, rfl, hm, g5⟩
    obtain rfl := begin_fun hm al_begins
    have hpat5 := pat_gr hpat4.out g5
    replace hpat5 := Lib.hid hpat5
    replace hm := Lib.hid hm
    go_wp2_with fail
    refine (cT.out _ hpat5.out).mono ?_
    rintro e W6 ⟨rfl, rfl⟩
    go_wp2
    go_ret
    exact ⟨rfl, gr_trans (gr_trans (gr_trans (gr_trans g1 g2) g3) g4) g5⟩
  · exfalso
    rw [r2.out] at hx2
    exact al_bad _ _ hx2
end Go.Proofs.Ytdccmmibfacpkaa
