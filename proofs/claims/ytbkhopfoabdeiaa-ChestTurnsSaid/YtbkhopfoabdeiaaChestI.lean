/-
  alive of the chest laws. No condition.
-/
import Derived.Test.YtbkhopfoabdeiaaChestH
namespace Go.Proofs.Ytbkhopfoabdeiaa
open Go.RowKit Go.Maps Go.Sort

/-- Append to the one file. -/
theorem append_one {w wi : World} {C M : Nat} {q dd : Int} {l fb : List UInt8} {fx : Int} (h : ChIs w wi C M q [(l, ⟨fb, fx⟩)] false dd) (hd : 0 ≤ dd ∧ dd ≤ 1000000000) (hq : 0 ≤ q ∧ q ≤ 1000000) (b : List UInt8) (hl : okNm l = true) (hroom : ((fb.length + b.length : Nat) : Int) ≤ q) :
    Calls Try.prog 10 #[.pointer (some ⟨C, 0, none⟩), .string (txt l), .string (txt b)] wi fun e w' => e = .returned (.int .i64 0) ∧ ChIs w w' C M q [(l, ⟨fb ++ b, fx⟩)] false (dd + 1) ∧ GrS (TnC C M) wi w' := by
  have hs : sumF [(l, ⟨fb, fx⟩)] = fb.length := by simp [sumF]
  refine (append_any h hd (by simp) hq (by rw [hs]; omega) l b ⟨fb, fx⟩ hl (get_one _ _) (by show fb.length ≤ _; omega) (by omega)).mono ?_
  rintro e w' ⟨ee, rfl, hor, g⟩
  rw [hs] at hor
  rcases hor with ⟨h1, _⟩ | ⟨_, rfl, h2⟩
  · omega
  · rw [put_one] at h2
    exact ⟨rfl, h2, g⟩
theorem create_one {w wi : World} {C M : Nat} {q dd : Int} (h : ChIs w wi C M q [] false dd) (hd : 0 ≤ dd ∧ dd ≤ 1000000000) (l : List UInt8) (hl : okNm l = true) :
    Calls Try.prog 9 #[.pointer (some ⟨C, 0, none⟩), .string (txt l)] wi fun e w' => e = .returned (.int .i64 0) ∧ ChIs w w' C M q [(l, ⟨[], 0⟩)] false (dd + 1) ∧ GrS (TnC C M) wi w' := create_any h hd (by simp) l hl
theorem fix_one {w wi : World} {C M : Nat} {q dd : Int} {l fb : List UInt8} {fx : Int} (h : ChIs w wi C M q [(l, ⟨fb, fx⟩)] false dd) (hd : 0 ≤ dd ∧ dd ≤ 1000000000) (hl : okNm l = true) (hfl : fb.length ≤ 1000000000000) :
    Calls Try.prog 11 #[.pointer (some ⟨C, 0, none⟩), .string (txt l)] wi fun e w' => e = .returned (.int .i64 0) ∧ ChIs w w' C M q [(l, ⟨fb, fb.length⟩)] false (dd + 1) ∧ GrS (TnC C M) wi w' := by
  refine (fixx_any h hd (by simp) l ⟨fb, fx⟩ hl (get_one _ _) hfl).mono ?_
  rintro e w' ⟨rfl, h2, g⟩
  rw [put_one] at h2
  exact ⟨rfl, h2, g⟩
theorem get_has {w wi : World} {C M : Nat} {q dd : Int} {l fb : List UInt8} {fx : Int} (h : ChIs w wi C M q [(l, ⟨fb, fx⟩)] false dd) (hll : l.length ≤ 1000000) :
    Calls Try.prog 14 #[.pointer (some ⟨C, 0, none⟩), .string (txt l)] wi fun e w' => e = .returned (.tuple #[.string (txt fb), .int .i64 0]) ∧ Gr wi w' := by
  refine (get_any h l hll).mono ?_
  rw [get_one]
  rintro e w' ⟨rfl, g⟩
  exact ⟨rfl, g⟩
set_option maxHeartbeats 8000000 in
set_option maxRecDepth 100000 in
theorem alive_any (w : World) : Calls Try.prog 7 #[] w fun e w' => e = .returned (.bool true) ∧ Gr w w' := by
  have ea : txt [97] = ⟨#[97]⟩ := rfl
  have exy : txt [120, 121] = ⟨#[120, 121]⟩ := rfl
  have ez : txt [122] = ⟨#[122]⟩ := rfl
  go_enter Try.func7, Try.ntmps7
  go_wp2_with fail
  refine (cnew_any w w (gr_refl _ _) 100 (by omega)).mono ?_
  rintro e W1 ⟨C, M, rfl, h1, _⟩
  have c1 := create_one h1 (by omega) [97] rfl
  rw [ea] at c1
  replace c1 := Lib.hid c1
  clear h1
  go_wp2_with fail
  refine c1.out.mono ?_
  rintro e W2 ⟨rfl, h2, _⟩
  have c2 := append_one h2 (by omega) (by omega) [120, 121] rfl (by decide)
  rw [ea, exy] at c2
  replace c2 := Lib.hid c2
  clear h2 c1
  go_wp2_with fail
  refine c2.out.mono ?_
  rintro e W3 ⟨rfl, h3, _⟩
  have c3 := fix_one h3 (by omega) rfl (by decide)
  rw [ea] at c3
  replace c3 := Lib.hid c3
  clear h3 c2
  go_wp2_with fail
  refine c3.out.mono ?_
  rintro e W4 ⟨rfl, h4, _⟩
  have c4 := append_one h4 (by omega) (by omega) [122] rfl (by decide)
  rw [ea, ez] at c4
  replace c4 := Lib.hid c4
  clear h4 c3
  go_wp2_with fail
  refine c4.out.mono ?_
  rintro e W5 ⟨rfl, h5, _⟩
  have h5' : ChIs w W5 C M 100 [([97], ⟨[120, 121, 122], ((2 : Nat) : Int)⟩)] false 4 := h5
  have c5 := fall_one h5' (by decide) (by decide) (by decide) none 0 0 [] (row_nil _ _ _) (by omega)
  replace c5 := Lib.hid c5
  clear h5 c4 h5'
  go_wp2_with fail
  refine c5.out.mono ?_
  rintro e W6 ⟨rfl, h6, _⟩
  have h6' : ChIs w W6 C M 100 [([97], ⟨[120, 121], 2⟩)] true 4 := h6
  have e1 : ((([120, 121, 122] : List UInt8).length - 2 - keptC [] (([120, 121, 122] : List UInt8).length - 2) : Nat) : Int) = 1 := rfl
  rw [e1]
  have c6 := on_any C M 100 4 true _ h6'.blk
  have c7 := power_any h6'
  replace c6 := Lib.hid c6
  replace c7 := Lib.hid c7
  clear h6 h6' c5 e1
  go_wp2_with fail
  refine c6.out.mono ?_
  rintro e w' ⟨rfl, rfl⟩
  go_wp2_with fail
  refine c7.out.mono ?_
  rintro e W7 ⟨rfl, h7, _⟩
  have c8 := get_has h7 (by decide)
  rw [ea, exy] at c8
  have c9 := fun W (g : Gr W7 W) => used_any C M 100 4 false _ W (ch_gr h7 g).blk (ch_gr h7 g).map (by decide)
  have c10 := fun W (g : Gr W7 W) => deeds_any C M 100 4 false W (ch_gr h7 g).blk
  have es : sumF [([97], ⟨[120, 121], 2⟩)] = 2 := rfl
  rw [es] at c9
  have hg := h7.gr
  replace c8 := Lib.hid c8
  replace c9 := Lib.hid c9
  replace c10 := Lib.hid c10
  replace hg := Lib.hid hg
  clear h7 c6 c7 es
  go_wp2_with fail
  refine c8.out.mono ?_
  rintro e W8 ⟨rfl, g8⟩
  go_wp2_with fail
  refine (c9.out _ g8).mono ?_
  rintro e W9 ⟨rfl, g9⟩
  go_wp2_with fail
  refine (c10.out _ (gr_trans g8 g9)).mono ?_
  rintro e w' ⟨rfl, rfl⟩
  go_wp2
  go_ret
  exact ⟨rfl, gr_trans hg.out (gr_trans g8 g9)⟩
end Go.Proofs.Ytbkhopfoabdeiaa
