/-
  ChestNames holds of the program: for every input the call returns true and leaves what came in as it was. No condition.
-/
import Derived.Test.YtbkhopfoabdeiaaRows
import Derived.Test.YtbkhopfoabdeiaaChestI
import Derived.Test.YtbkhopfoabdeiaaSameTexts
import Derived.WalkKit
import Derived.ProofKit
import Derived.OpenShut
import Derived.ShutString
import Derived.ChangeOld
import Derived.Below
namespace Go.Proofs.Ytbkhopfoabdeiaa.chestNames
open Go.ChangeShapes Go.WideShapes Go.ChangeAt Go.RowKit
open Go.ChangeMaps (open_string shut_string)
set_option linter.unusedVariables false

theorem own : ownKnob Try.prog.godebug = none := by kernel_rfl
theorem laidOut : laidOutB Try.prog = true := by kernel_rfl
theorem mem_ins {x p : List UInt8 × Fl} : ∀ {fs : Fs}, p ∈ insF x fs → p = x ∨ p ∈ fs
  | [], h => by
    unfold insF at h
    exact .inl (List.mem_singleton.1 h)
  | y :: r, h => by
    unfold insF at h
    split at h
    · rcases List.mem_cons.1 h with h | h
      · exact .inl h
      · exact .inr h
    · rcases List.mem_cons.1 h with h | h
      · exact .inr (h ▸ List.mem_cons_self)
      · rcases mem_ins h with h | h
        · exact .inl h
        · exact .inr (List.mem_cons_of_mem _ h)
theorem mem_put {n : List UInt8} {f : Fl} {p : List UInt8 × Fl} {fs : Fs} (h : p ∈ putF n f fs) : p.1 = n ∨ p ∈ fs := by
  rcases mem_ins h with h | h
  · exact .inl (by rw [h])
  · exact .inr (List.mem_filter.1 h).1
theorem sum_filter (q : List UInt8 × Fl → Bool) : ∀ fs : Fs, sumF (fs.filter q) ≤ sumF fs
  | [] => Nat.le_refl _
  | p :: r => by
    have ih := sum_filter q r
    rw [sumF_cons]
    by_cases h : q p = true
    · rw [List.filter_cons_of_pos h, sumF_cons]; omega
    · rw [List.filter_cons_of_neg h]; omega
theorem sum_put (n : List UInt8) (f : Fl) (fs : Fs) : sumF (putF n f fs) ≤ f.b.length + sumF fs := by
  unfold putF
  rw [sum_ins]
  have := sum_filter (fun p => !(p.1 == n)) fs
  unfold delF
  simp only
  omega
/-- A file that has another name stands alone, where there were these two. -/
theorem only_two {a b : List UInt8} {fs : Fs} (h : ∀ p ∈ fs, p.1 = a ∨ p.1 = b) (g : Fl) : putF b g (delF a fs) = [(b, g)] := by
  have e : delF b (delF a fs) = [] := by
    unfold delF
    rw [List.filter_eq_nil_iff]
    intro p hp
    obtain ⟨h1, h2⟩ := List.mem_filter.1 hp
    rcases h p h1 with e | e
    · rw [e] at h2; simp at h2
    · simp [e]
  unfold putF
  rw [e]
  rfl
def fxOf (fix : Bool) (x : List UInt8) : Nat := if fix then x.length else 0
set_option maxHeartbeats 16000000 in
set_option maxRecDepth 100000 in
theorem walk (w : World) (a0 : ByteArray) (w0 : a0.size ≤ maxLen) (a1 : ByteArray) (w1 : a1.size ≤ maxLen) (a2 : ByteArray) (w2 : a2.size ≤ maxLen) (a3 : ByteArray) (w3 : a3.size ≤ maxLen) (a4 : Bool) :
    Calls Try.prog 5 #[.string a0, .string a1, .string a2, .string a3, .bool a4] w fun e w' => e = .returned (.bool true) ∧ Below w.heap.size w w' := by
  obtain ⟨a, rfl⟩ : ∃ s, a0 = txt s := ⟨_, (txt_of a0).symm⟩
  obtain ⟨b, rfl⟩ : ∃ s, a1 = txt s := ⟨_, (txt_of a1).symm⟩
  obtain ⟨x, rfl⟩ : ∃ s, a2 = txt s := ⟨_, (txt_of a2).symm⟩
  obtain ⟨y, rfl⟩ : ∃ s, a3 = txt s := ⟨_, (txt_of a3).symm⟩
  rw [txt_size] at w0 w1 w2 w3
  unfold maxLen at w0 w1 w2 w3
  by_cases c : a.length ≤ 60 ∧ b.length ≤ 60 ∧ a ≠ [] ∧ b ≠ [] ∧ a ≠ b ∧ x.length ≤ 500 ∧ y.length ≤ 500
  · obtain ⟨c1, c2, c3, c4, c5, c6, c7⟩ := c
    have i1 : ¬ (60 : Int) < (a.length : Int) := by omega
    have i2 : ¬ (60 : Int) < (b.length : Int) := by omega
    have i3 : a.isEmpty = false := by cases a with | nil => exact absurd rfl c3 | cons _ _ => rfl
    have i4 : b.isEmpty = false := by cases b with | nil => exact absurd rfl c4 | cons _ _ => rfl
    have i5 : (a == b) = false := by simpa using c5
    have i6 : ¬ (500 : Int) < (x.length : Int) := by omega
    have i7 : ¬ (500 : Int) < (y.length : Int) := by omega
    have oa : okNm a = true := by unfold okNm; simp [c1, c3]
    have ob : okNm b = true := by unfold okNm; simp [c2, c4]
    replace oa := Lib.hid oa
    replace ob := Lib.hid ob
    have c5' := Lib.hid c5
    clear c3 c4 c5
    go_enter Try.func5, Try.ntmps5
    go_wp2_with fail
    refine (alive_any _).mono ?_
    rintro e W1 ⟨rfl, g1⟩
    go_wp2_with fail
    refine (cnew_any w W1 g1 10000 (by omega)).mono ?_
    rintro e W2 ⟨C, M, rfl, h2, _⟩
    have cC := create_one h2 (by omega) a oa.out
    replace cC := Lib.hid cC
    clear h2 g1
    go_wp2_with fail
    refine cC.out.mono ?_
    rintro e W3 ⟨rfl, h3, _⟩
    have cA := append_one h3 (by omega) (by omega) x oa.out (by simp only [List.length_nil]; omega)
    rw [List.nil_append] at cA
    replace cA := Lib.hid cA
    clear h3 cC
    go_wp2_with fail
    refine cA.out.mono ?_
    rintro e W4 ⟨rfl, h4, _⟩
    have cB := create_any h4 (by omega) (by simp) b ob.out
    obtain ⟨F3, hF3⟩ : ∃ F3, F3 = putF b ⟨[], 0⟩ [(a, ⟨x, 0⟩)] := ⟨_, rfl⟩
    rw [← hF3] at cB
    have s3 : sumF F3 ≤ 500 := by
      rw [hF3]
      have := sum_put b ⟨[], 0⟩ [(a, ⟨x, 0⟩)]
      have e1 : sumF [(a, ⟨x, 0⟩)] = x.length := by simp [sumF]
      simp only [List.length_nil] at this
      omega
    have l3 : F3.length ≤ 2 := by rw [hF3]; exact put_len _ _ _
    have m3 : ∀ p ∈ F3, p.1 = a ∨ p.1 = b := by
      rw [hF3]
      intro p hp
      rcases mem_put hp with h | h
      · exact .inr h
      · rw [List.mem_singleton.1 h]; exact .inl rfl
    have ga3 : getF F3 a = some ⟨x, 0⟩ := by rw [hF3, get_put_other _ _ c5'.out, get_one]
    have gb3 : getF F3 b = some ⟨[], 0⟩ := by rw [hF3, get_put_self]
    replace cB := Lib.hid cB
    replace m3 := Lib.hid m3
    replace ga3 := Lib.hid ga3
    replace gb3 := Lib.hid gb3
    clear h4 cA hF3
    go_wp2_with fail
    refine cB.out.mono ?_
    rintro e W5 ⟨rfl, h5, _⟩
    have cA := append_any h5 (by omega) (by omega) (by omega) (by omega) b y ⟨[], 0⟩ ob.out gb3.out (by show ([] : List UInt8).length ≤ _; simp) (by omega)
    obtain ⟨F4, hF4⟩ : ∃ F4, F4 = putF b ⟨[] ++ y, 0⟩ F3 := ⟨_, rfl⟩
    simp only at cA
    rw [← hF4] at cA
    have l4 : F4.length ≤ 3 := by rw [hF4]; have := put_len b ⟨[] ++ y, 0⟩ F3; omega
    have m4 : ∀ p ∈ F4, p.1 = a ∨ p.1 = b := by
      rw [hF4]
      intro p hp
      rcases mem_put hp with h | h
      · exact .inr h
      · exact m3.out p h
    have ga4 : getF F4 a = some ⟨x, 0⟩ := by rw [hF4, get_put_other _ _ c5'.out, ga3.out]
    replace cA := Lib.hid cA
    replace m4 := Lib.hid m4
    replace ga4 := Lib.hid ga4
    clear h5 cB hF4 m3 ga3 gb3
    go_wp2_with fail
    refine cA.out.mono ?_
    rintro e W6 ⟨ee, rfl, hor, _⟩
    obtain ⟨rfl, h6⟩ : ee = 0 ∧ ChIs w W6 C M 10000 F4 false (0 + 1 + 1 + 1 + 1) := by
      rcases hor with ⟨h, _⟩ | ⟨_, h1, h2⟩
      · omega
      · exact ⟨h1, h2⟩
    clear hor cA
    cases a4 with
    | true =>
      have cX := fixx_any h6 (by omega) (by omega) a ⟨x, 0⟩ oa.out ga4.out (by show x.length ≤ _; omega)
      replace cX := Lib.hid cX
      clear h6
      go_wp2_with fail
      refine cX.out.mono ?_
      rintro e W7 ⟨rfl, h7, _⟩
      have m7 : ∀ p ∈ putF a ⟨x, (x.length : Int)⟩ F4, p.1 = a ∨ p.1 = b := fun p hp => by
        rcases mem_put hp with h | h
        · exact .inl h
        · exact m4.out p h
      have l7 : (putF a ⟨x, (x.length : Int)⟩ F4).length ≤ 4 := by have := put_len a ⟨x, (x.length : Int)⟩ F4; omega
      have cR := rename_any h7 (by omega) (by omega) a b ⟨x, (x.length : Int)⟩ oa.out ob.out (get_put_self _ _ _)
      rw [only_two m7] at cR
      have hfx : fxOf true x = x.length := rfl
      clear h7 cX m7 l7
      replace cR := Lib.hid cR
      clear m4 ga4 l4 l3 s3
      go_wp2_with fail
      refine cR.out.mono ?_
      rintro e W8 ⟨rfl, h8, _⟩
      have h8 : ChIs w W8 C M 10000 [(b, ⟨x, ((x.length : Nat) : Int)⟩)] false _ := h8
      have c1 := fun W (g : Gr W8 W) => get_has (ch_gr h8 g) (show b.length ≤ 1000000 by omega)
      have c2 := fun W (g : Gr W8 W) => get_any (ch_gr h8 g) a (by omega)
      have hno : getF [(b, ⟨x, ((x.length : Nat) : Int)⟩)] a = none := by rw [get_cons, if_neg (fun e => c5'.out e.symm)]; rfl
      simp only [hno, Option.isSome_none, Bool.false_eq_true, if_false] at c2
      rw [show txt [] = ⟨#[]⟩ from rfl] at c2
      have c3 := fun W (g : Gr W8 W) => nnames_any (ch_gr h8 g) (by simp)
      have c4 := fun W (g : Gr W8 W) => used_any C M 10000 _ false _ W (ch_gr h8 g).blk (ch_gr h8 g).map (show sumF [(b, ⟨x, ((x.length : Nat) : Int)⟩)] ≤ _ by simp [sumF]; omega)
      have es : sumF [(b, ⟨x, ((x.length : Nat) : Int)⟩)] = x.length := by simp [sumF]
      rw [es] at c4
      have c9 := fun W (g : Gr W8 W) => fall_one (ch_gr h8 g) (show b.length ≤ 1000000 by omega) (show x.length ≤ x.length by omega) (by omega) none 0 0 [] (row_nil _ _ _) (by omega)
      have hk0 : keptC [] (x.length - x.length) = 0 := rfl
      rw [hk0, Nat.add_zero, List.take_of_length_le (Nat.le_refl _), Nat.sub_self, Nat.zero_sub] at c9
      clear hk0
      replace c1 := Lib.hid c1
      replace c2 := Lib.hid c2
      replace c3 := Lib.hid c3
      replace c4 := Lib.hid c4
      replace c9 := Lib.hid c9
      clear h8 cR hno es
      go_wp2_with fail
      refine (c1.out _ (gr_refl _ _)).mono ?_
      rintro e W9 ⟨rfl, g9⟩
      go_wp2_with fail
      refine (c2.out _ g9).mono ?_
      rintro e W10 ⟨rfl, g10⟩
      have g910 := gr_trans g9 g10
      clear g9 g10
      go_wp2_with fail
      refine (c3.out _ g910).mono ?_
      rintro e W11 ⟨A, n, cc, ss, rfl, hp, hl, ho, g11⟩
      obtain rfl : ss = [b] := List.perm_singleton.1 hp
      obtain rfl : 1 = n := hl
      have hr1 : Row (W11.alloc (.cells #[.string (txt b)] 9)) A 1 1 ([txt b].map .string) := row_gr (row_own ho) (gr_alloc _ _ _)
      have hr2 : Row (W11.alloc (.cells #[.string (txt b)] 9)) (some ⟨W11.heap.size, 0, none⟩) 1 1 ([txt b].map .string) := row_new W11 #[.string (txt b)] 9 1 rfl
      have cT := sameTexts_any A (some ⟨W11.heap.size, 0, none⟩) 1 1 cc 1 [txt b] [txt b] _ (by unfold maxLen; omega) (by unfold maxLen; omega) hr1 hr2
      rw [decide_eq_true rfl] at cT
      have g12 := gr_trans g910 (gr_trans g11 (gr_alloc W11 (.cells #[.string (txt b)] 9) none))
      replace cT := Lib.hid cT
      replace g12 := Lib.hid g12
      clear ho hr1 hr2 g11 g910
      go_wp2_with fail
      refine cT.out.mono ?_
      rintro e W12 ⟨rfl, g13⟩
      have g14 := gr_trans g12.out g13
      clear g13 cT
      go_wp2_with fail
      refine (c4.out _ g14).mono ?_
      rintro e W13 ⟨rfl, g15⟩
      have g16 := gr_trans g14 g15
      go_wp2_with fail
      refine (c9.out _ g16).mono ?_
      rintro e W14 ⟨rfl, h14, _⟩
      have cP := power_any h14
      replace cP := Lib.hid cP
      clear h14 c1 c2 c3 c4 c9 g12 g14 g15 g16
      go_wp2_with fail
      refine cP.out.mono ?_
      rintro e W15 ⟨rfl, h15, _⟩
      have cG := get_has h15 (show b.length ≤ 1000000 by omega)
      have hend := h15.gr
      replace cG := Lib.hid cG
      replace hend := Lib.hid hend
      clear h15 cP
      go_wp2_with fail
      refine cG.out.mono ?_
      rintro e W16 ⟨rfl, g16⟩
      go_wp2
      go_ret
      exact ⟨rfl, gr_below (gr_trans hend.out g16)⟩
    | false =>
      have cR := rename_any h6 (by omega) (by omega) a b ⟨x, ((0 : Nat) : Int)⟩ oa.out ob.out ga4.out
      rw [only_two m4.out] at cR
      clear h6
      replace cR := Lib.hid cR
      clear m4 ga4 l4 l3 s3
      go_wp2_with fail
      refine cR.out.mono ?_
      rintro e W8 ⟨rfl, h8, _⟩
      have h8 : ChIs w W8 C M 10000 [(b, ⟨x, ((0 : Nat) : Int)⟩)] false _ := h8
      have c1 := fun W (g : Gr W8 W) => get_has (ch_gr h8 g) (show b.length ≤ 1000000 by omega)
      have c2 := fun W (g : Gr W8 W) => get_any (ch_gr h8 g) a (by omega)
      have hno : getF [(b, ⟨x, ((0 : Nat) : Int)⟩)] a = none := by rw [get_cons, if_neg (fun e => c5'.out e.symm)]; rfl
      simp only [hno, Option.isSome_none, Bool.false_eq_true, if_false] at c2
      rw [show txt [] = ⟨#[]⟩ from rfl] at c2
      have c3 := fun W (g : Gr W8 W) => nnames_any (ch_gr h8 g) (by simp)
      have c4 := fun W (g : Gr W8 W) => used_any C M 10000 _ false _ W (ch_gr h8 g).blk (ch_gr h8 g).map (show sumF [(b, ⟨x, ((0 : Nat) : Int)⟩)] ≤ _ by simp [sumF]; omega)
      have es : sumF [(b, ⟨x, ((0 : Nat) : Int)⟩)] = x.length := by simp [sumF]
      rw [es] at c4
      have c9 := fun W (g : Gr W8 W) => fall_one (ch_gr h8 g) (show b.length ≤ 1000000 by omega) (show 0 ≤ x.length by omega) (by omega) none 0 0 [] (row_nil _ _ _) (by omega)
      have hk0 : keptC [] (x.length - 0) = 0 := rfl
      rw [hk0, Nat.add_zero, List.take_zero, Nat.sub_zero, Nat.sub_zero] at c9
      have e0 : txt [] = ⟨#[]⟩ := rfl
      clear hk0
      replace c1 := Lib.hid c1
      replace c2 := Lib.hid c2
      replace c3 := Lib.hid c3
      replace c4 := Lib.hid c4
      replace c9 := Lib.hid c9
      clear h8 cR hno es
      go_wp2_with fail
      refine (c1.out _ (gr_refl _ _)).mono ?_
      rintro e W9 ⟨rfl, g9⟩
      go_wp2_with fail
      refine (c2.out _ g9).mono ?_
      rintro e W10 ⟨rfl, g10⟩
      have g910 := gr_trans g9 g10
      clear g9 g10
      go_wp2_with fail
      refine (c3.out _ g910).mono ?_
      rintro e W11 ⟨A, n, cc, ss, rfl, hp, hl, ho, g11⟩
      obtain rfl : ss = [b] := List.perm_singleton.1 hp
      obtain rfl : 1 = n := hl
      have hr1 : Row (W11.alloc (.cells #[.string (txt b)] 9)) A 1 1 ([txt b].map .string) := row_gr (row_own ho) (gr_alloc _ _ _)
      have hr2 : Row (W11.alloc (.cells #[.string (txt b)] 9)) (some ⟨W11.heap.size, 0, none⟩) 1 1 ([txt b].map .string) := row_new W11 #[.string (txt b)] 9 1 rfl
      have cT := sameTexts_any A (some ⟨W11.heap.size, 0, none⟩) 1 1 cc 1 [txt b] [txt b] _ (by unfold maxLen; omega) (by unfold maxLen; omega) hr1 hr2
      rw [decide_eq_true rfl] at cT
      have g12 := gr_trans g910 (gr_trans g11 (gr_alloc W11 (.cells #[.string (txt b)] 9) none))
      replace cT := Lib.hid cT
      replace g12 := Lib.hid g12
      clear ho hr1 hr2 g11 g910
      go_wp2_with fail
      refine cT.out.mono ?_
      rintro e W12 ⟨rfl, g13⟩
      have g14 := gr_trans g12.out g13
      clear g13 cT
      go_wp2_with fail
      refine (c4.out _ g14).mono ?_
      rintro e W13 ⟨rfl, g15⟩
      have g16 := gr_trans g14 g15
      go_wp2_with fail
      refine (c9.out _ g16).mono ?_
      rintro e W14 ⟨rfl, h14, _⟩
      have cP := power_any h14
      replace cP := Lib.hid cP
      clear h14 c1 c2 c3 c4 c9 g12 g14 g15 g16
      go_wp2_with fail
      refine cP.out.mono ?_
      rintro e W15 ⟨rfl, h15, _⟩
      have cG := get_has h15 (show b.length ≤ 1000000 by omega)
      have hend := h15.gr
      replace cG := Lib.hid cG
      replace hend := Lib.hid hend
      clear h15 cP
      go_wp2_with fail
      refine cG.out.mono ?_
      rintro e W16 ⟨rfl, g16⟩
      go_wp2
      go_ret
      exact ⟨rfl, gr_below (gr_trans hend.out g16)⟩
  · by_cases d0 : 60 < a.length
    · clear c
      have j0 : (60 : Int) < (a.length : Int) := by omega
      go_enter Try.func5, Try.ntmps5
      go_wp2_with fail
      refine (alive_any _).mono ?_
      rintro e W1 ⟨rfl, g1⟩
      go_wp2
      go_ret
      exact ⟨rfl, gr_below g1⟩
    have f0 : ¬ (60 : Int) < (a.length : Int) := by omega
    by_cases d1 : 60 < b.length
    · clear c
      have j1 : (60 : Int) < (b.length : Int) := by omega
      go_enter Try.func5, Try.ntmps5
      go_wp2_with fail
      refine (alive_any _).mono ?_
      rintro e W1 ⟨rfl, g1⟩
      go_wp2
      go_ret
      exact ⟨rfl, gr_below g1⟩
    have f1 : ¬ (60 : Int) < (b.length : Int) := by omega
    by_cases d2 : a = []
    · clear c
      subst d2
      have j2 : txt [] = ⟨#[]⟩ := rfl
      rw [j2]
      go_enter Try.func5, Try.ntmps5
      go_wp2_with fail
      refine (alive_any _).mono ?_
      rintro e W1 ⟨rfl, g1⟩
      go_wp2
      go_ret
      exact ⟨rfl, gr_below g1⟩
    have f2 : a.isEmpty = false := by cases a with | nil => exact absurd rfl d2 | cons _ _ => rfl
    by_cases d3 : b = []
    · clear c
      subst d3
      have j3 : txt [] = ⟨#[]⟩ := rfl
      rw [j3]
      go_enter Try.func5, Try.ntmps5
      go_wp2_with fail
      refine (alive_any _).mono ?_
      rintro e W1 ⟨rfl, g1⟩
      go_wp2
      go_ret
      exact ⟨rfl, gr_below g1⟩
    have f3 : b.isEmpty = false := by cases b with | nil => exact absurd rfl d3 | cons _ _ => rfl
    by_cases d4 : a = b
    · clear c
      subst d4
      go_enter Try.func5, Try.ntmps5
      go_wp2_with fail
      refine (alive_any _).mono ?_
      rintro e W1 ⟨rfl, g1⟩
      go_wp2
      go_ret
      exact ⟨rfl, gr_below g1⟩
    have f4 : (a == b) = false := by simpa using d4
    by_cases d5 : 500 < x.length
    · clear c
      have j5 : (500 : Int) < (x.length : Int) := by omega
      go_enter Try.func5, Try.ntmps5
      go_wp2_with fail
      refine (alive_any _).mono ?_
      rintro e W1 ⟨rfl, g1⟩
      go_wp2
      go_ret
      exact ⟨rfl, gr_below g1⟩
    have f5 : ¬ (500 : Int) < (x.length : Int) := by omega
    by_cases d6 : 500 < y.length
    · clear c
      have j6 : (500 : Int) < (y.length : Int) := by omega
      go_enter Try.func5, Try.ntmps5
      go_wp2_with fail
      refine (alive_any _).mono ?_
      rintro e W1 ⟨rfl, g1⟩
      go_wp2
      go_ret
      exact ⟨rfl, gr_below g1⟩
    have f6 : ¬ (500 : Int) < (y.length : Int) := by omega
    exact absurd ⟨by omega, by omega, d2, d3, d4, by omega, by omega⟩ c



set_option maxRecDepth 100000 in
theorem lifted (os : Os) (started : os.Started) (H : Type) (enc : TypeId × Value → H) :
    ReturnsInHanded {} Try.checked os 5 .any (Rows.chestNamesSpec.pre6 enc Try.prog Try.f5 Rows.chestNamesRow.domain false) (Rows.chestNamesSpec.post enc Try.prog Try.f5 false true false false) := by
  refine returnsInHanded_of_change (C := Try.checked) own started (by kernel_rfl) Try.func5
    (ChangeSpec.witness6 (enc := enc) (C := Try.checked) false ⟨#[], #[.string ByteArray.empty, .string ByteArray.empty, .string ByteArray.empty, .string ByteArray.empty, .bool false], []⟩ 8 (by kernel_rfl) (by kernel_rfl) (by kernel_rfl) (by kernel_rfl)) ?_
  intro W base args ds gs before hval0 hW hcnd _
  have hval : ∀ (j : Nat) t v, Try.f5.params[j]? = some t → args[j]? = some v → Value.okWide Try.prog W .any base t v := hval0
  have hW' := hW
  obtain ⟨p, q, hA0, hV, rfl, hfz, hnd⟩ := hW
  have hA : DataW.TrodAll enc Try.prog W 0 (fun _ => true) true Try.f5.params.toList args.toList ds p := hA0
  rw [Try.params5] at hA hval
  obtain ⟨v0, vs0, d0, ds0, p0, q0, hargs, rfl, rfl, h0, r0⟩ := trodAll_cons hA
  obtain ⟨v1, vs1, d1, ds1, p1, q1, rfl, rfl, rfl, h1, r1⟩ := trodAll_cons r0
  obtain ⟨v2, vs2, d2, ds2, p2, q2, rfl, rfl, rfl, h2, r2⟩ := trodAll_cons r1
  obtain ⟨v3, vs3, d3, ds3, p3, q3, rfl, rfl, rfl, h3, r3⟩ := trodAll_cons r2
  obtain ⟨v4, vs4, d4, ds4, p4, q4, rfl, rfl, rfl, h4, r4⟩ := trodAll_cons r3
  obtain ⟨rfl, rfl, rfl⟩ := trodAll_nil r4
  obtain rfl : args = #[v0, v1, v2, v3, v4] := by cases args; simp_all
  obtain ⟨rfl, rfl⟩ := trodVars_none hV
  obtain ⟨a0, rfl, rfl, rfl, w0⟩ := open_string Try.underlying9 (hval 0 9 v0 rfl rfl) h0
  obtain ⟨a1, rfl, rfl, rfl, w1⟩ := open_string Try.underlying9 (hval 1 9 v1 rfl rfl) h1
  obtain ⟨a2, rfl, rfl, rfl, w2⟩ := open_string Try.underlying9 (hval 2 9 v2 rfl rfl) h2
  obtain ⟨a3, rfl, rfl, rfl, w3⟩ := open_string Try.underlying9 (hval 3 9 v3 rfl rfl) h3
  obtain ⟨a4, rfl, rfl, rfl⟩ := open_bool Try.underlying4 (hval 4 4 v4 rfl rfl) h4
  clear hA0 hval0
  refine (walk W a0 w0 a1 w1 a2 w2 a3 w3 a4).mono fun e W' ⟨he, bel⟩ => ?_
  subst he
  exact ⟨_, rfl, _, _, _, [], _, [], hW', trodAll_mk1 (shut_bool Try.underlying4 _), (trodAll_cons_mk (shut_string Try.underlying9 w0) (trodAll_cons_mk (shut_string Try.underlying9 w1) (trodAll_cons_mk (shut_string Try.underlying9 w2) (trodAll_cons_mk (shut_string Try.underlying9 w3) (trodAll_cons_mk (shut_bool Try.underlying4 a4) trodAll_mk0))))), rfl, bel.frame _, fun h => by cases h⟩

theorem over : Rows.chestNamesRow.holds Try.pinned (OpenSpec.ofChange Rows.chestNamesSpec) :=
  OpenClaim.holds_of_wide 5 Try.f5 rfl rfl rfl rfl rfl rfl rfl ⟨rfl, rfl, rfl, rfl, rfl⟩ rfl rfl rfl rfl rfl (by kernel_rfl) Try.func5 (by kernel_rfl)
    (of_decide_eq_true (by kernel_rfl)) (by unfold Func.isWrapper; first | (rw [if_pos (by decide +kernel)]; kernel_rfl) | (rw [if_neg (by decide +kernel)]; exact ⟨rfl, rfl⟩))
    (fun os started H enc _ => lifted os started H enc)

/-- THE STATEMENT -/
theorem proved : Rows.ChestNamesSaid := over
#print axioms proved
end Go.Proofs.Ytbkhopfoabdeiaa.chestNames

