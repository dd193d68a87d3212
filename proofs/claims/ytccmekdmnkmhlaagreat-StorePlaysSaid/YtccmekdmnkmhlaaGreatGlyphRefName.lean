/-
  What the document's Name answers. No condition but a bound on the length.
-/
import Derived.Test.YtccmekdmnkmhlaaGreatGlyphName
import Derived.Deep.CutBlock
namespace Go.Proofs.YtccmekdmnkmhlaaGreat
open Go.RowKit

theorem name_yes {l : List UInt8} (h1 : 1 ≤ (chunks l).length) (h2 : (chunks l).length ≤ 30) {c0 : Nat × List UInt8} (h3 : (chunks l)[0]? = some c0) (h4 : kind (c0.1 : Nat) = 1) (h5 : ∀ (j : Nat) c, (chunks l)[j]? = some c → kind (c.1 : Nat) = 1 ∨ kind (c.1 : Nat) = 2) : isName l = true := by
  unfold isName
  rw [decide_eq_true ⟨h1, h2⟩, Bool.and_true]
  have hm : ∀ c ∈ chunks l, kind (c.1 : Nat) = 1 ∨ kind (c.1 : Nat) = 2 := fun c hc => by
    obtain ⟨j, hj⟩ := List.mem_iff_getElem?.1 hc
    exact h5 j c hj
  generalize chunks l = C at *
  cases C with
  | nil => simp at h1
  | cons d ds =>
    obtain rfl : d = c0 := by simpa using h3
    simp only [okD, Bool.and_eq_true, decide_eq_true_eq, List.all_eq_true]
    exact ⟨h4, fun c hc => hm c (List.mem_cons_of_mem _ hc)⟩
theorem okD_no0 {C : List (Nat × List UInt8)} {c0 : Nat × List UInt8} (h3 : C[0]? = some c0) (h4 : kind (c0.1 : Nat) ≠ 1) : okD C = false := by
  cases C with
  | nil => simp at h3
  | cons d ds =>
    obtain rfl : d = c0 := by simpa using h3
    simp [okD, h4]
theorem okD_nok {C : List (Nat × List UInt8)} {j : Nat} {c : Nat × List UInt8} (h : C[j]? = some c) (h1 : kind (c.1 : Nat) ≠ 1) (h2 : kind (c.1 : Nat) ≠ 2) : okD C = false := by
  cases ho : okD C with
  | false => rfl
  | true =>
    exfalso
    have hc := List.mem_of_getElem? h
    cases C with
    | nil => simp at hc
    | cons d ds =>
      simp only [okD, Bool.and_eq_true, decide_eq_true_eq, List.all_eq_true] at ho
      rcases List.mem_cons.1 hc with rfl | hc
      · exact h1 ho.1
      · rcases ho.2 c hc with h | h
        · exact h1 h
        · exact h2 h
theorem name_noD {l : List UInt8} (h : okD (chunks l) = false) : isName l = false := by unfold isName; rw [h]; rfl
theorem name_nolen {l : List UInt8} (h : ¬ (1 ≤ (chunks l).length ∧ (chunks l).length ≤ 30)) : isName l = false := by unfold isName; rw [decide_eq_false h, Bool.and_false]
theorem done_upto2 {l : List UInt8} {done : List (Nat × List UInt8)} {p n : Nat} (h : chunks l = done ++ chunks (l.drop p)) (hp : p ≤ l.length) (hn : done.length = min n (chunks l).length) :
    upto n l = l.take p ∧ joinC ((chunks l).drop n) = l.drop p := by
  have h1 := done_upto h hp rfl
  rcases Nat.le_total n (chunks l).length with hle | hle
  · rw [Nat.min_eq_left hle] at hn
    rw [hn] at h1
    exact h1
  · rw [Nat.min_eq_right hle] at hn
    rw [hn] at h1
    unfold upto at h1 ⊢
    rw [List.take_of_length_le (Nat.le_refl _), List.drop_of_length_le (Nat.le_refl _)] at h1
    rw [List.take_of_length_le hle, List.drop_of_length_le hle]
    exact h1
set_option maxHeartbeats 2000000 in
set_option maxRecDepth 100000 in
theorem refName_any (l : List UInt8) (w : World) (hl : l.length ≤ 2000000) : Calls Tryz.prog 92 #[.string (txt l)] w fun e w' => e = .returned (.bool (isName l)) ∧ Gr w w' := by
  go_enter Tryz.func92, Tryz.ntmps92
  go_wp2_with fail
  refine (refSpell_any l _ (by omega)).mono ?_
  rintro e W1 ⟨v, rfl, hown, g1⟩
  obtain ⟨A, cc, rfl, hlen, _⟩ := own_open hown
  have hrow := row_own hown
  have hnl := chunks_len l
  clear hown hlen
  by_cases hn : 1 ≤ (chunks l).length ∧ (chunks l).length ≤ 30
  · obtain ⟨hn1, hn2⟩ := hn
    obtain ⟨c0, B, o, h0, rfl, hc0⟩ := row_elem hrow hn1
    simp only [runeV, Nat.add_zero] at hc0
    by_cases hk : kind (c0.1 : Nat) = 1
    · have hyes := fun h5 => name_yes hn1 hn2 h0 hk h5
      have hno := fun (j : Nat) c h h1 h2 => name_noD (l := l) (okD_nok (C := chunks l) (j := j) (c := c) h h1 h2)
      have cK := fun w => refKind_any (c0.1 : Nat) w
      rw [hk] at cK
      have hNi1 : (1 : Int) ≤ ((chunks l).length : Int) := by omega
      have hNi2 : ((chunks l).length : Int) ≤ 30 := by omega
      generalize hN : (chunks l).length = N at *
      replace hyes := Lib.hid hyes
      replace hno := Lib.hid hno
      replace hN := Lib.hid hN
      replace hk := Lib.hid hk
      replace h0 := Lib.hid h0
      replace hrow := Lib.hid hrow
      go_wp2_with fail
      refine (cK _).mono ?_
      rintro e w2 ⟨rfl, rfl⟩
      go_wp2
      go_loopw [4] (fun i wr => ∃ k : Nat, k ≤ N ∧ i = .int .i64 k ∧ Hid (∀ (j : Nat) c, j < k → (chunks l)[j]? = some c → kind (c.1 : Nat) = 1 ∨ kind (c.1 : Nat) = 2) ∧ wr = W1) (fun i _ => N - (intOf i).toNat)
      case atStart => exact ⟨0, Nat.zero_le _, rfl, Lib.hid (fun j c hj _ => by omega), rfl⟩
      case round =>
        obtain ⟨k, hkN, rfl, hall, rfl⟩ := hrel
        by_cases hlt : k < N
        · have hki : (k : Int) < (N : Int) := by omega
          obtain ⟨c, B', o', hcj, e, hcc⟩ := row_elem hrow.out hlt
          have e2 := Option.some.inj e
          injection e2 with e3 e4
          subst e3 e4
          simp only [runeV] at hcc
          clear e
          have cC := fun w => refKind_any (c.1 : Nat) w
          obtain ⟨K, hK⟩ : ∃ K, K = kind (c.1 : Nat) := ⟨_, rfl⟩
          rw [← hK] at cC
          by_cases hK1 : K = 1
          · subst hK1
            replace hK := Lib.hid hK
            replace hcj := Lib.hid hcj
            go_wp2_with fail
            refine (cC _).mono ?_
            rintro e w2 ⟨rfl, rfl⟩
            go_wp2
            go_roundw
            case rel => exact ⟨k + 1, by omega, by go_num, Lib.hid (fun j d hj hd => by
              rcases Nat.lt_or_ge j k with h | h
              · exact hall.out j d h hd
              · obtain rfl : j = k := by omega
                rw [hcj.out] at hd
                obtain rfl := Option.some.inj hd
                exact .inl hK.out.symm), trivial⟩
            case measure => simp [intOf]; omega
          · have hK1F : (K == 1) = false := eqF hK1
            have hK1T : (K != 1) = true := by simp [bne, hK1F]
            by_cases hK2 : K = 2
            · subst hK2
              replace hK := Lib.hid hK
              replace hcj := Lib.hid hcj
              go_wp2_with fail
              refine (cC _).mono ?_
              rintro e w2 ⟨rfl, rfl⟩
              go_wp2_with fail
              refine (cC _).mono ?_
              rintro e w2 ⟨rfl, rfl⟩
              go_wp2
              go_roundw
              case rel => exact ⟨k + 1, by omega, by go_num, Lib.hid (fun j d hj hd => by
                rcases Nat.lt_or_ge j k with h | h
                · exact hall.out j d h hd
                · obtain rfl : j = k := by omega
                  rw [hcj.out] at hd
                  obtain rfl := Option.some.inj hd
                  exact .inr hK.out.symm), trivial⟩
              case measure => simp [intOf]; omega
            · have hK2F : (K == 2) = false := eqF hK2
              have hK2T : (K != 2) = true := by simp [bne, hK2F]
              have hf := hno.out k c hcj (by rw [← hK]; exact hK1) (by rw [← hK]; exact hK2)
              replace hf := Lib.hid hf
              replace hK := Lib.hid hK
              replace hcj := Lib.hid hcj
              go_wp2_with fail
              refine (cC _).mono ?_
              rintro e w2 ⟨rfl, rfl⟩
              go_wp2_with fail
              refine (cC _).mono ?_
              rintro e w2 ⟨rfl, rfl⟩
              go_wp2
              go_ret
              exact ⟨by rw [hf.out]; rfl, g1⟩
        · obtain rfl : k = N := by omega
          have hy := hyes.out (fun j c hj => hall.out j c (by have := (List.getElem?_eq_some_iff.1 hj).1; have := hN.out; omega) hj)
          replace hy := Lib.hid hy
          go_wp2
          go_ret
          exact ⟨by rw [hy.out]; rfl, g1⟩
    · have hf := name_noD (l := l) (okD_no0 h0 hk)
      have cK := fun w => refKind_any (c0.1 : Nat) w
      generalize kind (c0.1 : Nat) = K at *
      have hKF : (K == 1) = false := eqF hk
      have hKT : (K != 1) = true := by simp [bne, hKF]
      have hNi1 : (1 : Int) ≤ ((chunks l).length : Int) := by omega
      have hNi2 : ((chunks l).length : Int) ≤ 30 := by omega
      generalize (chunks l).length = N at *
      replace hf := Lib.hid hf
      replace h0 := Lib.hid h0
      replace hrow := Lib.hid hrow
      go_wp2_with fail
      refine (cK _).mono ?_
      rintro e w2 ⟨rfl, rfl⟩
      go_wp2
      go_ret
      exact ⟨by rw [hf.out]; rfl, g1⟩
  · have hf := name_nolen hn
    generalize (chunks l).length = N at *
    replace hf := Lib.hid hf
    by_cases h1 : N = 0
    · subst h1
      go_wp2
      go_ret
      exact ⟨by rw [hf.out]; rfl, g1⟩
    · have h2 : (30 : Int) < (N : Int) := by omega
      go_wp2
      go_ret
      exact ⟨by rw [hf.out]; rfl, g1⟩
end Go.Proofs.YtccmekdmnkmhlaaGreat
