/-
  RunRaw holds of the program: for every input the call returns true and leaves what came in as it was. No condition.
-/
import Derived.Test.YtoidfoalhkoajaaRows
import Derived.Test.YtoidfoalhkoajaaRefPg
import Derived.WalkKit
import Derived.ProofKit
import Derived.OpenShut
import Derived.ShutString
import Derived.ChangeOld
import Derived.Below
namespace Go.Proofs.Ytoidfoalhkoajaa.runRaw
open Go.ChangeShapes Go.WideShapes Go.ChangeAt Go.RowKit
open Go.ChangeMaps (open_string shut_string)
set_option linter.unusedVariables false

theorem own : ownKnob Try.prog.godebug = none := by kernel_rfl
theorem laidOut : laidOutB Try.prog = true := by kernel_rfl
theorem pageAns_ok {L : List UInt8} {fr n : Int} {l : List Rw} (h : pageAns L fr n = .inr l) : (∀ r ∈ l, okR r) ∧ l.length ≤ 2000 := by
  unfold pageAns at h
  cases ho : openB L with
  | none => rw [ho] at h; cases h
  | some p =>
    obtain ⟨al, rest⟩ := p
    rw [ho] at h
    simp only at h
    have hal := openB_le ho
    split at h
    · cases h
    · next hb =>
      cases hp : pageB al fr.toNat (fr.toNat + min n.toNat (al - fr.toNat)) rest with
      | none => rw [hp] at h; cases h
      | some l2 =>
        rw [hp] at h
        simp only [Sum.inr.injEq] at h
        subst h
        exact pageB_ok hp (by omega)
theorem readB_ok {L : List UInt8} {l : List Rw} (h : readB L = some l) : (∀ r ∈ l, okR r) ∧ l.length ≤ 2000 ∧ (fileB l).length ≤ 60000 ∧ fileB l = L := by
  unfold readB at h
  cases ho : openB L with
  | none => rw [ho] at h; cases h
  | some p =>
    obtain ⟨al, rest⟩ := p
    rw [ho] at h
    simp only at h
    have hal := openB_le ho
    cases hp : pageB al 0 al rest with
    | none => rw [hp] at h; cases h
    | some l2 =>
      rw [hp] at h
      simp only at h
      split at h
      · next hc =>
        simp only [Option.some.injEq] at h
        subst h
        exact ⟨(pageB_ok hp hal).1, (pageB_ok hp hal).2, hc.1, hc.2⟩
      · cases h
theorem ownRs_cap {w : World} {base c : Nat} {A : Option Addr} {l : List Rw} (hO : OwnRs w base (.slice A l.length c) l) : l.length ≤ c ∧ (A = none → l.length = 0) := by
  obtain ⟨hs0, _, ho0⟩ := hO
  refine ⟨?_, fun e => ?_⟩
  · obtain ⟨A', c', e, h1, h2⟩ := own_openS ho0
    injection e with e1 _ e3
    subst e1 e3
    exact h1
  · by_cases h0 : 0 < l.length
    · obtain ⟨g, cap, hv, _, _⟩ := ho0.form h0
      injection hv with h1 _ _
      rw [e] at h1
      cases h1
    · omega
set_option maxHeartbeats 32000000 in
set_option maxRecDepth 100000 in
theorem walk (w : World) (a0 : ByteArray) (w0 : a0.size ≤ maxLen) (a1 : Int) (w1 : (Lit.int .i64 a1).wf = true) (a2 : Int) (w2 : (Lit.int .i64 a2).wf = true) :
    Calls Try.prog 3 #[.string a0, .int .i64 a1, .int .i64 a2] w fun e w' => e = .returned (.bool true) ∧ Below w.heap.size w w' := by
  obtain ⟨L, rfl⟩ : ∃ L, a0 = txt L := ⟨_, (txt_of _).symm⟩
  have r1 := rng_i64 w1
  have r2 := rng_i64 w2
  clear w0 w1 w2
  by_cases hb : L.length > 3000
  · go_enter Try.func3, Try.ntmps3
    go_wp2_with fail
    refine (alive_any _).mono ?_
    rintro e w2 ⟨rfl, g2⟩
    go_wp2
    go_ret
    exact ⟨rfl, gr_below g2⟩
  · have hL : L.length ≤ 1000000 := by omega
    have hbI : (L.length : Int) ≤ 3000 := by omega
    have cR := fun W => rread_any L W hL
    have cP := fun W => rpage_any L a1 a2 W hL r1 r2
    have cQ := fun W => refPage_any L a1 a2 W hL r1 r2
    unfold ReadPost at cR
    unfold PagePost at cP cQ
    -- the pages
    have cPQ : ∃ (n : Nat) (code : Int) (l : List Rw), n = l.length ∧ n ≤ 2000 ∧ (∀ r ∈ l, r.l.length ≤ 1000000000) ∧ (∀ W, Calls Try.prog 9 #[.string (txt L), .int .i64 a1, .int .i64 a2] W fun e w' => (∃ A c, e = .returned (.tuple #[.slice A n c, .int .i64 code]) ∧ Rows w' A n l) ∧ Gr W w') ∧ (∀ W, Calls Try.prog 10 #[.string (txt L), .int .i64 a1, .int .i64 a2] W fun e w' => (∃ A c, e = .returned (.tuple #[.slice A n c, .int .i64 code]) ∧ Rows w' A n l) ∧ Gr W w') := by
      cases hA : pageAns L a1 a2 with
      | inl c =>
        rw [hA] at cP cQ
        simp only at cP cQ
        refine ⟨0, c, [], rfl, by omega, (by intro r hr; cases hr), fun W => (cP W).mono ?_, fun W => (cQ W).mono ?_⟩
        · rintro e w' ⟨rfl, g⟩
          exact ⟨⟨none, 0, rfl, ownRs_rows (ownRs_nil _ 0) rfl⟩, g⟩
        · rintro e w' ⟨rfl, g⟩
          exact ⟨⟨none, 0, rfl, ownRs_rows (ownRs_nil _ 0) rfl⟩, g⟩
      | inr l =>
        rw [hA] at cP cQ
        simp only at cP cQ
        obtain ⟨hok, hl⟩ := pageAns_ok hA
        refine ⟨l.length, 0, l, rfl, hl, ok_small hok, fun W => (cP W).mono ?_, fun W => (cQ W).mono ?_⟩
        · rintro e w' ⟨⟨A, c, rfl, hO⟩, g⟩
          exact ⟨⟨A, c, rfl, ownRs_rows hO rfl⟩, g⟩
        · rintro e w' ⟨⟨A, c, rfl, hO⟩, g⟩
          exact ⟨⟨A, c, rfl, ownRs_rows hO rfl⟩, g⟩
    clear cP cQ
    obtain ⟨n, code, l, hn, hn2, hsm, cP, cQ⟩ := cPQ
    have hcc : (code != code) = false := by simp
    replace hcc := Lib.hid hcc
    replace cP := Lib.hid cP
    replace cQ := Lib.hid cQ
    replace hn := Lib.hid hn
    replace hsm := Lib.hid hsm
    cases hR : readB L with
    | none =>
      rw [hR] at cR
      simp only at cR
      replace cR := Lib.hid cR
      clear hR
      go_enter Try.func3, Try.ntmps3
      go_wp2_with fail
      refine (alive_any _).mono ?_
      rintro e w2 ⟨rfl, g2⟩
      go_wp2_with fail
      refine (cR.out _).mono ?_
      rintro e w3 ⟨rfl, g3⟩
      go_wp2_with fail
      refine (cP.out _).mono ?_
      rintro e w4 ⟨⟨A, c, rfl, hA⟩, g4⟩
      go_wp2_with fail
      refine (cQ.out _).mono ?_
      rintro e w5 ⟨⟨B, d, rfl, hB⟩, g5⟩
      have cS := fun W (g : Gr w5 W) => bookRows_any A B n n c d l l W (by omega) (by omega) (rows_gr hA (gr_trans g5 g)) (rows_gr hB g) hsm.out hsm.out
      simp only [decide_true] at cS
      have G5 := gr_trans (gr_trans g2 g3) (gr_trans g4 g5)
      replace cS := Lib.hid cS
      replace G5 := Lib.hid G5
      clear hA hB g2 g3 g4 g5 cP cQ cR
      have hc2 := hcc.out
      go_wp2_with fail
      refine (cS.out _ (gr_refl _ _)).mono ?_
      rintro e w6 ⟨rfl, g6⟩
      go_wp2
      go_ret
      exact ⟨rfl, gr_below (gr_trans G5.out g6)⟩
    | some m =>
      rw [hR] at cR
      simp only at cR
      obtain ⟨hok, hm, hF, hFL⟩ := readB_ok hR
      have hF2 := hFL
      replace cR := Lib.hid cR
      replace hok := Lib.hid hok
      replace hFL := Lib.hid hFL
      replace hF2 := Lib.hid hF2
      clear hR
      go_enter Try.func3, Try.ntmps3
      go_wp2_with fail
      refine (alive_any _).mono ?_
      rintro e w2 ⟨rfl, g2⟩
      go_wp2_with fail
      refine (cR.out _).mono ?_
      rintro e w3 ⟨⟨A3, c3, rfl, hO⟩, g3⟩
      obtain ⟨hcc3, hA3⟩ := ownRs_cap hO
      have cM := fun W (g : Gr w3 W) => rmake_any A3 m.length c3 m W hm hcc3 hA3 (rows_gr (ownRs_rows hO rfl) g) hok.out
      unfold MakePost at cM
      rw [if_pos hF, hFL.out] at cM
      replace cM := Lib.hid cM
      clear hO hA3 hF
      generalize m.length = mn at *
      go_wp2_with fail
      refine (cP.out _).mono ?_
      rintro e w4 ⟨⟨A, c, rfl, hA⟩, g4⟩
      go_wp2_with fail
      refine (cQ.out _).mono ?_
      rintro e w5 ⟨⟨B, d, rfl, hB⟩, g5⟩
      have cS := fun W (g : Gr w5 W) => bookRows_any A B n n c d l l W (by omega) (by omega) (rows_gr hA (gr_trans g5 g)) (rows_gr hB g) hsm.out hsm.out
      simp only [decide_true] at cS
      have G5 := gr_trans (gr_trans g2 g3) (gr_trans g4 g5)
      have G35 := gr_trans g4 g5
      replace cS := Lib.hid cS
      replace G5 := Lib.hid G5
      replace G35 := Lib.hid G35
      clear hA hB g2 g3 g4 g5 cP cQ cR
      have hc2 := hcc.out
      go_wp2_with fail
      refine (cS.out _ (gr_refl _ _)).mono ?_
      rintro e w6 ⟨rfl, g6⟩
      have cM6 := cM.out w6 (gr_trans G35.out g6)
      have G6 := gr_trans G5.out g6
      replace cM6 := Lib.hid cM6
      replace G6 := Lib.hid G6
      clear cS cM g6 G35 G5
      go_wp2_with fail
      refine cM6.out.mono ?_
      rintro e w7 ⟨rfl, g7⟩
      go_wp2
      go_ret
      exact ⟨rfl, gr_below (gr_trans G6.out g7)⟩


set_option maxRecDepth 100000 in
theorem lifted (os : Os) (started : os.Started) (H : Type) (enc : TypeId × Value → H) :
    ReturnsInHanded {} Try.checked os 3 .any (Rows.runRawSpec.pre6 enc Try.prog Try.f3 Rows.runRawRow.domain false) (Rows.runRawSpec.post enc Try.prog Try.f3 false true false false) := by
  refine returnsInHanded_of_change (C := Try.checked) own started (by kernel_rfl) Try.func3
    (ChangeSpec.witness6 (enc := enc) (C := Try.checked) false ⟨#[], #[.string ByteArray.empty, .int .i64 0, .int .i64 0], []⟩ 8 (by kernel_rfl) (by kernel_rfl) (by kernel_rfl) (by kernel_rfl)) ?_
  intro W base args ds gs before hval0 hW hcnd _
  have hval : ∀ (j : Nat) t v, Try.f3.params[j]? = some t → args[j]? = some v → Value.okWide Try.prog W .any base t v := hval0
  have hW' := hW
  obtain ⟨p, q, hA0, hV, rfl, hfz, hnd⟩ := hW
  have hA : DataW.TrodAll enc Try.prog W 0 (fun _ => true) true Try.f3.params.toList args.toList ds p := hA0
  rw [Try.params3] at hA hval
  obtain ⟨v0, vs0, d0, ds0, p0, q0, hargs, rfl, rfl, h0, r0⟩ := trodAll_cons hA
  obtain ⟨v1, vs1, d1, ds1, p1, q1, rfl, rfl, rfl, h1, r1⟩ := trodAll_cons r0
  obtain ⟨v2, vs2, d2, ds2, p2, q2, rfl, rfl, rfl, h2, r2⟩ := trodAll_cons r1
  obtain ⟨rfl, rfl, rfl⟩ := trodAll_nil r2
  obtain rfl : args = #[v0, v1, v2] := by cases args; simp_all
  obtain ⟨rfl, rfl⟩ := trodVars_none hV
  obtain ⟨a0, rfl, rfl, rfl, w0⟩ := open_string Try.underlying9 (hval 0 9 v0 rfl rfl) h0
  obtain ⟨a1, rfl, rfl, rfl, w1⟩ := open_int Try.underlying3 (hval 1 3 v1 rfl rfl) h1
  obtain ⟨a2, rfl, rfl, rfl, w2⟩ := open_int Try.underlying3 (hval 2 3 v2 rfl rfl) h2
  clear hA0 hval0
  refine (walk W a0 w0 a1 w1 a2 w2).mono fun e W' ⟨he, bel⟩ => ?_
  subst he
  exact ⟨_, rfl, _, _, _, [], _, [], hW', trodAll_mk1 (shut_bool Try.underlying4 _), (trodAll_cons_mk (shut_string Try.underlying9 w0) (trodAll_cons_mk (shut_int Try.underlying3 w1) (trodAll_cons_mk (shut_int Try.underlying3 w2) trodAll_mk0))), rfl, bel.frame _, fun h => by cases h⟩

theorem over : Rows.runRawRow.holds Try.pinned (OpenSpec.ofChange Rows.runRawSpec) :=
  OpenClaim.holds_of_wide 3 Try.f3 rfl rfl rfl rfl rfl rfl rfl ⟨rfl, rfl, rfl, rfl, rfl⟩ rfl rfl rfl rfl rfl (by kernel_rfl) Try.func3 (by kernel_rfl)
    (of_decide_eq_true (by kernel_rfl)) (by unfold Func.isWrapper; first | (rw [if_pos (by decide +kernel)]; kernel_rfl) | (rw [if_neg (by decide +kernel)]; exact ⟨rfl, rfl⟩))
    (fun os started H enc _ => lifted os started H enc)

/-- THE STATEMENT -/
theorem proved : Rows.RunRawSaid := over
#print axioms proved
end Go.Proofs.Ytoidfoalhkoajaa.runRaw

