/-
  PatternPlain holds of the program: for every input the call returns true and leaves what came in as it was. No condition.
-/
import Derived.Test.YtdccmmibfacpkaaRows
import Derived.Test.YtdccmmibfacpkaaPatLaw
import Derived.WalkKit
import Derived.ProofKit
import Derived.OpenShut
import Derived.ShutString
import Derived.ChangeOld
import Derived.Below
namespace Go.Proofs.Ytdccmmibfacpkaa.patternPlain
open Go.ChangeShapes Go.WideShapes Go.ChangeAt Go.RowKit
open Go.ChangeMaps (open_string shut_string)
set_option linter.unusedVariables false

theorem own : ownKnob Try.prog.godebug = none := by kernel_rfl
theorem laidOut : laidOutB Try.prog = true := by kernel_rfl
theorem one_rune (W : World) (r : Int) (b : Nat) (hb : b = W.heap.size) : (convert 22 9 (.slice (some ⟨b, 0, none⟩) 1 1)).run Try.prog (W.alloc (.cells #[.int .i32 r] 21)) = .ok (.string (txt (encs [r]))) (W.alloc (.cells #[.int .i32 r] 21)) := by
  subst hb
  refine run_runes_string (P := Try.prog) (src := 22) (dst := 9) (e := 21) (zs := [r]) Try.underlying22 Try.underlying21 Try.underlying9 ⟨rfl, fun j u hj => ?_⟩ 1
  refine ⟨W.heap.size, 0, rfl, by simp, ?_⟩
  match j, hj with
  | 0, hj =>
    obtain rfl : Value.int .i32 r = u := by simpa using hj
    exact blk_cell (blk_new W (.cells #[.int .i32 r] 21)) rfl
  | j + 1, hj => simp at hj
/-- The pattern's text: each rune behind a backslash. -/
def slashB (rs : List Int) : List UInt8 := rs.flatMap fun r => 92 :: encs [r]
theorem slashB_add (rs : List Int) (r : Int) : slashB (rs ++ [r]) = slashB rs ++ (92 :: encs [r]) := by simp [slashB]
theorem slashB_len (rs : List Int) : (slashB rs).length ≤ 5 * rs.length := by
  induction rs with
  | nil => simp [slashB]
  | cons r rs ih =>
    have h := (encs_len [r]).2
    simp only [slashB, List.flatMap_cons, List.length_append, List.length_cons, List.length_nil] at ih h ⊢
    omega
theorem runes_slashB : ∀ (rs : List Int) (_ : ∀ r ∈ rs, RuneOk r), runesOf (slashB rs) = slashed rs
  | [], _ => rfl
  | r :: rs, h => by
    have e : slashB (r :: rs) = 92 :: (encs [r] ++ slashB rs) := by simp [slashB]
    rw [e, runes_cons 92 (by decide), runes_encs [r] (fun q hq => by
      have : q = r := by simpa using hq
      rw [this]
      exact h r (by simp)), runes_slashB rs (fun q hq => h q (by simp [hq]))]
    rfl
set_option maxHeartbeats 40000000 in
set_option maxRecDepth 100000 in
theorem walk (w : World) (a0 : ByteArray) (w0 : a0.size ≤ maxLen) (a1 : ByteArray) (w1 : a1.size ≤ maxLen) :
    Calls Try.prog 3 #[.string a0, .string a1] w fun e w' => e = .returned (.bool true) ∧ Below w.heap.size w w' := by
  obtain ⟨l, rfl⟩ : ∃ l, a0 = txt l := ⟨_, (txt_of a0).symm⟩
  obtain ⟨m, rfl⟩ : ∃ m, a1 = txt m := ⟨_, (txt_of a1).symm⟩
  rw [txt_size] at w0 w1
  unfold maxLen at w0 w1
  by_cases b1 : 30 < l.length
  · have b1' : (30 : Int) < (l.length : Int) := by omega
    go_enter Try.func3, Try.ntmps3
    go_wp2_with fail
    refine (alive_any _).mono ?_
    rintro e W1 ⟨rfl, g1⟩
    go_wp2
    go_ret
    exact ⟨rfl, gr_below g1⟩
  have b1F : ((30 : Int) < (l.length : Int)) = False := by simp; omega
  by_cases b2 : 60 < m.length
  · have b2' : (60 : Int) < (m.length : Int) := by omega
    go_enter Try.func3, Try.ntmps3
    go_wp2_with fail
    refine (alive_any _).mono ?_
    rintro e W1 ⟨rfl, g1⟩
    go_wp2
    go_ret
    exact ⟨rfl, gr_below g1⟩
  have b2F : ((60 : Int) < (m.length : Int)) = False := by simp; omega
  have cS := fun w => refSpell_runes l w (by omega)
  have cT := fun w => refSpell_runes m w (by omega)
  obtain ⟨R, hR⟩ : ∃ R, R = runesOf l := ⟨_, rfl⟩
  obtain ⟨Q, hQ⟩ : ∃ Q, Q = runesOf m := ⟨_, rfl⟩
  rw [← hR] at cS
  rw [← hQ] at cT
  by_cases b3 : 20 < R.length
  · have b3' : (20 : Int) < (R.length : Int) := by omega
    clear cT
    replace cS := Lib.hid cS
    replace hR := Lib.hid hR
    replace hQ := Lib.hid hQ
    go_enter Try.func3, Try.ntmps3
    go_wp2_with fail
    refine (cS.out _).mono ?_
    rintro e W1 ⟨A, c, rfl, _, g1⟩
    go_wp2_with fail
    refine (alive_any _).mono ?_
    rintro e W2 ⟨rfl, g2⟩
    go_wp2
    go_ret
    exact ⟨rfl, gr_below (gr_trans g1 g2)⟩
  have b3F : ((20 : Int) < (R.length : Int)) = False := by simp; omega
  obtain ⟨H, hH⟩ := holds_ex
  have okR : ∀ r ∈ R, RuneOk r := fun r h => runes_ok (by rw [← hR]; exact h)
  have okQ : ∀ r ∈ Q, RuneOk r := fun r h => runes_ok (by rw [← hQ]; exact h)
  have hrs := runes_slashB R okR
  have hsl := slashB_len R
  have kp : pAlt 200 (runesOf (slashB R)) = some (.alt1 ((R.map oneOf).foldl T.rowS .row0), []) := by rw [hrs]; exact pAlt_more (alt_plain R) (by omega)
  have cC := fun w => compile_ok 200 (by omega) (slashB R) _ w kp (by rw [hrs, slashed_len]; omega) (by omega)
  have kl := lang_plain R
  generalize (T.alt1 ((R.map oneOf).foldl T.rowS .row0)) = x at cC kl kp
  clear kp
  have q1 : H x R = true := holds_yes hH ((kl R).2 rfl)
  have d1 := fun p W hp => whole_any H hH p (slashB R) x l W hp (by omega)
  have d2 := fun p W hp => whole_any H hH p (slashB R) x m W hp (by omega)
  rw [← hR, q1] at d1
  rw [← hQ] at d2
  have back := runes_encs0 R okR
  have back2 := runes_encs0 Q okQ
  have eR := (encs_len R).2
  have eQ := (encs_len Q).2
  obtain ⟨U, hU⟩ : ∃ U, U = encs R := ⟨_, rfl⟩
  obtain ⟨V, hV⟩ : ∃ V, V = encs Q := ⟨_, rfl⟩
  have q3 : H x Q = decide (txt U = txt V) := by
    by_cases h : Q = R
    · rw [hU, hV, h, q1]; simp
    · rw [holds_no hH (fun k => h ((kl Q).1 k))]
      have : ¬ txt U = txt V := fun e => h (by rw [← back2, ← hV, ← txt_inj e, hU, back])
      simp [this]
  rw [q3] at d2
  have cvR := fun W A n c (h : Row W A n 1 (R.map (.int .i32))) => run_runes_string (P := Try.prog) (src := 22) (dst := 9) (e := 21) Try.underlying22 Try.underlying21 Try.underlying9 h c
  have cvQ := fun W A n c (h : Row W A n 1 (Q.map (.int .i32))) => run_runes_string (P := Try.prog) (src := 22) (dst := 9) (e := 21) Try.underlying22 Try.underlying21 Try.underlying9 h c
  rw [← hU] at cvR
  rw [← hV] at cvQ
  clear back back2 q3 q1 kl hrs okR okQ eR eQ hU hV
  replace cS := Lib.hid cS
  replace cT := Lib.hid cT
  replace cC := Lib.hid cC
  replace d1 := Lib.hid d1
  replace d2 := Lib.hid d2
  replace cvR := Lib.hid cvR
  replace cvQ := Lib.hid cvQ
  replace hR := Lib.hid hR
  replace hQ := Lib.hid hQ
  replace hsl := Lib.hid hsl
  go_enter Try.func3, Try.ntmps3
  go_wp2_with fail
  refine (cS.out _).mono ?_
  rintro e W1 ⟨A1, c1, rfl, _, g1⟩
  go_wp2_with fail
  refine (alive_any _).mono ?_
  rintro e W2 ⟨rfl, g2⟩
  have it0 := it_new W2 (txt l)
  have git := it_new_gr W2 (txt l) none
  have G2 := gr_trans g1 g2
  replace it0 := Lib.hid it0
  replace git := Lib.hid git
  replace G2 := Lib.hid G2
  clear g1 g2
  go_wp2
  go_loopw [5] (fun o wr => ∃ (p : Nat) (done : List (Nat × List UInt8)), p ≤ l.length ∧ Hid (chunks l = done ++ chunks (l.drop p)) ∧ Hid (o = .string (txt (slashB (done.map fun c => (c.1 : Int))))) ∧ Hid (It wr W2.heap.size (txt l) p) ∧ Hid (Gr W2 wr)) (fun _ wr => l.length - wr.iterPos W2.heap.size)
  case atStart => exact ⟨0, [], Nat.zero_le _, rfl, rfl, it0.out, git.out⟩
  case round =>
    obtain ⟨p, done, hp, hch, ho, hit, hgr⟩ := hrel
    by_cases hlt : p < l.length
    · obtain ⟨r, k, b, hRd⟩ := round_at hch.out hlt
      have hn := fun ty => next_round (P := Try.prog) hRd hit.out ty
      have hit2 := it_step hit.out (p + k)
      have hg2 := gr_out hgr.out (it_gr wr W2.heap.size (txt l) (p + k)) (Nat.le_refl _)
      have hfit := hRd.fits
      have hw1 := hRd.width
      have hdl := done_len hch.out
      have hpos := it_pos hit.out
      have hnx := hRd.next
      have hlen := slashB_len (done.map fun c => (c.1 : Int))
      have hadd := slashB_add (done.map fun c => (c.1 : Int)) (r : Int)
      rw [List.length_map] at hlen
      have ho' := ho.out
      subst ho'
      generalize itW wr W2.heap.size (txt l) (p + k) = W3 at hn hit2 hg2
      have u1 := fun bb hb => one_rune W3 (r : Int) bb hb
      have u1' := u1 W3.heap.size rfl
      have hl1 := (encs_len [(r : Int)]).2
      simp only [List.length_cons, List.length_nil] at hl1
      obtain ⟨S, hS⟩ : ∃ S, S = slashB (done.map fun c => (c.1 : Int)) := ⟨_, rfl⟩
      rw [← hS] at hlen hadd ⊢
      generalize encs [(r : Int)] = E at u1 u1' hl1 hadd
      have e1 : (⟨#[92]⟩ : ByteArray) ++ txt E = txt (92 :: E) := txt_append [92] E
      have e2 : txt S ++ txt (92 :: E) = txt (S ++ 92 :: E) := txt_append S (92 :: E)
      have n1 : (9223372036854775807 < 1 + E.length) = False := by simp; omega
      have n2 : (9223372036854775807 < S.length + (E.length + 1)) = False := by simp; omega
      have hit4 := it_keep hit2 (gr_alloc W3 (.cells #[.int .i32 (r : Int)] 21) none) (by simp)
      have hg4 := gr_trans hg2 (gr_alloc W3 (.cells #[.int .i32 (r : Int)] 21) none)
      clear u1 ho hgr hit hRd hch hg2
      replace hit2 := Lib.hid hit2
      replace hit4 := Lib.hid hit4
      replace hg4 := Lib.hid hg4
      replace hnx := Lib.hid hnx
      replace hpos := Lib.hid hpos
      replace hadd := Lib.hid hadd
      replace hS := Lib.hid hS
      go_wp2
      go_roundw
      case rel =>
        refine ⟨p + k, done ++ [(r, b)], by omega, hnx.out, ?_, hit4.out, hg4.out⟩
        rw [List.map_append]
        exact congrArg (fun z => Value.string (txt z)) hadd.out.symm
      case measure => rw [it_pos hit4.out, hpos.out]; omega
    · have hn := fun ty => next_end (P := Try.prog) (by omega) hit.out ty
      have hd := chunks_done hch.out (by omega)
      have hs : done.map (fun c => (c.1 : Int)) = R := by rw [hd, hR.out]; rfl
      have ho' := ho.out
      rw [hs] at ho'
      subst ho'
      clear ho hs hd hch
      go_wp2_with fail
      refine (cC.out _).mono ?_
      rintro e W5 ⟨P0, rfl, hp5, g5⟩
      have G5 := gr_trans (gr_trans G2.out hgr.out) g5
      replace hp5 := Lib.hid hp5
      replace G5 := Lib.hid G5
      clear g5 hgr hit
      go_wp2_with fail
      go_region_law (first
        | (have r6' := r6.out
           go_simp; go_at_call 9
           with_reducible refine (cT.out _).mono ?_
           rintro e W7 ⟨A7, c7, rfl, h7, g7⟩
           have r7 := row_own h7
           have u7 := cvQ.out W7 A7 Q.length c7 r7
           have u6' := cvR.out W7 A6 R.length c6 (row_gr r6' g7)
           replace r7 := Lib.hid r7
           replace h7 := Lib.hid h7
           replace g7 := Lib.hid g7
           clear r6')
        | (go_simp; go_at_call 9
           with_reducible refine (cS.out _).mono ?_
           rintro e W6 ⟨A6, c6, rfl, h6, g6⟩
           have r6 := row_own h6
           have u6 := cvR.out W6 A6 R.length c6 r6
           replace r6 := Lib.hid r6
           replace h6 := Lib.hid h6
           replace g6 := Lib.hid g6))
      all_goals
        have g67 := gr_trans (gr_trans (gr_drew W5 none) g6.out) g7.out
        have hp7 := pat_gr hp5.out g67
        replace g67 := Lib.hid g67
        replace hp7 := Lib.hid hp7
        go_wp2_with fail
        refine (d1.out _ _ hp7.out).mono ?_
        rintro e W8 ⟨rfl, g8⟩
        have hp8 := pat_gr hp7.out g8
        replace hp8 := Lib.hid hp8
        go_wp2_with fail
        refine (d2.out _ _ hp8.out).mono ?_
        rintro e W9 ⟨rfl, g9⟩
        go_wp2
        go_ret
        have hUV : txt U = txt V ↔ U = V := ⟨txt_inj, fun h => by rw [h]⟩
        exact ⟨by simp; rw [Bool.eq_iff_iff]; simp [hUV], gr_below (gr_trans (gr_trans (gr_trans G5.out g67.out) g8) g9)⟩


set_option maxRecDepth 100000 in
theorem lifted (os : Os) (started : os.Started) (H : Type) (enc : TypeId × Value → H) :
    ReturnsInHanded {} Try.checked os 3 .any (Rows.patternPlainSpec.pre6 enc Try.prog Try.f3 Rows.patternPlainRow.domain false) (Rows.patternPlainSpec.post enc Try.prog Try.f3 false true false false) := by
  refine returnsInHanded_of_change (C := Try.checked) own started (by kernel_rfl) Try.func3
    (ChangeSpec.witness6 (enc := enc) (C := Try.checked) false ⟨#[], #[.string ByteArray.empty, .string ByteArray.empty], []⟩ 8 (by kernel_rfl) (by kernel_rfl) (by kernel_rfl) (by kernel_rfl)) ?_
  intro W base args ds gs before hval0 hW hcnd _
  have hval : ∀ (j : Nat) t v, Try.f3.params[j]? = some t → args[j]? = some v → Value.okWide Try.prog W .any base t v := hval0
  have hW' := hW
  obtain ⟨p, q, hA0, hV, rfl, hfz, hnd⟩ := hW
  have hA : DataW.TrodAll enc Try.prog W 0 (fun _ => true) true Try.f3.params.toList args.toList ds p := hA0
  rw [Try.params3] at hA hval
  obtain ⟨v0, vs0, d0, ds0, p0, q0, hargs, rfl, rfl, h0, r0⟩ := trodAll_cons hA
  obtain ⟨v1, vs1, d1, ds1, p1, q1, rfl, rfl, rfl, h1, r1⟩ := trodAll_cons r0
  obtain ⟨rfl, rfl, rfl⟩ := trodAll_nil r1
  obtain rfl : args = #[v0, v1] := by cases args; simp_all
  obtain ⟨rfl, rfl⟩ := trodVars_none hV
  obtain ⟨a0, rfl, rfl, rfl, w0⟩ := open_string Try.underlying9 (hval 0 9 v0 rfl rfl) h0
  obtain ⟨a1, rfl, rfl, rfl, w1⟩ := open_string Try.underlying9 (hval 1 9 v1 rfl rfl) h1
  clear hA0 hval0
  refine (walk W a0 w0 a1 w1).mono fun e W' ⟨he, bel⟩ => ?_
  subst he
  exact ⟨_, rfl, _, _, _, [], _, [], hW', trodAll_mk1 (shut_bool Try.underlying4 _), (trodAll_cons_mk (shut_string Try.underlying9 w0) (trodAll_cons_mk (shut_string Try.underlying9 w1) trodAll_mk0)), rfl, bel.frame _, fun h => by cases h⟩

theorem over : Rows.patternPlainRow.holds Try.pinned (OpenSpec.ofChange Rows.patternPlainSpec) :=
  OpenClaim.holds_of_wide 3 Try.f3 rfl rfl rfl rfl rfl rfl rfl ⟨rfl, rfl, rfl, rfl, rfl⟩ rfl rfl rfl rfl rfl (by kernel_rfl) Try.func3 (by kernel_rfl)
    (of_decide_eq_true (by kernel_rfl)) (by unfold Func.isWrapper; first | (rw [if_pos (by decide +kernel)]; kernel_rfl) | (rw [if_neg (by decide +kernel)]; exact ⟨rfl, rfl⟩))
    (fun os started H enc _ => lifted os started H enc)

/-- THE STATEMENT -/
theorem proved : Rows.PatternPlainSaid := over
#print axioms proved
end Go.Proofs.Ytdccmmibfacpkaa.patternPlain

