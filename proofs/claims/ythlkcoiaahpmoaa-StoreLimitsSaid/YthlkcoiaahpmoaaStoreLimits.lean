/-
  StoreLimits holds of the program: for every input the call returns true and leaves what came in as it was. No condition.
-/
import Derived.Test.YthlkcoiaahpmoaaRows
import Derived.Test.YthlkcoiaahpmoaaLimMath
import Derived.WalkKit
import Derived.ProofKit
import Derived.OpenShut
import Derived.ShutString
import Derived.ChangeOld
import Derived.Below
namespace Go.Proofs.Ythlkcoiaahpmoaa.storeLimits
open Go.ChangeShapes Go.WideShapes Go.ChangeAt Go.RowKit
open Go.ChangeMaps (open_string shut_string)
set_option linter.unusedVariables false

theorem own : ownKnob Try.prog.godebug = none := by kernel_rfl
theorem laidOut : laidOutB Try.prog = true := by kernel_rfl
set_option maxHeartbeats 32000000 in
set_option maxRecDepth 100000 in
theorem walk (w : World) (a0 : Int) (w0 : (Lit.int .i64 a0).wf = true) (a1 : Int) (w1 : (Lit.int .i64 a1).wf = true) :
    Calls Try.prog 5 #[.int .i64 a0, .int .i64 a1] w fun e w' => e = .returned (.bool true) ∧ Below w.heap.size w w' := by
  clear w0 w1
  by_cases h1 : a0 < 1
  · go_enter Try.func5, Try.ntmps5
    go_wp2_with fail
    refine (alive_any _).mono ?_
    rintro e w2 ⟨rfl, g2⟩
    go_wp2
    go_ret
    exact ⟨rfl, gr_below g2⟩
  by_cases h2 : a0 > 60
  · go_enter Try.func5, Try.ntmps5
    go_wp2_with fail
    refine (alive_any _).mono ?_
    rintro e w2 ⟨rfl, g2⟩
    go_wp2
    go_ret
    exact ⟨rfl, gr_below g2⟩
  by_cases h3 : a1 < 1
  · go_enter Try.func5, Try.ntmps5
    go_wp2_with fail
    refine (alive_any _).mono ?_
    rintro e w2 ⟨rfl, g2⟩
    go_wp2
    go_ret
    exact ⟨rfl, gr_below g2⟩
  by_cases h4 : a1 > 40
  · go_enter Try.func5, Try.ntmps5
    go_wp2_with fail
    refine (alive_any _).mono ?_
    rintro e w2 ⟨rfl, g2⟩
    go_wp2
    go_ret
    exact ⟨rfl, gr_below g2⟩
  obtain ⟨n, rfl⟩ : ∃ n : Nat, a0 = n := ⟨a0.toNat, by omega⟩
  obtain ⟨m, rfl⟩ : ∃ m : Nat, a1 = m := ⟨a1.toNat, by omega⟩
  have hn1 : 1 ≤ n := by omega
  have hn6 : n ≤ 60 := by omega
  have hm1 : 1 ≤ m := by omega
  have hm4 : m ≤ 40 := by omega
  go_enter Try.func5, Try.ntmps5
  go_wp2_with fail
  refine (alive_any _).mono ?_
  rintro e w2 ⟨rfl, g2⟩
  go_upto_region 4 with fail
  obtain ⟨W3, hW3⟩ : ∃ W3, W3 = w2.alloc (.cells #[.slice none 0 0] 31) := ⟨_, rfl⟩
  have hS3 := stoHas_new w2
  rw [← hW3] at hS3 ⊢
  have g3 : Gr w W3 := by rw [hW3]; exact gr_trans g2 (gr_alloc _ _ _)
  have hw23 : w.heap.size ≤ w2.heap.size := g2.size
  obtain ⟨base, hbase⟩ : ∃ base, base = w2.heap.size := ⟨_, rfl⟩
  rw [← hbase] at hS3 hw23 ⊢
  obtain ⟨M, hM⟩ : ∃ M, M = min m 25 := ⟨_, rfl⟩
  have fin : ∀ W, Below w.heap.size W3 W → Below w.heap.size w W := fun W b => (gr_below g3).trans b
  have hs3 : w.heap.size ≤ W3.heap.size := g3.size
  replace hS3 := Lib.hid hS3
  replace fin := Lib.hid fin
  replace hM := Lib.hid hM
  replace hbase := Lib.hid hbase
  clear hW3 g2 g3
  go_wp2_with fail
  go_loopw [6] (fun iv wr => ∃ (i : Nat) (mm : StoM), i ≤ n ∧ iv = .int .i64 i ∧ Hid (mm.St = base) ∧ Hid (StoHas wr base mm (limS i 0 M)) ∧ Hid (Below w.heap.size W3 wr)) (fun iv _ => n - (intOf iv).toNat)
  case atStart => exact ⟨0, ⟨base, none, 0, []⟩, Nat.zero_le _, rfl, Lib.hid rfl, Lib.hid (by rw [lim_zero]; exact hS3.out), Lib.hid (Below.refl _ _)⟩
  case round =>
    obtain ⟨i, mm, hin, rfl, hmm, hS, hB⟩ := hrel
    by_cases hlt : i < n
    · have hI : (i : Int) < (n : Int) := by omega
      obtain ⟨w0, hw0⟩ : ∃ w0, w0 = wr := ⟨_, rfl⟩
      subst hw0
      have hb1 : byteV (UInt8.ofNat (65 + i / 10)) = .int .u8 (65 + (i : Int) / 10) := by unfold byteV; rw [UInt8.toNat_ofNat']; congr 1; omega
      have hb2 : byteV (UInt8.ofNat (48 + i % 10)) = .int .u8 (48 + (i : Int) % 10) := by unfold byteV; rw [UInt8.toNat_ofNat']; congr 1; omega
      obtain ⟨W4, hW4⟩ : ∃ W4, W4 = w0.alloc (.cells #[.int .u8 104, .int .u8 (65 + (i : Int) / 10), .int .u8 (48 + (i : Int) % 10)] 5) := ⟨_, rfl⟩
      have ho : W4.ownsRow w0.heap.size 5 1 (.slice (some ⟨w0.heap.size, 0, none⟩) 3 3) 3 ([104, UInt8.ofNat (65 + i / 10), UInt8.ofNat (48 + i % 10)].map byteV) := by
        have hbk := blk_new w0 (.cells #[.int .u8 104, .int .u8 (65 + (i : Int) / 10), .int .u8 (48 + (i : Int) % 10)] 5)
        rw [← hW4] at hbk
        refine ⟨rfl, .inr ⟨w0.heap.size, 3, _, rfl, Nat.le_refl _, hbk, Nat.le_refl _, by decide, rfl, ?_⟩⟩
        show [Value.int .u8 104, Value.int .u8 (65 + (i : Int) / 10), Value.int .u8 (48 + (i : Int) % 10)] = _
        simp only [List.map_cons, List.map_nil, hb1, hb2]
        rfl
      have hcv := run_string_own (P := Try.prog) W4 46 9 5 Try.underlying46 Try.underlying5 Try.underlying9 ho
      obtain ⟨V, hV⟩ : ∃ V, V = txt [104, UInt8.ofNat (65 + i / 10), UInt8.ofNat (48 + i % 10)] := ⟨_, rfl⟩
      rw [← hV] at hcv
      rw [hW4] at hcv
      have g4 : Gr w0 W4 := by rw [hW4]; exact gr_alloc _ _ _
      obtain ⟨W5, hW5⟩ : ∃ W5, W5 = W4.alloc (.cells #[.string ⟨#[104, 111, 115, 116]⟩, .string V, .string ⟨#[109, 101, 116, 114, 105, 99]⟩, .string ⟨#[99, 112, 117]⟩] 48) := ⟨_, rfl⟩
      have g5 : Gr W4 W5 := by rw [hW5]; exact gr_alloc _ _ _
      have hs4 : W4.heap.size = w0.heap.size + 1 := by rw [hW4]; simp
      have hrow : Row W5 (some ⟨w0.heap.size + 1, 0, none⟩) 2 2 (sR lblC (limL i)) := by
        have := blk_new W4 (.cells #[.string ⟨#[104, 111, 115, 116]⟩, .string V, .string ⟨#[109, 101, 116, 114, 105, 99]⟩, .string ⟨#[99, 112, 117]⟩] 48)
        rw [← hW5, hs4] at this
        rw [hV] at this
        exact row_blk (cs := sR lblC (limL i)) this rfl
      have hS5 := stoHas_gr hS.out (gr_trans g4 g5)
      have hB5 : Below w.heap.size W3 W5 := hB.out.grown (gr_trans g4 g5) (Nat.le_trans hw23 hS.out.hb) (by simp)
      have hlow : ∀ k, BlkS mm k → k < w0.heap.size + 1 := fun k hk => by have := stoAt_lt hS.out.sat k hk; omega
      have hgap := lim_next (i := i) hm1
      rw [← hM.out] at hgap
      replace hrow := Lib.hid hrow
      replace hS5 := Lib.hid hS5
      replace hB5 := Lib.hid hB5
      replace hgap := Lib.hid hgap
      replace hV := Lib.hid hV
      clear ho hb1 hb2 hS hB g4 g5 hs4
      go_upto_region 8 with fail
      rw [← hW4, ← hW5]
      clear hW4 hW5 hcv
      have hne : ∀ k, BlkS mm k → k ≠ w0.heap.size + 1 := fun k hk => by have := hlow k hk; omega
      have hsz5 : w0.heap.size + 1 < W5.heap.size := by
        obtain ⟨B, o, e, hb, _⟩ := hrow.out.2 0 _ rfl
        have := Option.some.inj e
        injection this with e1 _
        omega
      replace hne := Lib.hid hne
      clear hlow
      go_wp2_with fail
      go_loopw [8] (fun kv wr => ∃ (k : Nat) (m2 : StoM), k ≤ m ∧ kv = .int .i64 k ∧ Hid (m2.St = base) ∧ Hid (StoHas wr base m2 (limS i k M)) ∧ Hid (Row wr (some ⟨w0.heap.size + 1, 0, none⟩) 2 2 (sR lblC (limL i))) ∧ Hid (∀ k, BlkS m2 k → k ≠ w0.heap.size + 1) ∧ Hid (w0.heap.size + 1 < wr.heap.size) ∧ Hid (Below w.heap.size W3 wr)) (fun kv _ => m - (intOf kv).toNat)
      case atStart => exact ⟨0, mm, Nat.zero_le _, rfl, hmm, hS5, hrow, hne, Lib.hid hsz5, hB5⟩
      case round =>
        obtain ⟨k, m2, hkm, rfl, hm2, hS2, hr2, hn2, hz2, hB2⟩ := hrel
        by_cases hlt2 : k < m
        · have hI2 : (k : Int) < (m : Int) := by omega
          have cP := put_in (k : Int) (k : Int) hS2.out (n := 2) (c := 2) (by decide) (fun e => by cases e) hr2.out (lim_short i)
          rw [lim_put (by omega) (by omega), hm2.out] at cP
          have hkey : (40 ≤ i ∨ 25 ≤ k) ∨ ¬ (40 ≤ i ∨ 25 ≤ k) := Classical.em _
          have hnext : ∀ W m3, GrS (BlkS m2) wr W → (∀ k, BlkS m3 k → BlkS m2 k ∨ wr.heap.size ≤ k) → Below base wr W → Row W (some ⟨w0.heap.size + 1, 0, none⟩) 2 2 (sR lblC (limL i)) ∧ (∀ k, BlkS m3 k → k ≠ w0.heap.size + 1) ∧ w0.heap.size + 1 < W.heap.size ∧ Below w.heap.size W3 W := fun W m3 g hn B => by
            refine ⟨row_grs hr2.out g (fun a ha hb => hn2.out _ hb (by have := Option.some.inj ha; subst this; rfl)), fun k hk => ?_, Nat.lt_of_lt_of_le hz2.out B.size, hB2.out.trans ?_⟩
            · rcases hn k hk with q | q
              · exact hn2.out k q
              · have := hz2.out; omega
            · exact below_grs (Below.refl _ _) g (Nat.le_trans hw23 hS2.out.hb) (fun k hk => Nat.le_trans hw23 (hS2.out.low k hk))
          replace cP := Lib.hid cP
          replace hnext := Lib.hid hnext
          have b1 : (40 : Int) ≤ (i : Int) ∨ ¬ (40 : Int) ≤ (i : Int) := Classical.em _
          have b2 : (25 : Int) ≤ (k : Int) ∨ ¬ (25 : Int) ≤ (k : Int) := Classical.em _
          rcases b1 with b1 | b1
          · have cP2 := cP.out
            rw [if_pos (.inl (by omega))] at cP2
            replace cP2 := Lib.hid cP2
            clear cP hkey b2
            go_wp2_with fail
            refine cP2.out.mono ?_
            rintro e W6 ⟨rfl, ⟨m3, hm3, hS3b, g3, hn3⟩, B3⟩
            obtain ⟨q1, q2, q3, q4⟩ := hnext.out W6 m3 g3 hn3 B3
            go_wp2
            go_roundw
            case rel => exact ⟨k + 1, m3, by omega, by go_num, Lib.hid hm3, Lib.hid hS3b, Lib.hid q1, Lib.hid q2, Lib.hid q3, Lib.hid q4⟩
            case measure => simp [intOf]; omega
          · rcases b2 with b2 | b2
            · have cP2 := cP.out
              rw [if_pos (.inr (by omega))] at cP2
              replace cP2 := Lib.hid cP2
              clear cP hkey
              go_wp2_with fail
              refine cP2.out.mono ?_
              rintro e W6 ⟨rfl, ⟨m3, hm3, hS3b, g3, hn3⟩, B3⟩
              obtain ⟨q1, q2, q3, q4⟩ := hnext.out W6 m3 g3 hn3 B3
              go_wp2
              go_roundw
              case rel => exact ⟨k + 1, m3, by omega, by go_num, Lib.hid hm3, Lib.hid hS3b, Lib.hid q1, Lib.hid q2, Lib.hid q3, Lib.hid q4⟩
              case measure => simp [intOf]; omega
            · have cP2 := cP.out
              rw [if_neg (by omega)] at cP2
              replace cP2 := Lib.hid cP2
              clear cP hkey
              go_wp2_with fail
              refine cP2.out.mono ?_
              rintro e W6 ⟨rfl, ⟨m3, hm3, hS3b, g3, hn3⟩, B3⟩
              obtain ⟨q1, q2, q3, q4⟩ := hnext.out W6 m3 g3 hn3 B3
              go_wp2
              go_roundw
              case rel => exact ⟨k + 1, m3, by omega, by go_num, Lib.hid hm3, Lib.hid hS3b, Lib.hid q1, Lib.hid q2, Lib.hid q3, Lib.hid q4⟩
              case measure => simp [intOf]; omega
        · have hI2 : ((k : Int) < (m : Int)) = False := eq_false (by omega)
          obtain rfl : k = m := by omega
          have hS6 := hS2.out
          rw [hgap.out] at hS6
          replace hS6 := Lib.hid hS6
          clear hS2 hr2 hn2 hz2
          go_wp2
          go_roundw
          case rel => exact ⟨i + 1, m2, by omega, by go_num, hm2, hS6, hB2⟩
          case measure => simp [intOf]; omega
    · have hI : ((i : Int) < (n : Int)) = False := eq_false (by omega)
      obtain rfl : i = n := by omega
      have cA := sall_any base mm _ wr hS.out.sat hS.out.inv
      have cP := fun W (g : Gr wr W) => spoints_any base mm _ W (stoAt_gr hS.out.sat g) hS.out.inv
      unfold CopyPost at cA
      obtain ⟨l1, l2⟩ := lim_end i M
      rw [hmm.out, l1] at cA
      rw [hmm.out, l2] at cP
      obtain ⟨Q, hQ⟩ : ∃ Q, Q = min i 40 := ⟨_, rfl⟩
      rw [← hQ] at cA cP
      have f1 : min (i : Int) 40 = (Q : Int) := by omega
      have f2 : min (m : Int) 25 = (M : Int) := by have := hM.out; omega
      have hQ4 : Q ≤ 40 := by omega
      have hM2 : M ≤ 25 := by have := hM.out; omega
      have hmul : Q * M ≤ 1000 := Nat.le_trans (Nat.mul_le_mul hQ4 hM2) (by decide)
      have hmI : (Q : Int) * (M : Int) = ((Q * M : Nat) : Int) := by rw [Int.natCast_mul]
      have hfin := fin.out wr hB.out
      replace cA := Lib.hid cA
      replace cP := Lib.hid cP
      replace hfin := Lib.hid hfin
      replace hQ := Lib.hid hQ
      generalize Q * M = QM at *
      clear hS hB l1 l2
      go_wp2_with fail
      refine cA.out.mono ?_
      rintro e W5 ⟨A5, c5, hs5, rfl, _, g5⟩
      go_wp2_with fail
      refine (cP.out _ g5).mono ?_
      rintro e W6 ⟨rfl, g6⟩
      have hsz := hfin.out.size
      have hF := hfin.out.grown (gr_trans g5 g6) hsz (by simp)
      replace hF := Lib.hid hF
      go_wp2
      go_ret
      exact ⟨rfl, hF.out⟩


set_option maxRecDepth 100000 in
theorem lifted (os : Os) (started : os.Started) (H : Type) (enc : TypeId × Value → H) :
    ReturnsInHanded {} Try.checked os 5 .any (Rows.storeLimitsSpec.pre6 enc Try.prog Try.f5 Rows.storeLimitsRow.domain false) (Rows.storeLimitsSpec.post enc Try.prog Try.f5 false true false false) := by
  refine returnsInHanded_of_change (C := Try.checked) own started (by kernel_rfl) Try.func5
    (ChangeSpec.witness6 (enc := enc) (C := Try.checked) false ⟨#[], #[.int .i64 0, .int .i64 0], []⟩ 8 (by kernel_rfl) (by kernel_rfl) (by kernel_rfl) (by kernel_rfl)) ?_
  intro W base args ds gs before hval0 hW hcnd _
  have hval : ∀ (j : Nat) t v, Try.f5.params[j]? = some t → args[j]? = some v → Value.okWide Try.prog W .any base t v := hval0
  have hW' := hW
  obtain ⟨p, q, hA0, hV, rfl, hfz, hnd⟩ := hW
  have hA : DataW.TrodAll enc Try.prog W 0 (fun _ => true) true Try.f5.params.toList args.toList ds p := hA0
  rw [Try.params5] at hA hval
  obtain ⟨v0, vs0, d0, ds0, p0, q0, hargs, rfl, rfl, h0, r0⟩ := trodAll_cons hA
  obtain ⟨v1, vs1, d1, ds1, p1, q1, rfl, rfl, rfl, h1, r1⟩ := trodAll_cons r0
  obtain ⟨rfl, rfl, rfl⟩ := trodAll_nil r1
  obtain rfl : args = #[v0, v1] := by cases args; simp_all
  obtain ⟨rfl, rfl⟩ := trodVars_none hV
  obtain ⟨a0, rfl, rfl, rfl, w0⟩ := open_int Try.underlying3 (hval 0 3 v0 rfl rfl) h0
  obtain ⟨a1, rfl, rfl, rfl, w1⟩ := open_int Try.underlying3 (hval 1 3 v1 rfl rfl) h1
  clear hA0 hval0
  refine (walk W a0 w0 a1 w1).mono fun e W' ⟨he, bel⟩ => ?_
  subst he
  exact ⟨_, rfl, _, _, _, [], _, [], hW', trodAll_mk1 (shut_bool Try.underlying4 _), (trodAll_cons_mk (shut_int Try.underlying3 w0) (trodAll_cons_mk (shut_int Try.underlying3 w1) trodAll_mk0)), rfl, bel.frame _, fun h => by cases h⟩

theorem over : Rows.storeLimitsRow.holds Try.pinned (OpenSpec.ofChange Rows.storeLimitsSpec) :=
  OpenClaim.holds_of_wide 5 Try.f5 rfl rfl rfl rfl rfl rfl rfl ⟨rfl, rfl, rfl, rfl, rfl⟩ rfl rfl rfl rfl rfl (by kernel_rfl) Try.func5 (by kernel_rfl)
    (of_decide_eq_true (by kernel_rfl)) (by unfold Func.isWrapper; first | (rw [if_pos (by decide +kernel)]; kernel_rfl) | (rw [if_neg (by decide +kernel)]; exact ⟨rfl, rfl⟩))
    (fun os started H enc _ => lifted os started H enc)

/-- THE STATEMENT -/
theorem proved : Rows.StoreLimitsSaid := over
#print axioms proved
end Go.Proofs.Ythlkcoiaahpmoaa.storeLimits

