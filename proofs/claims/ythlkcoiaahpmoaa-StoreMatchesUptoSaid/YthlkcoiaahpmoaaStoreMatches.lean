/-
  StoreMatches holds of the program: for every input the call returns true and leaves what came in as it was. No condition.
-/
import Derived.Test.YthlkcoiaahpmoaaRows
import Derived.Test.YthlkcoiaahpmoaaRefPatZ
import Derived.Test.YthlkcoiaahpmoaaOpOpen
import Derived.Test.YthlkcoiaahpmoaaStoPlay
import Derived.WalkKit
import Derived.ProofKit
import Derived.OpenShut
import Derived.ShutString
import Derived.ChangeOld
import Derived.Below
import Derived.JoinedCond
namespace Go.Proofs.Ythlkcoiaahpmoaa.storeMatches
open Go.ChangeShapes Go.WideShapes Go.ChangeAt Go.RowKit
open Go.ChangeMaps (open_string shut_string)
set_option linter.unusedVariables false

theorem own : ownKnob Try.prog.godebug = none := by kernel_rfl
theorem laidOut : laidOutB Try.prog = true := by kernel_rfl
/-- A block's three cells, wherever. -/
theorem blk_cells3 {B : Nat} {a b c : Value} {t : TypeId} {wc : World} (h : ∀ W, Gr wc W → W.heap[B]? = some (.cells #[a, b, c] t (0, 0))) : ∀ W, Gr wc W → W.cell? ⟨B, 0, none⟩ = some a ∧ W.cell? ⟨B, 1, none⟩ = some b ∧ W.cell? ⟨B, 2, none⟩ = some c :=
  fun W g => ⟨blk_cell (h W g) rfl, blk_cell (h W g) rfl, blk_cell (h W g) rfl⟩
set_option maxHeartbeats 64000000 in
set_option maxRecDepth 100000 in
theorem walk (w : World) (a0 : Option Addr) (len0 cap0 : Nat) (z0 : List Opx) (i0 : IsOps w a0 len0 cap0 z0) (v1 : Value) (x1 : Mt) (y1 : v1 = .agg #[.string (txt x1.n), .int .i64 x1.op, .string (txt x1.v)]) (s1 : x1.n.length ≤ 1048576) (v2 : Value) (x2 : Mt) (y2 : v2 = .agg #[.string (txt x2.n), .int .i64 x2.op, .string (txt x2.v)]) (s2 : x2.n.length ≤ 1048576) :
    Calls Try.prog 3 #[.slice a0 len0 cap0, v1, v2] w fun e w' => e = .returned (.bool true) ∧ Below w.heap.size w w' := by
  obtain ⟨H, hH⟩ := holds_ex
  obtain ⟨mn, mo, mv⟩ := x1
  obtain ⟨on, oo, ov⟩ := x2
  subst y1 y2
  simp only at s1 s2 ⊢
  obtain ⟨W0, hW0⟩ : ∃ W0, W0 = (w.alloc (.cells #[.string (txt mn), .int .i64 mo, .string (txt mv)] 24)).alloc (.cells #[.string (txt on), .int .i64 oo, .string (txt ov)] 24) := ⟨_, rfl⟩
  have g0 : Gr w W0 := by rw [hW0]; exact gr_trans (gr_alloc _ _ _) (gr_alloc _ _ _)
  have b1 : W0.heap[w.heap.size]? = some (.cells #[.string (txt mn), .int .i64 mo, .string (txt mv)] 24 (0, 0)) := by rw [hW0]; exact gr_blk (gr_alloc _ _ none) (blk_new w (.cells #[.string (txt mn), .int .i64 mo, .string (txt mv)] 24)) (by simp)
  have b2 : W0.heap[w.heap.size + 1]? = some (.cells #[.string (txt on), .int .i64 oo, .string (txt ov)] 24 (0, 0)) := by
    rw [hW0]
    have q := blk_new (w.alloc (.cells #[.string (txt mn), .int .i64 mo, .string (txt mv)] 24)) (.cells #[.string (txt on), .int .i64 oo, .string (txt ov)] 24)
    rwa [show (w.alloc (.cells #[.string (txt mn), .int .i64 mo, .string (txt mv)] 24)).heap.size = w.heap.size + 1 by simp] at q
  have m0 : W0.cell? ⟨w.heap.size, 0, none⟩ = some (.string (txt mn)) := blk_cell b1 rfl
  have m1 : W0.cell? ⟨w.heap.size, 1, none⟩ = some (.int .i64 mo) := blk_cell b1 rfl
  have m2 : W0.cell? ⟨w.heap.size, 2, none⟩ = some (.string (txt mv)) := blk_cell b1 rfl
  have o0 : W0.cell? ⟨w.heap.size + 1, 0, none⟩ = some (.string (txt on)) := blk_cell b2 rfl
  have o1 : W0.cell? ⟨w.heap.size + 1, 1, none⟩ = some (.int .i64 oo) := blk_cell b2 rfl
  have o2 : W0.cell? ⟨w.heap.size + 1, 2, none⟩ = some (.string (txt ov)) := blk_cell b2 rfl
  have cL0 := olight_any a0 len0 cap0 z0 W0 (isOps_below i0 (gr_below g0))
  unfold OLPost at cL0
  replace cL0 := Lib.hid cL0
  replace i0 := Lib.hid i0
  replace b1 := Lib.hid b1
  replace b2 := Lib.hid b2
  replace g0 := Lib.hid g0
  go_enter Try.func3, Try.ntmps3
  go_wp2_with fail
  rw [← hW0]
  replace hW0 := Lib.hid hW0
  refine cL0.out.mono ?_
  rintro e wL ⟨⟨bb0, rfl, hb0⟩, rfl⟩
  cases bb0 with
  | false =>
    go_wp2_with fail
    refine (alive_any _).mono ?_
    rintro e wA ⟨rfl, gA⟩
    go_wp2
    go_ret
    exact ⟨rfl, gr_below (gr_trans g0.out gA)⟩
  | true =>
    obtain ⟨hN0, hL0⟩ := hb0 rfl
    rw [i0.out.1] at hN0
    replace hL0 := Lib.hid hL0
    clear hb0 cL0
    by_cases hv1 : 100 < mv.length
    · have hv1I : (100 : Int) < (mv.length : Int) := by omega
      go_wp2_with fail
      refine (alive_any _).mono ?_
      rintro e wA ⟨rfl, gA⟩
      go_wp2
      go_ret
      exact ⟨rfl, gr_below (gr_trans g0.out gA)⟩
    have hv1I : ((100 : Int) < (mv.length : Int)) = False := eq_false (by omega)
    by_cases hv2 : 100 < ov.length
    · have hv2I : (100 : Int) < (ov.length : Int) := by omega
      go_wp2_with fail
      refine (alive_any _).mono ?_
      rintro e wA ⟨rfl, gA⟩
      go_wp2
      go_ret
      exact ⟨rfl, gr_below (gr_trans g0.out gA)⟩
    have hv2I : ((100 : Int) < (ov.length : Int)) = False := eq_false (by omega)
    have cmM := fun W (_ : Gr W0 W) => refMatcher_any ⟨mn, mo, mv⟩ W (by simp only; omega) (by simp only; omega)
    have coM := fun W (_ : Gr W0 W) => refMatcher_any ⟨on, oo, ov⟩ W (by simp only; omega) (by simp only; omega)
    simp only at cmM coM
    replace cmM := Lib.hid cmM
    replace coM := Lib.hid coM
    go_wp2_with fail
    refine (cmM.out _ (gr_refl _ _)).mono ?_
    rintro e wMm ⟨rfl, gMm⟩
    have gTm := gr_trans (gr_refl _ _) gMm
    cases hdm : decide (okMt ⟨mn, mo, mv⟩) with
    | false =>
      go_wp2_with fail
      refine (alive_any _).mono ?_
      rintro e wA ⟨rfl, gA⟩
      go_wp2
      go_ret
      exact ⟨rfl, gr_below (gr_trans (gr_trans g0.out gTm) gA)⟩
    | true =>
      have hok1 := Lib.hid (of_decide_eq_true hdm)
      clear hdm
      have o0 : wMm.cell? ⟨w.heap.size + 1, 0, none⟩ = some (.string (txt on)) := gr_cell gTm o0
      have o1 : wMm.cell? ⟨w.heap.size + 1, 1, none⟩ = some (.int .i64 oo) := gr_cell gTm o1
      have o2 : wMm.cell? ⟨w.heap.size + 1, 2, none⟩ = some (.string (txt ov)) := gr_cell gTm o2
      go_wp2_with fail
      refine (coM.out _ gTm).mono ?_
      rintro e wMo ⟨rfl, gMo⟩
      have gTo := gr_trans gTm gMo
      cases hdo : decide (okMt ⟨on, oo, ov⟩) with
      | false =>
        go_wp2_with fail
        refine (alive_any _).mono ?_
        rintro e wA ⟨rfl, gA⟩
        go_wp2
        go_ret
        exact ⟨rfl, gr_below (gr_trans (gr_trans g0.out gTo) gA)⟩
      | true =>
        have hok2 := Lib.hid (of_decide_eq_true hdo)
        clear hdo
        go_wp2_with fail
        refine (alive_any _).mono ?_
        rintro e w2 ⟨rfl, ggA⟩
        have g2 : Gr w w2 := gr_trans g0.out (gr_trans gTo ggA)
        have hm1 := gr_blk (gr_trans gTo ggA) b1.out (by simp)
        have hm2 := gr_blk (gr_trans gTo ggA) b2.out (by simp)
        have hbl : w.heap.size + 1 < w2.heap.size := lt_of_blk hm2
        replace hm1 := Lib.hid hm1
        replace hm2 := Lib.hid hm2
        replace hbl := Lib.hid hbl
        clear ggA gMm gTm gMo gTo cmM coM m0 m1 m2 o0 o1 o2
        obtain ⟨w2s, hw2s⟩ : ∃ w2s, w2s = w2 := ⟨_, rfl⟩
        go_upto_region 4 with fail
        obtain ⟨W3, hW3⟩ : ∃ W3, W3 = w2.alloc (.cells #[.slice none 0 0] 31) := ⟨_, rfl⟩
        have hS3 := stoHas_new w2
        rw [← hW3] at hS3 ⊢
        have gW3 : Gr w W3 := by rw [hW3]; exact gr_trans g2 (gr_alloc _ _ _)
        have hK : w.heap.size ≤ w2.heap.size := (g2).size
        obtain ⟨base, hbase⟩ : ∃ base, base = w2.heap.size := ⟨_, rfl⟩
        rw [← hbase] at hS3 hK ⊢
        have lS3 := lasts_start hS3
        have bS3 := gr_below gW3
        have sbS3 : base < W3.heap.size := by rw [hbase, hW3]; simp
        replace lS3 := Lib.hid lS3
        replace bS3 := Lib.hid bS3
        replace hbase := Lib.hid hbase
        replace hm1 := Lib.hid (by have q := gr_blk (gr_alloc w2 (.cells #[.slice none 0 0] 31) none) hm1.out (by simp); rw [← hW3] at q; exact q)
        replace hm2 := Lib.hid (by have q := gr_blk (gr_alloc w2 (.cells #[.slice none 0 0] 31) none) hm2.out (by simp); rw [← hW3] at q; exact q)
        replace hbl : Hid (w.heap.size + 1 < base) := Lib.hid (by rw [hbase.out]; exact hbl.out)
        clear hW3 hS3 gW3 g2
        go_wp2_with fail
        go_loopw [8] (fun iv wr => ∃ k : Nat, k ≤ len0 ∧ iv = .int .i64 k ∧ Hid (Lasts W3 base (BlkS ⟨base, none, 0, []⟩) wr base (pl (z0.take k) ([]))) ∧ Hid (Below w.heap.size w wr)) (fun iv _ => len0 - (intOf iv).toNat)
        case atStart => exact ⟨0, Nat.zero_le _, rfl, lS3, bS3⟩
        case round =>
          obtain ⟨k, hkn, rfl, hS, hB⟩ := hrel
          by_cases hlt : k < len0
          · obtain ⟨o, x, B, oo, ho, hok, rfl, d0, d1, d2, d3⟩ := isOps_at (isOps_below i0.out hB.out) hlt
            obtain ⟨q1, q2, q3, q4⟩ := op_args hok (hL0.out o (List.mem_of_getElem? ho))
            have hstep := pl_take ho ([])
            rw [hok.t] at d2
            rw [hok.v] at d3
            have cP := fun W (g : Gr wr W) => lasts_put (lasts_gr hS.out g) o.t o.v q1 q2 (row_gr q3 g) q4
            have hki : (k : Int) < (len0 : Int) := by omega
            have hk0 : (0 : Int) ≤ (k : Int) := by omega
            have hnb : ∀ W, Below base wr.drew W → Below w.heap.size w W := fun W b => (hB.out.grown (gr_drew wr none) hB.out.size (by simp)).trans ⟨b.os, b.tape, b.output, b.size, fun i hi => b.block i (Nat.lt_of_lt_of_le hi hK)⟩
            rw [← hstep] at cP
            obtain ⟨C, hC⟩ : ∃ C, C = (putS (pl (z0.take k) ([])) o.l o.t o.v).1 := ⟨_, rfl⟩
            simp only [← hC] at cP
            replace cP := Lib.hid cP
            replace hnb := Lib.hid hnb
            clear hok q1 q2 q3 q4 ho hstep hC
            go_upto_region 7 with fail
            go_region_law ((go_simp; go_at_call 12; refine (cP.out _ (by first | exact gr_drew _ _ | exact gr_refl _ _)).mono ?_; rintro e W5 ⟨rfl, hS5, B5⟩; replace hS5 := Lib.hid hS5; replace B5 := Lib.hid B5))
            all_goals
              have hB5 := Lib.hid (hnb.out W5 B5.out)
              clear cP hnb B5
              go_wp2
              go_roundw
              case rel => exact ⟨k + 1, by omega, by go_num, hS5, hB5⟩
              case measure => simp [intOf]; omega
          · have hki : ((k : Int) < (len0 : Int)) = False := eq_false (by omega)
            obtain rfl : k = len0 := by omega
            have hfull : z0.take k = z0 := List.take_of_length_le (by rw [i0.out.1]; exact Nat.le_refl _)
            have hSs := hS.out
            rw [hfull] at hSs
            replace hSs := Lib.hid hSs
            have hBs := hB
            clear hS hfull
            obtain ⟨⟨ms, ems, hms, _⟩, gms⟩ := hSs.out
            obtain ⟨ss, hss⟩ : ∃ ss, ss = pl z0 [] := ⟨_, rfl⟩
            rw [← hss] at hms
            have hlen40 := hms.inv.len
            obtain ⟨v0, hv0⟩ : ∃ v0, v0 = wr := ⟨_, rfl⟩
            rw [← hv0] at hms gms ⊢
            have nS1 : ¬ BlkS ⟨base, none, 0, []⟩ w.heap.size := fun q => by
              have := hbl.out
              rcases q with q | q | ⟨l, q, _⟩ | ⟨l, q, _⟩
              · simp only at q
                omega
              · cases q
              · cases q
              · cases q
            have nS2 : ¬ BlkS ⟨base, none, 0, []⟩ (w.heap.size + 1) := fun q => by
              have := hbl.out
              rcases q with q | q | ⟨l, q, _⟩ | ⟨l, q, _⟩
              · simp only at q
                omega
              · cases q
              · cases q
              · cases q
            have d1 := grs_blk gms hm1.out nS1
            have d2 := grs_blk gms hm2.out nS2
            have fB : ∀ W, Gr v0 W → Below w.heap.size w W := fun W g => by rw [hv0] at g; exact hBs.out.grown g hBs.out.size (by simp)
            obtain ⟨nop, hno, hcell⟩ : ∃ nop : Int, NotOp mo nop ∧ ((mo = 1 ∧ nop = 2) ∨ (mo = 2 ∧ nop = 1) ∨ (mo = 3 ∧ nop = 4) ∨ (mo = 4 ∧ nop = 3)) := by
              have h1 := hok1.out.2.1
              have h2 := hok1.out.2.2.1
              simp only at h1 h2
              rcases (by omega : mo = 1 ∨ mo = 2 ∨ mo = 3 ∨ mo = 4) with rfl | rfl | rfl | rfl
              · exact ⟨2, .inl ⟨rfl, rfl⟩, .inl ⟨rfl, rfl⟩⟩
              · exact ⟨1, .inr (.inl ⟨rfl, rfl⟩), .inr (.inl ⟨rfl, rfl⟩)⟩
              · exact ⟨4, .inr (.inr (.inl ⟨rfl, rfl⟩)), .inr (.inr (.inl ⟨rfl, rfl⟩))⟩
              · exact ⟨3, .inr (.inr (.inr ⟨rfl, rfl⟩)), .inr (.inr (.inr ⟨rfl, rfl⟩))⟩
            obtain ⟨V1, hV1⟩ : ∃ V1, V1 = v0.alloc (.cells #[.string (txt mn), .int .i64 mo, .string (txt mv)] 24) := ⟨_, rfl⟩
            have gV1 : Gr v0 V1 := by rw [hV1]; exact gr_alloc _ _ _
            have bV1 : V1.heap[v0.heap.size]? = some (.cells #[.string (txt mn), .int .i64 mo, .string (txt mv)] 24 (0, 0)) := by rw [hV1]; exact blk_new _ _
            obtain ⟨V2, hV2⟩ : ∃ V2, V2 = (V1.setCell ⟨v0.heap.size, 1, none⟩ (.int .i64 nop)).alloc (.cells #[.int .i64 0, .int .i64 2, .int .i64 1, .int .i64 4, .int .i64 3] 3) := ⟨_, rfl⟩
            have bV1' := gr_blk (gr_alloc V1 (.cells #[.int .i64 0, .int .i64 2, .int .i64 1, .int .i64 4, .int .i64 3] 3) none) bV1 (by simp)
            have bV2 : V2.heap[v0.heap.size]? = some (.cells #[.string (txt mn), .int .i64 nop, .string (txt mv)] 24 (0, 0)) := by rw [hV2]; exact gr_blk (gr_alloc _ _ none) (blk_set bV1 1 _) (by simp)
            have gV2 : Gr v0 V2 := by
              have g2 := gr_set V1 ⟨v0.heap.size, 1, none⟩ (.int .i64 nop)
              rw [hV2]
              exact gr_trans (gr_of_below ((gr_below gV1).grown g2 gV1.size (fun k hk => by cases hk; exact Nat.le_refl _)) (Nat.le_refl _)) (gr_alloc _ _ _)
            have p0 : v0.cell? ⟨w.heap.size, 0, none⟩ = some (.string (txt mn)) := blk_cell d1 rfl
            have p1 : v0.cell? ⟨w.heap.size, 1, none⟩ = some (.int .i64 mo) := blk_cell d1 rfl
            have p2 : v0.cell? ⟨w.heap.size, 2, none⟩ = some (.string (txt mv)) := blk_cell d1 rfl
            have q0 : V1.cell? ⟨w.heap.size, 0, none⟩ = some (.string (txt mn)) := blk_cell (gr_blk gV1 d1 (by simp)) rfl
            have q1 : V1.cell? ⟨w.heap.size, 1, none⟩ = some (.int .i64 mo) := blk_cell (gr_blk gV1 d1 (by simp)) rfl
            have q2 : V1.cell? ⟨w.heap.size, 2, none⟩ = some (.string (txt mv)) := blk_cell (gr_blk gV1 d1 (by simp)) rfl
            have qa1 : (V1.alloc (.cells #[.int .i64 0, .int .i64 2, .int .i64 1, .int .i64 4, .int .i64 3] 3)).cell? ⟨w.heap.size, 1, none⟩ = some (.int .i64 mo) := gr_cell (gr_alloc _ _ _) q1
            have r1 : (V1.alloc (.cells #[.int .i64 0, .int .i64 2, .int .i64 1, .int .i64 4, .int .i64 3] 3)).cell? ⟨v0.heap.size, 1, none⟩ = some (.int .i64 mo) := blk_cell bV1' rfl
            have rf1 := blk_free bV1' 1
            have r2 : V1.cell? ⟨v0.heap.size, 1, none⟩ = some (.int .i64 mo) := blk_cell bV1 rfl
            have rf2 := blk_free bV1 1
            have hlt1 := lt_of_blk bV1
            have hne1 : w.heap.size < v0.heap.size := lt_of_blk d1
            replace d1 := Lib.hid d1
            replace d2 := Lib.hid d2
            replace bV1 := Lib.hid bV1
            replace bV1' := Lib.hid bV1'
            replace bV2 := Lib.hid bV2
            replace gV2 := Lib.hid gV2
            replace gV1 := Lib.hid gV1
            replace gms := Lib.hid gms
            replace hms := Lib.hid hms
            replace fB := Lib.hid fB
            replace hno := Lib.hid hno
            replace hv0 := Lib.hid hv0
            clear hSs hBs nS1 nS2 hss
            go_upto_region 9 with fail
            rw [← hV1]
            replace hV1 := Lib.hid hV1
            go_cut [] (fun wx => wx = V2)
            case first =>
              rcases hcell with ⟨rfl, rfl⟩ | ⟨rfl, rfl⟩ | ⟨rfl, rfl⟩ | ⟨rfl, rfl⟩
              all_goals
                go_wp2
                go_meet
                exact hV2.symm
            case rest =>
            subst hcut
            clear hcell p0 p1 p2 q0 q1 q2 qa1 r1 rf1 r2 rf2 hV2
            have hms2 := stoHas_gr hms.out gV2.out
            have mnk := ok_not hok1.out hno.out
            have e1 := gr_blk gV2.out d1.out (by simp)
            have e2 := gr_blk gV2.out d2.out (by simp)
            have c1 := fun W (g : Gr wc W) => sel_m1 H hH base ms ss mn mv mo W (stoHas_gr hms2 g) hok1.out (by omega)
            have c2 := fun W (g : Gr wc W) => sel_m1 H hH base ms ss mn mv nop W (stoHas_gr hms2 g) mnk (by omega)
            have c3 := fun W (g : Gr wc W) => sel_m2 H hH base ms ss mn mv mo on ov oo W (stoHas_gr hms2 g) hok1.out (by omega) hok2.out (by omega)
            have c4 := fun W (g : Gr wc W) => sel_m2 H hH base ms ss mn mv mo mn mv nop W (stoHas_gr hms2 g) hok1.out (by omega) mnk (by omega)
            have cA := fun W (g : Gr wc W) => sall_any base ms ss W (stoAt_gr hms2.sat g) hms2.inv
            unfold CopyPost at cA
            unfold MsPost at c1 c2 c3 c4
            obtain ⟨s1, s2, s3⟩ := mat_nums (H := H) hok1.out hno.out ⟨on, oo, ov⟩ ss
            rw [ems] at c1 c2 c3 c4 cA
            obtain ⟨N, hN⟩ : ∃ N, N = ss.length := ⟨_, rfl⟩
            rw [← hN] at cA s1 hlen40
            generalize (selS H [⟨mn, mo, mv⟩] ss).length = N1 at c1 s1 s2
            generalize (selS H [⟨mn, nop, mv⟩] ss).length = N2 at c2 s1
            generalize (selS H [⟨mn, mo, mv⟩, ⟨on, oo, ov⟩] ss).length = N3 at c3 s2
            rw [s3] at c4
            have hsumI : (N1 : Int) + (N2 : Int) = (N : Int) := by omega
            have hle3 : (N3 : Int) ≤ (N1 : Int) := by omega
            have f1 := fun W (g : Gr wc W) => gr_blk g e1 (by simp)
            have f2 := fun W (g : Gr wc W) => gr_blk g e2 (by simp)
            have f3 := fun W (g : Gr wc W) => gr_blk g bV2.out (by simp)
            have kk1 := blk_cells3 f1
            have kk2 := blk_cells3 f2
            have kk3 := blk_cells3 f3
            obtain ⟨x0, x1, x2⟩ := kk1 wc (gr_refl _ _)
            replace c1 := Lib.hid c1
            replace c2 := Lib.hid c2
            replace c3 := Lib.hid c3
            replace c4 := Lib.hid c4
            replace cA := Lib.hid cA
            replace hN := Lib.hid hN
            replace hms2 := Lib.hid hms2
            replace mnk := Lib.hid mnk
            replace e1 := Lib.hid e1
            replace e2 := Lib.hid e2
            replace kk1 := Lib.hid kk1
            replace kk2 := Lib.hid kk2
            replace kk3 := Lib.hid kk3
            replace ems := Lib.hid ems
            clear f1 f2 f3 s1 s2 s3
            go_wp2_with fail
            refine (c1.out _ (gr_refl _ _)).mono ?_
            rintro e v1 ⟨A1, k1, rfl, g1⟩
            clear x0 x1 x2
            obtain ⟨x0, x1, x2⟩ := kk3.out v1 g1
            go_wp2_with fail
            refine (c2.out _ g1).mono ?_
            rintro e v2 ⟨A2, k2, rfl, g2⟩
            have G2 := gr_trans g1 g2
            clear x0 x1 x2 g1 g2
            obtain ⟨x0, x1, x2⟩ := kk1.out v2 G2
            obtain ⟨y0, y1, y2⟩ := kk2.out v2 G2
            go_wp2_with fail
            refine (c3.out _ G2).mono ?_
            rintro e v3 ⟨A3, k3, rfl, g3⟩
            have G3 := gr_trans G2 g3
            clear x0 x1 x2 y0 y1 y2 G2 g3
            obtain ⟨x0, x1, x2⟩ := kk1.out v3 G3
            obtain ⟨y0, y1, y2⟩ := kk3.out v3 G3
            go_wp2_with fail
            refine (c4.out _ G3).mono ?_
            rintro e v4 ⟨A4, k4, rfl, g4⟩
            have G4 := gr_trans G3 g4
            clear x0 x1 x2 y0 y1 y2 G3 g4
            go_wp2_with fail
            refine (cA.out _ G4).mono ?_
            rintro e v5 ⟨A5, k5, h5, rfl, F5, g5⟩
            have hfin := Lib.hid (fB.out _ (gr_trans gV2.out (gr_trans G4 g5)))
            clear F5 g5 G4
            go_wp2
            go_ret
            exact ⟨rfl, hfin.out⟩


set_option maxRecDepth 100000 in
theorem contract (H : Type) (enc : TypeId × Value → H) (W : World) (base : Nat) (args : Array Value) (ds gs : List (DataW H)) (before : List MemPlace)
    (hval0 : ∀ (j : Nat) t v, Try.f3.params[j]? = some t → args[j]? = some v → Value.okWide Try.prog W .any base t v)
    (hW : DataW.Whole enc Try.prog Try.f3.params.toList Rows.storeMatchesSpec.vars false W args.toList ds gs before) (hk : Rows.uptoSmall H (ds ++ gs) = true) :
    Calls Try.prog 3 args W fun e W' => ∃ v, e = .returned v ∧ Rows.storeMatchesSpec.post enc Try.prog Try.f3 false true false false W args v W' := by
  have hval : ∀ (j : Nat) t v, Try.f3.params[j]? = some t → args[j]? = some v → Value.okWide Try.prog W .any base t v := hval0
  have hW' := hW
  obtain ⟨p, q, hA0, hV, rfl, hfz, hnd⟩ := hW
  have hA : DataW.TrodAll enc Try.prog W 0 (fun _ => true) true Try.f3.params.toList args.toList ds p := hA0
  rw [Try.params3] at hA hval
  obtain ⟨v0, vs0, d0, ds0, p0, q0, hargs, rfl, rfl, h0, r0⟩ := trodAll_cons hA
  obtain ⟨v1, vs1, d1, ds1, p1, q1, rfl, rfl, rfl, h1, r1⟩ := trodAll_cons r0
  obtain ⟨v2, vs2, d2, ds2, p2, q2, rfl, rfl, rfl, h2, r2⟩ := trodAll_cons r1
  obtain ⟨rfl, rfl, rfl⟩ := trodAll_nil r2
  obtain rfl : args = #[v0, v1, v2] := by cases args; simp_all
  obtain ⟨rfl, rfl⟩ := trodVars_none hV
  obtain ⟨a0, len0, cap0, rfl⟩ := okWide_slice Try.underlying22 (hval 0 22 v0 rfl rfl)
  have k0 := h0
  have lt0 : ∀ x ∈ p0, x.block < W.heap.size := by obtain ⟨m, hm⟩ := k0; exact DataW.trod_lt m _ _ _ hm
  obtain ⟨z0, w0⟩ := ops_open h0
  have k1 := h1
  have lt1 : ∀ x ∈ p1, x.block < W.heap.size := by obtain ⟨m, hm⟩ := k1; exact DataW.trod_lt m _ _ _ hm
  obtain ⟨z1, w1⟩ := mt_open (hval 1 24 v1 rfl rfl) h1
  have k2 := h2
  have lt2 : ∀ x ∈ p2, x.block < W.heap.size := by obtain ⟨m, hm⟩ := k2; exact DataW.trod_lt m _ _ _ hm
  obtain ⟨z2, w2⟩ := mt_open (hval 2 24 v2 rfl rfl) h2
  have hsize : z1.n.length ≤ 1048576 ∧ z2.n.length ≤ 1048576 := by
    have h : Rows.uptoBulkAll _ ≤ 1048576 := of_decide_eq_true hk
    rw [w1.d, w2.d] at h
    simp only [List.append_nil, Rows.uptoBulkAll, Rows.uptoBulk] at h
    omega
  clear hA0 hval0
  refine (walk W a0 len0 cap0 z0 w0 v1 z1 w1.v hsize.1 v2 z2 w2.v hsize.2).mono fun e W' ⟨he, bel⟩ => ?_
  subst he
  exact ⟨_, rfl, _, _, _, [], _, [], hW', trodAll_mk1 (shut_bool Try.underlying4 _), (trodAll_cons_mk (Below.trod laidOut (by kernel_rfl) (of_decide_eq_true (by kernel_rfl)) k0 bel lt0) (trodAll_cons_mk (Below.trod laidOut (by kernel_rfl) (of_decide_eq_true (by kernel_rfl)) k1 bel lt1) (trodAll_cons_mk (Below.trod laidOut (by kernel_rfl) (of_decide_eq_true (by kernel_rfl)) k2 bel lt2) trodAll_mk0))), rfl, bel.frame _, fun h => by cases h⟩

set_option maxRecDepth 100000 in
theorem lifted (os : Os) (started : os.Started) (H : Type) (enc : TypeId × Value → H) (F : Stop.Interp) :
    ReturnsInHanded {} Try.checked os 3 .any ((Rows.OpenSpec.upto Rows.storeMatchesSpec).pre6 enc Try.prog Try.f3 Rows.storeMatchesUptoRow.domain false) (((Rows.OpenSpec.upto Rows.storeMatchesSpec).at F).post enc Try.prog Try.f3 false true false false) := by
  refine returnsInHanded_of_cond (C := Try.checked) (s := Rows.OpenSpec.upto Rows.storeMatchesSpec) (k := Rows.uptoSmall) rfl own started (by kernel_rfl) Try.func3
    (OpenSpec.witness (enc := enc) (C := Try.checked) (s := Rows.OpenSpec.upto Rows.storeMatchesSpec) (k := Rows.uptoSmall) rfl false ⟨#[], #[.slice none 0 0, .agg #[.string .empty, .int .i64 0, .string .empty], .agg #[.string .empty, .int .i64 0, .string .empty]], []⟩ 8 (by kernel_rfl) (by kernel_rfl) (by kernel_rfl)
      (x := ([.nil, .agg [.lit (.string []), .lit (.int .i64 0), .lit (.string [])], .agg [.lit (.string []), .lit (.int .i64 0), .lit (.string [])]], [], [])) (by kernel_rfl) rfl (by kernel_rfl)) ?_
  intro W base args ds gs before hval hW _ hk _
  exact contract H enc W base args ds gs before hval hW hk

/-- THE STATEMENT -/
theorem proved : Rows.StoreMatchesUptoSaid :=
  OpenClaim.holds_of_cond 3 Try.f3 rfl rfl rfl rfl rfl rfl rfl ⟨rfl, rfl, rfl, rfl, rfl⟩ rfl rfl rfl rfl rfl (by kernel_rfl) Try.func3 (by kernel_rfl)
    (of_decide_eq_true (by kernel_rfl)) (by unfold Func.isWrapper; first | (rw [if_pos (by decide +kernel)]; kernel_rfl) | (rw [if_neg (by decide +kernel)]; exact ⟨rfl, rfl⟩))
    (fun os started H enc _ F => lifted os started H enc F)
#print axioms proved
end Go.Proofs.Ythlkcoiaahpmoaa.storeMatches
