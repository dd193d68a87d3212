/-
  StorePlays holds of the program: for every input the call returns true and leaves what came in as it was. No condition.
-/
import Derived.Test.YtccmekdmnkmhlaaGreatRows
import Derived.Test.YtccmekdmnkmhlaaGreatSqSpBook
import Derived.Test.YtccmekdmnkmhlaaGreatAQX
import Derived.Test.YtccmekdmnkmhlaaGreatAJX
import Derived.WalkKit
import Derived.ProofKit
import Derived.OpenShut
import Derived.ShutString
import Derived.ChangeOld
import Derived.Below
namespace Go.Proofs.YtccmekdmnkmhlaaGreat.storePlays
open Go.ChangeShapes Go.WideShapes Go.ChangeAt Go.RowKit
open Go.ChangeMaps (open_string shut_string)
set_option linter.unusedVariables false

theorem own : ownKnob Tryz.prog.godebug = none := by kernel_rfl
theorem laidOut : laidOutB Tryz.prog = true := by kernel_rfl
set_option maxHeartbeats 64000000 in
set_option maxRecDepth 100000 in
theorem walk (w : World) (a0 : Option Addr) (len0 cap0 : Nat) (z0 : List Opx) (i0 : IsOps w a0 len0 cap0 z0) (a1 : Option Addr) (len1 cap1 : Nat) (z1 : List Mt) (i1 : IsMts w a1 len1 cap1 z1) :
    Calls Tryz.prog 3 #[.slice a0 len0 cap0, .slice a1 len1 cap1] w fun e w' => e = .returned (.bool true) ∧ Below w.heap.size w w' := by
  obtain ⟨H, hH⟩ := holds_ex
  have cL0 := olight_any a0 len0 cap0 z0 w i0
  unfold OLPost at cL0
  replace cL0 := Lib.hid cL0
  have hlen0 := i0.1
  replace i0 := Lib.hid i0
  replace i1 := Lib.hid i1
  go_enter Tryz.func3, Tryz.ntmps3
  go_wp2_with fail
  refine cL0.out.mono ?_
  rintro e wL ⟨⟨bb0, rfl, hbb⟩, rfl⟩
  cases bb0 with
  | false =>
    go_wp2_with fail
    refine (alive_any _).mono ?_
    rintro e wA ⟨rfl, gA⟩
    go_wp2
    go_ret
    exact ⟨rfl, gr_below gA⟩
  | true =>
    obtain ⟨hN0, hL0⟩ := hbb rfl
    rw [hlen0] at hN0
    replace hL0 := Lib.hid hL0
    clear hbb cL0 hlen0
    by_cases h15 : 15 < len1
    · have hI : (15 : Int) < (len1 : Int) := by omega
      go_wp2_with fail
      refine (alive_any _).mono ?_
      rintro e wA ⟨rfl, gA⟩
      go_wp2
      go_ret
      exact ⟨rfl, gr_below gA⟩
    have hI : ((15 : Int) < (len1 : Int)) = False := eq_false (by omega)
    go_wp2_with fail
    refine (alive_any _).mono ?_
    rintro e w2 ⟨rfl, g2⟩
    replace g2 := Lib.hid g2
    go_upto_block 0 with fail
    go_cut [5] (fun iv wx => Hid (∀ m ∈ z1, m.n.length ≤ 100 ∧ m.v.length ≤ 100) ∧ Hid (Gr w wx))
    case first =>
      go_wp2_with fail
      go_loopw [5] (fun iv wr => ∃ k : Nat, k ≤ len1 ∧ iv = .int .i64 k ∧ Hid (∀ m ∈ z1.take k, m.n.length ≤ 100 ∧ m.v.length ≤ 100) ∧ Hid (Gr w wr)) (fun iv _ => len1 - (intOf iv).toNat)
      case atStart => exact ⟨0, Nat.zero_le _, rfl, Lib.hid (by simp), g2⟩
      case round =>
        obtain ⟨k, hk, rfl, hsh, hg⟩ := hrel
        by_cases hlt : k < len1
        · obtain ⟨m, Bm, om, hmk, rfl, _, hcm⟩ := rowS_elem mtC_len (row_gr i1.out.1 hg.out) (by decide) hlt
          have hki : (k : Int) < (len1 : Int) := by omega
          have hk0 : (0 : Int) ≤ (k : Int) := by omega
          have d0 : wr.cell? ⟨Bm, om + k * 3, none⟩ = some (.string (txt m.n)) := hcm 0 (by decide)
          have d2 : wr.cell? ⟨Bm, om + k * 3 + 2, none⟩ = some (.string (txt m.v)) := hcm 2 (by decide)
          have hnx : m.n.length ≤ 100 → m.v.length ≤ 100 → ∀ y ∈ z1.take (k + 1), y.n.length ≤ 100 ∧ y.v.length ≤ 100 := fun e1 e2 y hy => by
            have h1 : z1.take (k + 1) = z1.take k ++ [m] := by rw [List.take_add_one, show z1[k]? = some m from hmk]; rfl
            rw [h1] at hy
            rcases List.mem_append.1 hy with hy | hy
            · exact hsh.out y hy
            · rw [List.mem_singleton.1 hy]; exact ⟨e1, e2⟩
          replace hnx := Lib.hid hnx
          clear hcm hmk
          by_cases c1 : 100 < m.n.length
          · have c1I : (100 : Int) < (m.n.length : Int) := by omega
            go_wp2_with fail
            go_ret
            exact ⟨rfl, gr_below hg.out⟩
          · have c1I : ((100 : Int) < (m.n.length : Int)) = False := eq_false (by omega)
            by_cases c2 : 100 < m.v.length
            · have c2I : (100 : Int) < (m.v.length : Int) := by omega
              go_wp2_with fail
              go_ret
              exact ⟨rfl, gr_below hg.out⟩
            · have c2I : ((100 : Int) < (m.v.length : Int)) = False := eq_false (by omega)
              have hn2 := Lib.hid (hnx.out (by omega) (by omega))
              go_wp2_with fail
              go_roundw
              case rel => exact ⟨k + 1, by omega, by go_num, hn2, hg⟩
              case measure => simp [intOf]; omega
        · have hki : ((k : Int) < (len1 : Int)) = False := eq_false (by omega)
          have hfull : z1.take k = z1 := List.take_of_length_le (by have := i1.out.1.1; rw [sR_len mtC 3 mtC_len] at this; omega)
          rw [hfull] at hsh
          go_wp2_with fail
          go_meet
          exact ⟨hsh, hg⟩
    case rest =>
    obtain ⟨hsh, hg⟩ := hcut
    have hmb : ∀ m ∈ z1, m.n.length ≤ 1000000 ∧ m.v.length ≤ 1000000 := fun m hm => by
      have := hsh.out m hm
      exact ⟨by omega, by omega⟩
    replace hmb := Lib.hid hmb
    obtain ⟨St0, hSt0⟩ : ∃ St0, St0 = wc.heap.size := ⟨_, rfl⟩
    obtain ⟨K, hK⟩ : ∃ K, K = wc.heap.size + 1 := ⟨_, rfl⟩
    obtain ⟨W6, hW6⟩ : ∃ W6, W6 = (wc.alloc (.cells #[.slice none 0 0] 31)).alloc (.cells bkNil 45) := ⟨_, rfl⟩
    have hplay := sp_new hg.out hW6
    rw [← hK, ← hSt0] at hplay
    unfold bkNil BkZ.bkCells at hW6
    replace hplay := Lib.hid hplay
    have h15' : len1 ≤ 15 := by omega
    clear hsh hg g2 hI h15
    go_upto_region 9 with fail
    rw [← hSt0]
    go_upto_region 11 with fail
    rw [← hK, ← hW6]
    replace hW6 := Lib.hid hW6
    replace hSt0 := Lib.hid hSt0
    replace hK := Lib.hid hK
    go_upto_block 2 with fail
    go_cut [6, 7, 9] (fun sv rv nv wx => ∃ (St : Nat) (rA : Option Addr) (rc : Nat), sv = .pointer (some ⟨St, 0, none⟩) ∧ rv = .slice rA (plc z0).length rc ∧ nv = .int .i64 (sumP (plc z0) : Nat) ∧ Hid (SpIs w K bkNil wx St (plc z0) (plc z0) rA rc (fun _ => False)))
    case first =>
      refine loopT w K St0 bkNil _ len0 cap0 z0 i0 hL0 hN0 W6 hplay _ _ _ _ _ _ _ _ _ _ _ _ _ _ _ _ _ _ _ _ _ _ _ _ _ _ _ _ _ _ _ _ _ _ _ _ _ _ _ _ _ _ _ _ _ _ _ _ _ _ _ _ _ _ _ _ _ _ _ _ _ _ _ _ _ _ _ _ _ _ _ _ _ _ _ _ _ _ _ _ _ _ _ _ _ _ _ _ _ _ _ _ _ _ _ _ _ _ _ _ _ _ _ _ _ _ _ _ _ _ _ _ _ _ _ _ _ _ _ _ _ _ _ _ _ _ _ _ _ _ _ _ _ _ _ _ _ _ _ _ _ _ _ _ _ _ _ _ _ _ _ _ _ _ _ _ _ _ _ _ _ _ _ _ _ _ _ _ _ _ _ _ _ _ _ _ _ _ _ _ _ _ _ _ _ _ _ _ _ _ _ _ _ _ _ _ _ _ _ _ _ _ _ _ _ _ _ _ _ _ _ _ _ _ _ _ _ _ _ _ _ _ _ _ _ _ _ _ _ _ _ _ _ _ _ _ _ _ _ _ _ _ _ _ (Lib.hid ?_)
      intro y4 y10 y11 y12 y13 y14 y15 y16 y17 y66 y67 y68 y69 y70 y71 y72 y73 y74 y75 y76 y77 y78 y79 y80 y81 y82 y83 y84 y85 y86 y87 y88 y89 y90 y91 y92 y93 y94 y95 y96 y97 y98 y99 y100 y101 y102 y103 y104 y105 y106 y107 y108 y109 y110 y111 y112 y113 y114 y115 y116 y117 y118 y119 y120 y121 y122 y123 y124 y125 y126 y127 y128 y129 y130 y131 y132 y133 y134 y135 y136 y137 y138 y139 y140 y141 y142 St rA rc wz hz
      go_wp2_with fail
      go_meet
      exact ⟨St, rA, rc, rfl, rfl, rfl, Lib.hid hz⟩
    case rest =>
    obtain ⟨St, rA, rc, rfl, rfl, rfl, hsp⟩ := hcut
    obtain ⟨V0, hV0⟩ : ∃ V0, V0 = wc := ⟨_, rfl⟩
    rw [← hV0] at hsp ⊢
    clear hV0
    have hb0 := spb_start hsp.out
    have hinv := spb_inv hb0
    have h40 := hinv.len
    have hsm := ser_small hinv
    have hget := inv_get hinv
    have hshort := inv_short hinv
    have hoks := inv_okSs hinv
    have hsb := sumP_bound hinv
    have hsm2 : ∀ s ∈ plc z0, s.l.length ≤ 100000 ∧ s.p.length ≤ 100000 := fun s hs => by
      have h1 := hinv.ok s hs
      have h2 := h1.1.1.1
      exact ⟨by omega, by omega⟩
    generalize plc z0 = ss at *
    obtain ⟨N, hN⟩ : ∃ N, N = ss.length := ⟨_, rfl⟩
    rw [← hN] at h40 ⊢
    have cA := spb_all hb0
    rw [← hN] at cA
    replace cA := Lib.hid cA
    replace hb0 := Lib.hid hb0
    replace hN := Lib.hid hN
    replace hinv := Lib.hid hinv
    replace hsm := Lib.hid hsm
    replace hget := Lib.hid hget
    replace hshort := Lib.hid hshort
    replace hoks := Lib.hid hoks
    replace hsm2 := Lib.hid hsm2
    clear hsp
    go_wp2_with fail
    refine cA.out.mono ?_
    rintro e V1 ⟨A1, c1, hs1, rfl, F1, g1⟩
    have hb1 := spb_gr hb0.out g1
    have cK := spb_keep (y := V0.heap.size) hb1 (by simp) (l := ⟨A1, N, c1⟩) (BkZ.ownSs_base (sersIn_own F1) (Nat.zero_le _)) (show N ≤ 1000 by omega) hsm2.out (spb_lt hb0.out) (fun b hb => (F1.own.lt b hb).1) hb0.out.bel.size
    replace cK := Lib.hid cK
    clear F1 g1 hb1 cA hb0
    go_wp2_with fail
    refine cK.out.mono ?_
    rintro e V2 ⟨rfl, hb2⟩
    have cA := spb_all hb2
    rw [← hN.out] at cA
    replace cA := Lib.hid cA
    replace hb2 := Lib.hid hb2
    clear cK
    go_wp2_with fail
    refine cA.out.mono ?_
    rintro e V3 ⟨A3, c3, hs3, rfl, F3, g3⟩
    have hb3 := spb_gr hb2.out g3
    have cK := spb_keep (y := V2.heap.size) hb3 (by simp) (l := ⟨A3, N, c3⟩) (BkZ.ownSs_base (sersIn_own F3) (Nat.zero_le _)) (show N ≤ 1000 by omega) hsm2.out (spb_lt hb2.out) (fun b hb => (F3.own.lt b hb).1) hb2.out.bel.size
    replace cK := Lib.hid cK
    clear F3 g3 hb3 cA hb2
    go_wp2_with fail
    refine cK.out.mono ?_
    rintro e V4 ⟨rfl, hb4⟩
    obtain ⟨ka, ra⟩ := spb_kept hb4 (i := 0) (l := ⟨A1, N, c1⟩) (s' := ss) rfl
    obtain ⟨kr, rr⟩ := spb_ref hb4
    rw [← hN.out] at rr
    have cS := sameSer_yes A1 rA N c1 rc ka kr ss V4 (by omega) ra rr hsm.out
    have hm4 := row_below i1.out.1 hb4.bel
    obtain ⟨R, hR⟩ : ∃ R, R = decide ((∀ m ∈ z1, okMt m) ∧ len1 ≤ 10) := ⟨_, rfl⟩
    have cR := fun W (g : Gr V4 W) => smts_right a1 len1 cap1 z1 W (by omega) (row_gr hm4 g) hmb.out
    have cM := fun W (g : Gr V4 W) => rmatchers_any a1 len1 cap1 z1 W (by omega) (row_gr hm4 g) hmb.out
    rw [← hR] at cR cM
    have hRR : (R != R) = false := by simp
    have cL := fun W (g : Gr V4 W) => spb_sel (spb_gr hb4 g) H hH a1 len1 cap1 z1 (by omega) (row_gr hm4 g) hmb.out
    have hml : z1.length = len1 := by have := hm4.1; rw [sR_len mtC 3 mtC_len] at this; omega
    replace cS := Lib.hid cS
    replace cR := Lib.hid cR
    replace cM := Lib.hid cM
    replace cL := Lib.hid cL
    replace hb4 := Lib.hid hb4
    replace hm4 := Lib.hid hm4
    replace hR := Lib.hid hR
    replace rr := Lib.hid rr
    replace hml := Lib.hid hml
    clear ra cK
    go_wp2_with fail
    refine cS.out.mono ?_
    rintro e V5 ⟨rfl, g5⟩
    go_wp2_with fail
    refine (cR.out _ g5).mono ?_
    rintro e V6 ⟨rfl, g6⟩
    have G6 := gr_trans g5 g6
    go_wp2_with fail
    refine (cM.out _ G6).mono ?_
    rintro e V7 ⟨rfl, g7⟩
    have G7 := gr_trans G6 g7
    clear g5 g6 g7 G6 cS cR hRR
    go_wp2_with fail
    refine (cL.out _ G7).mono ?_
    rintro e V8 ⟨g8, ⟨hok, A8, c8, hs8, rfl, F8⟩ | ⟨hno, rfl⟩⟩
    rotate_left
    · have hd : decide ((∀ m ∈ z1, okMt m) ∧ len1 ≤ 10) = false := decide_eq_false (fun q => hno ⟨q.1, by rw [hml.out]; exact q.2⟩)
      have G8 := gr_trans G7 g8
      have hb8 := spb_gr hb4.out G8
      have cK := spb_keep (y := V8.heap.size) hb8 (by simp) (l := ⟨none, 0, 0⟩) (s' := []) (ownSs_nil _ _) (Nat.zero_le _) (by intro s hs; simp at hs) (spb_lt hb8) (fun b hb => by cases hb) hb8.bel.size
      replace cK := Lib.hid cK
      replace hd := Lib.hid hd
      clear hno G8 G7 g8 hb8 cM cL hb4 hm4 rr
      go_wp2_with fail
      refine cK.out.mono ?_
      rintro e V9 ⟨rfl, hb9⟩
      have cM := rmatchers_any a1 len1 cap1 z1 V9 (by omega) (row_below i1.out.1 hb9.bel) hmb.out
      rw [hd.out] at cM
      replace cM := Lib.hid cM
      replace hb9 := Lib.hid hb9
      clear cK
      go_wp2_with fail
      refine cM.out.mono ?_
      rintro e V10 ⟨rfl, g10⟩
      have hfin := Lib.hid (spb_gr hb9.out g10).bel
      clear cM hb9 g10
      go_wp2
      go_ret
      exact ⟨rfl, hfin.out⟩
    have hd : decide ((∀ m ∈ z1, okMt m) ∧ len1 ≤ 10) = true := decide_eq_true ⟨hok.1, by rw [← hml.out]; exact hok.2⟩
    have hokm : ∀ m ∈ z1, okMt m ∧ m.v.length ≤ 1000000 := fun m hm => ⟨hok.1 m hm, (hmb.out m hm).2⟩
    have G8 := gr_trans G7 g8
    have hb8 := spb_gr hb4.out G8
    have hsl := sel_len H z1 ss
    have hsub := sel_sub H z1 (ss := ss)
    obtain ⟨SS, hSS⟩ : ∃ SS, SS = selS H z1 ss := ⟨_, rfl⟩
    rw [← hSS] at F8 hsl hsub ⊢
    obtain ⟨M, hM⟩ : ∃ M, M = SS.length := ⟨_, rfl⟩
    rw [← hM] at F8 hsl ⊢
    have hM40 : M ≤ 40 := by have := hN.out; omega
    have cK := spb_keep (y := V7.heap.size) hb8 (by simp) (l := ⟨A8, M, c8⟩) (BkZ.ownSs_base (sersIn_own F8) (Nat.zero_le _)) (show M ≤ 1000 by omega) (fun s hs => hsm2.out s (hsub s hs)) (spb_lt (spb_gr hb4.out G7)) (fun b hb => (F8.own.lt b hb).1) (spb_gr hb4.out G7).bel.size
    have hsmS : ∀ s ∈ SS, s.l.length ≤ 1000000 ∧ s.p.length ≤ 1000000 := fun s hs => hsm.out s (hsub s hs)
    replace cK := Lib.hid cK
    replace hd := Lib.hid hd
    replace hokm := Lib.hid hokm
    replace hM := Lib.hid hM
    replace hSS := Lib.hid hSS
    replace hsmS := Lib.hid hsmS
    clear hok G8 G7 g8 hb8 cM cL hb4 hm4 rr hsl hsub F8
    go_wp2_with fail
    refine cK.out.mono ?_
    rintro e V9 ⟨rfl, hb9⟩
    obtain ⟨kb, rb⟩ := spb_kept hb9 (i := 2) (l := ⟨A8, M, c8⟩) (s' := SS) rfl
    obtain ⟨kr2, rr⟩ := spb_ref hb9
    rw [← hN.out] at rr
    have hm9 := row_below i1.out.1 hb9.bel
    have cM := rmatchers_any a1 len1 cap1 z1 V9 (by omega) hm9 hmb.out
    rw [hd.out] at cM
    have cA := fun W (g : Gr V9 W) => spb_all (spb_gr hb9 g)
    rw [← hN.out] at cA
    have cT := fun W (g : Gr V9 W) => rselect_any H hH rA N rc kr2 ss a1 len1 cap1 z1 W (by omega) (by omega) (sersOf_gr rr g) (row_gr hm9 g) hokm.out hget.out
    unfold RSelPost at cT
    rw [← hSS.out, ← hM.out] at cT
    have cF := fun W (g : Gr V9 W) => spb_apart (spb_gr hb9 g) (by simp)
    have cB := fun W A c hs (g : Gr V9 W) (h : SersOf W A M hs SS) => sameSer_yes A8 A M c8 c kb hs SS W (by omega) (sersOf_gr rb g) h hsmS.out
    have cD := fun W A c hs (g : Gr V9 W) (h : SersOf W A N hs ss) => sameSer_yes A rA N c rc hs kr2 ss W (by omega) h (sersOf_gr rr g) hsm.out
    replace cM := Lib.hid cM
    replace cA := Lib.hid cA
    replace cT := Lib.hid cT
    replace cF := Lib.hid cF
    replace cB := Lib.hid cB
    replace cD := Lib.hid cD
    clear cK hb9 hm9 rr rb
    go_wp2_with fail
    refine cM.out.mono ?_
    rintro e V10 ⟨rfl, g10⟩
    clear cM
    go_wp2_with fail
    refine (cA.out _ g10).mono ?_
    rintro e V11 ⟨A11, c11, hs11, rfl, F11, g11⟩
    have cO := sof_any A11 N c11 hs11 ss V11 (sersIn_rd F11) (by omega) (sersIn_bds F11 hinv.out) hshort.out
    unfold OfPost at cO
    have G11 := gr_trans g10 g11
    replace cO := Lib.hid cO
    replace G11 := Lib.hid G11
    clear F11 g10 g11 cA
    go_wp2_with fail
    refine cO.out.mono ?_
    rintro e V12 ⟨g12, ⟨_, m2, rfl, hm2⟩ | ⟨hno2, _⟩⟩
    rotate_left
    · exact absurd hoks.out hno2
    have cC := fun W (g : Gr V12 W) => sall_any V11.heap.size m2 ss W (stoAt_gr hm2 g) hinv.out
    unfold CopyPost at cC
    rw [← hN.out] at cC
    have G12 := gr_trans G11.out g12
    replace cC := Lib.hid cC
    replace G12 := Lib.hid G12
    clear cO hm2 g12 G11
    go_wp2_with fail
    refine (snil_select _).mono ?_
    rintro e V13 ⟨rfl, g13⟩
    go_wp2_with fail
    refine (snil_copy _).mono ?_
    rintro e V14 ⟨⟨b14, rfl, _, hb14⟩, g14⟩
    have G14 := gr_trans g13 g14
    have GV14 := gr_trans G12.out G14
    have cP := fun W (g : Gr V14 W) => spoints_any 0 ⟨b14, none, 0, []⟩ [] W (sto_nilAt 0 (gr_blk g hb14 (by simp))) invS_nil
    rw [show sumP [] = 0 from rfl] at cP
    replace cP := Lib.hid cP
    replace G14 := Lib.hid G14
    replace GV14 := Lib.hid GV14
    clear g13 g14 hb14
    go_wp2_with fail
    refine (cT.out _ GV14.out).mono ?_
    rintro e V15 ⟨⟨A15, c15, hs15, rfl, F15⟩, g15⟩
    have cB2 := cB.out V15 A15 c15 hs15 (gr_trans GV14.out g15) F15
    replace cB2 := Lib.hid cB2
    clear F15 cT cB
    go_wp2_with fail
    refine cB2.out.mono ?_
    rintro e V16 ⟨rfl, g16⟩
    have G16 := gr_trans g15 g16
    clear g15 g16 cB2
    go_wp2_with fail
    refine (cC.out _ (gr_trans G14.out G16)).mono ?_
    rintro e V17 ⟨A17, c17, hs17, rfl, F17, g17⟩
    have G17 := gr_trans G16 g17
    have cD2 := cD.out V17 A17 c17 hs17 (gr_trans GV14.out G17) (sersIn_rd F17)
    replace cD2 := Lib.hid cD2
    clear F17 cC cD G16 g17
    go_wp2_with fail
    refine cD2.out.mono ?_
    rintro e V18 ⟨rfl, g18⟩
    have G18 := gr_trans G17 g18
    clear G17 g18 cD2
    go_wp2_with fail
    refine (snil_put _).mono ?_
    rintro e V19 ⟨rfl, g19⟩
    have G19 := gr_trans G18 g19
    clear G18 g19
    go_wp2_with fail
    refine (snil_all _).mono ?_
    rintro e V20 ⟨rfl, g20⟩
    have G20 := gr_trans G19 g20
    clear G19 g20
    go_wp2_with fail
    refine (snil_points _).mono ?_
    rintro e V21 ⟨rfl, g21⟩
    have G21 := gr_trans G20 g21
    clear G20 g21
    go_wp2_with fail
    refine (cP.out _ G21).mono ?_
    rintro e V22 ⟨rfl, g22⟩
    have cF2 := cF.out _ (gr_trans GV14.out (gr_trans G21 g22))
    replace cF2 := Lib.hid cF2
    clear cF G21 g22 cP
    go_wp2_with fail
    refine cF2.out.mono ?_
    rintro e V23 ⟨rfl, hfin⟩
    replace hfin := Lib.hid hfin
    clear cF2
    go_wp2
    go_ret
    exact ⟨rfl, hfin.out⟩



set_option maxRecDepth 100000 in
theorem lifted (os : Os) (started : os.Started) (H : Type) (enc : TypeId × Value → H) :
    ReturnsInHanded {} Tryz.checked os 3 .any (Rows.storePlaysSpec.pre6 enc Tryz.prog Tryz.f3 Rows.storePlaysRow.domain false) (Rows.storePlaysSpec.post enc Tryz.prog Tryz.f3 false true false false) := by
  refine returnsInHanded_of_change (C := Tryz.checked) own started (by kernel_rfl) Tryz.func3
    (ChangeSpec.witness6 (enc := enc) (C := Tryz.checked) false ⟨#[], #[.slice none 0 0, .slice none 0 0], []⟩ 8 (by kernel_rfl) (by kernel_rfl) (by kernel_rfl) (by kernel_rfl)) ?_
  intro W base args ds gs before hval0 hW hcnd _
  have hval : ∀ (j : Nat) t v, Tryz.f3.params[j]? = some t → args[j]? = some v → Value.okWide Tryz.prog W .any base t v := hval0
  have hW' := hW
  obtain ⟨p, q, hA0, hV, rfl, hfz, hnd⟩ := hW
  have hA : DataW.TrodAll enc Tryz.prog W 0 (fun _ => true) true Tryz.f3.params.toList args.toList ds p := hA0
  rw [Tryz.params3] at hA hval
  obtain ⟨v0, vs0, d0, ds0, p0, q0, hargs, rfl, rfl, h0, r0⟩ := trodAll_cons hA
  obtain ⟨v1, vs1, d1, ds1, p1, q1, rfl, rfl, rfl, h1, r1⟩ := trodAll_cons r0
  obtain ⟨rfl, rfl, rfl⟩ := trodAll_nil r1
  obtain rfl : args = #[v0, v1] := by cases args; simp_all
  obtain ⟨rfl, rfl⟩ := trodVars_none hV
  obtain ⟨a0, len0, cap0, rfl⟩ := okWide_slice Tryz.underlying22 (hval 0 22 v0 rfl rfl)
  have k0 := h0
  have lt0 : ∀ x ∈ p0, x.block < W.heap.size := by obtain ⟨m, hm⟩ := k0; exact DataW.trod_lt m _ _ _ hm
  obtain ⟨z0, w0⟩ := ops_open h0
  obtain ⟨a1, len1, cap1, rfl⟩ := okWide_slice Tryz.underlying23 (hval 1 23 v1 rfl rfl)
  have k1 := h1
  have lt1 : ∀ x ∈ p1, x.block < W.heap.size := by obtain ⟨m, hm⟩ := k1; exact DataW.trod_lt m _ _ _ hm
  obtain ⟨z1, w1⟩ := mts_open h1
  clear hA0 hval0
  refine (walk W a0 len0 cap0 z0 w0 a1 len1 cap1 z1 w1).mono fun e W' ⟨he, bel⟩ => ?_
  subst he
  exact ⟨_, rfl, _, _, _, [], _, [], hW', trodAll_mk1 (shut_bool Tryz.underlying4 _), (trodAll_cons_mk (Below.trod laidOut (by kernel_rfl) (of_decide_eq_true (by kernel_rfl)) k0 bel lt0) (trodAll_cons_mk (Below.trod laidOut (by kernel_rfl) (of_decide_eq_true (by kernel_rfl)) k1 bel lt1) trodAll_mk0)), rfl, bel.frame _, fun h => by cases h⟩

theorem over : Rows.storePlaysRow.holds Tryz.pinned (OpenSpec.ofChange Rows.storePlaysSpec) :=
  OpenClaim.holds_of_wide 3 Tryz.f3 rfl rfl rfl rfl rfl rfl rfl ⟨rfl, rfl, rfl, rfl, rfl⟩ rfl rfl rfl rfl rfl (by kernel_rfl) Tryz.func3 (by kernel_rfl)
    (of_decide_eq_true (by kernel_rfl)) (by unfold Func.isWrapper; first | (rw [if_pos (by decide +kernel)]; kernel_rfl) | (rw [if_neg (by decide +kernel)]; exact ⟨rfl, rfl⟩))
    (fun os started H enc _ => lifted os started H enc)

/-- THE STATEMENT -/
theorem proved : Rows.StorePlaysSaid := over
#print axioms proved
end Go.Proofs.YtccmekdmnkmhlaaGreat.storePlays

