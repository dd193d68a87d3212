/-
  DeskPlays holds of the program: for every input the call returns true and leaves what came in as it was. No condition.
-/
import Derived.Test.YtmldoeeangekoaaGreatDoorRows
import Derived.Test.YtmldoeeangekoaaGreatDoorCards
import Derived.Test.YtmldoeeangekoaaGreatDoorTie
import Derived.LaidMore
import Derived.Stop.Joined
import Derived.Stop.LaidErr
import Derived.Lib.LaidTab
import Derived.SevenTiedAt
import Derived.Test.YtmldoeeangekoaaGreatDoorPkDpLoop
import Derived.Test.YtmldoeeangekoaaGreatDoorPkDeskMid
import Derived.Test.YtmldoeeangekoaaGreatDoorPkDeskPlayMath
import Derived.Test.YtmldoeeangekoaaGreatDoorPkDeskAny2
import Derived.Test.YtmldoeeangekoaaGreatDoorDkB
import Derived.Test.YtmldoeeangekoaaGreatDoorPkBookC1
import Derived.Test.YtmldoeeangekoaaGreatDoorPkDySame
import Derived.Test.YtmldoeeangekoaaGreatDoorPkDyLight
import Derived.Test.YtmldoeeangekoaaGreatDoorPkDyOpen
import Derived.Test.YtmldoeeangekoaaGreatDoorPkDopOpen
import Derived.Test.YtmldoeeangekoaaGreatDoorPkRefFoldLDy
import Derived.Test.YtmldoeeangekoaaGreatDoorSameCurs
import Derived.Test.YtmldoeeangekoaaGreatDoorSlipVars
import Derived.Test.YtmldoeeangekoaaGreatDoorDkA
import Derived.WalkKit
import Derived.ProofKit
import Derived.OpenShut
import Derived.ShutString
import Derived.ChangeOld
import Derived.Below
namespace Go.Proofs.YtmldoeeangekoaaGreatDoor.deskPlays
open Go.ChangeShapes Go.WideShapes Go.ChangeAt Go.RowKit
open Go.ChangeMaps (open_string shut_string)
set_option linter.unusedVariables false

theorem own : ownKnob Tryz.prog.godebug = none := by kernel_rfl
theorem laidOut : laidOutB Tryz.prog = true := by kernel_rfl
set_option maxRecDepth 100000 in
theorem field_zero (W : World) : (Instr.field 30 (.agg #[.int .i64 0, .int .i64 0, .slice none 0 0, .string ⟨#[]⟩, .int .i64 0]) 0).run Tryz.prog W = .ok (.int .i64 0) W := rfl
set_option maxHeartbeats 60000000 in
set_option maxRecDepth 100000 in
theorem walk (w : World) (hL : laidMetH Tryz.prog Rows.deskPlaysRow.laid w) (a0 : Option Addr) (len0 cap0 : Nat) (z0 : List Nte) (w0 : Dy.IsNtes w a0 len0 cap0 z0) (a1 : Option Addr) (len1 cap1 : Nat) (z1 : List Cur) (w1 : IsDops w a1 len1 cap1 z1) :
    Calls Tryz.prog 3 #[.slice a0 len0 cap0, .slice a1 len1 cap1] w fun e w' => e = .returned (.bool true) ∧ Below w.heap.size w w' := by
  have hv : Vars w := vars_of hL
  obtain ⟨hr0, hcap0, hcm0, _, hnil0⟩ := w0
  obtain ⟨hr1, hcap1, hcm1, hwf1, hnil1⟩ := w1
  have cT0 := Dy.light_any a0 len0 cap0 z0 w (by omega) hr0
  have hl0 : z0.length = len0 := by have := hr0.1; rw [sR_len nteC 6 nteC_len] at this; omega
  replace hr0 := Lib.hid hr0
  replace hr1 := Lib.hid hr1
  replace hwf1 := Lib.hid hwf1
  replace cT0 := Lib.hid cT0
  replace hv := Lib.hid hv
  replace hl0 := Lib.hid hl0
  clear hL hnil0 hnil1
  go_enter Tryz.func3, Tryz.ntmps3
  go_wp2_with fail
  refine cT0.out.mono ?_
  rintro e W ⟨⟨bb0, rfl, hb0⟩, rfl⟩
  cases bb0 with
  | false =>
    go_wp2_with fail
    refine (alive_any _ hv.out).mono ?_
    rintro e W9 ⟨rfl, g9⟩
    go_wp2
    go_ret
    exact ⟨rfl, gr_below g9⟩
  | true =>
  have hn60 := hb0 rfl
  clear hb0 cT0
  by_cases hL : 80 < len1
  · have hLi : (80 : Int) < (len1 : Int) := by omega
    go_wp2_with fail
    refine (alive_any _ hv.out).mono ?_
    rintro e W9 ⟨rfl, g9⟩
    go_wp2
    go_ret
    exact ⟨rfl, gr_below g9⟩
  have hLi : ((80 : Int) < (len1 : Int)) = False := eq_false (by omega)
  have hL80 : len1 ≤ 80 := by omega
  go_wp2_with fail
  refine (alive_any _ hv.out).mono ?_
  rintro e W1 ⟨rfl, g1⟩
  clear hLi hL
  have cF := Dy.dFold_any a0 len0 cap0 z0 W1 (row_gr hr0.out g1) (by omega)
  replace cF := Lib.hid cF
  replace g1 := Lib.hid g1
  go_wp2_with fail
  refine cF.out.mono ?_
  rintro e W2 ⟨⟨A1, n1, c1, rfl, hO1⟩, g2⟩
  have hinv := Dy.foldN_inv z0
  have hfl := Dy.foldN_len z0
  rw [hl0.out] at hfl
  have cD := fun W (g : Gr w W) => Dy.rFoldL_any a0 len0 cap0 z0 W (row_gr hr0.out g) (by omega)
  obtain ⟨s0, hs0⟩ : ∃ s0, s0 = Dy.foldN z0 := ⟨_, rfl⟩
  rw [← hs0] at hO1 hinv hfl cD ⊢
  have hn1 : s0.op.length = n1 := by have := hO1.1; rw [sR_len curC 5 curC_len] at this; omega
  have hnil1 : A1 = none → n1 = 0 ∧ c1 = 0 := fun h => by
    rcases hO1.2 with ⟨hq, hq2⟩ | ⟨g', cap, cur, hq, _⟩
    · injection hq with q1 q2 q3
      exact ⟨q2, q3⟩
    · injection hq with q1; rw [h] at q1; cases q1
  have hG2 := gr_trans g1.out g2
  have cN := dkin_newS (w := w) (wi := W2) hG2 (dkS s0) A1 n1 c1 (by omega) hnil1 (row_own hO1)
  unfold dkS at cN
  simp only at cN
  replace cN := Lib.hid cN
  replace cD := Lib.hid cD
  replace hinv := Lib.hid hinv
  replace hs0 := Lib.hid hs0
  replace hG2 := Lib.hid hG2
  replace hn1 := Lib.hid hn1
  clear cF hO1 g2 g1 hnil1
  go_wp2_with fail
  refine cN.out.mono ?_
  rintro e W3 ⟨D, A, c, rfl, hD, hDle, g3⟩
  have hG3 := gr_trans hG2.out g3
  replace hD := Lib.hid hD
  replace hG3 := Lib.hid hG3
  clear cN g3
  go_wp2_with fail
  refine (cD.out _ hG3.out).mono ?_
  rintro e W4 ⟨⟨A2, n2, c2, rfl, hO2⟩, g4⟩
  obtain rfl : n1 = n2 := by have := hO2.1; rw [sR_len curC 5 curC_len] at this; have := hn1.out; omega
  obtain ⟨P, hP⟩ : ∃ P, P = W4.heap.size := ⟨_, rfl⟩
  obtain ⟨W5, hW5⟩ : ∃ W5, W5 = W4.alloc (.cells #[.int .i64 s0.next, .int .i64 s0.now, .slice A2 n1 c2, .string (txt s0.seg), .int .i64 s0.pts] 32) := ⟨_, rfl⟩
  have g5 : Gr W4 W5 := by rw [hW5]; exact gr_alloc _ _ _
  have hP1 : StB W5 P s0 (.slice A2 n1 c2) := by rw [hW5, hP]; exact blk_new _ _
  have hO5 := own_mono (hO2.kept g5 (Classical.em _)) hG3.out.size
  have hap0 : ∀ k, (Value.slice A2 n1 c2).ownBlock = some k → (Value.slice A n1 c).ownBlock ≠ some k := fun k hk he => by
    have h1 := (hO2.lt k hk).1
    have h2 := (hD.out.dk.own.lt k he).2
    omega
  have hD5 := dkIn_gr hD.out (gr_trans g4 g5)
  have hG5 := gr_trans hG3.out (gr_trans g4 g5)
  obtain ⟨K, hK⟩ : ∃ K, K = W5.heap.size := ⟨_, rfl⟩
  obtain ⟨W6, hW6⟩ : ∃ W6, W6 = W5.alloc (.cells #[.slice none 0 0, .slice none 0 0, .slice none 0 0, .slice none 0 0, .slice none 0 0, .slice none 0 0, .slice none 0 0, .slice none 0 0, .slice none 0 0, .slice none 0 0, .slice none 0 0, .slice none 0 0, .slice none 0 0, .slice none 0 0, .slice none 0 0, .slice none 0 0, .slice none 0 0, .slice none 0 0, .slice none 0 0, .slice none 0 0] 46) := ⟨_, rfl⟩
  have g6 : Gr W5 W6 := by rw [hW6]; exact gr_alloc _ _ _
  have hPK : P < K := by rw [hK]; exact lt_of_blk hP1
  have hDK : D < K := by rw [hK]; exact lt_of_blk hD5.dk.blk
  have hPw : w.heap.size ≤ P := by rw [hP]; exact (gr_trans hG3.out g4).size
  have hB6 : BC W6 K [] (Value.slice A n1 c).ownBlock := by rw [hW6, hK]; exact bc_new W5 _
  have hplay : PlayInv w D P K 0 60 W6 := ⟨s0, A, n1, c, A2, n1, c2, [], hinv.out, by omega, ⟨dkIn_gr hD5 g6, gr_blk g6 hP1 (by simp), hO5.kept g6 (Classical.em _), hB6, Nat.le_refl _, (by rintro k ⟨l, hm, _⟩; simp at hm), hap0, hDK, hPw, hPK⟩⟩
  have hwK : w.heap.size ≤ K := by rw [hK]; exact hG5.size
  have hG6 := gr_trans hG5 g6
  replace hplay := Lib.hid hplay
  replace hG6 := Lib.hid hG6
  replace hwK := Lib.hid hwK
  clear hPK hDK hPw hB6 hD5 hO5 hP1 hO2 hap0 g4 g5 g6 hD cD hG5
  replace hW5 := Lib.hid hW5
  replace hW6 := Lib.hid hW6
  replace hP := Lib.hid hP
  replace hK := Lib.hid hK
  go_upto_region 4 with fail
  rw [← hW5.out, ← hP.out]
  clear hP
  go_upto_region 7 with fail
  rw [← hK.out, ← hW6.out]
  clear hW6 hW5 hK
  go_upto_block 0 with fail
  go_cut [8] (fun _iv wx => Hid (PlayInv w D P K 250 1000 wx))
  case first =>
    refine loopT w hv D P K _ len1 cap1 z1 hr1 hwf1 hL80 W6 hplay _ _ _ _ _ _ _ _ _ _ _ _ _ _ _ _ _ _ _ _ _ _ _ _ _ _ _ _ _ _ _ _ _ _ _ _ _ _ _ _ _ _ _ _ _ _ _ _ _ _ _ _ _ _ _ _ _ _ _ _ _ _ _ _ _ _ _ _ _ _ _ _ _ _ _ _ _ _ _ _ _ _ _ _ _ _ _ _ _ _ _ _ _ _ _ _ _ _ _ _ _ _ _ _ _ _ _ _ _ _ _ _ _ _ _ _ _ _ _ _ _ _ _ _ _ _ _ _ _ _ _ _ _ _ _ _ _ _ _ _ _ _ _ _ _ _ _ _ _ _ _ _ _ _ _ _ _ _ _ _ _ _ _ _ _ _ _ _ _ _ _ _ _ _ _ _ _ _ _ _ _ _ _ _ _ _ _ _ _ _ _ _ _ _ _ _ _ _ _ _ _ _ _ _ _ _ _ _ _ _ _ _ _ _ _ _ _ _ _ _ _ _ _ _ _ _ _ _ _ _ _ _ _ _ _ _ _ _ _ _ _ _ _ _ _ _ _ _ _ _ _ _ _ _ _ _ _ _ _ _ _ _ _ _ _ _ _ _ _ _ _ _ _ _ _ _ _ _ _ _ _ _ _ _ _ _ _ _ _ _ _ _ _ _ _ _ _ _ _ _ _ _ _ _ _ _ _ _ _ _ _ _ _ _ _ _ _ _ _ _ _ _ _ _ _ _ _ _ _ _ _ _ _ _ _ _ _ _ _ _ _ _ _ _ _ _ _ (Lib.hid ?_) (Lib.hid ?_)
    · intro y4 y8 y9 y10 y11 y12 y13 y14 y15 y16 y17 y18 y19 y20 y21 y22 y23 y24 y25 y26 y27 y28 y29 y30 y31 y32 y33 y66 y67 y68 y69 y70 y71 y72 y73 y74 y75 y76 y77 y78 y79 y80 y81 y82 y83 y84 y85 y86 y87 y88 y89 y90 y91 y92 y93 y94 y95 y96 y97 y98 y99 y100 y101 y102 y103 y104 y105 y106 y107 y108 y109 y110 y111 y112 y113 y114 y115 y116 y117 y118 y119 y120 y121 y122 y123 y124 y125 y126 y127 y128 y129 y130 y131 y132 y133 y134 y135 y136 y137 y138 y139 y140 y141 y142 y143 y144 y145 y146 y147 y148 y149 y150 y151 y152 y153 y154 y155 y156 y157 y158 y159 y160 y161 y162 y163 y164 y165 y166 y167 y168 y169 y170 y171 y172 y173 y174 y175 y176 y177 y178 y179 y180 y181 y182 y183 y184 y185 y186 y187 y188 y189 y190 y191 y192 y193 y194 y195 y196 y197 y198 y199 y200 y201 y202 y203 y204 y205 y206 y207 y208 y209 y210 y211 y212 y213 y214 y215 y216 y217 y218 y219 y220 y221 y222 y223 y224 y225 y226 y227 y228 y229 y230 y231 y232 y233 y234 y235 y236 y237 y238 y239 y240 y241 y242 y243 y244 y245 y246 y247 y248 y249 y250 y251 y252 y253 y254 y255 y256 y257 y258 y259 y260 y261 y262 y263 y264 y265 y266 y267 y268 y269 y270 y271 y272 y273 y274 y275 y276 y277 y278 y279 y280 y281 y282 y283 y284 y285 y286 y287 y288 y289 y290 y291 y292 y293 y294 y295 wz hz
      go_wp2_with fail
      go_meet
      exact Lib.hid hz
    · intro y8 y9 y10 y11 y12 y13 y14 y15 y16 y17 y18 y19 y20 y21 y22 y23 y24 y25 y26 y27 y28 y29 y30 y31 y32 y33 y66 y67 y68 y69 y70 y71 y72 y73 y74 y75 y76 y77 y78 y79 y80 y81 y82 y83 y84 y85 y86 y87 y88 y89 y90 y91 y92 y93 y94 y95 y96 y97 y98 y99 y100 y101 y102 y103 y104 y105 y106 y107 y108 y109 y110 y111 y112 y113 y114 y115 y116 y117 y118 y119 y120 y121 y122 y123 y124 y125 y126 y127 y128 y129 y130 y131 y132 y133 y134 y135 y136 y137 y138 y139 y140 y141 y142 y143 y144 y145 y146 y147 y148 y149 y150 y151 y152 y153 y154 y155 y156 y157 y158 y159 y160 y161 y162 y163 y164 y165 y166 y167 y168 y169 y170 y171 y172 y173 y174 y175 y176 y177 y178 y179 y180 y181 y182 y183 y184 y185 y186 y187 y188 y189 y190 y191 y192 y193 y194 y195 y196 y197 y198 y199 y200 y201 y202 y203 y204 y205 y206 y207 y208 y209 y210 y211 y212 y213 y214 y215 y216 y217 y218 y219 y220 y221 y222 y223 y224 y225 y226 y227 y228 y229 y230 y231 y232 y233 y234 y235 y236 y237 y238 y239 y240 y241 y242 y243 y244 y245 y246 y247 y248 y249 y250 y251 y252 y253 y254 y255 y256 y257 y258 y259 y260 y261 y262 y263 y264 y265 y266 y267 y268 y269 y270 y271 y272 y273 y274 y275 y276 y277 y278 y279 y280 y281 y282 y283 y284 y285 y286 y287 y288 y289 y290 y291 y292 y293 y294 y295 wz hz
      go_wp2_with fail
      go_ret
      exact ⟨rfl, gr_below hz⟩
  case rest =>
  obtain ⟨s, A, n, c, A2, n2, c2, lx, hin, hom, hI⟩ := hcut.out
  obtain ⟨WX, hWX⟩ : ∃ WX, WX = wc := ⟨_, rfl⟩
  rw [← hWX] at hI ⊢
  clear hin hom hWX hplay hG6 hr0 hr1 hwf1 hinv hs0 hG2 hn1 hG3 hl0 hfl hcut
  have cO := fun W => nil_open W
  have cC := fun W => nil_close W
  have cK := fun W => nil_tick W
  have cN := fun W => nil_find W
  have cM := fun W => nil_may W
  have cS := fun W => nil_seal [97] 1 W
  have cT := fun W => nil_state W
  simp only [curV, cu0] at cO cC cN
  replace cO := Lib.hid cO
  replace cC := Lib.hid cC
  replace cK := Lib.hid cK
  replace cN := Lib.hid cN
  replace cM := Lib.hid cM
  replace cS := Lib.hid cS
  replace cT := Lib.hid cT
  replace hI := Lib.hid hI
  go_wp2_with fail
  refine (cO.out _).mono ?_
  rintro e W7 ⟨rfl, g7⟩
  replace g7 := Lib.hid g7
  go_wp2_with fail
  refine (cC.out _).mono ?_
  rintro e W8 ⟨rfl, g8⟩
  have G8 := gr_trans g7.out (gr_trans (gr_alloc _ _ _) g8)
  replace G8 := Lib.hid G8
  clear g7 g8
  go_wp2_with fail
  refine (cK.out _).mono ?_
  rintro e W9 ⟨rfl, g9⟩
  have G9 := gr_trans G8.out (gr_trans (gr_alloc _ _ _) g9)
  replace G9 := Lib.hid G9
  clear G8 g9
  go_wp2_with fail
  refine (cN.out _).mono ?_
  rintro e W10 ⟨rfl, g10⟩
  have G10 := gr_trans G9.out g10
  replace G10 := Lib.hid G10
  clear G9 g10
  go_wp2_with fail
  refine (cM.out _).mono ?_
  rintro e W11 ⟨rfl, hw11⟩
  subst hw11
  go_wp2_with fail
  refine (cS.out _).mono ?_
  rintro e W12 ⟨rfl, g12⟩
  replace g12 := Lib.hid g12
  go_wp2_with fail
  refine (cT.out _).mono ?_
  rintro e W13 ⟨rfl, g13⟩
  have G13 := gr_trans G10.out (gr_trans (gr_alloc _ _ _) (gr_trans g12.out g13))
  have cAp := bc_apart (bc_gr hI.out.bk G13) hI.out.lm
  have GG := gr_trans hI.out.dk.gr G13
  replace cAp := Lib.hid cAp
  replace GG := Lib.hid GG
  clear g12 g13 G10 G13
  have fz := field_zero W13
  go_wp2_with fail
  refine cAp.out.mono ?_
  rintro e W14 ⟨rfl, g14⟩
  have hfin := below_grs (gr_below GG.out) g14 GG.out.size hI.out.low
  replace hfin := Lib.hid hfin
  clear g14 cAp
  go_wp2
  go_ret
  exact ⟨rfl, hfin.out⟩


set_option maxRecDepth 100000 in
theorem door_met (os : Os) (args : Array Value) : laidMetH Tryz.prog Rows.deskPlaysRow.laid ((World.doorLaid Tryz.prog 62 os).forCall (fun _ _ => 0) ⟨#[], args, []⟩).memory :=
  laidMetH_of_parts3 (fuel := 8) (laidMet_of_run' 8 (by kernel_rfl) (by kernel_rfl)) (by kernel_rfl) (by kernel_rfl)

set_option maxRecDepth 100000 in
theorem lifted (os : Os) (started : os.Started) (H : Type) (enc : TypeId × Value → H) :
    ReturnsInHanded {} Tryz.checked os 3 .any (fun w args => (Rows.deskPlaysSpec.pre enc Tryz.prog Tryz.f3 [] false w args ∧ laidMetH Tryz.prog Rows.deskPlaysRow.laid w) ∧ sizedMet enc Tryz.prog Tryz.f3 (OpenSpec.ofChange Rows.deskPlaysSpec) false w args) (Rows.deskPlaysSpec.post enc Tryz.prog Tryz.f3 false true false false) := by
  refine returnsInHanded_of_change_and (C := Tryz.checked) (X := fun w _ => laidMetH Tryz.prog Rows.deskPlaysRow.laid w) (fun _ _ _ hh h => h.of_heap hh) own started (by kernel_rfl) Tryz.func3
    (ChangeSpec.witness_shaped (enc := enc) (C := Tryz.checked) (os := os) (X := fun w _ => laidMetH Tryz.prog Rows.deskPlaysRow.laid w) false (World.doorLaid Tryz.prog 62 os) #[.slice none 0 0, .slice none 0 0] 8 rfl (World.shaped_of_RefB (by kernel_rfl) (by kernel_rfl)) (by kernel_rfl) (by kernel_rfl) (by kernel_rfl) (door_met os _)) ?_
  intro W base args ds gs before hval0 hW _ _ hL _
  have hval : ∀ (j : Nat) t v, Tryz.f3.params[j]? = some t → args[j]? = some v → Value.okWide Tryz.prog W .any base t v := hval0
  have hW' := hW
  obtain ⟨p, q, hA0, hV, rfl, hfz, hnd⟩ := hW
  have hA : DataW.TrodAll enc Tryz.prog W 0 (fun _ => true) true Tryz.f3.params.toList args.toList ds p := hA0
  rw [Tryz.params3] at hA hval
  obtain ⟨v0, vs0, d0, ds0, p0, q0, hargs, rfl, rfl, h0, r0⟩ := trodAll_cons hA
  obtain ⟨v1, vs1, d1, ds1, p1, q1, rfl, rfl, rfl, h1, r1⟩ := trodAll_cons r0
  obtain ⟨rfl, rfl, rfl⟩ := trodAll_nil r1
  obtain rfl : args = #[v0, v1] := by cases args; simp_all
  obtain ⟨rfl, rfl⟩ := trodVars_none hV
  obtain ⟨a0, len0, cap0, rfl⟩ := okWide_slice Tryz.underlying22 (hval 0 22 v0 rfl rfl)
  have k0 := h0
  have lt0 : ∀ x ∈ p0, x.block < W.heap.size := by obtain ⟨m, hm⟩ := k0; exact DataW.trod_lt m _ _ _ hm
  obtain ⟨z0, w0⟩ := Dy.ntes_open h0
  obtain ⟨a1, len1, cap1, rfl⟩ := okWide_slice Tryz.underlying23 (hval 1 23 v1 rfl rfl)
  have k1 := h1
  have lt1 : ∀ x ∈ p1, x.block < W.heap.size := by obtain ⟨m, hm⟩ := k1; exact DataW.trod_lt m _ _ _ hm
  obtain ⟨z1, w1⟩ := dops_open h1
  clear hA0 hval0
  refine (walk W hL a0 len0 cap0 z0 w0 a1 len1 cap1 z1 w1).mono fun e W' ⟨he, bel⟩ => ?_
  subst he
  exact ⟨_, rfl, _, _, _, [], _, [], hW', trodAll_mk1 (shut_bool Tryz.underlying4 _), (trodAll_cons_mk (Below.trod laidOut (by kernel_rfl) (of_decide_eq_true (by kernel_rfl)) k0 bel lt0) (trodAll_cons_mk (Below.trod laidOut (by kernel_rfl) (of_decide_eq_true (by kernel_rfl)) k1 bel lt1) trodAll_mk0)), rfl, bel.frame _, fun h => by cases h⟩

theorem over : Rows.deskPlaysRow.holds Tryz.pinned (OpenSpec.ofChange Rows.deskPlaysSpec) :=
  OpenClaim.holds_of_wide 3 Tryz.f3 rfl rfl rfl rfl rfl rfl rfl ⟨rfl, rfl, rfl, rfl, rfl⟩ rfl rfl rfl rfl rfl (by kernel_rfl) Tryz.func3 (by kernel_rfl)
    (of_decide_eq_true (by kernel_rfl)) (by unfold Func.isWrapper; first | (rw [if_pos (by decide +kernel)]; kernel_rfl) | (rw [if_neg (by decide +kernel)]; exact ⟨rfl, rfl⟩))
    (fun os started H enc _ => lifted os started H enc)

/-- THE STATEMENT -/
theorem proved : Rows.DeskPlaysCardSaid :=
  Claim7.holds_tied_plain_at .later [] [.data, .data, .data, .sentinel, .sentinel] true (true, "d20ca06c020e941361bff39d3c8f986dc4bdf6e20584e05a4fa0a2c249c8c181") true
    over (fun _ h => by cases h) (by kernel_rfl) (fun _ h => by cases h) deskPlays_row_tie rfl ⟨rfl, rfl⟩ (by kernel_rfl) rfl
    (fun f fn hf hfn => by
      obtain rfl : f = 3 := Option.some.inj ((show Tryz.prog.funcNamed "leporello/leporellolaw22.DeskPlays" = some 3 by kernel_rfl).symm.trans hf) |>.symm
      obtain rfl : fn = Tryz.f3 := (Option.some.inj (Tryz.func3.symm.trans hfn)).symm
      exact ⟨by kernel_rfl, fun j t ht => by
        rw [Tryz.params3] at ht
        have hm : t ∈ [22, 23] := by simpa using Array.mem_of_getElem? ht
        have hall : ([22, 23].all fun u => !Tryz.prog.wantsStandIn u) = true := by kernel_rfl
        exact (show Tryz.prog.wantsStandIn t = false by simpa using List.all_eq_true.1 hall t hm)⟩)
    (by kernel_rfl)
#print axioms proved
end Go.Proofs.YtmldoeeangekoaaGreatDoor.deskPlays

