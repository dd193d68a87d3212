/-
  AskTurned holds of the program: for every input the call returns true and leaves what came in as it was. No condition.
-/
import Derived.Test.YtbnacoakjhhndaaRows
import Derived.Test.YtbnacoakjhhndaaAskAlive
import Derived.Test.YtbnacoakjhhndaaAskOpen
import Derived.WalkKit
import Derived.ProofKit
import Derived.OpenShut
import Derived.ShutString
import Derived.ChangeOld
import Derived.Below
namespace Go.Proofs.Ytbnacoakjhhndaa.askTurned
open Go.ChangeShapes Go.WideShapes Go.ChangeAt Go.RowKit
open Go.ChangeMaps (open_string shut_string)
set_option linter.unusedVariables false

theorem own : ownKnob Try.prog.godebug = none := by kernel_rfl
theorem laidOut : laidOutB Try.prog = true := by kernel_rfl
theorem sub_first (l : List UInt8) (k : Nat) : (txt l).extract 0 k = txt (l.take k) := str_eq (by rw [Lib.extract_data, txt_data]; simp)
theorem sub_last (l : List UInt8) (k : Nat) : (txt l).extract k l.length = txt (l.drop k) := by
  apply str_eq
  have := ext_end (txt l) k
  rw [txt_size] at this
  exact this
theorem set_parts {l : List UInt8} {k : Nat} (c : UInt8) (h : k < l.length) : l.take k ++ (c :: l.drop (k + 1)) = l.set k c := by
  rw [List.set_eq_take_append_cons_drop, if_pos h]

set_option maxHeartbeats 16000000 in
set_option maxRecDepth 100000 in
theorem walk (w : World) (v0 : Value) (z0 : Aq) (w0 : IsAskV w v0 z0) (a1 : Int) (w1 : (Lit.int .i64 a1).wf = true) (a2 : Int) (w2 : (Lit.int .u8 a2).wf = true) :
    Calls Try.prog 5 #[v0, .int .i64 a1, .int .u8 a2] w fun e w' => e = .returned (.bool true) ∧ Below w.heap.size w w' := by
  obtain ⟨A, n, c, rfl, hin⟩ := w0
  have hu := rng_u8 w2
  obtain ⟨cb, hcb⟩ : ∃ cb : UInt8, a2 = (cb.toNat : Int) := ⟨UInt8.ofNat a2.toNat, by rw [UInt8.toNat_ofNat']; omega⟩
  subst hcb
  clear w1 w2 hu
  unfold aqV
  obtain ⟨W1, hW1⟩ : ∃ W1, W1 = w.alloc (.cells #[.int .i64 z0.kind, .slice A n c, .string (txt z0.t), .int .i64 z0.a, .int .i64 z0.b, .int .i64 z0.c] 24) := ⟨_, rfl⟩
  have g1 : Gr w W1 := by rw [hW1]; exact gr_alloc _ _ _
  have hx : AqB W1 w.heap.size z0.kind A n c z0.t z0.a z0.b z0.c := by rw [hW1]; exact blk_new w _
  have hnn : n ≤ 9223372036854775807 := Nat.le_trans hin.l.2.1 hin.l.2.2.1
  have hl0 := llight_any A n c z0.l W1 hnn (row_gr hin.l.1 g1)
  have htl := hin.t
  obtain ⟨b0, b1, b2, b3, b4, b5⟩ := aqb_cells hx
  replace hx := Lib.hid hx
  replace hl0 := Lib.hid hl0
  replace hin := Lib.hid hin
  replace g1 := Lib.hid g1
  go_enter Try.func5, Try.ntmps5
  go_upto_region 1 with fail
  rw [← hW1]
  clear hW1
  go_wp2_with fail
  refine hl0.out.mono ?_
  rintro e W2 ⟨⟨bl, rfl, hbl⟩, rfl⟩
  cases bl with
  | false =>
    go_wp2_with fail
    refine (alive_any _).mono ?_
    rintro e w9 ⟨rfl, g9⟩
    go_wp2
    go_ret
    exact ⟨rfl, gr_below (gr_trans g1.out g9)⟩
  | true =>
    have hL0 := hbl rfl
    clear hbl
    by_cases ht : 1000 < z0.t.length
    · have hti : (1000 : Int) < (z0.t.length : Int) := by omega
      go_wp2_with fail
      refine (alive_any _).mono ?_
      rintro e w9 ⟨rfl, g9⟩
      go_wp2
      go_ret
      exact ⟨rfl, gr_below (gr_trans g1.out g9)⟩
    · have hti : ((1000 : Int) < (z0.t.length : Int)) = False := eq_false (by omega)
      have hAq := fun W (g : Gr W1 W) => aqIn_ok hin.out hL0 (by omega) (gr_trans g1.out g)
      have cA := fun W (g : Gr W1 W) => ask_any A n c z0 W (hAq W g)
      unfold AskPost aqV at cA
      replace cA := Lib.hid cA
      clear hAq hL0 hl0 hin
      go_wp2_with fail
      refine (alive_any _).mono ?_
      rintro e w2 ⟨rfl, g2⟩
      have hx2 : AqB w2 w.heap.size z0.kind A n c z0.t z0.a z0.b z0.c := gr_blk g2 hx.out (by simp)
      have cA2 := cA.out _ g2
      clear b0 b1 b2 b3 b4 b5
      obtain ⟨b0, b1, b2, b3, b4, b5⟩ := aqb_cells hx2
      replace g2 := Lib.hid g2
      clear hx2 hx cA
      by_cases ok : okA z0
      · rw [if_pos ok] at cA2
        obtain ⟨F, hF⟩ : ∃ F, F = askL z0 := ⟨_, rfl⟩
        have hFl : 0 < F.length ∧ F.length ≤ 10000 := by
          rw [hF]
          unfold askL
          rw [Crc.frm_length]
          have := bodyL_len ok
          omega
        rw [← hF] at cA2
        replace cA2 := Lib.hid cA2
        replace hF := Lib.hid hF
        replace ok := Lib.hid ok
        go_wp2_with fail
        refine cA2.out.mono ?_
        rintro e w3 ⟨rfl, g3⟩
        obtain ⟨K, hK, hKl⟩ := cut_place a1 F.length hFl.1 (by omega)
        have hlz : ((F.length : Int) == 0) = false := eqF (by omega)
        have hlz2 : ¬ (F.length : Int) = 0 := by omega
        have hKi : (K : Int) < (F.length : Int) := by omega
        have hK0 : (0 : Int) ≤ (K : Int) := by omega
        have hget : (txt F)[K]'(by rw [txt_size]; exact hKl) = F[K] := by show F.toArray[K] = F[K]; simp
        have G3 := gr_trans g1.out (gr_trans g2.out g3)
        replace G3 := Lib.hid G3
        clear b0 b1 b2 b3 b4 b5 g3 cA2
        by_cases hsame : F[K] = cb
        · have hcc : ((F[K].toNat : Int) == (cb.toNat : Int)) = true := eqT (by rw [hsame])
          clear hsame
          go_wp2
          go_ret
          exact ⟨rfl, gr_below G3.out⟩
        · have hcc : ((F[K].toNat : Int) == (cb.toNat : Int)) = false := eqF (fun e => hsame (UInt8.toNat_inj.1 (by omega)))
          have hno : ¬ IsAskL (F.set K cb) := by
            rw [hF.out]
            exact ask_turned ok.out K cb (by rw [← hF.out]; exact hKl) (by rw [← hF.out, List.getElem?_eq_getElem hKl]; exact fun e => hsame (Option.some.inj e))
          have hset := set_parts cb hKl
          have e1 := sub_first F K
          have e2 := sub_last F (K + 1)
          have cR : ∀ W, Calls Try.prog 13 #[.string (txt (F.set K cb))] W fun e w' => e = .returned (.tuple #[.agg #[.int .i64 0, .slice none 0 0, .string ⟨#[]⟩, .int .i64 0, .int .i64 0, .int .i64 0], .int .i64 2]) ∧ Gr W w' := fun W => (readAsk_any (F.set K cb) W (by rw [List.length_set]; omega)).mono (by
            rintro e w' ⟨⟨his, _⟩ | ⟨_, rfl⟩, g⟩
            · exact absurd his hno
            · exact ⟨rfl, g⟩)
          rw [← hset] at cR
          have hKle : K ≤ F.length := by omega
          have hwK : IntKind.i64.wrap ((K : Int) + 1) = (K : Int) + 1 := IntWalk.i64_in _ (by omega)
          have hK1 : (0 : Int) ≤ (K : Int) + 1 := by omega
          have hK2 : (K : Int) + 1 ≤ (F.length : Int) := by omega
          have hK3 : ((K : Int) + 1).toNat = K + 1 := by omega
          have hXl : (F.take K).length ≤ 10000 := by rw [List.length_take]; omega
          have hYl : (F.drop (K + 1)).length ≤ 10000 := by rw [List.length_drop]; omega
          generalize F.take K = P1 at *
          generalize F.drop (K + 1) = P2 at *
          have hs1 : (9223372036854775807 < P1.length + 1) = False := eq_false (by omega)
          have hs2 : (9223372036854775807 < P1.length + 1 + P2.length) = False := eq_false (by omega)
          have hbv : Value.int .u8 (cb.toNat : Int) = byteV cb := rfl
          have hcv : ∀ (wx : World) (B : Nat), wx.cell? ⟨B, 0, none⟩ = some (.int .u8 (cb.toNat : Int)) → (convert 38 9 (.slice (some ⟨B, 0, none⟩) 1 1)).run Try.prog wx = .ok (.string (txt [cb])) wx := fun wx B hx =>
            run_string_cells (P := Try.prog) wx 38 9 5 Try.underlying38 Try.underlying5 Try.underlying9 ⟨B, 0, none⟩ [cb] 1 (fun j b hb => by
              have hj := (List.getElem?_eq_some_iff.1 hb).1
              simp only [List.length_cons, List.length_nil] at hj
              obtain rfl : j = 0 := by omega
              simp at hb
              subst hb
              rw [add_plain, Nat.add_zero, hx, hbv])
          replace cR := Lib.hid cR
          clear hsame hno hset hbv hF ok
          go_upto_region 9 with fail
          refine wp_region_held_drew (S := (fun w' => Gr w3 w')) (by kernel_rfl) (gr_drew _ _) (fun hHeld => ?_)
          have hG : Gr w3 w3.drew := gr_drew w3 none
          generalize w3.drew = wd at *
          refine wpAnyH_take (i := 0) (oi := ⟨some 57, _, _, _, _, _⟩) (v := ?_) rfl (by kernel_rfl) (by kernel_rfl) (by kernel_rfl) (fun _ _ _ h => h) (Or.inl ⟨by rfl, ?_⟩) hHeld ?_
          rotate_left
          · intro w hSw
            try dsimp only at hSw
            go_simp
            first | done | with_reducible rfl
          try simp only [Act.put, List.setIfInBounds_toArray, List.set_cons_zero, List.set_cons_succ]
          refine wpAnyH_take (i := 1) (oi := ⟨some 58, _, _, _, _, _⟩) (v := ?_) rfl (by kernel_rfl) (by kernel_rfl) (by kernel_rfl) (fun _ _ _ h => h) (Or.inl ⟨by rfl, ?_⟩) hHeld ?_
          rotate_left
          · intro w hSw
            try dsimp only at hSw
            go_simp
            first | done | with_reducible rfl
          try simp only [Act.put, List.setIfInBounds_toArray, List.set_cons_zero, List.set_cons_succ]
          refine wpAnyH_take (i := 2) (oi := ⟨some 59, _, _, _, _, _⟩) (v := ?_) rfl (by kernel_rfl) (by kernel_rfl) (by kernel_rfl) (fun _ _ _ h => h) (Or.inl ⟨by rfl, ?_⟩) hHeld ?_
          rotate_left
          · intro w hSw
            try dsimp only at hSw
            go_simp
            first | done | with_reducible rfl
          try simp only [Act.put, List.setIfInBounds_toArray, List.set_cons_zero, List.set_cons_succ]
          refine wpAnyH_take (i := 3) (oi := ⟨some 60, _, _, _, _, _⟩) (v := ?_) rfl (by kernel_rfl) (by kernel_rfl) (by kernel_rfl) (fun _ _ _ h => h) (Or.inl ⟨by rfl, ?_⟩) hHeld ?_
          rotate_left
          · intro w hSw
            try dsimp only at hSw
            go_simp
            first | done | with_reducible rfl
          try simp only [Act.put, List.setIfInBounds_toArray, List.set_cons_zero, List.set_cons_succ]
          refine wpAnyH_take (i := 7) (oi := ⟨some 64, _, _, _, _, _⟩) (v := ?_) rfl (by kernel_rfl) (by kernel_rfl) (by kernel_rfl) (fun _ _ _ h => h) (Or.inl ⟨by rfl, ?_⟩) hHeld ?_
          rotate_left
          · intro w hSw
            try dsimp only at hSw
            go_simp
            first | done | with_reducible rfl
          try simp only [Act.put, List.setIfInBounds_toArray, List.set_cons_zero, List.set_cons_succ]
          refine wpAnyH_take (i := 8) (oi := ⟨some 65, _, _, _, _, _⟩) (v := ?_) rfl (by kernel_rfl) (by kernel_rfl) (by kernel_rfl) (fun _ _ _ h => h) (Or.inl ⟨by rfl, ?_⟩) hHeld ?_
          rotate_left
          · intro w hSw
            try dsimp only at hSw
            go_simp
            first | done | with_reducible rfl
          try simp only [Act.put, List.setIfInBounds_toArray, List.set_cons_zero, List.set_cons_succ]
          refine wpAnyH_take (i := 9) (oi := ⟨some 66, _, _, _, _, _⟩) (v := ?_) rfl (by kernel_rfl) (by kernel_rfl) (by kernel_rfl) (fun _ _ _ h => h) (Or.inl ⟨by rfl, ?_⟩) hHeld ?_
          rotate_left
          · intro w hSw
            try dsimp only at hSw
            go_simp
            first | done | with_reducible rfl
          try simp only [Act.put, List.setIfInBounds_toArray, List.set_cons_zero, List.set_cons_succ]
          refine wpAnyH_take (i := 10) (oi := ⟨some 67, _, _, _, _, _⟩) (v := ?_) rfl (by kernel_rfl) (by kernel_rfl) (by kernel_rfl) (fun _ _ _ h => h) (Or.inl ⟨by rfl, ?_⟩) hHeld ?_
          rotate_left
          · intro w hSw
            try dsimp only at hSw
            go_simp
            first | done | with_reducible rfl
          try simp only [Act.put, List.setIfInBounds_toArray, List.set_cons_zero, List.set_cons_succ]
          refine wpAnyH_ready (rs := [4, 16]) (by kernel_rfl) (by simp) (AllReadyH.cons (o := _) rfl (fun K hK => ?_) (AllReadyH.cons (o := _) rfl (fun K hK => ?_) AllReadyH.nil))
          · skip
            go_simp
            refine hK.out _ _ ?_ (fun hHeld => ?_)
            · exact gr_trans hG (gr_alloc _ _ _)
            clear hK K
            try simp only [Act.put, List.setIfInBounds_toArray, List.set_cons_zero, List.set_cons_succ]
            have hbx := cell0_new wd (.int .u8 (cb.toNat : Int)) 5
            have hG := gr_trans hG (gr_alloc wd (.cells #[.int .u8 (cb.toNat : Int)] 5) none)
            obtain ⟨wy, hwy⟩ : ∃ wy, wy = wd.alloc (.cells #[.int .u8 (cb.toNat : Int)] 5) := ⟨_, rfl⟩
            rw [← hwy] at hbx hG hHeld ⊢
            clear hwy
            refine held_mono (S2 := fun w' => Gr w3 w' ∧ w'.cell? ⟨wd.heap.size, 0, none⟩ = some (.int .u8 (cb.toNat : Int))) (fun _ h => h.1) ?_
            have hHeld := And.intro hHeld hbx
            refine wpAnyH_take (i := 5) (oi := ⟨some 62, _, _, _, _, _⟩) (v := ?_) rfl (by kernel_rfl) (by kernel_rfl) (by kernel_rfl) (fun _ _ _ h => h) (Or.inl ⟨by rfl, ?_⟩) hHeld ?_
            rotate_left
            · intro w hSw
              try dsimp only at hSw
              go_simp
              first | done | with_reducible rfl
            try simp only [Act.put, List.setIfInBounds_toArray, List.set_cons_zero, List.set_cons_succ]
            refine wpAnyH_take (i := 6) (oi := ⟨some 63, _, _, _, _, _⟩) (v := ?_) rfl (by kernel_rfl) (by kernel_rfl) (by kernel_rfl) (fun _ _ _ h => h) (Or.inl ⟨by rfl, ?_⟩) hHeld ?_
            rotate_left
            · intro w hSw
              try dsimp only at hSw
              go_simp
              first | done | with_reducible rfl
            try simp only [Act.put, List.setIfInBounds_toArray, List.set_cons_zero, List.set_cons_succ]
            refine wpAnyH_take (i := 11) (oi := ⟨some 68, _, _, _, _, _⟩) (v := ?_) rfl (by kernel_rfl) (by kernel_rfl) (by kernel_rfl) (fun _ _ _ h => h) (Or.inl ⟨by rfl, ?_⟩) hHeld ?_
            rotate_left
            · intro w hSw
              try dsimp only at hSw
              go_simp
              first | done | with_reducible rfl
            try simp only [Act.put, List.setIfInBounds_toArray, List.set_cons_zero, List.set_cons_succ]
            refine wpAnyH_ready (rs := [12, 16]) (by kernel_rfl) (by simp) (AllReadyH.cons (o := _) rfl (fun K hK => ?_) (AllReadyH.cons (o := _) rfl (fun K hK => ?_) AllReadyH.nil))
            · skip
              go_simp
              refine (cR.out _).mono ?_
              rintro e wz ⟨rfl, gz⟩
              try (go_wp2_with fail)
              have hG := gr_trans hG gz
              have hbx := gr_cell gz hbx
              refine hK.out _ _ ?_ (fun hHeld => ?_)
              · exact ⟨hG, hbx⟩
              clear hK K gz
              try simp only [Act.put, List.setIfInBounds_toArray, List.set_cons_zero, List.set_cons_succ]
              refine wpAnyH_take (i := 13) (oi := ⟨some 56, _, _, _, _, _⟩) (v := ?_) rfl (by kernel_rfl) (by kernel_rfl) (by kernel_rfl) (fun _ _ _ h => h) (Or.inl ⟨by rfl, ?_⟩) hHeld ?_
              rotate_left
              · intro w hSw
                try dsimp only at hSw
                go_simp
                first | done | with_reducible rfl
              try simp only [Act.put, List.setIfInBounds_toArray, List.set_cons_zero, List.set_cons_succ]
              refine wpAnyH_take (i := 14) (oi := ⟨some 70, _, _, _, _, _⟩) (v := ?_) rfl (by kernel_rfl) (by kernel_rfl) (by kernel_rfl) (fun _ _ _ h => h) (Or.inl ⟨by rfl, ?_⟩) hHeld ?_
              rotate_left
              · intro w hSw
                try dsimp only at hSw
                go_simp
                first | done | with_reducible rfl
              try simp only [Act.put, List.setIfInBounds_toArray, List.set_cons_zero, List.set_cons_succ]
              refine wpAnyH_take (i := 15) (oi := ⟨some 71, _, _, _, _, _⟩) (v := ?_) rfl (by kernel_rfl) (by kernel_rfl) (by kernel_rfl) (fun _ _ _ h => h) (Or.inl ⟨by rfl, ?_⟩) hHeld ?_
              rotate_left
              · intro w hSw
                try dsimp only at hSw
                go_simp
                first | done | with_reducible rfl
              try simp only [Act.put, List.setIfInBounds_toArray, List.set_cons_zero, List.set_cons_succ]
              refine wpAnyH_ready (rs := [16]) (by kernel_rfl) (by simp) (AllReadyH.cons (o := _) rfl (fun K hK => ?_) AllReadyH.nil)
              go_simp
              refine hK.out _ _ ?_ (fun hHeld => ?_)
              · exact ⟨gr_trans hG (gr_alloc _ _ _), gr_cell (gr_alloc _ _ _) hbx⟩
              clear hK K
              try simp only [Act.put, List.setIfInBounds_toArray, List.set_cons_zero, List.set_cons_succ]
              have hal := blk_new wz (.cells #[.int .i64 0, .slice none 0 0, .string ⟨#[]⟩, .int .i64 0, .int .i64 0, .int .i64 0] 24)
              have hXg0 := hG.size
              have hG := gr_trans hG (gr_alloc wz (.cells #[.int .i64 0, .slice none 0 0, .string ⟨#[]⟩, .int .i64 0, .int .i64 0, .int .i64 0] 24) none)
              have hbx := gr_cell (gr_alloc wz (.cells #[.int .i64 0, .slice none 0 0, .string ⟨#[]⟩, .int .i64 0, .int .i64 0, .int .i64 0] 24) none) hbx
              obtain ⟨wn, hN⟩ : ∃ wn, wn = wz.alloc (.cells #[.int .i64 0, .slice none 0 0, .string ⟨#[]⟩, .int .i64 0, .int .i64 0, .int .i64 0] 24) := ⟨_, rfl⟩
              have hXg : w3.heap.size ≤ wz.heap.size := hXg0
              obtain ⟨X, hX⟩ : ∃ X, X = wz.heap.size := ⟨_, rfl⟩
              rw [← hN] at hal hG hHeld ⊢
              rw [← hX] at hal hXg ⊢
              rw [← hN] at hbx
              replace hal : AqB wn X 0 none 0 0 [] 0 0 0 := hal
              clear hN hX
              refine wpAnyH_ready (rs := [17]) (by kernel_rfl) (by simp) (AllReadyH.cons (o := _) rfl (fun K hK => ?_) AllReadyH.nil)
              have hth := aqb_there hal
              have gS := gr_setCells wn X 0 [.int .i64 0, .slice none 0 0, .string ⟨#[]⟩, .int .i64 0, .int .i64 0, .int .i64 0]
              have hGf : Gr w3 (wn.setCells X 0 [.int .i64 0, .slice none 0 0, .string ⟨#[]⟩, .int .i64 0, .int .i64 0, .int .i64 0]) := gr_of_below ((gr_below hG).grown gS hG.size (by intro k hk; cases hk; exact hXg)) (Nat.le_refl _)
              have hneq : ∀ bb, wn.cell? ⟨bb, 0, none⟩ = some (.int .u8 (cb.toNat : Int)) → some bb ≠ some X := fun bb hc e => by
                have e2 : bb = X := Option.some.inj e
                subst e2
                have := (aqb_cells hal).1
                rw [hc] at this
                cases this
              refine step_store_mid rfl 24 _ _ rfl X 0 #[.int .i64 0, .slice none 0 0, .string ⟨#[]⟩, .int .i64 0, .int .i64 0, .int .i64 0] rfl rfl hth infoAq (by simp [Value.oneCell']) ?_
              refine hK.out _ _ ?_ (fun hHeld => ?_)
              · exact ⟨hGf, gS.cell hbx (hneq _ hbx)⟩
              clear hK K
              try simp only [Act.put, List.setIfInBounds_toArray, List.set_cons_zero, List.set_cons_succ]
              refine wpAnyH_take (i := 18) (oi := ⟨some 11, _, _, _, _, _⟩) (v := ?_) rfl (by kernel_rfl) (by kernel_rfl) (by kernel_rfl) (fun _ _ _ h => h) (Or.inl ⟨by rfl, ?_⟩) hHeld ?_
              rotate_left
              · intro w hSw
                try dsimp only at hSw
                go_simp
                first | done | with_reducible rfl
              try simp only [Act.put, List.setIfInBounds_toArray, List.set_cons_zero, List.set_cons_succ]
              refine wpAnyH_done (by kernel_rfl) ?_ _
              go_wp2
              go_ret
              exact ⟨rfl, gr_below (gr_trans G3.out hGf)⟩
            · skip
              go_simp
              refine hK.out _ _ ?_ (fun hHeld => ?_)
              · exact ⟨gr_trans hG (gr_alloc _ _ _), gr_cell (gr_alloc _ _ _) hbx⟩
              clear hK K
              try simp only [Act.put, List.setIfInBounds_toArray, List.set_cons_zero, List.set_cons_succ]
              have hal := blk_new wy (.cells #[.int .i64 0, .slice none 0 0, .string ⟨#[]⟩, .int .i64 0, .int .i64 0, .int .i64 0] 24)
              have hXg0 := hG.size
              have hG := gr_trans hG (gr_alloc wy (.cells #[.int .i64 0, .slice none 0 0, .string ⟨#[]⟩, .int .i64 0, .int .i64 0, .int .i64 0] 24) none)
              have hbx := gr_cell (gr_alloc wy (.cells #[.int .i64 0, .slice none 0 0, .string ⟨#[]⟩, .int .i64 0, .int .i64 0, .int .i64 0] 24) none) hbx
              obtain ⟨wn, hN⟩ : ∃ wn, wn = wy.alloc (.cells #[.int .i64 0, .slice none 0 0, .string ⟨#[]⟩, .int .i64 0, .int .i64 0, .int .i64 0] 24) := ⟨_, rfl⟩
              have hXg : w3.heap.size ≤ wy.heap.size := hXg0
              obtain ⟨X, hX⟩ : ∃ X, X = wy.heap.size := ⟨_, rfl⟩
              rw [← hN] at hal hG hHeld ⊢
              rw [← hX] at hal hXg ⊢
              rw [← hN] at hbx
              replace hal : AqB wn X 0 none 0 0 [] 0 0 0 := hal
              clear hN hX
              refine wpAnyH_ready (rs := [12]) (by kernel_rfl) (by simp) (AllReadyH.cons (o := _) rfl (fun K hK => ?_) AllReadyH.nil)
              go_simp
              refine (cR.out _).mono ?_
              rintro e wz ⟨rfl, gz⟩
              try (go_wp2_with fail)
              have hG := gr_trans hG gz
              have hbx := gr_cell gz hbx
              have hal : AqB wz X 0 none 0 0 [] 0 0 0 := gr_blk gz hal (by simp)
              refine hK.out _ _ ?_ (fun hHeld => ?_)
              · exact ⟨hG, hbx⟩
              clear hK K gz
              try simp only [Act.put, List.setIfInBounds_toArray, List.set_cons_zero, List.set_cons_succ]
              refine wpAnyH_take (i := 13) (oi := ⟨some 56, _, _, _, _, _⟩) (v := ?_) rfl (by kernel_rfl) (by kernel_rfl) (by kernel_rfl) (fun _ _ _ h => h) (Or.inl ⟨by rfl, ?_⟩) hHeld ?_
              rotate_left
              · intro w hSw
                try dsimp only at hSw
                go_simp
                first | done | with_reducible rfl
              try simp only [Act.put, List.setIfInBounds_toArray, List.set_cons_zero, List.set_cons_succ]
              refine wpAnyH_take (i := 14) (oi := ⟨some 70, _, _, _, _, _⟩) (v := ?_) rfl (by kernel_rfl) (by kernel_rfl) (by kernel_rfl) (fun _ _ _ h => h) (Or.inl ⟨by rfl, ?_⟩) hHeld ?_
              rotate_left
              · intro w hSw
                try dsimp only at hSw
                go_simp
                first | done | with_reducible rfl
              try simp only [Act.put, List.setIfInBounds_toArray, List.set_cons_zero, List.set_cons_succ]
              refine wpAnyH_take (i := 15) (oi := ⟨some 71, _, _, _, _, _⟩) (v := ?_) rfl (by kernel_rfl) (by kernel_rfl) (by kernel_rfl) (fun _ _ _ h => h) (Or.inl ⟨by rfl, ?_⟩) hHeld ?_
              rotate_left
              · intro w hSw
                try dsimp only at hSw
                go_simp
                first | done | with_reducible rfl
              try simp only [Act.put, List.setIfInBounds_toArray, List.set_cons_zero, List.set_cons_succ]
              refine wpAnyH_ready (rs := [17]) (by kernel_rfl) (by simp) (AllReadyH.cons (o := _) rfl (fun K hK => ?_) AllReadyH.nil)
              have hth := aqb_there hal
              have gS := gr_setCells wz X 0 [.int .i64 0, .slice none 0 0, .string ⟨#[]⟩, .int .i64 0, .int .i64 0, .int .i64 0]
              have hGf : Gr w3 (wz.setCells X 0 [.int .i64 0, .slice none 0 0, .string ⟨#[]⟩, .int .i64 0, .int .i64 0, .int .i64 0]) := gr_of_below ((gr_below hG).grown gS hG.size (by intro k hk; cases hk; exact hXg)) (Nat.le_refl _)
              have hneq : ∀ bb, wz.cell? ⟨bb, 0, none⟩ = some (.int .u8 (cb.toNat : Int)) → some bb ≠ some X := fun bb hc e => by
                have e2 : bb = X := Option.some.inj e
                subst e2
                have := (aqb_cells hal).1
                rw [hc] at this
                cases this
              refine step_store_mid rfl 24 _ _ rfl X 0 #[.int .i64 0, .slice none 0 0, .string ⟨#[]⟩, .int .i64 0, .int .i64 0, .int .i64 0] rfl rfl hth infoAq (by simp [Value.oneCell']) ?_
              refine hK.out _ _ ?_ (fun hHeld => ?_)
              · exact ⟨hGf, gS.cell hbx (hneq _ hbx)⟩
              clear hK K
              try simp only [Act.put, List.setIfInBounds_toArray, List.set_cons_zero, List.set_cons_succ]
              refine wpAnyH_take (i := 18) (oi := ⟨some 11, _, _, _, _, _⟩) (v := ?_) rfl (by kernel_rfl) (by kernel_rfl) (by kernel_rfl) (fun _ _ _ h => h) (Or.inl ⟨by rfl, ?_⟩) hHeld ?_
              rotate_left
              · intro w hSw
                try dsimp only at hSw
                go_simp
                first | done | with_reducible rfl
              try simp only [Act.put, List.setIfInBounds_toArray, List.set_cons_zero, List.set_cons_succ]
              refine wpAnyH_done (by kernel_rfl) ?_ _
              go_wp2
              go_ret
              exact ⟨rfl, gr_below (gr_trans G3.out hGf)⟩
          · skip
            go_simp
            refine hK.out _ _ ?_ (fun hHeld => ?_)
            · exact gr_trans hG (gr_alloc _ _ _)
            clear hK K
            try simp only [Act.put, List.setIfInBounds_toArray, List.set_cons_zero, List.set_cons_succ]
            have hal := blk_new wd (.cells #[.int .i64 0, .slice none 0 0, .string ⟨#[]⟩, .int .i64 0, .int .i64 0, .int .i64 0] 24)
            have hXg0 := hG.size
            have hG := gr_trans hG (gr_alloc wd (.cells #[.int .i64 0, .slice none 0 0, .string ⟨#[]⟩, .int .i64 0, .int .i64 0, .int .i64 0] 24) none)
            obtain ⟨wn, hN⟩ : ∃ wn, wn = wd.alloc (.cells #[.int .i64 0, .slice none 0 0, .string ⟨#[]⟩, .int .i64 0, .int .i64 0, .int .i64 0] 24) := ⟨_, rfl⟩
            have hXg : w3.heap.size ≤ wd.heap.size := hXg0
            obtain ⟨X, hX⟩ : ∃ X, X = wd.heap.size := ⟨_, rfl⟩
            rw [← hN] at hal hG hHeld ⊢
            rw [← hX] at hal hXg ⊢
            replace hal : AqB wn X 0 none 0 0 [] 0 0 0 := hal
            clear hN hX
            refine wpAnyH_ready (rs := [4]) (by kernel_rfl) (by simp) (AllReadyH.cons (o := _) rfl (fun K hK => ?_) AllReadyH.nil)
            go_simp
            refine hK.out _ _ ?_ (fun hHeld => ?_)
            · exact gr_trans hG (gr_alloc _ _ _)
            clear hK K
            try simp only [Act.put, List.setIfInBounds_toArray, List.set_cons_zero, List.set_cons_succ]
            have hbx := cell0_new wn (.int .u8 (cb.toNat : Int)) 5
            have hG := gr_trans hG (gr_alloc wn (.cells #[.int .u8 (cb.toNat : Int)] 5) none)
            obtain ⟨wy, hwy⟩ : ∃ wy, wy = wn.alloc (.cells #[.int .u8 (cb.toNat : Int)] 5) := ⟨_, rfl⟩
            rw [← hwy] at hbx hG hHeld ⊢
            have hal : AqB wy X 0 none 0 0 [] 0 0 0 := by rw [hwy]; exact gr_blk (gr_alloc _ _ none) hal (by simp)
            clear hwy
            refine held_mono (S2 := fun w' => Gr w3 w' ∧ w'.cell? ⟨wn.heap.size, 0, none⟩ = some (.int .u8 (cb.toNat : Int))) (fun _ h => h.1) ?_
            have hHeld := And.intro hHeld hbx
            refine wpAnyH_take (i := 5) (oi := ⟨some 62, _, _, _, _, _⟩) (v := ?_) rfl (by kernel_rfl) (by kernel_rfl) (by kernel_rfl) (fun _ _ _ h => h) (Or.inl ⟨by rfl, ?_⟩) hHeld ?_
            rotate_left
            · intro w hSw
              try dsimp only at hSw
              go_simp
              first | done | with_reducible rfl
            try simp only [Act.put, List.setIfInBounds_toArray, List.set_cons_zero, List.set_cons_succ]
            refine wpAnyH_take (i := 6) (oi := ⟨some 63, _, _, _, _, _⟩) (v := ?_) rfl (by kernel_rfl) (by kernel_rfl) (by kernel_rfl) (fun _ _ _ h => h) (Or.inl ⟨by rfl, ?_⟩) hHeld ?_
            rotate_left
            · intro w hSw
              try dsimp only at hSw
              go_simp
              first | done | with_reducible rfl
            try simp only [Act.put, List.setIfInBounds_toArray, List.set_cons_zero, List.set_cons_succ]
            refine wpAnyH_take (i := 11) (oi := ⟨some 68, _, _, _, _, _⟩) (v := ?_) rfl (by kernel_rfl) (by kernel_rfl) (by kernel_rfl) (fun _ _ _ h => h) (Or.inl ⟨by rfl, ?_⟩) hHeld ?_
            rotate_left
            · intro w hSw
              try dsimp only at hSw
              go_simp
              first | done | with_reducible rfl
            try simp only [Act.put, List.setIfInBounds_toArray, List.set_cons_zero, List.set_cons_succ]
            refine wpAnyH_ready (rs := [12]) (by kernel_rfl) (by simp) (AllReadyH.cons (o := _) rfl (fun K hK => ?_) AllReadyH.nil)
            go_simp
            refine (cR.out _).mono ?_
            rintro e wz ⟨rfl, gz⟩
            try (go_wp2_with fail)
            have hG := gr_trans hG gz
            have hbx := gr_cell gz hbx
            have hal : AqB wz X 0 none 0 0 [] 0 0 0 := gr_blk gz hal (by simp)
            refine hK.out _ _ ?_ (fun hHeld => ?_)
            · exact ⟨hG, hbx⟩
            clear hK K gz
            try simp only [Act.put, List.setIfInBounds_toArray, List.set_cons_zero, List.set_cons_succ]
            refine wpAnyH_take (i := 13) (oi := ⟨some 56, _, _, _, _, _⟩) (v := ?_) rfl (by kernel_rfl) (by kernel_rfl) (by kernel_rfl) (fun _ _ _ h => h) (Or.inl ⟨by rfl, ?_⟩) hHeld ?_
            rotate_left
            · intro w hSw
              try dsimp only at hSw
              go_simp
              first | done | with_reducible rfl
            try simp only [Act.put, List.setIfInBounds_toArray, List.set_cons_zero, List.set_cons_succ]
            refine wpAnyH_take (i := 14) (oi := ⟨some 70, _, _, _, _, _⟩) (v := ?_) rfl (by kernel_rfl) (by kernel_rfl) (by kernel_rfl) (fun _ _ _ h => h) (Or.inl ⟨by rfl, ?_⟩) hHeld ?_
            rotate_left
            · intro w hSw
              try dsimp only at hSw
              go_simp
              first | done | with_reducible rfl
            try simp only [Act.put, List.setIfInBounds_toArray, List.set_cons_zero, List.set_cons_succ]
            refine wpAnyH_take (i := 15) (oi := ⟨some 71, _, _, _, _, _⟩) (v := ?_) rfl (by kernel_rfl) (by kernel_rfl) (by kernel_rfl) (fun _ _ _ h => h) (Or.inl ⟨by rfl, ?_⟩) hHeld ?_
            rotate_left
            · intro w hSw
              try dsimp only at hSw
              go_simp
              first | done | with_reducible rfl
            try simp only [Act.put, List.setIfInBounds_toArray, List.set_cons_zero, List.set_cons_succ]
            refine wpAnyH_ready (rs := [17]) (by kernel_rfl) (by simp) (AllReadyH.cons (o := _) rfl (fun K hK => ?_) AllReadyH.nil)
            have hth := aqb_there hal
            have gS := gr_setCells wz X 0 [.int .i64 0, .slice none 0 0, .string ⟨#[]⟩, .int .i64 0, .int .i64 0, .int .i64 0]
            have hGf : Gr w3 (wz.setCells X 0 [.int .i64 0, .slice none 0 0, .string ⟨#[]⟩, .int .i64 0, .int .i64 0, .int .i64 0]) := gr_of_below ((gr_below hG).grown gS hG.size (by intro k hk; cases hk; exact hXg)) (Nat.le_refl _)
            have hneq : ∀ bb, wz.cell? ⟨bb, 0, none⟩ = some (.int .u8 (cb.toNat : Int)) → some bb ≠ some X := fun bb hc e => by
              have e2 : bb = X := Option.some.inj e
              subst e2
              have := (aqb_cells hal).1
              rw [hc] at this
              cases this
            refine step_store_mid rfl 24 _ _ rfl X 0 #[.int .i64 0, .slice none 0 0, .string ⟨#[]⟩, .int .i64 0, .int .i64 0, .int .i64 0] rfl rfl hth infoAq (by simp [Value.oneCell']) ?_
            refine hK.out _ _ ?_ (fun hHeld => ?_)
            · exact ⟨hGf, gS.cell hbx (hneq _ hbx)⟩
            clear hK K
            try simp only [Act.put, List.setIfInBounds_toArray, List.set_cons_zero, List.set_cons_succ]
            refine wpAnyH_take (i := 18) (oi := ⟨some 11, _, _, _, _, _⟩) (v := ?_) rfl (by kernel_rfl) (by kernel_rfl) (by kernel_rfl) (fun _ _ _ h => h) (Or.inl ⟨by rfl, ?_⟩) hHeld ?_
            rotate_left
            · intro w hSw
              try dsimp only at hSw
              go_simp
              first | done | with_reducible rfl
            try simp only [Act.put, List.setIfInBounds_toArray, List.set_cons_zero, List.set_cons_succ]
            refine wpAnyH_done (by kernel_rfl) ?_ _
            go_wp2
            go_ret
            exact ⟨rfl, gr_below (gr_trans G3.out hGf)⟩
      · rw [if_neg ok] at cA2
        replace cA2 := Lib.hid cA2
        go_wp2_with fail
        refine cA2.out.mono ?_
        rintro e w3 ⟨rfl, g3⟩
        go_wp2
        go_ret
        exact ⟨rfl, gr_below (gr_trans g1.out (gr_trans g2.out g3))⟩


set_option maxRecDepth 100000 in
theorem lifted (os : Os) (started : os.Started) (H : Type) (enc : TypeId × Value → H) :
    ReturnsInHanded {} Try.checked os 5 .any (Rows.askTurnedSpec.pre6 enc Try.prog Try.f5 Rows.askTurnedRow.domain false) (Rows.askTurnedSpec.post enc Try.prog Try.f5 false true false false) := by
  refine returnsInHanded_of_change (C := Try.checked) own started (by kernel_rfl) Try.func5
    (ChangeSpec.witness6 (enc := enc) (C := Try.checked) false ⟨#[], #[.agg #[.int .i64 0, .slice none 0 0, .string ByteArray.empty, .int .i64 0, .int .i64 0, .int .i64 0], .int .i64 0, .int .u8 0], []⟩ 8 (by kernel_rfl) (by kernel_rfl) (by kernel_rfl) (by kernel_rfl)) ?_
  intro W base args ds gs before hval0 hW hcnd _
  have hval : ∀ (j : Nat) t v, Try.f5.params[j]? = some t → args[j]? = some v → Value.okWide Try.prog W .any base t v := hval0
  have hW' := hW
  obtain ⟨p, q, hA0, hV, rfl, hfz, hnd⟩ := hW
  have hA : DataW.TrodAll enc Try.prog W 0 (fun _ => true) true Try.f5.params.toList args.toList ds p := hA0
  rw [Try.params5] at hA hval
  obtain ⟨v0, vs0, d0, ds0, p0, q0, hargs, rfl, rfl, h0, r0⟩ := trodAll_cons hA
  obtain ⟨v1, vs1, d1, ds1, p1, q1, rfl, rfl, rfl, h1, r1⟩ := trodAll_cons r0
  obtain ⟨v2, vs2, d2, ds2, p2, q2, rfl, rfl, rfl, h2, r2⟩ := trodAll_cons r1
  obtain ⟨rfl, rfl, rfl⟩ := trodAll_nil r2
  obtain rfl : args = #[v0, v1, v2] := by cases args; simp_all
  obtain ⟨rfl, rfl⟩ := trodVars_none hV
  have k0 := h0
  have lt0 : ∀ x ∈ p0, x.block < W.heap.size := by obtain ⟨m, hm⟩ := k0; exact DataW.trod_lt m _ _ _ hm
  obtain ⟨z0, w0⟩ := aq_open (hval 0 24 v0 rfl rfl) h0
  obtain ⟨a1, rfl, rfl, rfl, w1⟩ := open_int Try.underlying3 (hval 1 3 v1 rfl rfl) h1
  obtain ⟨a2, rfl, rfl, rfl, w2⟩ := open_int Try.underlying5 (hval 2 5 v2 rfl rfl) h2
  clear hA0 hval0
  refine (walk W v0 z0 w0 a1 w1 a2 w2).mono fun e W' ⟨he, bel⟩ => ?_
  subst he
  exact ⟨_, rfl, _, _, _, [], _, [], hW', trodAll_mk1 (shut_bool Try.underlying4 _), (trodAll_cons_mk (Below.trod laidOut (by kernel_rfl) (of_decide_eq_true (by kernel_rfl)) k0 bel lt0) (trodAll_cons_mk (shut_int Try.underlying3 w1) (trodAll_cons_mk (shut_int Try.underlying5 w2) trodAll_mk0))), rfl, bel.frame _, fun h => by cases h⟩

theorem over : Rows.askTurnedRow.holds Try.pinned (OpenSpec.ofChange Rows.askTurnedSpec) :=
  OpenClaim.holds_of_wide 5 Try.f5 rfl rfl rfl rfl rfl rfl rfl ⟨rfl, rfl, rfl, rfl, rfl⟩ rfl rfl rfl rfl rfl (by kernel_rfl) Try.func5 (by kernel_rfl)
    (of_decide_eq_true (by kernel_rfl)) (by unfold Func.isWrapper; first | (rw [if_pos (by decide +kernel)]; kernel_rfl) | (rw [if_neg (by decide +kernel)]; exact ⟨rfl, rfl⟩))
    (fun os started H enc _ => lifted os started H enc)

/-- THE STATEMENT -/
theorem proved : Rows.AskTurnedSaid := over
#print axioms proved
end Go.Proofs.Ytbnacoakjhhndaa.askTurned

