/-
  Several facts, one behind the other; no condition but bounds: request.Ask: a request's bytes, or that it may not be. No condition but bounds on the lengths. The reader of a request: a row; what is opened. No condition but bounds on the lengths. request.ReadAsk: the request of bytes, or that they are none. No condition but a bound on the length. One reply as bytes and back: what the laws' first call wants. No condition. The laws' first call answers true. No condition.
-/
import Derived.Test.YtbnacoakjhhndaaGreatRpA
import Derived.Deep.RegionHeld3
import Derived.Test.YtbnacoakjhhndaaGreatRowGet
import Derived.Test.YtbnacoakjhhndaaGreatBuilderAid
namespace Go.Proofs.YtbnacoakjhhndaaGreat
open Go.RowKit

theorem held_mono {P : Program} {md : Region.Mode} {ops : Array Oper} {Q : Exit → Act → World → Prop} {S S2 : World → Prop} (hS : ∀ w, S2 w → S w) : ∀ {fuel : Nat} {listed : Array Bool} {a : Act} {w : World}, wpAnyH P md ops Q S2 fuel listed a w → wpAnyH P md ops Q S fuel listed a w
  | 0, _, _, _, h => h
  | _ + 1, _, _, _, h => ⟨h.1, fun i hi => wpOp_mono (fun _ _ h' => ⟨hS _ h'.1, held_mono hS h'.2⟩) (h.2 i hi)⟩
theorem cell0_new (w : World) (v : Value) (t : TypeId) : (w.alloc (.cells #[v] t)).cell? ⟨w.heap.size, 0, none⟩ = some v := by
  rw [World.cell?_alloc_new]; rfl
def AskPost (q : Aq) (w : World) (e : Ending) (w' : World) : Prop := e = .returned (if okA q then .tuple #[.string (txt (askL q)), .int .i64 0] else .tuple #[.string ⟨#[]⟩, .int .i64 1]) ∧ Gr w w'
set_option maxHeartbeats 8000000 in
set_option maxRecDepth 100000 in
theorem ask_bad (A : Option Addr) (n c : Nat) (q : Aq) (w : World) (h : AqOk w A n c q) (ho : ¬ okA q) : Calls Tryz.prog 16 #[aqV A n c q] w (AskPost q w) := by
  have cR := fun W (g : Gr w W) => aright_any A n c q W (aqOk_gr h g)
  rw [decide_eq_false ho] at cR
  unfold AskPost
  rw [if_neg ho]
  unfold aqV at cR ⊢
  replace cR := Lib.hid cR
  clear h ho
  go_enter Tryz.func16, Tryz.ntmps16
  go_wp2_with fail
  refine (cR.out _ (gr_alloc _ _ _)).mono ?_
  rintro e w2 ⟨rfl, g⟩
  go_wp2
  go_ret2
  exact ⟨rfl, gr_trans (gr_alloc _ _ _) g⟩
set_option maxHeartbeats 16000000 in
set_option maxRecDepth 100000 in
theorem ask_ok (A : Option Addr) (n c : Nat) (q : Aq) (w : World) (h : AqOk w A n c q) (ho : okA q) : Calls Tryz.prog 16 #[aqV A n c q] w (AskPost q w) := by
  have cR := fun W (g : Gr w W) => aright_any A n c q W (aqOk_gr h g)
  rw [decide_eq_true ho] at cR
  unfold AskPost
  rw [if_pos ho]
  obtain ⟨⟨k1, k2⟩, ⟨a1, a2⟩, ⟨d1, d2⟩, hbb, ht9, hrr, _⟩ := okA_num ho
  obtain ⟨k, hk⟩ : ∃ k : Nat, q.kind = (k : Int) := ⟨q.kind.toNat, by omega⟩
  have hkr : 1 ≤ k ∧ k ≤ 6 := by omega
  have hbody : UInt8.ofNat k :: (midL q ++ (beI q.a ++ (beI q.c ++ q.t))) = bodyL q := by
    unfold bodyL
    rw [beI_of _ a1, beI_of _ d1, hk]
    rfl
  have hml := midL_len ho
  have hbl := bodyL_len ho
  have cF := fun W => frame_any (txt (bodyL q)) W (by rw [txt_size]; omega)
  rw [txt_data, show Crc.frm (bodyL q) = askL q from rfl] at cF
  have cB := fun W => anum_any q.b W
  have c1 := fun W => anum_any q.a W
  have c2 := fun W => anum_any q.c W
  have hmid : (k = 1 → midL q = rowL ⟨q.l, q.b⟩) ∧ (k ≠ 1 → midL q = beI q.b) := by
    unfold midL
    refine ⟨fun e => by rw [if_pos (by omega)], fun e => ?_⟩
    rw [if_neg (by omega), beI_of _ (hbb (by omega)).1]
  have cP := fun W (g : Gr w W) => put_any A n c q.l q.b W h.n9 h.nil (row_gr h.row g) h.short h.b64
  unfold PutPost at cP
  have hLa := beI_len q.a
  have hLd := beI_len q.c
  have hrk : k = 1 → okR ⟨q.l, q.b⟩ := fun e => (hrr (by omega)).1
  unfold aqV at cR ⊢
  rw [hk] at cR ⊢
  obtain ⟨q0, zs, t, a, b, d⟩ := q
  simp only at *
  rw [← hbody] at cF
  clear hk hbb hrr hbl
  generalize midL ⟨q0, zs, t, a, b, d⟩ = M at *
  generalize askL ⟨q0, zs, t, a, b, d⟩ = F at *
  have hs1 : (9223372036854775807 < 1 + M.length) = False := eq_false (by omega)
  have hs2 : (9223372036854775807 < M.length + 1 + 4) = False := eq_false (by omega)
  have hs3 : (9223372036854775807 < M.length + 4 + 1 + 4) = False := eq_false (by omega)
  have hs4 : (9223372036854775807 < M.length + (4 + 4) + 1 + t.length) = False := eq_false (by omega)
  have hkm : IntKind.u8.wrap (k : Int) = (k : Int) := IntWalk.u8_in _ (by omega)
  have hkv : Value.int .u8 (k : Int) = byteV (UInt8.ofNat k) := by unfold byteV; simp; omega
  have hcv : ∀ (wx : World) (B : Nat), wx.cell? ⟨B, 0, none⟩ = some (.int .u8 (k : Int)) → (convert 62 9 (.slice (some ⟨B, 0, none⟩) 1 1)).run Tryz.prog wx = .ok (.string (txt [UInt8.ofNat k])) wx := fun wx B hx =>
    run_string_cells (P := Tryz.prog) wx 62 9 5 Tryz.underlying62 Tryz.underlying5 Tryz.underlying9 ⟨B, 0, none⟩ [UInt8.ofNat k] 1 (fun j b hb => by
      have hj := (List.getElem?_eq_some_iff.1 hb).1
      simp only [List.length_cons, List.length_nil] at hj
      obtain rfl : j = 0 := by omega
      simp at hb
      subst hb
      rw [add_plain, Nat.add_zero, hx, hkv])
  generalize hXa : beI a = Xa at *
  generalize hXd : beI d = Xd at *
  clear hkv hbody h ho hXa hXd
  replace cR := Lib.hid cR
  replace c1 := Lib.hid c1
  replace c2 := Lib.hid c2
  replace cB := Lib.hid cB
  replace cP := Lib.hid cP
  replace cF := Lib.hid cF
  replace hmid := Lib.hid hmid
  replace hrk := Lib.hid hrk
  obtain ⟨W1, hW1⟩ : ∃ W1, W1 = w.alloc (.cells #[.int .i64 (k : Int), .slice A n c, .string (txt t), .int .i64 a, .int .i64 b, .int .i64 d] 57) := ⟨_, rfl⟩
  have g1 : Gr w W1 := by rw [hW1]; exact gr_alloc _ _ _
  have hbx0 : AqB W1 w.heap.size (k : Int) A n c t a b d := by rw [hW1]; exact blk_new w _
  replace g1 := Lib.hid g1
  go_enter Tryz.func16, Tryz.ntmps16
  go_upto_region 1 with fail
  rw [← hW1]
  clear hW1
  obtain ⟨b0, b1, b2, b3, b4, b5⟩ := aqb_cells hbx0
  replace hbx0 := Lib.hid hbx0
  go_wp2_with fail
  refine (cR.out _ g1.out).mono ?_
  rintro e w2 ⟨rfl, g2⟩
  have hb2 : AqB w2 w.heap.size (k : Int) A n c t a b d := gr_blk g2 hbx0.out (by simp)
  have G2 := gr_trans g1.out g2
  clear b0 b1 b2 b3 b4 b5 hbx0 g2
  obtain ⟨b0, b1, b2, b3, b4, b5⟩ := aqb_cells hb2
  replace hb2 := Lib.hid hb2
  replace G2 := Lib.hid G2
  go_wp2_with fail
  refine (cB.out _).mono ?_
  rintro e w3 ⟨rfl, g3⟩
  have hb3 : AqB w3 w.heap.size (k : Int) A n c t a b d := gr_blk g3 hb2.out (by simp)
  have G3 := gr_trans G2.out g3
  clear b0 b1 b2 b3 b4 b5 hb2 g3 G2
  obtain ⟨b0, b1, b2, b3, b4, b5⟩ := aqb_cells hb3
  replace hb3 := Lib.hid hb3
  by_cases ck : k = 1
  · have cP3 := cP.out _ G3
    rw [if_pos (hrk.out ck), ← hmid.out.1 ck] at cP3
    have hk1 : ((k : Int) == 1) = true := eqT (by omega)
    replace cP3 := Lib.hid cP3
    replace G3 := Lib.hid G3
    replace ck := Lib.hid ck
    clear cP
    go_wp2_with fail
    refine cP3.out.mono ?_
    rintro e W ⟨rfl, g4⟩
    have hb4 : AqB W w.heap.size (k : Int) A n c t a b d := gr_blk g4 hb3.out (by simp)
    have GW := gr_trans G3.out g4
    clear b0 b1 b2 b3 b4 b5 hb3 g4 G3 cP3
    obtain ⟨b0, b1, b2, b3, b4, b5⟩ := aqb_cells hb4
    have st : ∀ w', Gr W w' → (Gr W w' ∧ w'.cell? ⟨w.heap.size, 0, none⟩ = some (.int .i64 (k : Int)) ∧ w'.cell? ⟨w.heap.size, 2, none⟩ = some (.string (txt t)) ∧ w'.cell? ⟨w.heap.size, 3, none⟩ = some (.int .i64 a) ∧ w'.cell? ⟨w.heap.size, 5, none⟩ = some (.int .i64 d)) := fun w' g => ⟨g, gr_cell g b0, gr_cell g b2, gr_cell g b3, gr_cell g b5⟩
    replace st := Lib.hid st
    replace GW := Lib.hid GW
    replace hmid := Lib.hid hmid
    clear b1 b2 b3 b4 b5 hb4 cB cR hrk
    go_upto_region 6 with fail
    clear b0 hk1
    refine wp_region_held_drew (S := (fun w' => Gr W w' ∧ w'.cell? ⟨w.heap.size, 0, none⟩ = some (.int .i64 (k : Int)) ∧ w'.cell? ⟨w.heap.size, 2, none⟩ = some (.string (txt t)) ∧ w'.cell? ⟨w.heap.size, 3, none⟩ = some (.int .i64 a) ∧ w'.cell? ⟨w.heap.size, 5, none⟩ = some (.int .i64 d))) (by kernel_rfl) (st.out _ (gr_drew _ _)) (fun hHeld => ?_)
    have hG : Gr W W.drew := gr_drew W none
    generalize W.drew = wd at *
    refine wpAnyH_take (i := 0) (oi := ⟨some 23, _, _, _, _, _⟩) (v := ?_) rfl (by kernel_rfl) (by kernel_rfl) (by kernel_rfl) (fun _ _ _ h => h) (Or.inl ⟨by rfl, ?_⟩) hHeld ?_
    rotate_left
    · intro w hSw
      try dsimp only at hSw
      go_simp
      first | done | with_reducible rfl
    try simp only [Act.put, List.setIfInBounds_toArray, List.set_cons_zero, List.set_cons_succ]
    refine wpAnyH_take (i := 1) (oi := ⟨some 24, _, _, _, _, _⟩) (v := ?_) rfl (by kernel_rfl) (by kernel_rfl) (by kernel_rfl) (fun _ _ _ h => h) (Or.inl ⟨by rfl, ?_⟩) hHeld ?_
    rotate_left
    · intro w hSw
      try dsimp only at hSw
      go_simp
      first | done | with_reducible rfl
    try simp only [Act.put, List.setIfInBounds_toArray, List.set_cons_zero, List.set_cons_succ]
    refine wpAnyH_take (i := 2) (oi := ⟨some 25, _, _, _, _, _⟩) (v := ?_) rfl (by kernel_rfl) (by kernel_rfl) (by kernel_rfl) (fun _ _ _ h => h) (Or.inl ⟨by rfl, ?_⟩) hHeld ?_
    rotate_left
    · intro w hSw
      try dsimp only at hSw
      go_simp
      first | done | with_reducible rfl
    try simp only [Act.put, List.setIfInBounds_toArray, List.set_cons_zero, List.set_cons_succ]
    refine wpAnyH_take (i := 5) (oi := ⟨some 28, _, _, _, _, _⟩) (v := ?_) rfl (by kernel_rfl) (by kernel_rfl) (by kernel_rfl) (fun _ _ _ h => h) (Or.inl ⟨by rfl, ?_⟩) hHeld ?_
    rotate_left
    · intro w hSw
      try dsimp only at hSw
      go_simp
      first | done | with_reducible rfl
    try simp only [Act.put, List.setIfInBounds_toArray, List.set_cons_zero, List.set_cons_succ]
    refine wpAnyH_take (i := 7) (oi := ⟨some 30, _, _, _, _, _⟩) (v := ?_) rfl (by kernel_rfl) (by kernel_rfl) (by kernel_rfl) (fun _ _ _ h => h) (Or.inl ⟨by rfl, ?_⟩) hHeld ?_
    rotate_left
    · intro w hSw
      try dsimp only at hSw
      go_simp
      first | done | with_reducible rfl
    try simp only [Act.put, List.setIfInBounds_toArray, List.set_cons_zero, List.set_cons_succ]
    refine wpAnyH_take (i := 8) (oi := ⟨some 31, _, _, _, _, _⟩) (v := ?_) rfl (by kernel_rfl) (by kernel_rfl) (by kernel_rfl) (fun _ _ _ h => h) (Or.inl ⟨by rfl, ?_⟩) hHeld ?_
    rotate_left
    · intro w hSw
      try dsimp only at hSw
      go_simp
      first | done | with_reducible rfl
    try simp only [Act.put, List.setIfInBounds_toArray, List.set_cons_zero, List.set_cons_succ]
    refine wpAnyH_take (i := 11) (oi := ⟨some 34, _, _, _, _, _⟩) (v := ?_) rfl (by kernel_rfl) (by kernel_rfl) (by kernel_rfl) (fun _ _ _ h => h) (Or.inl ⟨by rfl, ?_⟩) hHeld ?_
    rotate_left
    · intro w hSw
      try dsimp only at hSw
      go_simp
      first | done | with_reducible rfl
    try simp only [Act.put, List.setIfInBounds_toArray, List.set_cons_zero, List.set_cons_succ]
    refine wpAnyH_take (i := 12) (oi := ⟨some 35, _, _, _, _, _⟩) (v := ?_) rfl (by kernel_rfl) (by kernel_rfl) (by kernel_rfl) (fun _ _ _ h => h) (Or.inl ⟨by rfl, ?_⟩) hHeld ?_
    rotate_left
    · intro w hSw
      try dsimp only at hSw
      go_simp
      first | done | with_reducible rfl
    try simp only [Act.put, List.setIfInBounds_toArray, List.set_cons_zero, List.set_cons_succ]
    refine wpAnyH_take (i := 15) (oi := ⟨some 38, _, _, _, _, _⟩) (v := ?_) rfl (by kernel_rfl) (by kernel_rfl) (by kernel_rfl) (fun _ _ _ h => h) (Or.inl ⟨by rfl, ?_⟩) hHeld ?_
    rotate_left
    · intro w hSw
      try dsimp only at hSw
      go_simp
      first | done | with_reducible rfl
    try simp only [Act.put, List.setIfInBounds_toArray, List.set_cons_zero, List.set_cons_succ]
    refine wpAnyH_take (i := 16) (oi := ⟨some 39, _, _, _, _, _⟩) (v := ?_) rfl (by kernel_rfl) (by kernel_rfl) (by kernel_rfl) (fun _ _ _ h => h) (Or.inl ⟨by rfl, ?_⟩) hHeld ?_
    rotate_left
    · intro w hSw
      try dsimp only at hSw
      go_simp
      first | done | with_reducible rfl
    try simp only [Act.put, List.setIfInBounds_toArray, List.set_cons_zero, List.set_cons_succ]
    refine wpAnyH_ready (rs := [3, 9]) (by kernel_rfl) (by simp) (AllReadyH.cons (o := _) rfl (fun K hK => ?_) (AllReadyH.cons (o := _) rfl (fun K hK => ?_) AllReadyH.nil))
    · go_simp
      refine hK.out _ _ ?_ (fun hHeld => ?_)
      · exact st.out _ (gr_trans hG (gr_alloc _ _ _))
      clear hK K
      try simp only [Act.put, List.setIfInBounds_toArray, List.set_cons_zero, List.set_cons_succ]
      have hbx := cell0_new wd (.int .u8 (k : Int)) 5
      have hG := gr_trans hG (gr_alloc wd (.cells #[.int .u8 (k : Int)] 5) none)
      refine held_mono (S2 := fun w' => (Gr W w' ∧ w'.cell? ⟨w.heap.size, 0, none⟩ = some (.int .i64 (k : Int)) ∧ w'.cell? ⟨w.heap.size, 2, none⟩ = some (.string (txt t)) ∧ w'.cell? ⟨w.heap.size, 3, none⟩ = some (.int .i64 a) ∧ w'.cell? ⟨w.heap.size, 5, none⟩ = some (.int .i64 d)) ∧ w'.cell? ⟨wd.heap.size, 0, none⟩ = some (.int .u8 (k : Int))) (fun _ h => h.1) ?_
      have hHeld := And.intro hHeld hbx
      refine wpAnyH_take (i := 4) (oi := ⟨some 27, _, _, _, _, _⟩) (v := ?_) rfl (by kernel_rfl) (by kernel_rfl) (by kernel_rfl) (fun _ _ _ h => h) (Or.inl ⟨by rfl, ?_⟩) hHeld ?_
      rotate_left
      · intro w hSw
        try dsimp only at hSw
        go_simp
        first | done | with_reducible rfl
      try simp only [Act.put, List.setIfInBounds_toArray, List.set_cons_zero, List.set_cons_succ]
      refine wpAnyH_take (i := 6) (oi := ⟨some 29, _, _, _, _, _⟩) (v := ?_) rfl (by kernel_rfl) (by kernel_rfl) (by kernel_rfl) (fun _ _ _ h => h) (Or.inl ⟨by rfl, ?_⟩) hHeld ?_
      rotate_left
      · intro w hSw
        try dsimp only at hSw
        go_simp
        first | done | with_reducible rfl
      try simp only [Act.put, List.setIfInBounds_toArray, List.set_cons_zero, List.set_cons_succ]
      refine wpAnyH_ready (rs := [9]) (by kernel_rfl) (by simp) (AllReadyH.cons (o := _) rfl (fun K hK => ?_) AllReadyH.nil)
      go_simp
      refine (c1.out _).mono ?_
      rintro e wx1 ⟨rfl, gx1⟩
      try (go_wp2_with fail)
      have hG := gr_trans hG gx1
      have hbx := gr_cell gx1 hbx
      refine hK.out _ _ ?_ (fun hHeld => ?_)
      · exact ⟨st.out _ hG, hbx⟩
      clear hK K gx1
      try simp only [Act.put, List.setIfInBounds_toArray, List.set_cons_zero, List.set_cons_succ]
      refine wpAnyH_take (i := 10) (oi := ⟨some 33, _, _, _, _, _⟩) (v := ?_) rfl (by kernel_rfl) (by kernel_rfl) (by kernel_rfl) (fun _ _ _ h => h) (Or.inl ⟨by rfl, ?_⟩) hHeld ?_
      rotate_left
      · intro w hSw
        try dsimp only at hSw
        go_simp
        first | done | with_reducible rfl
      try simp only [Act.put, List.setIfInBounds_toArray, List.set_cons_zero, List.set_cons_succ]
      refine wpAnyH_ready (rs := [13]) (by kernel_rfl) (by simp) (AllReadyH.cons (o := _) rfl (fun K hK => ?_) AllReadyH.nil)
      go_simp
      refine (c2.out _).mono ?_
      rintro e wx2 ⟨rfl, gx2⟩
      try (go_wp2_with fail)
      have hG := gr_trans hG gx2
      have hbx := gr_cell gx2 hbx
      refine hK.out _ _ ?_ (fun hHeld => ?_)
      · exact ⟨st.out _ hG, hbx⟩
      clear hK K gx2
      try simp only [Act.put, List.setIfInBounds_toArray, List.set_cons_zero, List.set_cons_succ]
      refine wpAnyH_take (i := 14) (oi := ⟨some 37, _, _, _, _, _⟩) (v := ?_) rfl (by kernel_rfl) (by kernel_rfl) (by kernel_rfl) (fun _ _ _ h => h) (Or.inl ⟨by rfl, ?_⟩) hHeld ?_
      rotate_left
      · intro w hSw
        try dsimp only at hSw
        go_simp
        first | done | with_reducible rfl
      try simp only [Act.put, List.setIfInBounds_toArray, List.set_cons_zero, List.set_cons_succ]
      refine wpAnyH_take (i := 17) (oi := ⟨some 40, _, _, _, _, _⟩) (v := ?_) rfl (by kernel_rfl) (by kernel_rfl) (by kernel_rfl) (fun _ _ _ h => h) (Or.inl ⟨by rfl, ?_⟩) hHeld ?_
      rotate_left
      · intro w hSw
        try dsimp only at hSw
        go_simp
        first | done | with_reducible rfl
      try simp only [Act.put, List.setIfInBounds_toArray, List.set_cons_zero, List.set_cons_succ]
      refine wpAnyH_ready (rs := [18]) (by kernel_rfl) (by simp) (AllReadyH.cons (o := _) rfl (fun K hK => ?_) AllReadyH.nil)
      go_simp
      refine (cF.out _).mono ?_
      rintro e wx3 ⟨rfl, gx3⟩
      try (go_wp2_with fail)
      have hG := gr_trans hG gx3
      have hbx := gr_cell gx3 hbx
      refine hK.out _ _ ?_ (fun hHeld => ?_)
      · exact ⟨st.out _ hG, hbx⟩
      clear hK K gx3
      try simp only [Act.put, List.setIfInBounds_toArray, List.set_cons_zero, List.set_cons_succ]
      refine wpAnyH_take (i := 19) (oi := ⟨some 42, _, _, _, _, _⟩) (v := ?_) rfl (by kernel_rfl) (by kernel_rfl) (by kernel_rfl) (fun _ _ _ h => h) (Or.inl ⟨by rfl, ?_⟩) hHeld ?_
      rotate_left
      · intro w hSw
        try dsimp only at hSw
        go_simp
        first | done | with_reducible rfl
      try simp only [Act.put, List.setIfInBounds_toArray, List.set_cons_zero, List.set_cons_succ]
      refine wpAnyH_take (i := 20) (oi := ⟨some 43, _, _, _, _, _⟩) (v := ?_) rfl (by kernel_rfl) (by kernel_rfl) (by kernel_rfl) (fun _ _ _ h => h) (Or.inl ⟨by rfl, ?_⟩) hHeld ?_
      rotate_left
      · intro w hSw
        try dsimp only at hSw
        go_simp
        first | done | with_reducible rfl
      try simp only [Act.put, List.setIfInBounds_toArray, List.set_cons_zero, List.set_cons_succ]
      refine wpAnyH_take (i := 21) (oi := ⟨some 2, _, _, _, _, _⟩) (v := ?_) rfl (by kernel_rfl) (by kernel_rfl) (by kernel_rfl) (fun _ _ _ h => h) (Or.inl ⟨by rfl, ?_⟩) hHeld ?_
      rotate_left
      · intro w hSw
        try dsimp only at hSw
        go_simp
        first | done | with_reducible rfl
      try simp only [Act.put, List.setIfInBounds_toArray, List.set_cons_zero, List.set_cons_succ]
      refine wpAnyH_take (i := 22) (oi := ⟨some 3, _, _, _, _, _⟩) (v := ?_) rfl (by kernel_rfl) (by kernel_rfl) (by kernel_rfl) (fun _ _ _ h => h) (Or.inl ⟨by rfl, ?_⟩) hHeld ?_
      rotate_left
      · intro w hSw
        try dsimp only at hSw
        go_simp
        first | done | with_reducible rfl
      try simp only [Act.put, List.setIfInBounds_toArray, List.set_cons_zero, List.set_cons_succ]
      refine wpAnyH_done (by kernel_rfl) ?_ _
      go_wp2
      go_ret2
      exact ⟨rfl, gr_trans GW.out hG⟩
    · skip
      go_simp
      refine (c1.out _).mono ?_
      rintro e wx4 ⟨rfl, gx4⟩
      try (go_wp2_with fail)
      have hG := gr_trans hG gx4
      refine hK.out _ _ ?_ (fun hHeld => ?_)
      · exact st.out _ hG
      clear hK K gx4
      try simp only [Act.put, List.setIfInBounds_toArray, List.set_cons_zero, List.set_cons_succ]
      refine wpAnyH_ready (rs := [3, 13]) (by kernel_rfl) (by simp) (AllReadyH.cons (o := _) rfl (fun K hK => ?_) (AllReadyH.cons (o := _) rfl (fun K hK => ?_) AllReadyH.nil))
      · go_simp
        refine hK.out _ _ ?_ (fun hHeld => ?_)
        · exact st.out _ (gr_trans hG (gr_alloc _ _ _))
        clear hK K
        try simp only [Act.put, List.setIfInBounds_toArray, List.set_cons_zero, List.set_cons_succ]
        have hbx := cell0_new wx4 (.int .u8 (k : Int)) 5
        have hG := gr_trans hG (gr_alloc wx4 (.cells #[.int .u8 (k : Int)] 5) none)
        refine held_mono (S2 := fun w' => (Gr W w' ∧ w'.cell? ⟨w.heap.size, 0, none⟩ = some (.int .i64 (k : Int)) ∧ w'.cell? ⟨w.heap.size, 2, none⟩ = some (.string (txt t)) ∧ w'.cell? ⟨w.heap.size, 3, none⟩ = some (.int .i64 a) ∧ w'.cell? ⟨w.heap.size, 5, none⟩ = some (.int .i64 d)) ∧ w'.cell? ⟨wx4.heap.size, 0, none⟩ = some (.int .u8 (k : Int))) (fun _ h => h.1) ?_
        have hHeld := And.intro hHeld hbx
        refine wpAnyH_take (i := 4) (oi := ⟨some 27, _, _, _, _, _⟩) (v := ?_) rfl (by kernel_rfl) (by kernel_rfl) (by kernel_rfl) (fun _ _ _ h => h) (Or.inl ⟨by rfl, ?_⟩) hHeld ?_
        rotate_left
        · intro w hSw
          try dsimp only at hSw
          go_simp
          first | done | with_reducible rfl
        try simp only [Act.put, List.setIfInBounds_toArray, List.set_cons_zero, List.set_cons_succ]
        refine wpAnyH_take (i := 6) (oi := ⟨some 29, _, _, _, _, _⟩) (v := ?_) rfl (by kernel_rfl) (by kernel_rfl) (by kernel_rfl) (fun _ _ _ h => h) (Or.inl ⟨by rfl, ?_⟩) hHeld ?_
        rotate_left
        · intro w hSw
          try dsimp only at hSw
          go_simp
          first | done | with_reducible rfl
        try simp only [Act.put, List.setIfInBounds_toArray, List.set_cons_zero, List.set_cons_succ]
        refine wpAnyH_take (i := 10) (oi := ⟨some 33, _, _, _, _, _⟩) (v := ?_) rfl (by kernel_rfl) (by kernel_rfl) (by kernel_rfl) (fun _ _ _ h => h) (Or.inl ⟨by rfl, ?_⟩) hHeld ?_
        rotate_left
        · intro w hSw
          try dsimp only at hSw
          go_simp
          first | done | with_reducible rfl
        try simp only [Act.put, List.setIfInBounds_toArray, List.set_cons_zero, List.set_cons_succ]
        refine wpAnyH_ready (rs := [13]) (by kernel_rfl) (by simp) (AllReadyH.cons (o := _) rfl (fun K hK => ?_) AllReadyH.nil)
        go_simp
        refine (c2.out _).mono ?_
        rintro e wx5 ⟨rfl, gx5⟩
        try (go_wp2_with fail)
        have hG := gr_trans hG gx5
        have hbx := gr_cell gx5 hbx
        refine hK.out _ _ ?_ (fun hHeld => ?_)
        · exact ⟨st.out _ hG, hbx⟩
        clear hK K gx5
        try simp only [Act.put, List.setIfInBounds_toArray, List.set_cons_zero, List.set_cons_succ]
        refine wpAnyH_take (i := 14) (oi := ⟨some 37, _, _, _, _, _⟩) (v := ?_) rfl (by kernel_rfl) (by kernel_rfl) (by kernel_rfl) (fun _ _ _ h => h) (Or.inl ⟨by rfl, ?_⟩) hHeld ?_
        rotate_left
        · intro w hSw
          try dsimp only at hSw
          go_simp
          first | done | with_reducible rfl
        try simp only [Act.put, List.setIfInBounds_toArray, List.set_cons_zero, List.set_cons_succ]
        refine wpAnyH_take (i := 17) (oi := ⟨some 40, _, _, _, _, _⟩) (v := ?_) rfl (by kernel_rfl) (by kernel_rfl) (by kernel_rfl) (fun _ _ _ h => h) (Or.inl ⟨by rfl, ?_⟩) hHeld ?_
        rotate_left
        · intro w hSw
          try dsimp only at hSw
          go_simp
          first | done | with_reducible rfl
        try simp only [Act.put, List.setIfInBounds_toArray, List.set_cons_zero, List.set_cons_succ]
        refine wpAnyH_ready (rs := [18]) (by kernel_rfl) (by simp) (AllReadyH.cons (o := _) rfl (fun K hK => ?_) AllReadyH.nil)
        go_simp
        refine (cF.out _).mono ?_
        rintro e wx6 ⟨rfl, gx6⟩
        try (go_wp2_with fail)
        have hG := gr_trans hG gx6
        have hbx := gr_cell gx6 hbx
        refine hK.out _ _ ?_ (fun hHeld => ?_)
        · exact ⟨st.out _ hG, hbx⟩
        clear hK K gx6
        try simp only [Act.put, List.setIfInBounds_toArray, List.set_cons_zero, List.set_cons_succ]
        refine wpAnyH_take (i := 19) (oi := ⟨some 42, _, _, _, _, _⟩) (v := ?_) rfl (by kernel_rfl) (by kernel_rfl) (by kernel_rfl) (fun _ _ _ h => h) (Or.inl ⟨by rfl, ?_⟩) hHeld ?_
        rotate_left
        · intro w hSw
          try dsimp only at hSw
          go_simp
          first | done | with_reducible rfl
        try simp only [Act.put, List.setIfInBounds_toArray, List.set_cons_zero, List.set_cons_succ]
        refine wpAnyH_take (i := 20) (oi := ⟨some 43, _, _, _, _, _⟩) (v := ?_) rfl (by kernel_rfl) (by kernel_rfl) (by kernel_rfl) (fun _ _ _ h => h) (Or.inl ⟨by rfl, ?_⟩) hHeld ?_
        rotate_left
        · intro w hSw
          try dsimp only at hSw
          go_simp
          first | done | with_reducible rfl
        try simp only [Act.put, List.setIfInBounds_toArray, List.set_cons_zero, List.set_cons_succ]
        refine wpAnyH_take (i := 21) (oi := ⟨some 2, _, _, _, _, _⟩) (v := ?_) rfl (by kernel_rfl) (by kernel_rfl) (by kernel_rfl) (fun _ _ _ h => h) (Or.inl ⟨by rfl, ?_⟩) hHeld ?_
        rotate_left
        · intro w hSw
          try dsimp only at hSw
          go_simp
          first | done | with_reducible rfl
        try simp only [Act.put, List.setIfInBounds_toArray, List.set_cons_zero, List.set_cons_succ]
        refine wpAnyH_take (i := 22) (oi := ⟨some 3, _, _, _, _, _⟩) (v := ?_) rfl (by kernel_rfl) (by kernel_rfl) (by kernel_rfl) (fun _ _ _ h => h) (Or.inl ⟨by rfl, ?_⟩) hHeld ?_
        rotate_left
        · intro w hSw
          try dsimp only at hSw
          go_simp
          first | done | with_reducible rfl
        try simp only [Act.put, List.setIfInBounds_toArray, List.set_cons_zero, List.set_cons_succ]
        refine wpAnyH_done (by kernel_rfl) ?_ _
        go_wp2
        go_ret2
        exact ⟨rfl, gr_trans GW.out hG⟩
      · skip
        go_simp
        refine (c2.out _).mono ?_
        rintro e wx7 ⟨rfl, gx7⟩
        try (go_wp2_with fail)
        have hG := gr_trans hG gx7
        refine hK.out _ _ ?_ (fun hHeld => ?_)
        · exact st.out _ hG
        clear hK K gx7
        try simp only [Act.put, List.setIfInBounds_toArray, List.set_cons_zero, List.set_cons_succ]
        refine wpAnyH_ready (rs := [3]) (by kernel_rfl) (by simp) (AllReadyH.cons (o := _) rfl (fun K hK => ?_) AllReadyH.nil)
        · go_simp
          refine hK.out _ _ ?_ (fun hHeld => ?_)
          · exact st.out _ (gr_trans hG (gr_alloc _ _ _))
          clear hK K
          try simp only [Act.put, List.setIfInBounds_toArray, List.set_cons_zero, List.set_cons_succ]
          have hbx := cell0_new wx7 (.int .u8 (k : Int)) 5
          have hG := gr_trans hG (gr_alloc wx7 (.cells #[.int .u8 (k : Int)] 5) none)
          refine held_mono (S2 := fun w' => (Gr W w' ∧ w'.cell? ⟨w.heap.size, 0, none⟩ = some (.int .i64 (k : Int)) ∧ w'.cell? ⟨w.heap.size, 2, none⟩ = some (.string (txt t)) ∧ w'.cell? ⟨w.heap.size, 3, none⟩ = some (.int .i64 a) ∧ w'.cell? ⟨w.heap.size, 5, none⟩ = some (.int .i64 d)) ∧ w'.cell? ⟨wx7.heap.size, 0, none⟩ = some (.int .u8 (k : Int))) (fun _ h => h.1) ?_
          have hHeld := And.intro hHeld hbx
          refine wpAnyH_take (i := 4) (oi := ⟨some 27, _, _, _, _, _⟩) (v := ?_) rfl (by kernel_rfl) (by kernel_rfl) (by kernel_rfl) (fun _ _ _ h => h) (Or.inl ⟨by rfl, ?_⟩) hHeld ?_
          rotate_left
          · intro w hSw
            try dsimp only at hSw
            go_simp
            first | done | with_reducible rfl
          try simp only [Act.put, List.setIfInBounds_toArray, List.set_cons_zero, List.set_cons_succ]
          refine wpAnyH_take (i := 6) (oi := ⟨some 29, _, _, _, _, _⟩) (v := ?_) rfl (by kernel_rfl) (by kernel_rfl) (by kernel_rfl) (fun _ _ _ h => h) (Or.inl ⟨by rfl, ?_⟩) hHeld ?_
          rotate_left
          · intro w hSw
            try dsimp only at hSw
            go_simp
            first | done | with_reducible rfl
          try simp only [Act.put, List.setIfInBounds_toArray, List.set_cons_zero, List.set_cons_succ]
          refine wpAnyH_take (i := 10) (oi := ⟨some 33, _, _, _, _, _⟩) (v := ?_) rfl (by kernel_rfl) (by kernel_rfl) (by kernel_rfl) (fun _ _ _ h => h) (Or.inl ⟨by rfl, ?_⟩) hHeld ?_
          rotate_left
          · intro w hSw
            try dsimp only at hSw
            go_simp
            first | done | with_reducible rfl
          try simp only [Act.put, List.setIfInBounds_toArray, List.set_cons_zero, List.set_cons_succ]
          refine wpAnyH_take (i := 14) (oi := ⟨some 37, _, _, _, _, _⟩) (v := ?_) rfl (by kernel_rfl) (by kernel_rfl) (by kernel_rfl) (fun _ _ _ h => h) (Or.inl ⟨by rfl, ?_⟩) hHeld ?_
          rotate_left
          · intro w hSw
            try dsimp only at hSw
            go_simp
            first | done | with_reducible rfl
          try simp only [Act.put, List.setIfInBounds_toArray, List.set_cons_zero, List.set_cons_succ]
          refine wpAnyH_take (i := 17) (oi := ⟨some 40, _, _, _, _, _⟩) (v := ?_) rfl (by kernel_rfl) (by kernel_rfl) (by kernel_rfl) (fun _ _ _ h => h) (Or.inl ⟨by rfl, ?_⟩) hHeld ?_
          rotate_left
          · intro w hSw
            try dsimp only at hSw
            go_simp
            first | done | with_reducible rfl
          try simp only [Act.put, List.setIfInBounds_toArray, List.set_cons_zero, List.set_cons_succ]
          refine wpAnyH_ready (rs := [18]) (by kernel_rfl) (by simp) (AllReadyH.cons (o := _) rfl (fun K hK => ?_) AllReadyH.nil)
          go_simp
          refine (cF.out _).mono ?_
          rintro e wx8 ⟨rfl, gx8⟩
          try (go_wp2_with fail)
          have hG := gr_trans hG gx8
          have hbx := gr_cell gx8 hbx
          refine hK.out _ _ ?_ (fun hHeld => ?_)
          · exact ⟨st.out _ hG, hbx⟩
          clear hK K gx8
          try simp only [Act.put, List.setIfInBounds_toArray, List.set_cons_zero, List.set_cons_succ]
          refine wpAnyH_take (i := 19) (oi := ⟨some 42, _, _, _, _, _⟩) (v := ?_) rfl (by kernel_rfl) (by kernel_rfl) (by kernel_rfl) (fun _ _ _ h => h) (Or.inl ⟨by rfl, ?_⟩) hHeld ?_
          rotate_left
          · intro w hSw
            try dsimp only at hSw
            go_simp
            first | done | with_reducible rfl
          try simp only [Act.put, List.setIfInBounds_toArray, List.set_cons_zero, List.set_cons_succ]
          refine wpAnyH_take (i := 20) (oi := ⟨some 43, _, _, _, _, _⟩) (v := ?_) rfl (by kernel_rfl) (by kernel_rfl) (by kernel_rfl) (fun _ _ _ h => h) (Or.inl ⟨by rfl, ?_⟩) hHeld ?_
          rotate_left
          · intro w hSw
            try dsimp only at hSw
            go_simp
            first | done | with_reducible rfl
          try simp only [Act.put, List.setIfInBounds_toArray, List.set_cons_zero, List.set_cons_succ]
          refine wpAnyH_take (i := 21) (oi := ⟨some 2, _, _, _, _, _⟩) (v := ?_) rfl (by kernel_rfl) (by kernel_rfl) (by kernel_rfl) (fun _ _ _ h => h) (Or.inl ⟨by rfl, ?_⟩) hHeld ?_
          rotate_left
          · intro w hSw
            try dsimp only at hSw
            go_simp
            first | done | with_reducible rfl
          try simp only [Act.put, List.setIfInBounds_toArray, List.set_cons_zero, List.set_cons_succ]
          refine wpAnyH_take (i := 22) (oi := ⟨some 3, _, _, _, _, _⟩) (v := ?_) rfl (by kernel_rfl) (by kernel_rfl) (by kernel_rfl) (fun _ _ _ h => h) (Or.inl ⟨by rfl, ?_⟩) hHeld ?_
          rotate_left
          · intro w hSw
            try dsimp only at hSw
            go_simp
            first | done | with_reducible rfl
          try simp only [Act.put, List.setIfInBounds_toArray, List.set_cons_zero, List.set_cons_succ]
          refine wpAnyH_done (by kernel_rfl) ?_ _
          go_wp2
          go_ret2
          exact ⟨rfl, gr_trans GW.out hG⟩
  · have hmm := hmid.out.2 ck
    rw [← hmm]
    have hk1 : ((k : Int) == 1) = false := eqF (by omega)
    obtain ⟨W, hWW⟩ : ∃ W, W = w3 := ⟨_, rfl⟩
    rw [← hWW] at G3 hb3 b0 b1 b2 b3 b4 b5 ⊢
    have GW := G3
    have hb4 := hb3.out
    clear hb3 hWW hmm b1 b2 b3 b4 b5 G3
    obtain ⟨b0, b1, b2, b3, b4, b5⟩ := aqb_cells hb4
    have st : ∀ w', Gr W w' → (Gr W w' ∧ w'.cell? ⟨w.heap.size, 0, none⟩ = some (.int .i64 (k : Int)) ∧ w'.cell? ⟨w.heap.size, 2, none⟩ = some (.string (txt t)) ∧ w'.cell? ⟨w.heap.size, 3, none⟩ = some (.int .i64 a) ∧ w'.cell? ⟨w.heap.size, 5, none⟩ = some (.int .i64 d)) := fun w' g => ⟨g, gr_cell g b0, gr_cell g b2, gr_cell g b3, gr_cell g b5⟩
    replace st := Lib.hid st
    replace GW := Lib.hid GW
    replace hmid := Lib.hid hmid
    clear b1 b2 b3 b4 b5 hb4 cB cR hrk
    go_upto_region 6 with fail
    clear b0 hk1
    refine wp_region_held_drew (S := (fun w' => Gr W w' ∧ w'.cell? ⟨w.heap.size, 0, none⟩ = some (.int .i64 (k : Int)) ∧ w'.cell? ⟨w.heap.size, 2, none⟩ = some (.string (txt t)) ∧ w'.cell? ⟨w.heap.size, 3, none⟩ = some (.int .i64 a) ∧ w'.cell? ⟨w.heap.size, 5, none⟩ = some (.int .i64 d))) (by kernel_rfl) (st.out _ (gr_drew _ _)) (fun hHeld => ?_)
    have hG : Gr W W.drew := gr_drew W none
    generalize W.drew = wd at *
    refine wpAnyH_take (i := 0) (oi := ⟨some 23, _, _, _, _, _⟩) (v := ?_) rfl (by kernel_rfl) (by kernel_rfl) (by kernel_rfl) (fun _ _ _ h => h) (Or.inl ⟨by rfl, ?_⟩) hHeld ?_
    rotate_left
    · intro w hSw
      try dsimp only at hSw
      go_simp
      first | done | with_reducible rfl
    try simp only [Act.put, List.setIfInBounds_toArray, List.set_cons_zero, List.set_cons_succ]
    refine wpAnyH_take (i := 1) (oi := ⟨some 24, _, _, _, _, _⟩) (v := ?_) rfl (by kernel_rfl) (by kernel_rfl) (by kernel_rfl) (fun _ _ _ h => h) (Or.inl ⟨by rfl, ?_⟩) hHeld ?_
    rotate_left
    · intro w hSw
      try dsimp only at hSw
      go_simp
      first | done | with_reducible rfl
    try simp only [Act.put, List.setIfInBounds_toArray, List.set_cons_zero, List.set_cons_succ]
    refine wpAnyH_take (i := 2) (oi := ⟨some 25, _, _, _, _, _⟩) (v := ?_) rfl (by kernel_rfl) (by kernel_rfl) (by kernel_rfl) (fun _ _ _ h => h) (Or.inl ⟨by rfl, ?_⟩) hHeld ?_
    rotate_left
    · intro w hSw
      try dsimp only at hSw
      go_simp
      first | done | with_reducible rfl
    try simp only [Act.put, List.setIfInBounds_toArray, List.set_cons_zero, List.set_cons_succ]
    refine wpAnyH_take (i := 5) (oi := ⟨some 28, _, _, _, _, _⟩) (v := ?_) rfl (by kernel_rfl) (by kernel_rfl) (by kernel_rfl) (fun _ _ _ h => h) (Or.inl ⟨by rfl, ?_⟩) hHeld ?_
    rotate_left
    · intro w hSw
      try dsimp only at hSw
      go_simp
      first | done | with_reducible rfl
    try simp only [Act.put, List.setIfInBounds_toArray, List.set_cons_zero, List.set_cons_succ]
    refine wpAnyH_take (i := 7) (oi := ⟨some 30, _, _, _, _, _⟩) (v := ?_) rfl (by kernel_rfl) (by kernel_rfl) (by kernel_rfl) (fun _ _ _ h => h) (Or.inl ⟨by rfl, ?_⟩) hHeld ?_
    rotate_left
    · intro w hSw
      try dsimp only at hSw
      go_simp
      first | done | with_reducible rfl
    try simp only [Act.put, List.setIfInBounds_toArray, List.set_cons_zero, List.set_cons_succ]
    refine wpAnyH_take (i := 8) (oi := ⟨some 31, _, _, _, _, _⟩) (v := ?_) rfl (by kernel_rfl) (by kernel_rfl) (by kernel_rfl) (fun _ _ _ h => h) (Or.inl ⟨by rfl, ?_⟩) hHeld ?_
    rotate_left
    · intro w hSw
      try dsimp only at hSw
      go_simp
      first | done | with_reducible rfl
    try simp only [Act.put, List.setIfInBounds_toArray, List.set_cons_zero, List.set_cons_succ]
    refine wpAnyH_take (i := 11) (oi := ⟨some 34, _, _, _, _, _⟩) (v := ?_) rfl (by kernel_rfl) (by kernel_rfl) (by kernel_rfl) (fun _ _ _ h => h) (Or.inl ⟨by rfl, ?_⟩) hHeld ?_
    rotate_left
    · intro w hSw
      try dsimp only at hSw
      go_simp
      first | done | with_reducible rfl
    try simp only [Act.put, List.setIfInBounds_toArray, List.set_cons_zero, List.set_cons_succ]
    refine wpAnyH_take (i := 12) (oi := ⟨some 35, _, _, _, _, _⟩) (v := ?_) rfl (by kernel_rfl) (by kernel_rfl) (by kernel_rfl) (fun _ _ _ h => h) (Or.inl ⟨by rfl, ?_⟩) hHeld ?_
    rotate_left
    · intro w hSw
      try dsimp only at hSw
      go_simp
      first | done | with_reducible rfl
    try simp only [Act.put, List.setIfInBounds_toArray, List.set_cons_zero, List.set_cons_succ]
    refine wpAnyH_take (i := 15) (oi := ⟨some 38, _, _, _, _, _⟩) (v := ?_) rfl (by kernel_rfl) (by kernel_rfl) (by kernel_rfl) (fun _ _ _ h => h) (Or.inl ⟨by rfl, ?_⟩) hHeld ?_
    rotate_left
    · intro w hSw
      try dsimp only at hSw
      go_simp
      first | done | with_reducible rfl
    try simp only [Act.put, List.setIfInBounds_toArray, List.set_cons_zero, List.set_cons_succ]
    refine wpAnyH_take (i := 16) (oi := ⟨some 39, _, _, _, _, _⟩) (v := ?_) rfl (by kernel_rfl) (by kernel_rfl) (by kernel_rfl) (fun _ _ _ h => h) (Or.inl ⟨by rfl, ?_⟩) hHeld ?_
    rotate_left
    · intro w hSw
      try dsimp only at hSw
      go_simp
      first | done | with_reducible rfl
    try simp only [Act.put, List.setIfInBounds_toArray, List.set_cons_zero, List.set_cons_succ]
    refine wpAnyH_ready (rs := [3, 9]) (by kernel_rfl) (by simp) (AllReadyH.cons (o := _) rfl (fun K hK => ?_) (AllReadyH.cons (o := _) rfl (fun K hK => ?_) AllReadyH.nil))
    · go_simp
      refine hK.out _ _ ?_ (fun hHeld => ?_)
      · exact st.out _ (gr_trans hG (gr_alloc _ _ _))
      clear hK K
      try simp only [Act.put, List.setIfInBounds_toArray, List.set_cons_zero, List.set_cons_succ]
      have hbx := cell0_new wd (.int .u8 (k : Int)) 5
      have hG := gr_trans hG (gr_alloc wd (.cells #[.int .u8 (k : Int)] 5) none)
      refine held_mono (S2 := fun w' => (Gr W w' ∧ w'.cell? ⟨w.heap.size, 0, none⟩ = some (.int .i64 (k : Int)) ∧ w'.cell? ⟨w.heap.size, 2, none⟩ = some (.string (txt t)) ∧ w'.cell? ⟨w.heap.size, 3, none⟩ = some (.int .i64 a) ∧ w'.cell? ⟨w.heap.size, 5, none⟩ = some (.int .i64 d)) ∧ w'.cell? ⟨wd.heap.size, 0, none⟩ = some (.int .u8 (k : Int))) (fun _ h => h.1) ?_
      have hHeld := And.intro hHeld hbx
      refine wpAnyH_take (i := 4) (oi := ⟨some 27, _, _, _, _, _⟩) (v := ?_) rfl (by kernel_rfl) (by kernel_rfl) (by kernel_rfl) (fun _ _ _ h => h) (Or.inl ⟨by rfl, ?_⟩) hHeld ?_
      rotate_left
      · intro w hSw
        try dsimp only at hSw
        go_simp
        first | done | with_reducible rfl
      try simp only [Act.put, List.setIfInBounds_toArray, List.set_cons_zero, List.set_cons_succ]
      refine wpAnyH_take (i := 6) (oi := ⟨some 29, _, _, _, _, _⟩) (v := ?_) rfl (by kernel_rfl) (by kernel_rfl) (by kernel_rfl) (fun _ _ _ h => h) (Or.inl ⟨by rfl, ?_⟩) hHeld ?_
      rotate_left
      · intro w hSw
        try dsimp only at hSw
        go_simp
        first | done | with_reducible rfl
      try simp only [Act.put, List.setIfInBounds_toArray, List.set_cons_zero, List.set_cons_succ]
      refine wpAnyH_ready (rs := [9]) (by kernel_rfl) (by simp) (AllReadyH.cons (o := _) rfl (fun K hK => ?_) AllReadyH.nil)
      go_simp
      refine (c1.out _).mono ?_
      rintro e wx1 ⟨rfl, gx1⟩
      try (go_wp2_with fail)
      have hG := gr_trans hG gx1
      have hbx := gr_cell gx1 hbx
      refine hK.out _ _ ?_ (fun hHeld => ?_)
      · exact ⟨st.out _ hG, hbx⟩
      clear hK K gx1
      try simp only [Act.put, List.setIfInBounds_toArray, List.set_cons_zero, List.set_cons_succ]
      refine wpAnyH_take (i := 10) (oi := ⟨some 33, _, _, _, _, _⟩) (v := ?_) rfl (by kernel_rfl) (by kernel_rfl) (by kernel_rfl) (fun _ _ _ h => h) (Or.inl ⟨by rfl, ?_⟩) hHeld ?_
      rotate_left
      · intro w hSw
        try dsimp only at hSw
        go_simp
        first | done | with_reducible rfl
      try simp only [Act.put, List.setIfInBounds_toArray, List.set_cons_zero, List.set_cons_succ]
      refine wpAnyH_ready (rs := [13]) (by kernel_rfl) (by simp) (AllReadyH.cons (o := _) rfl (fun K hK => ?_) AllReadyH.nil)
      go_simp
      refine (c2.out _).mono ?_
      rintro e wx2 ⟨rfl, gx2⟩
      try (go_wp2_with fail)
      have hG := gr_trans hG gx2
      have hbx := gr_cell gx2 hbx
      refine hK.out _ _ ?_ (fun hHeld => ?_)
      · exact ⟨st.out _ hG, hbx⟩
      clear hK K gx2
      try simp only [Act.put, List.setIfInBounds_toArray, List.set_cons_zero, List.set_cons_succ]
      refine wpAnyH_take (i := 14) (oi := ⟨some 37, _, _, _, _, _⟩) (v := ?_) rfl (by kernel_rfl) (by kernel_rfl) (by kernel_rfl) (fun _ _ _ h => h) (Or.inl ⟨by rfl, ?_⟩) hHeld ?_
      rotate_left
      · intro w hSw
        try dsimp only at hSw
        go_simp
        first | done | with_reducible rfl
      try simp only [Act.put, List.setIfInBounds_toArray, List.set_cons_zero, List.set_cons_succ]
      refine wpAnyH_take (i := 17) (oi := ⟨some 40, _, _, _, _, _⟩) (v := ?_) rfl (by kernel_rfl) (by kernel_rfl) (by kernel_rfl) (fun _ _ _ h => h) (Or.inl ⟨by rfl, ?_⟩) hHeld ?_
      rotate_left
      · intro w hSw
        try dsimp only at hSw
        go_simp
        first | done | with_reducible rfl
      try simp only [Act.put, List.setIfInBounds_toArray, List.set_cons_zero, List.set_cons_succ]
      refine wpAnyH_ready (rs := [18]) (by kernel_rfl) (by simp) (AllReadyH.cons (o := _) rfl (fun K hK => ?_) AllReadyH.nil)
      go_simp
      refine (cF.out _).mono ?_
      rintro e wx3 ⟨rfl, gx3⟩
      try (go_wp2_with fail)
      have hG := gr_trans hG gx3
      have hbx := gr_cell gx3 hbx
      refine hK.out _ _ ?_ (fun hHeld => ?_)
      · exact ⟨st.out _ hG, hbx⟩
      clear hK K gx3
      try simp only [Act.put, List.setIfInBounds_toArray, List.set_cons_zero, List.set_cons_succ]
      refine wpAnyH_take (i := 19) (oi := ⟨some 42, _, _, _, _, _⟩) (v := ?_) rfl (by kernel_rfl) (by kernel_rfl) (by kernel_rfl) (fun _ _ _ h => h) (Or.inl ⟨by rfl, ?_⟩) hHeld ?_
      rotate_left
      · intro w hSw
        try dsimp only at hSw
        go_simp
        first | done | with_reducible rfl
      try simp only [Act.put, List.setIfInBounds_toArray, List.set_cons_zero, List.set_cons_succ]
      refine wpAnyH_take (i := 20) (oi := ⟨some 43, _, _, _, _, _⟩) (v := ?_) rfl (by kernel_rfl) (by kernel_rfl) (by kernel_rfl) (fun _ _ _ h => h) (Or.inl ⟨by rfl, ?_⟩) hHeld ?_
      rotate_left
      · intro w hSw
        try dsimp only at hSw
        go_simp
        first | done | with_reducible rfl
      try simp only [Act.put, List.setIfInBounds_toArray, List.set_cons_zero, List.set_cons_succ]
      refine wpAnyH_take (i := 21) (oi := ⟨some 2, _, _, _, _, _⟩) (v := ?_) rfl (by kernel_rfl) (by kernel_rfl) (by kernel_rfl) (fun _ _ _ h => h) (Or.inl ⟨by rfl, ?_⟩) hHeld ?_
      rotate_left
      · intro w hSw
        try dsimp only at hSw
        go_simp
        first | done | with_reducible rfl
      try simp only [Act.put, List.setIfInBounds_toArray, List.set_cons_zero, List.set_cons_succ]
      refine wpAnyH_take (i := 22) (oi := ⟨some 3, _, _, _, _, _⟩) (v := ?_) rfl (by kernel_rfl) (by kernel_rfl) (by kernel_rfl) (fun _ _ _ h => h) (Or.inl ⟨by rfl, ?_⟩) hHeld ?_
      rotate_left
      · intro w hSw
        try dsimp only at hSw
        go_simp
        first | done | with_reducible rfl
      try simp only [Act.put, List.setIfInBounds_toArray, List.set_cons_zero, List.set_cons_succ]
      refine wpAnyH_done (by kernel_rfl) ?_ _
      go_wp2
      go_ret2
      exact ⟨rfl, gr_trans GW.out hG⟩
    · skip
      go_simp
      refine (c1.out _).mono ?_
      rintro e wx4 ⟨rfl, gx4⟩
      try (go_wp2_with fail)
      have hG := gr_trans hG gx4
      refine hK.out _ _ ?_ (fun hHeld => ?_)
      · exact st.out _ hG
      clear hK K gx4
      try simp only [Act.put, List.setIfInBounds_toArray, List.set_cons_zero, List.set_cons_succ]
      refine wpAnyH_ready (rs := [3, 13]) (by kernel_rfl) (by simp) (AllReadyH.cons (o := _) rfl (fun K hK => ?_) (AllReadyH.cons (o := _) rfl (fun K hK => ?_) AllReadyH.nil))
      · go_simp
        refine hK.out _ _ ?_ (fun hHeld => ?_)
        · exact st.out _ (gr_trans hG (gr_alloc _ _ _))
        clear hK K
        try simp only [Act.put, List.setIfInBounds_toArray, List.set_cons_zero, List.set_cons_succ]
        have hbx := cell0_new wx4 (.int .u8 (k : Int)) 5
        have hG := gr_trans hG (gr_alloc wx4 (.cells #[.int .u8 (k : Int)] 5) none)
        refine held_mono (S2 := fun w' => (Gr W w' ∧ w'.cell? ⟨w.heap.size, 0, none⟩ = some (.int .i64 (k : Int)) ∧ w'.cell? ⟨w.heap.size, 2, none⟩ = some (.string (txt t)) ∧ w'.cell? ⟨w.heap.size, 3, none⟩ = some (.int .i64 a) ∧ w'.cell? ⟨w.heap.size, 5, none⟩ = some (.int .i64 d)) ∧ w'.cell? ⟨wx4.heap.size, 0, none⟩ = some (.int .u8 (k : Int))) (fun _ h => h.1) ?_
        have hHeld := And.intro hHeld hbx
        refine wpAnyH_take (i := 4) (oi := ⟨some 27, _, _, _, _, _⟩) (v := ?_) rfl (by kernel_rfl) (by kernel_rfl) (by kernel_rfl) (fun _ _ _ h => h) (Or.inl ⟨by rfl, ?_⟩) hHeld ?_
        rotate_left
        · intro w hSw
          try dsimp only at hSw
          go_simp
          first | done | with_reducible rfl
        try simp only [Act.put, List.setIfInBounds_toArray, List.set_cons_zero, List.set_cons_succ]
        refine wpAnyH_take (i := 6) (oi := ⟨some 29, _, _, _, _, _⟩) (v := ?_) rfl (by kernel_rfl) (by kernel_rfl) (by kernel_rfl) (fun _ _ _ h => h) (Or.inl ⟨by rfl, ?_⟩) hHeld ?_
        rotate_left
        · intro w hSw
          try dsimp only at hSw
          go_simp
          first | done | with_reducible rfl
        try simp only [Act.put, List.setIfInBounds_toArray, List.set_cons_zero, List.set_cons_succ]
        refine wpAnyH_take (i := 10) (oi := ⟨some 33, _, _, _, _, _⟩) (v := ?_) rfl (by kernel_rfl) (by kernel_rfl) (by kernel_rfl) (fun _ _ _ h => h) (Or.inl ⟨by rfl, ?_⟩) hHeld ?_
        rotate_left
        · intro w hSw
          try dsimp only at hSw
          go_simp
          first | done | with_reducible rfl
        try simp only [Act.put, List.setIfInBounds_toArray, List.set_cons_zero, List.set_cons_succ]
        refine wpAnyH_ready (rs := [13]) (by kernel_rfl) (by simp) (AllReadyH.cons (o := _) rfl (fun K hK => ?_) AllReadyH.nil)
        go_simp
        refine (c2.out _).mono ?_
        rintro e wx5 ⟨rfl, gx5⟩
        try (go_wp2_with fail)
        have hG := gr_trans hG gx5
        have hbx := gr_cell gx5 hbx
        refine hK.out _ _ ?_ (fun hHeld => ?_)
        · exact ⟨st.out _ hG, hbx⟩
        clear hK K gx5
        try simp only [Act.put, List.setIfInBounds_toArray, List.set_cons_zero, List.set_cons_succ]
        refine wpAnyH_take (i := 14) (oi := ⟨some 37, _, _, _, _, _⟩) (v := ?_) rfl (by kernel_rfl) (by kernel_rfl) (by kernel_rfl) (fun _ _ _ h => h) (Or.inl ⟨by rfl, ?_⟩) hHeld ?_
        rotate_left
        · intro w hSw
          try dsimp only at hSw
          go_simp
          first | done | with_reducible rfl
        try simp only [Act.put, List.setIfInBounds_toArray, List.set_cons_zero, List.set_cons_succ]
        refine wpAnyH_take (i := 17) (oi := ⟨some 40, _, _, _, _, _⟩) (v := ?_) rfl (by kernel_rfl) (by kernel_rfl) (by kernel_rfl) (fun _ _ _ h => h) (Or.inl ⟨by rfl, ?_⟩) hHeld ?_
        rotate_left
        · intro w hSw
          try dsimp only at hSw
          go_simp
          first | done | with_reducible rfl
        try simp only [Act.put, List.setIfInBounds_toArray, List.set_cons_zero, List.set_cons_succ]
        refine wpAnyH_ready (rs := [18]) (by kernel_rfl) (by simp) (AllReadyH.cons (o := _) rfl (fun K hK => ?_) AllReadyH.nil)
        go_simp
        refine (cF.out _).mono ?_
        rintro e wx6 ⟨rfl, gx6⟩
        try (go_wp2_with fail)
        have hG := gr_trans hG gx6
        have hbx := gr_cell gx6 hbx
        refine hK.out _ _ ?_ (fun hHeld => ?_)
        · exact ⟨st.out _ hG, hbx⟩
        clear hK K gx6
        try simp only [Act.put, List.setIfInBounds_toArray, List.set_cons_zero, List.set_cons_succ]
        refine wpAnyH_take (i := 19) (oi := ⟨some 42, _, _, _, _, _⟩) (v := ?_) rfl (by kernel_rfl) (by kernel_rfl) (by kernel_rfl) (fun _ _ _ h => h) (Or.inl ⟨by rfl, ?_⟩) hHeld ?_
        rotate_left
        · intro w hSw
          try dsimp only at hSw
          go_simp
          first | done | with_reducible rfl
        try simp only [Act.put, List.setIfInBounds_toArray, List.set_cons_zero, List.set_cons_succ]
        refine wpAnyH_take (i := 20) (oi := ⟨some 43, _, _, _, _, _⟩) (v := ?_) rfl (by kernel_rfl) (by kernel_rfl) (by kernel_rfl) (fun _ _ _ h => h) (Or.inl ⟨by rfl, ?_⟩) hHeld ?_
        rotate_left
        · intro w hSw
          try dsimp only at hSw
          go_simp
          first | done | with_reducible rfl
        try simp only [Act.put, List.setIfInBounds_toArray, List.set_cons_zero, List.set_cons_succ]
        refine wpAnyH_take (i := 21) (oi := ⟨some 2, _, _, _, _, _⟩) (v := ?_) rfl (by kernel_rfl) (by kernel_rfl) (by kernel_rfl) (fun _ _ _ h => h) (Or.inl ⟨by rfl, ?_⟩) hHeld ?_
        rotate_left
        · intro w hSw
          try dsimp only at hSw
          go_simp
          first | done | with_reducible rfl
        try simp only [Act.put, List.setIfInBounds_toArray, List.set_cons_zero, List.set_cons_succ]
        refine wpAnyH_take (i := 22) (oi := ⟨some 3, _, _, _, _, _⟩) (v := ?_) rfl (by kernel_rfl) (by kernel_rfl) (by kernel_rfl) (fun _ _ _ h => h) (Or.inl ⟨by rfl, ?_⟩) hHeld ?_
        rotate_left
        · intro w hSw
          try dsimp only at hSw
          go_simp
          first | done | with_reducible rfl
        try simp only [Act.put, List.setIfInBounds_toArray, List.set_cons_zero, List.set_cons_succ]
        refine wpAnyH_done (by kernel_rfl) ?_ _
        go_wp2
        go_ret2
        exact ⟨rfl, gr_trans GW.out hG⟩
      · skip
        go_simp
        refine (c2.out _).mono ?_
        rintro e wx7 ⟨rfl, gx7⟩
        try (go_wp2_with fail)
        have hG := gr_trans hG gx7
        refine hK.out _ _ ?_ (fun hHeld => ?_)
        · exact st.out _ hG
        clear hK K gx7
        try simp only [Act.put, List.setIfInBounds_toArray, List.set_cons_zero, List.set_cons_succ]
        refine wpAnyH_ready (rs := [3]) (by kernel_rfl) (by simp) (AllReadyH.cons (o := _) rfl (fun K hK => ?_) AllReadyH.nil)
        · go_simp
          refine hK.out _ _ ?_ (fun hHeld => ?_)
          · exact st.out _ (gr_trans hG (gr_alloc _ _ _))
          clear hK K
          try simp only [Act.put, List.setIfInBounds_toArray, List.set_cons_zero, List.set_cons_succ]
          have hbx := cell0_new wx7 (.int .u8 (k : Int)) 5
          have hG := gr_trans hG (gr_alloc wx7 (.cells #[.int .u8 (k : Int)] 5) none)
          refine held_mono (S2 := fun w' => (Gr W w' ∧ w'.cell? ⟨w.heap.size, 0, none⟩ = some (.int .i64 (k : Int)) ∧ w'.cell? ⟨w.heap.size, 2, none⟩ = some (.string (txt t)) ∧ w'.cell? ⟨w.heap.size, 3, none⟩ = some (.int .i64 a) ∧ w'.cell? ⟨w.heap.size, 5, none⟩ = some (.int .i64 d)) ∧ w'.cell? ⟨wx7.heap.size, 0, none⟩ = some (.int .u8 (k : Int))) (fun _ h => h.1) ?_
          have hHeld := And.intro hHeld hbx
          refine wpAnyH_take (i := 4) (oi := ⟨some 27, _, _, _, _, _⟩) (v := ?_) rfl (by kernel_rfl) (by kernel_rfl) (by kernel_rfl) (fun _ _ _ h => h) (Or.inl ⟨by rfl, ?_⟩) hHeld ?_
          rotate_left
          · intro w hSw
            try dsimp only at hSw
            go_simp
            first | done | with_reducible rfl
          try simp only [Act.put, List.setIfInBounds_toArray, List.set_cons_zero, List.set_cons_succ]
          refine wpAnyH_take (i := 6) (oi := ⟨some 29, _, _, _, _, _⟩) (v := ?_) rfl (by kernel_rfl) (by kernel_rfl) (by kernel_rfl) (fun _ _ _ h => h) (Or.inl ⟨by rfl, ?_⟩) hHeld ?_
          rotate_left
          · intro w hSw
            try dsimp only at hSw
            go_simp
            first | done | with_reducible rfl
          try simp only [Act.put, List.setIfInBounds_toArray, List.set_cons_zero, List.set_cons_succ]
          refine wpAnyH_take (i := 10) (oi := ⟨some 33, _, _, _, _, _⟩) (v := ?_) rfl (by kernel_rfl) (by kernel_rfl) (by kernel_rfl) (fun _ _ _ h => h) (Or.inl ⟨by rfl, ?_⟩) hHeld ?_
          rotate_left
          · intro w hSw
            try dsimp only at hSw
            go_simp
            first | done | with_reducible rfl
          try simp only [Act.put, List.setIfInBounds_toArray, List.set_cons_zero, List.set_cons_succ]
          refine wpAnyH_take (i := 14) (oi := ⟨some 37, _, _, _, _, _⟩) (v := ?_) rfl (by kernel_rfl) (by kernel_rfl) (by kernel_rfl) (fun _ _ _ h => h) (Or.inl ⟨by rfl, ?_⟩) hHeld ?_
          rotate_left
          · intro w hSw
            try dsimp only at hSw
            go_simp
            first | done | with_reducible rfl
          try simp only [Act.put, List.setIfInBounds_toArray, List.set_cons_zero, List.set_cons_succ]
          refine wpAnyH_take (i := 17) (oi := ⟨some 40, _, _, _, _, _⟩) (v := ?_) rfl (by kernel_rfl) (by kernel_rfl) (by kernel_rfl) (fun _ _ _ h => h) (Or.inl ⟨by rfl, ?_⟩) hHeld ?_
          rotate_left
          · intro w hSw
            try dsimp only at hSw
            go_simp
            first | done | with_reducible rfl
          try simp only [Act.put, List.setIfInBounds_toArray, List.set_cons_zero, List.set_cons_succ]
          refine wpAnyH_ready (rs := [18]) (by kernel_rfl) (by simp) (AllReadyH.cons (o := _) rfl (fun K hK => ?_) AllReadyH.nil)
          go_simp
          refine (cF.out _).mono ?_
          rintro e wx8 ⟨rfl, gx8⟩
          try (go_wp2_with fail)
          have hG := gr_trans hG gx8
          have hbx := gr_cell gx8 hbx
          refine hK.out _ _ ?_ (fun hHeld => ?_)
          · exact ⟨st.out _ hG, hbx⟩
          clear hK K gx8
          try simp only [Act.put, List.setIfInBounds_toArray, List.set_cons_zero, List.set_cons_succ]
          refine wpAnyH_take (i := 19) (oi := ⟨some 42, _, _, _, _, _⟩) (v := ?_) rfl (by kernel_rfl) (by kernel_rfl) (by kernel_rfl) (fun _ _ _ h => h) (Or.inl ⟨by rfl, ?_⟩) hHeld ?_
          rotate_left
          · intro w hSw
            try dsimp only at hSw
            go_simp
            first | done | with_reducible rfl
          try simp only [Act.put, List.setIfInBounds_toArray, List.set_cons_zero, List.set_cons_succ]
          refine wpAnyH_take (i := 20) (oi := ⟨some 43, _, _, _, _, _⟩) (v := ?_) rfl (by kernel_rfl) (by kernel_rfl) (by kernel_rfl) (fun _ _ _ h => h) (Or.inl ⟨by rfl, ?_⟩) hHeld ?_
          rotate_left
          · intro w hSw
            try dsimp only at hSw
            go_simp
            first | done | with_reducible rfl
          try simp only [Act.put, List.setIfInBounds_toArray, List.set_cons_zero, List.set_cons_succ]
          refine wpAnyH_take (i := 21) (oi := ⟨some 2, _, _, _, _, _⟩) (v := ?_) rfl (by kernel_rfl) (by kernel_rfl) (by kernel_rfl) (fun _ _ _ h => h) (Or.inl ⟨by rfl, ?_⟩) hHeld ?_
          rotate_left
          · intro w hSw
            try dsimp only at hSw
            go_simp
            first | done | with_reducible rfl
          try simp only [Act.put, List.setIfInBounds_toArray, List.set_cons_zero, List.set_cons_succ]
          refine wpAnyH_take (i := 22) (oi := ⟨some 3, _, _, _, _, _⟩) (v := ?_) rfl (by kernel_rfl) (by kernel_rfl) (by kernel_rfl) (fun _ _ _ h => h) (Or.inl ⟨by rfl, ?_⟩) hHeld ?_
          rotate_left
          · intro w hSw
            try dsimp only at hSw
            go_simp
            first | done | with_reducible rfl
          try simp only [Act.put, List.setIfInBounds_toArray, List.set_cons_zero, List.set_cons_succ]
          refine wpAnyH_done (by kernel_rfl) ?_ _
          go_wp2
          go_ret2
          exact ⟨rfl, gr_trans GW.out hG⟩
theorem ask_any (A : Option Addr) (n c : Nat) (q : Aq) (w : World) (h : AqOk w A n c q) : Calls Tryz.prog 16 #[aqV A n c q] w (AskPost q w) := by
  by_cases ho : okA q
  · exact ask_ok A n c q w h ho
  · exact ask_bad A n c q w h ho
end Go.Proofs.YtbnacoakjhhndaaGreat
namespace Go.Proofs.YtbnacoakjhhndaaGreat
open Go.RowKit

/-- What the reader's row answers. -/
def RwPost (b : Nat) (s : List UInt8 × Bool) (w : World) (e : Ending) (w' : World) : Prop :=
  ∃ A c, e = .returned (.agg #[.slice A (rwS s).1.l.length c, .int .i64 (rwS s).1.v]) ∧ Rq.Rdr w' b (rwS s).2.1 (rwS s).2.2 ∧ w'.ownsRow w.heap.size 77 2 (.slice A (rwS s).1.l.length c) (rwS s).1.l.length (sR lblC (rwS s).1.l) ∧ GrB b w w'
theorem rwS_none {s : List UInt8 × Bool} (h : s.2 = true ∨ getR s.1 = none) : rwS s = (⟨[], 0⟩, (s.1, true)) := by
  unfold rwS
  rcases h with h | h
  · rw [if_pos h]
  · by_cases h2 : s.2 = true
    · rw [if_pos h2]
    · rw [if_neg h2, h]
theorem rwS_some {l : List UInt8} {r : Rw} {t : List UInt8} (h : getR l = some (r, t)) : rwS (l, false) = (r, (t, false)) := by
  unfold rwS
  simp only [Bool.false_eq_true, if_false, h]
/-- Old blocks but b are as they were, though a new one has turned. -/
theorem rw_end {w W3 W4 W5 : World} {b : Nat} (_hb : b < w.heap.size) (h3 : Gr w W3) (h4 : GrB b W3 W4) (h5 : GrB w.heap.size W4 W5) : GrB b w W5 :=
  ⟨h5.os.trans (h4.os.trans h3.os), h5.tape.trans (h4.tape.trans h3.tape), h5.output.trans (h4.output.trans h3.output), Nat.le_trans h3.size (Nat.le_trans h4.size h5.size), fun k hk hr => by
    have k3 := h3.size
    have k4 := h4.size
    exact (h5.block k (by omega) (by simp; omega)).trans ((h4.block k (by omega) hr).trans (h3.block k hk (by simp)))⟩
set_option maxHeartbeats 8000000 in
set_option maxRecDepth 100000 in
theorem rrow_any (b : Nat) (l : List UInt8) (bad : Bool) (w : World) (h : Rq.Rdr w b l bad) (hm : l.length ≤ 1000000000) : Calls Tryz.prog 30 #[.pointer (some ⟨b, 0, none⟩)] w (RwPost b (l, bad) w) := by
  obtain ⟨W1, hW1⟩ : ∃ W1, W1 = w.alloc (.cells #[.slice none 0 0, .int .i64 0] 34) := ⟨_, rfl⟩
  have g1 : Gr w W1 := by rw [hW1]; exact gr_alloc _ _ _
  have hres : RwB W1 w.heap.size none 0 0 0 := by rw [hW1]; exact blk_new w _
  have hr1 := Rq.rdr_gr h g1
  have hbl := lt_of_blk h
  have hs0 := lt_of_blk hres
  have hg := get_any l W1 hm
  obtain ⟨c0, c1, f0, f1⟩ := Rq.rdr_cells hr1
  replace hg := Lib.hid hg
  replace hres := Lib.hid hres
  replace hr1 := Lib.hid hr1
  replace g1 := Lib.hid g1
  clear h
  go_enter Tryz.func30, Tryz.ntmps30
  go_upto_region 1 with fail
  rw [← hW1]
  clear hW1
  go_wp2_with fail
  refine hg.out.mono ?_
  rintro e w2 ⟨⟨r, t, A, c, hgr, rfl, hown⟩ | ⟨hgr, rfl⟩, g2⟩
  · obtain ⟨W3, hW3⟩ : ∃ W3, W3 = w2.alloc (.cells #[.slice A r.l.length c, .int .i64 r.v] 34) := ⟨_, rfl⟩
    have g3 : Gr w2 W3 := by rw [hW3]; exact gr_alloc _ _ _
    have hx3 : RwB W3 w2.heap.size A r.l.length c r.v := by rw [hW3]; exact blk_new w2 _
    have gg := gr_trans g2 g3
    have hres3 : RwB W3 w.heap.size none 0 0 0 := gr_blk gg hres.out (by simp)
    have hr3 := Rq.rdr_gr hr1.out gg
    have ho3 := hown.kept g3 (Classical.em _)
    have G3 := gr_trans g1.out gg
    have hs1 := g1.out.size
    have hs2 := g2.size
    clear c0 c1 f0 f1 hg hown g3 hr1 hres
    obtain ⟨c0, c1, f0, f1⟩ := Rq.rdr_cells hr3
    replace hr3 := Lib.hid hr3
    replace ho3 := Lib.hid ho3
    replace hgr := Lib.hid hgr
    go_upto_region 2 with fail
    rw [← hW3]
    clear hW3
    cases bad with
    | true =>
      have hno := rwS_none (s := (l, true)) (.inl rfl)
      have hr4 := Rq.rdr_bad hr3.out true
      have g4 := gr_set W3 ⟨b, 1, none⟩ (.bool true)
      obtain ⟨W4, hW4⟩ : ∃ W4, W4 = W3.setCell ⟨b, 1, none⟩ (.bool true) := ⟨_, rfl⟩
      rw [← hW4] at hr4 g4
      have hres4 : RwB W4 w.heap.size none 0 0 0 := gr_blk g4 hres3 (by simp; omega)
      have hth := rwb_there hres4
      have hsame := World.rangeAt_setCells_same W4 w.heap.size 0 [.slice none 0 0, .int .i64 0] hth
      have r0 := hsame 0 _ rfl
      have r1' := hsame 1 _ rfl
      simp only [Nat.zero_add] at r0 r1'
      have hgs := gr_setCells W4 w.heap.size 0 [.slice none 0 0, .int .i64 0]
      have hr5 : Rq.Rdr (W4.setCells w.heap.size 0 [.slice none 0 0, .int .i64 0]) b l true := gr_blk hgs hr4 (by simp; omega)
      have hgB : GrB b w (W4.setCells w.heap.size 0 [.slice none 0 0, .int .i64 0]) := rw_end hbl G3 g4 hgs
      replace hr5 := Lib.hid hr5
      replace hgB := Lib.hid hgB
      replace hno := Lib.hid hno
      clear hsame hgs hr4 g4 hres3 hx3
      go_upto_region 4 with fail
      rw [← hW4]
      clear hW4
      go_wp2_with (refine wpList_store_mid (op := ⟨none, _, _, _, _, _⟩) rfl 34 _ _ rfl w.heap.size 0 #[.slice none 0 0, .int .i64 0] rfl rfl hth infoRw (by simp [Value.oneCell']) ?_)
      (try simp only [Exit.inBlock, Exit.then])
      refine bodyPost_ret (by simp [results, Tryz.results30, go_sem, r0, r1']; try rfl) rfl ?_
      unfold RwPost
      rw [hno.out]
      exact ⟨none, 0, rfl, hr5.out, World.ownsRow_nil _ _ _ _, hgB.out⟩
    | false =>
      have hyes := rwS_some hgr.out
      have hr4 := Rq.rdr_on hr3.out t
      have g4 := gr_set W3 ⟨b, 0, none⟩ (.string (txt t))
      obtain ⟨W4, hW4⟩ : ∃ W4, W4 = W3.setCell ⟨b, 0, none⟩ (.string (txt t)) := ⟨_, rfl⟩
      rw [← hW4] at hr4 g4
      have hres4 : RwB W4 w.heap.size none 0 0 0 := gr_blk g4 hres3 (by simp; omega)
      have hx4 : RwB W4 w2.heap.size A r.l.length c r.v := gr_blk g4 hx3 (by simp; omega)
      obtain ⟨x0, x1, _, _⟩ := rwb_cells hx4
      have ho4 := ho3.out.kept g4 (by
        cases hb : (Value.slice A r.l.length c).ownBlock with
        | none => exact .inl rfl
        | some k => exact .inr (fun e => by have h1 := (ho3.out.lt k hb).1; have e2 : k = b := Option.some.inj e; omega))
      have hth := rwb_there hres4
      have hsame := World.rangeAt_setCells_same W4 w.heap.size 0 [.slice A r.l.length c, .int .i64 r.v] hth
      have r0 := hsame 0 _ rfl
      have r1' := hsame 1 _ rfl
      simp only [Nat.zero_add] at r0 r1'
      have hgs := gr_setCells W4 w.heap.size 0 [.slice A r.l.length c, .int .i64 r.v]
      have ho5 := ho4.kept hgs (by
        cases hb : (Value.slice A r.l.length c).ownBlock with
        | none => exact .inl rfl
        | some k => exact .inr (fun e => by have h1 := (ho4.lt k hb).1; have e2 : k = w.heap.size := Option.some.inj e; omega))
      have hr5 : Rq.Rdr (W4.setCells w.heap.size 0 [.slice A r.l.length c, .int .i64 r.v]) b t false := gr_blk hgs hr4 (by simp; omega)
      have hgB : GrB b w (W4.setCells w.heap.size 0 [.slice A r.l.length c, .int .i64 r.v]) := rw_end hbl G3 g4 hgs
      replace hr5 := Lib.hid hr5
      replace hgB := Lib.hid hgB
      replace hyes := Lib.hid hyes
      replace ho5 := Lib.hid (own_mono ho5 hs1)
      clear hsame hgs hr4 g4 hres3 hx3 ho4 hx4
      go_upto_region 6 with fail
      rw [← hW4]
      clear hW4
      go_wp2_with (refine wpList_store_mid (op := ⟨none, _, _, _, _, _⟩) rfl 34 _ _ rfl w.heap.size 0 #[.slice A r.l.length c, .int .i64 r.v] rfl rfl hth infoRw (by simp [Value.oneCell']) ?_)
      (try simp only [Exit.inBlock, Exit.then])
      refine bodyPost_ret (by simp [results, Tryz.results30, go_sem, r0, r1']; try rfl) rfl ?_
      unfold RwPost
      rw [hyes.out]
      exact ⟨A, c, rfl, hr5.out, ho5.out, hgB.out⟩
  · obtain ⟨W3, hW3⟩ : ∃ W3, W3 = w2.alloc (.cells #[.slice none 0 0, .int .i64 0] 34) := ⟨_, rfl⟩
    have g3 : Gr w2 W3 := by rw [hW3]; exact gr_alloc _ _ _
    have gg := gr_trans g2 g3
    have hres3 : RwB W3 w.heap.size none 0 0 0 := gr_blk gg hres.out (by simp)
    have hr3 := Rq.rdr_gr hr1.out gg
    have G3 := gr_trans g1.out gg
    clear c0 c1 f0 f1 hg g3 hr1 hres
    obtain ⟨c0, c1, f0, f1⟩ := Rq.rdr_cells hr3
    have hno := rwS_none (s := (l, bad)) (.inr hgr)
    have hr4 := Rq.rdr_bad hr3 true
    have g4 := gr_set W3 ⟨b, 1, none⟩ (.bool true)
    obtain ⟨W4, hW4⟩ : ∃ W4, W4 = W3.setCell ⟨b, 1, none⟩ (.bool true) := ⟨_, rfl⟩
    rw [← hW4] at hr4 g4
    have hres4 : RwB W4 w.heap.size none 0 0 0 := gr_blk g4 hres3 (by simp; omega)
    have hth := rwb_there hres4
    have hsame := World.rangeAt_setCells_same W4 w.heap.size 0 [.slice none 0 0, .int .i64 0] hth
    have r0 := hsame 0 _ rfl
    have r1' := hsame 1 _ rfl
    simp only [Nat.zero_add] at r0 r1'
    have hgs := gr_setCells W4 w.heap.size 0 [.slice none 0 0, .int .i64 0]
    have hr5 : Rq.Rdr (W4.setCells w.heap.size 0 [.slice none 0 0, .int .i64 0]) b l true := gr_blk hgs hr4 (by simp; omega)
    have hgB : GrB b w (W4.setCells w.heap.size 0 [.slice none 0 0, .int .i64 0]) := rw_end hbl G3 g4 hgs
    replace hr5 := Lib.hid hr5
    replace hgB := Lib.hid hgB
    replace hno := Lib.hid hno
    clear hsame hgs hr4 g4 hres3 hgr hr3
    go_upto_region 2 with fail
    rw [← hW3]
    clear hW3
    cases bad with
    | true =>
      go_upto_region 4 with fail
      rw [← hW4]
      clear hW4
      go_wp2_with (refine wpList_store_mid (op := ⟨none, _, _, _, _, _⟩) rfl 34 _ _ rfl w.heap.size 0 #[.slice none 0 0, .int .i64 0] rfl rfl hth infoRw (by simp [Value.oneCell']) ?_)
      (try simp only [Exit.inBlock, Exit.then])
      refine bodyPost_ret (by simp [results, Tryz.results30, go_sem, r0, r1']; try rfl) rfl ?_
      unfold RwPost
      rw [hno.out]
      exact ⟨none, 0, rfl, hr5.out, World.ownsRow_nil _ _ _ _, hgB.out⟩
    | false =>
      go_upto_region 4 with fail
      rw [← hW4]
      clear hW4
      go_wp2_with (refine wpList_store_mid (op := ⟨none, _, _, _, _, _⟩) rfl 34 _ _ rfl w.heap.size 0 #[.slice none 0 0, .int .i64 0] rfl rfl hth infoRw (by simp [Value.oneCell']) ?_)
      (try simp only [Exit.inBlock, Exit.then])
      refine bodyPost_ret (by simp [results, Tryz.results30, go_sem, r0, r1']; try rfl) rfl ?_
      unfold RwPost
      rw [hno.out]
      exact ⟨none, 0, rfl, hr5.out, World.ownsRow_nil _ _ _ _, hgB.out⟩
/-- What opened answers. -/
def OpenPost (l : List UInt8) (w : World) (e : Ending) (w' : World) : Prop := ∃ b, e = .returned (.pointer (some ⟨b, 0, none⟩)) ∧ w.heap.size ≤ b ∧ Rq.Rdr w' b (openS l).1 (openS l).2 ∧ Gr w w'
set_option maxHeartbeats 8000000 in
set_option maxRecDepth 100000 in
theorem opened_any (l : List UInt8) (w : World) (hm : l.length ≤ 1000000000) : Calls Tryz.prog 27 #[.string (txt l)] w (OpenPost l w) := by
  have hT := take_any (txt l) w (by rw [txt_size]; unfold maxLen; omega)
  rw [txt_data] at hT
  unfold TakeAns at hT
  have hop : openS l = ((Crc.take l).1, decide (¬ ((Crc.take l).2.2 = 0 ∧ (Crc.take l).2.1 = []))) := rfl
  unfold OpenPost
  rw [hop]
  generalize (Crc.take l).1 = x at *
  generalize (Crc.take l).2.1 = r at *
  generalize (Crc.take l).2.2 = er at *
  clear hop
  replace hT := Lib.hid hT
  by_cases he : er = 0
  · subst he
    by_cases hr : r = []
    · have hr0 : r.isEmpty = true := by rw [hr]; rfl
      have hd : decide (¬ ((0 : Int) = 0 ∧ r = [])) = false := decide_eq_false (fun k => k ⟨rfl, hr⟩)
      rw [hd]
      clear hr hd
      go_enter Tryz.func27, Tryz.ntmps27
      go_wp2_with fail
      refine hT.out.mono ?_
      rintro e w2 ⟨rfl, g⟩
      go_wp2
      go_ret
      exact ⟨_, rfl, g.size, blk_new w2 _, gr_trans g (gr_alloc _ _ _)⟩
    · have hr0 : r.isEmpty = false := by rw [List.isEmpty_eq_false_iff]; exact hr
      have hd : decide (¬ ((0 : Int) = 0 ∧ r = [])) = true := decide_eq_true (fun k => hr k.2)
      rw [hd]
      clear hr hd
      go_enter Tryz.func27, Tryz.ntmps27
      go_wp2_with fail
      refine hT.out.mono ?_
      rintro e w2 ⟨rfl, g⟩
      go_wp2
      go_ret
      exact ⟨_, rfl, g.size, blk_new w2 _, gr_trans g (gr_alloc _ _ _)⟩
  · have e0 : (er == 0) = false := eqF he
    have e1 : (er != 0) = true := by simp [bne, e0]
    have hd : decide (¬ (er = 0 ∧ r = [])) = true := decide_eq_true (fun k => he k.1)
    rw [hd]
    clear hd
    go_enter Tryz.func27, Tryz.ntmps27
    go_wp2_with fail
    refine hT.out.mono ?_
    rintro e w2 ⟨rfl, g⟩
    go_wp2
    go_ret
    exact ⟨_, rfl, g.size, blk_new w2 _, gr_trans g (gr_alloc _ _ _)⟩
end Go.Proofs.YtbnacoakjhhndaaGreat
namespace Go.Proofs.YtbnacoakjhhndaaGreat
open Go.RowKit

theorem own_far {w w' : World} {base size n b : Nat} {e t : TypeId} {v : Value} {xs : List Value} {cs : Array Value} {fr : Nat × Nat} (h : w.ownsRow base e size v n xs) (hb : w.heap[b]? = some (.cells cs t fr)) (he : e ≠ t) (g : GrB b w w') : w'.ownsRow base e size v n xs := by
  refine h.kept g ?_
  rcases h.2 with ⟨rfl, _⟩ | ⟨g', cap, cur, rfl, _, hg, _⟩
  · exact .inl rfl
  · right
    intro e2
    have : g' = b := by simpa [Value.ownBlock] using e2
    subst this
    rw [hb] at hg
    injection hg with h1
    injection h1 with _ h2
    exact he h2.symm
/-- What is at hand while a request is read. -/
structure RaAt (w wr : World) (b p : Nat) (l : List UInt8) (bad : Bool) (k : Int) (A : Option Addr) (n c : Nat) (L : List Lb) (t : List UInt8) (x y z : Int) : Prop where
  res : AqB wr w.heap.size 0 none 0 0 [] 0 0 0
  rdr : Rq.Rdr wr b l bad
  out : AqB wr p k A n c t x y z
  own : wr.ownsRow w.heap.size 77 2 (.slice A n c) n (sR lblC L)
  bel : Below w.heap.size w wr
  hb : w.heap.size < b
  hp : b < p
  size : p < wr.heap.size
theorem raAt_gr {w wr w2 : World} {b p : Nat} {l : List UInt8} {bad : Bool} {k : Int} {A : Option Addr} {n c : Nat} {L : List Lb} {t : List UInt8} {x y z : Int} (h : RaAt w wr b p l bad k A n c L t x y z) (g : Gr wr w2) : RaAt w w2 b p l bad k A n c L t x y z :=
  ⟨gr_blk g h.res (by simp), Rq.rdr_gr h.rdr g, gr_blk g h.out (by simp), h.own.kept g (Classical.em _), below_gr h.bel g h.bel.size (by simp), h.hb, h.hp, Nat.lt_of_lt_of_le h.size g.size⟩
theorem raAt_rd {w wr w2 : World} {b p : Nat} {l l2 : List UInt8} {bad bad2 : Bool} {k : Int} {A : Option Addr} {n c : Nat} {L : List Lb} {t : List UInt8} {x y z : Int} (h : RaAt w wr b p l bad k A n c L t x y z) (hr : Rq.Rdr w2 b l2 bad2) (g : GrB b wr w2) : RaAt w w2 b p l2 bad2 k A n c L t x y z :=
  ⟨gr_blk g h.res (by have := h.hb; simp; omega), hr, gr_blk g h.out (by have := h.hp; simp; omega), own_far h.own h.rdr (by decide) g, below_gr h.bel g h.bel.size (by intro j hj; cases hj; have := h.hb; omega), h.hb, h.hp, Nat.lt_of_lt_of_le h.size g.size⟩
theorem raAt_set {w wr : World} {b p : Nat} {l : List UInt8} {bad : Bool} {k : Int} {A : Option Addr} {n c : Nat} {L : List Lb} {t : List UInt8} {x y z : Int} (h : RaAt w wr b p l bad k A n c L t x y z) (j : Nat) (v : Value) {k2 : Int} {t2 : List UInt8} {x2 y2 z2 : Int} (ho : AqB (wr.setCell ⟨p, j, none⟩ v) p k2 A n c t2 x2 y2 z2) : RaAt w (wr.setCell ⟨p, j, none⟩ v) b p l bad k2 A n c L t2 x2 y2 z2 := by
  have g := gr_set wr ⟨p, j, none⟩ v
  have h1 := h.hb
  have h2 := h.hp
  exact ⟨gr_blk g h.res (by simp; omega), gr_blk g h.rdr (by simp; omega), ho, own_far h.own h.out (by decide) g, below_gr h.bel g h.bel.size (by intro j hj; cases hj; simp; omega), h1, h2, Nat.lt_of_lt_of_le h.size g.size⟩
theorem aqb_set2 {w : World} {b : Nat} {k : Int} {A : Option Addr} {n c : Nat} {t : List UInt8} {x y z : Int} (h : AqB w b k A n c t x y z) (u : List UInt8) : AqB (w.setCell ⟨b, 2, none⟩ (.string (txt u))) b k A n c u x y z := blk_set h 2 _
theorem aqb_set3 {w : World} {b : Nat} {k : Int} {A : Option Addr} {n c : Nat} {t : List UInt8} {x y z : Int} (h : AqB w b k A n c t x y z) (u : Int) : AqB (w.setCell ⟨b, 3, none⟩ (.int .i64 u)) b k A n c t u y z := blk_set h 3 _
theorem aqb_set4 {w : World} {b : Nat} {k : Int} {A : Option Addr} {n c : Nat} {t : List UInt8} {x y z : Int} (h : AqB w b k A n c t x y z) (u : Int) : AqB (w.setCell ⟨b, 4, none⟩ (.int .i64 u)) b k A n c t x u z := blk_set h 4 _
theorem aqb_set5 {w : World} {b : Nat} {k : Int} {A : Option Addr} {n c : Nat} {t : List UInt8} {x y z : Int} (h : AqB w b k A n c t x y z) (u : Int) : AqB (w.setCell ⟨b, 5, none⟩ (.int .i64 u)) b k A n c t x y u := blk_set h 5 _
theorem raAt_lab {w wr : World} {b p : Nat} {l : List UInt8} {bad : Bool} {k : Int} {t : List UInt8} {x y z v : Int} (h : RaAt w wr b p l bad k none 0 0 [] t x y z) {A : Option Addr} {c : Nat} {L : List Lb} (ho : wr.ownsRow w.heap.size 77 2 (.slice A L.length c) L.length (sR lblC L)) : RaAt w ((wr.setCell ⟨p, 1, none⟩ (.slice A L.length c)).setCell ⟨p, 4, none⟩ (.int .i64 v)) b p l bad k A L.length c L t x v z := by
  have g : GrB p wr ((wr.setCell ⟨p, 1, none⟩ (.slice A L.length c)).setCell ⟨p, 4, none⟩ (.int .i64 v)) := gr_trans (gr_set wr ⟨p, 1, none⟩ _) (gr_set _ ⟨p, 4, none⟩ _)
  have h1 := h.hb
  have h2 := h.hp
  exact ⟨gr_blk g h.res (by simp; omega), gr_blk g h.rdr (by simp; omega), blk_set (blk_set h.out 1 _) 4 _, own_far ho h.out (by decide) g, below_gr h.bel g h.bel.size (by intro j hj; cases hj; omega), h1, h2, Nat.lt_of_lt_of_le h.size g.size⟩
def ReadPost (b : List UInt8) (w : World) (e : Ending) (w' : World) : Prop :=
  ((IsAskL b ∧ ∃ A c, e = .returned (.tuple #[aqV A (readA b).1.l.length c (readA b).1, .int .i64 0]) ∧ w'.ownsRow w.heap.size 77 2 (.slice A (readA b).1.l.length c) (readA b).1.l.length (sR lblC (readA b).1.l)) ∨
    (¬ IsAskL b ∧ e = .returned (.tuple #[.agg #[.int .i64 0, .slice none 0 0, .string ⟨#[]⟩, .int .i64 0, .int .i64 0, .int .i64 0], .int .i64 2]))) ∧ Gr w w'
theorem rwS_small (s : List UInt8 × Bool) : SmallL (rwS s).1.l ∧ (-9223372036854775808 ≤ (rwS s).1.v ∧ (rwS s).1.v ≤ 9223372036854775807) ∧ (rwS s).2.1.length ≤ s.1.length := by
  unfold rwS
  by_cases h : s.2 = true
  · rw [if_pos h]; exact ⟨⟨by simp, by simp⟩, by simp, Nat.le_refl _⟩
  · rw [if_neg h]
    cases hg : getR s.1 with
    | none => exact ⟨⟨by simp, by simp⟩, by simp, Nat.le_refl _⟩
    | some p =>
      obtain ⟨r, t⟩ := p
      obtain ⟨h1, h2, h3⟩ := getR_some hg
      have h4 := h2.2
      unfold okV at h4
      refine ⟨h3, by simp only; omega, ?_⟩
      have h5 := congrArg List.length h1
      rw [List.length_append] at h5
      simp only
      omega
theorem small_short {l : List Lb} (h : SmallL l) : ShortL l := fun x hx => by have := h.2 x hx; omega
theorem open_len (b : List UInt8) : (openS b).1.length ≤ b.length := by
  unfold openS Crc.take
  simp only
  split
  · exact Nat.zero_le _
  · split
    · exact Nat.zero_le _
    · split
      · exact Nat.zero_le _
      · split
        · exact Nat.zero_le _
        · split
          · exact Nat.zero_le _
          · simp only [List.length_take, List.length_drop]; omega
set_option maxHeartbeats 32000000 in
set_option maxRecDepth 100000 in
theorem readAsk_any (b : List UInt8) (w : World) (hb : b.length ≤ 100000) : Calls Tryz.prog 17 #[.string (txt b)] w (ReadPost b w) := by
  have hR : readA b = parseA (openS b) := rfl
  have hol : (openS b).1.length ≤ b.length := open_len b
  have hop := fun W => opened_any b W (by omega)
  unfold OpenPost at hop
  rcases hs0 : openS b with ⟨l0, bad0⟩
  rw [hs0] at hR hol hop
  simp only at hol hop
  rcases h1 : tkS 1 (l0, bad0) with ⟨x1, l1, bad1⟩
  have hn1 := Rq.tkS_len 1 (l0, bad0)
  rw [h1] at hn1
  simp only at hn1
  have hv1 := dvN_lt x1
  have hv1b : dvN x1 < 256 := Nat.lt_of_lt_of_le hv1 (Nat.pow_le_pow_right (by decide) hn1.1 (n := 256))
  obtain ⟨K, hK⟩ : ∃ K, K = dvN x1 := ⟨_, rfl⟩
  obtain ⟨W1, hW1⟩ : ∃ W1, W1 = w.alloc (.cells #[.int .i64 0, .slice none 0 0, .string ⟨#[]⟩, .int .i64 0, .int .i64 0, .int .i64 0] 57) := ⟨_, rfl⟩
  have g1 : Gr w W1 := by rw [hW1]; exact gr_alloc _ _ _
  have hres : AqB W1 w.heap.size 0 none 0 0 [] 0 0 0 := by rw [hW1]; exact blk_new w _
  have hs1 : W1.heap.size = w.heap.size + 1 := by rw [hW1]; simp
  replace hop := Lib.hid hop
  replace hR := Lib.hid hR
  replace h1 := Lib.hid h1
  replace hK := Lib.hid hK
  replace hres := Lib.hid hres
  replace g1 := Lib.hid g1
  replace hs1 := Lib.hid hs1
  replace hs0 := Lib.hid hs0
  clear hv1
  go_enter Tryz.func17, Tryz.ntmps17
  go_upto_region 1 with fail
  rw [← hW1]
  clear hW1
  go_wp2_with fail
  refine (hop.out _).mono ?_
  rintro e W2 ⟨bb, rfl, hbb, hrd2, g2⟩
  have hnum := Rq.num_any bb 1 l0 bad0 W2 hrd2 (by decide) (by omega)
  rw [h1.out] at hnum
  simp only at hnum
  rw [← hK.out] at hnum
  have hres2 : AqB W2 w.heap.size 0 none 0 0 [] 0 0 0 := gr_blk g2 hres.out (by simp)
  have G2 := gr_trans g1.out g2
  replace hnum := Lib.hid hnum
  clear hop hrd2 g2 hres
  go_wp2_with fail
  refine hnum.out.mono ?_
  rintro e W3 ⟨rfl, hrd3, g3⟩
  obtain ⟨W4, hW4⟩ : ∃ W4, W4 = W3.alloc (.cells #[.int .i64 (K : Int), .slice none 0 0, .string ⟨#[]⟩, .int .i64 0, .int .i64 0, .int .i64 0] 57) := ⟨_, rfl⟩
  have g4 : Gr W3 W4 := by rw [hW4]; exact gr_alloc _ _ _
  have st4 : RaAt w W4 bb W3.heap.size l1 bad1 (K : Int) none 0 0 [] [] 0 0 0 := by
    have hs := hs1.out
    refine ⟨gr_blk g4 (gr_blk g3 hres2 (by simp; omega)) (by simp), Rq.rdr_gr hrd3 g4, ?_, World.ownsRow_nil _ _ _ _, ?_, by omega, lt_of_blk hrd3, by rw [hW4]; simp⟩
    · rw [hW4]; exact blk_new W3 _
    · have b2 := gr_below G2
      have b3 := below_gr b2 g3 b2.size (by intro k hk; cases hk; omega)
      exact below_gr b3 g4 b3.size (by simp)
  obtain ⟨p, hpp⟩ : ∃ p, p = W3.heap.size := ⟨_, rfl⟩
  rw [← hpp] at st4
  replace hpp := Lib.hid hpp
  obtain ⟨q0, q1, q2, q3, q4, q5⟩ := aqb_cells st4.out
  replace st4 := Lib.hid st4
  clear hnum hrd3 g3 g4 hres2 G2 g1 hs1
  go_upto_region 3 with fail
  rw [← hW4, ← hpp.out]
  clear hW4 hpp
  by_cases cK : K = 1
  · have hk1 : ((K : Int) == 1) = true := eqT (by omega)
    rcases h2 : rwS (l1, bad1) with ⟨⟨L, B⟩, l2, bad2⟩
    obtain ⟨hsm, hB64, hl2⟩ := rwS_small (l1, bad1)
    have hrow := rrow_any bb l1 bad1 W4 st4.out.rdr (by omega)
    unfold RwPost at hrow
    rw [h2] at hsm hB64 hrow hl2
    simp only at hsm hB64 hrow hl2
    have hmid : midS K (l1, bad1) = (L, B, (l2, bad2)) := by unfold midS; rw [if_pos cK, h2]
    replace hrow := Lib.hid hrow
    replace hmid := Lib.hid hmid
    replace h2 := Lib.hid h2
    replace hsm := Lib.hid hsm
    replace cK := Lib.hid cK
    clear q1 q2 q3 q4 q5
    go_wp2_with fail
    refine hrow.out.mono ?_
    rintro e W5 ⟨A, c, rfl, hrd5, hown5, g5⟩
    have st5 := raAt_rd st4.out hrd5 g5
    have hbase := st4.out.bel.size
    obtain ⟨W6, hW6⟩ : ∃ W6, W6 = W5.alloc (.cells #[.slice A L.length c, .int .i64 B] 34) := ⟨_, rfl⟩
    have g6 : Gr W5 W6 := by rw [hW6]; exact gr_alloc _ _ _
    have hx6 : RwB W6 W5.heap.size A L.length c B := by rw [hW6]; exact blk_new W5 _
    obtain ⟨x0, x1', _, _⟩ := rwb_cells hx6
    have hpw : p < W5.heap.size := st5.size
    have hpn : ¬ p = W5.heap.size := by omega
    have st6 := raAt_gr st5 g6
    have hown6 := (own_mono hown5 hbase).kept g6 (Classical.em _)
    have st7 := raAt_gr (raAt_lab (v := B) st6 hown6) (gr_drew _ none)
    obtain ⟨q0, q1, q2, q3, q4, q5⟩ := aqb_cells st6.out
    have f1 := aqb_free st6.out 1
    have f4 := aqb_free st6.out 4
    obtain ⟨W7, hW7⟩ : ∃ W7, W7 = ((W6.setCell ⟨p, 1, none⟩ (.slice A L.length c)).setCell ⟨p, 4, none⟩ (.int .i64 B)).drew := ⟨_, rfl⟩
    rw [← hW7] at st7
    replace st7 := Lib.hid st7
    clear hrow hrd5 hown5 g5 st5 st4 hx6 g6 st6 hown6
    go_upto_region 5 with fail
    rw [← hW6]
    clear hW6
    go_region
    rw [← hW7]
    clear hW7 x0 x1' f1 f4 q0 q1 q2 q3 q4 q5
    obtain ⟨n, hn⟩ : ∃ n, n = L.length := ⟨_, rfl⟩
    rw [← hn] at st7 ⊢
    replace hn := Lib.hid hn
    rcases h3 : tkS 4 (l2, bad2) with ⟨x3, l3, bad3⟩
    have hn3 := Rq.tkS_len 4 (l2, bad2)
    rw [h3] at hn3
    simp only at hn3
    have hv3 := Nat.lt_of_lt_of_le (dvN_lt x3) (Nat.pow_le_pow_right (by decide) hn3.1 (n := 256))
    have hnum := Rq.num_any bb 4 l2 bad2 W7 st7.out.rdr (by decide) (by omega)
    rw [h3] at hnum
    simp only at hnum
    obtain ⟨a, ha⟩ : ∃ a, a = dvN x3 := ⟨_, rfl⟩
    rw [← ha] at hnum hv3
    replace hnum := Lib.hid hnum
    replace h3 := Lib.hid h3
    replace ha := Lib.hid ha
    have hl3 := hn3.2
    clear hn3
    go_wp2_with fail
    refine hnum.out.mono ?_
    rintro e W8 ⟨rfl, hrd, g⟩
    have stx := raAt_rd st7.out hrd g
    obtain ⟨q0, q1, q2, q3, q4, q5⟩ := aqb_cells stx.out
    have fx := aqb_free stx.out 3
    have st9 := raAt_set stx 3 (.int .i64 (a : Int)) (aqb_set3 stx.out (a : Int))
    obtain ⟨W9, hW9⟩ : ∃ W9, W9 = W8.setCell ⟨p, 3, none⟩ (.int .i64 (a : Int)) := ⟨_, rfl⟩
    rw [← hW9] at st9
    replace st9 := Lib.hid st9
    clear hnum hrd g stx st7
    go_upto_region 8 with fail
    rw [← hW9]
    clear hW9 fx q0 q1 q2 q3 q4 q5
    rcases h4 : tkS 4 (l3, bad3) with ⟨x4, l4, bad4⟩
    have hn4 := Rq.tkS_len 4 (l3, bad3)
    rw [h4] at hn4
    simp only at hn4
    have hv4 := Nat.lt_of_lt_of_le (dvN_lt x4) (Nat.pow_le_pow_right (by decide) hn4.1 (n := 256))
    have hnum := Rq.num_any bb 4 l3 bad3 W9 st9.out.rdr (by decide) (by omega)
    rw [h4] at hnum
    simp only at hnum
    obtain ⟨d, hd⟩ : ∃ d, d = dvN x4 := ⟨_, rfl⟩
    rw [← hd] at hnum hv4
    replace hnum := Lib.hid hnum
    replace h4 := Lib.hid h4
    replace hd := Lib.hid hd
    have hl4 := hn4.2
    clear hn4
    go_wp2_with fail
    refine hnum.out.mono ?_
    rintro e W10 ⟨rfl, hrd, g⟩
    have stx := raAt_rd st9.out hrd g
    obtain ⟨q0, q1, q2, q3, q4, q5⟩ := aqb_cells stx.out
    have fx := aqb_free stx.out 5
    have st11 := raAt_set stx 5 (.int .i64 (d : Int)) (aqb_set5 stx.out (d : Int))
    obtain ⟨W11, hW11⟩ : ∃ W11, W11 = W10.setCell ⟨p, 5, none⟩ (.int .i64 (d : Int)) := ⟨_, rfl⟩
    rw [← hW11] at st11
    replace st11 := Lib.hid st11
    clear hnum hrd g stx st9
    go_upto_region 9 with fail
    rw [← hW11]
    clear hW11 fx q0 q1 q2 q3 q4 q5
    rcases h5 : tkS l4.length (l4, bad4) with ⟨t, l5, bad5⟩
    have hn5 := Rq.tkS_len l4.length (l4, bad4)
    rw [h5] at hn5
    simp only at hn5
    have htk := Rq.rest_any bb l4 bad4 W11 st11.out.rdr (by omega)
    rw [h5] at htk
    simp only at htk
    obtain ⟨c0, c1, _, _⟩ := Rq.rdr_cells st11.out.rdr
    replace htk := Lib.hid htk
    replace h5 := Lib.hid h5
    have hlt := hn5.1
    clear hn5
    go_wp2_with fail
    refine htk.out.mono ?_
    rintro e W12 ⟨rfl, hrd, g⟩
    have stx := raAt_rd st11.out hrd g
    obtain ⟨q0, q1, q2, q3, q4, q5⟩ := aqb_cells stx.out
    have fx := aqb_free stx.out 2
    have st13 := raAt_set stx 2 (.string (txt t)) (aqb_set2 stx.out t)
    obtain ⟨W13, hW13⟩ : ∃ W13, W13 = W12.setCell ⟨p, 2, none⟩ (.string (txt t)) := ⟨_, rfl⟩
    rw [← hW13] at st13
    have hRd : readA b = (⟨(K : Int), L, t, (a : Int), B, (d : Int)⟩, bad5) := by
      rw [hR.out]
      unfold parseA
      rw [h1.out]
      simp only
      rw [← hK.out, hmid.out]
      simp only
      rw [h3.out]
      simp only
      rw [h4.out]
      simp only
      rw [h5.out, ← ha.out, ← hd.out]
    have hAq : AqOk W13 A n c ⟨(K : Int), L, t, (a : Int), B, (d : Int)⟩ := ⟨hn.out.symm, by have := hsm.out.1; have := hn.out; omega, by simp only; omega, own_nilA st13.own, row_own st13.own, small_short hsm.out, hB64⟩
    have hask := ask_any A n c ⟨(K : Int), L, t, (a : Int), B, (d : Int)⟩ W13 hAq
    have hisA : IsAskL b ↔ (bad5 = false ∧ okA ⟨(K : Int), L, t, (a : Int), B, (d : Int)⟩ ∧ askL ⟨(K : Int), L, t, (a : Int), B, (d : Int)⟩ = b) := by unfold IsAskL; rw [hRd]
    unfold AskPost aqV at hask
    simp only at hask
    generalize hQ : (⟨(K : Int), L, t, (a : Int), B, (d : Int)⟩ : Aq) = q at *
    replace hQ := Lib.hid hQ
    replace st13 := Lib.hid st13
    replace hask := Lib.hid hask
    replace hisA := Lib.hid hisA
    replace hRd := Lib.hid hRd
    clear htk hrd g stx st11 c0 c1 hAq hR h1 h3 h4 h5 hK hmid ha hd hB64 hsm
    go_upto_region 10 with fail
    rw [← hW13]
    clear hW13 fx q0 q1 q2 q3 q4 q5
    obtain ⟨q0, q1, q2, q3, q4, q5⟩ := aqb_cells st13.out.out
    by_cases ok : okA q
    · have hask2 := hask.out
      rw [if_pos ok] at hask2
      replace hask2 := Lib.hid hask2
      clear hask
      go_wp2_with fail
      refine hask2.out.mono ?_
      rintro e W14 ⟨rfl, g14⟩
      have st14 := raAt_gr st13.out g14
      clear q0 q1 q2 q3 q4 q5 g14 hask2 st13
      obtain ⟨q0, q1, q2, q3, q4, q5⟩ := aqb_cells st14.out
      obtain ⟨c0, c1, _, _⟩ := Rq.rdr_cells st14.rdr
      replace st14 := Lib.hid st14
      cases bad5 with
      | true =>
        have hno : Hid (¬ IsAskL b) := fun k => by have := (hisA.out.1 k).1; cases this
        clear q0 q1 q2 q3 q4 q5
        have hth := aqb_there st14.out.res
        have hsame := World.rangeAt_setCells_same W14 w.heap.size 0 [.int .i64 0, .slice none 0 0, .string ⟨#[]⟩, .int .i64 0, .int .i64 0, .int .i64 0] hth
        have r0 := hsame 0 _ rfl
        have r1 := hsame 1 _ rfl
        have r2 := hsame 2 _ rfl
        have r3 := hsame 3 _ rfl
        have r4 := hsame 4 _ rfl
        have r5 := hsame 5 _ rfl
        simp only [Nat.zero_add] at r0 r1 r2 r3 r4 r5
        have hgs := gr_setCells W14 w.heap.size 0 [.int .i64 0, .slice none 0 0, .string ⟨#[]⟩, .int .i64 0, .int .i64 0, .int .i64 0]
        have hgf : Gr w (W14.setCells w.heap.size 0 [.int .i64 0, .slice none 0 0, .string ⟨#[]⟩, .int .i64 0, .int .i64 0, .int .i64 0]) := gr_of_below (below_gr st14.out.bel hgs st14.out.bel.size (by intro k hk; cases hk; exact Nat.le_refl _)) (Nat.le_refl _)
        replace hgf := Lib.hid hgf
        clear hsame hgs
        go_wp2_with (refine wpList_store_mid (op := ⟨none, _, _, _, _, _⟩) rfl 57 _ _ rfl w.heap.size 0 #[.int .i64 0, .slice none 0 0, .string ⟨#[]⟩, .int .i64 0, .int .i64 0, .int .i64 0] rfl rfl hth infoAq (by simp [Value.oneCell']) ?_)
        (try simp only [Exit.inBlock, Exit.then])
        refine bodyPost_ret (by simp [results, Tryz.results17, go_sem, r0, r1, r2, r3, r4, r5]; try rfl) rfl ?_
        exact ⟨.inr ⟨hno.out, rfl⟩, hgf.out⟩
      | false =>
        by_cases hq : askL q = b
        · have hqb : (askL q == b) = true := by rw [hq]; exact beq_self_eq_true b
          have hyes : Hid (IsAskL b) := hisA.out.2 ⟨rfl, ok, hq⟩
          clear hq
          have hth := aqb_there st14.out.res
          have hsame := World.rangeAt_setCells_same W14 w.heap.size 0 [.int .i64 (K : Int), .slice A n c, .string (txt t), .int .i64 (a : Int), .int .i64 B, .int .i64 (d : Int)] hth
          have r0 := hsame 0 _ rfl
          have r1 := hsame 1 _ rfl
          have r2 := hsame 2 _ rfl
          have r3 := hsame 3 _ rfl
          have r4 := hsame 4 _ rfl
          have r5 := hsame 5 _ rfl
          simp only [Nat.zero_add] at r0 r1 r2 r3 r4 r5
          have hgs := gr_setCells W14 w.heap.size 0 [.int .i64 (K : Int), .slice A n c, .string (txt t), .int .i64 (a : Int), .int .i64 B, .int .i64 (d : Int)]
          have hgf : Gr w (W14.setCells w.heap.size 0 [.int .i64 (K : Int), .slice A n c, .string (txt t), .int .i64 (a : Int), .int .i64 B, .int .i64 (d : Int)]) := gr_of_below (below_gr st14.out.bel hgs st14.out.bel.size (by intro k hk; cases hk; exact Nat.le_refl _)) (Nat.le_refl _)
          have hof := own_far st14.out.own st14.out.res (by decide) hgs
          replace hof := Lib.hid hof
          replace hgf := Lib.hid hgf
          clear hsame hgs
          go_wp2_with (refine wpList_store_mid (op := ⟨none, _, _, _, _, _⟩) rfl 57 _ _ rfl w.heap.size 0 #[.int .i64 (K : Int), .slice A n c, .string (txt t), .int .i64 (a : Int), .int .i64 B, .int .i64 (d : Int)] rfl rfl hth infoAq (by simp [Value.oneCell']) ?_)
          (try simp only [Exit.inBlock, Exit.then])
          refine bodyPost_ret (by simp [results, Tryz.results17, go_sem, r0, r1, r2, r3, r4, r5]; try rfl) rfl ?_
          unfold ReadPost
          rw [hRd.out, ← hQ.out]
          simp only
          rw [← hn.out]
          exact ⟨.inl ⟨hyes.out, A, c, rfl, hof.out⟩, hgf.out⟩
        · have hqb : (askL q == b) = false := beq_eq_false_iff_ne.2 hq
          have hno : Hid (¬ IsAskL b) := fun k => hq (hisA.out.1 k).2.2
          clear hq q0 q1 q2 q3 q4 q5
          have hth := aqb_there st14.out.res
          have hsame := World.rangeAt_setCells_same W14 w.heap.size 0 [.int .i64 0, .slice none 0 0, .string ⟨#[]⟩, .int .i64 0, .int .i64 0, .int .i64 0] hth
          have r0 := hsame 0 _ rfl
          have r1 := hsame 1 _ rfl
          have r2 := hsame 2 _ rfl
          have r3 := hsame 3 _ rfl
          have r4 := hsame 4 _ rfl
          have r5 := hsame 5 _ rfl
          simp only [Nat.zero_add] at r0 r1 r2 r3 r4 r5
          have hgs := gr_setCells W14 w.heap.size 0 [.int .i64 0, .slice none 0 0, .string ⟨#[]⟩, .int .i64 0, .int .i64 0, .int .i64 0]
          have hgf : Gr w (W14.setCells w.heap.size 0 [.int .i64 0, .slice none 0 0, .string ⟨#[]⟩, .int .i64 0, .int .i64 0, .int .i64 0]) := gr_of_below (below_gr st14.out.bel hgs st14.out.bel.size (by intro k hk; cases hk; exact Nat.le_refl _)) (Nat.le_refl _)
          replace hgf := Lib.hid hgf
          clear hsame hgs
          go_wp2_with (refine wpList_store_mid (op := ⟨none, _, _, _, _, _⟩) rfl 57 _ _ rfl w.heap.size 0 #[.int .i64 0, .slice none 0 0, .string ⟨#[]⟩, .int .i64 0, .int .i64 0, .int .i64 0] rfl rfl hth infoAq (by simp [Value.oneCell']) ?_)
          (try simp only [Exit.inBlock, Exit.then])
          refine bodyPost_ret (by simp [results, Tryz.results17, go_sem, r0, r1, r2, r3, r4, r5]; try rfl) rfl ?_
          exact ⟨.inr ⟨hno.out, rfl⟩, hgf.out⟩
    · have hask2 := hask.out
      rw [if_neg ok] at hask2
      replace hask2 := Lib.hid hask2
      have hno : Hid (¬ IsAskL b) := fun k => ok (hisA.out.1 k).2.1
      clear hask
      go_wp2_with fail
      refine hask2.out.mono ?_
      rintro e W14 ⟨rfl, g14⟩
      have st14 := raAt_gr st13.out g14
      clear q0 q1 q2 q3 q4 q5 g14 hask2 st13
      obtain ⟨c0, c1, _, _⟩ := Rq.rdr_cells st14.rdr
      replace st14 := Lib.hid st14
      cases bad5 with
      | true =>
        have hth := aqb_there st14.out.res
        have hsame := World.rangeAt_setCells_same W14 w.heap.size 0 [.int .i64 0, .slice none 0 0, .string ⟨#[]⟩, .int .i64 0, .int .i64 0, .int .i64 0] hth
        have r0 := hsame 0 _ rfl
        have r1 := hsame 1 _ rfl
        have r2 := hsame 2 _ rfl
        have r3 := hsame 3 _ rfl
        have r4 := hsame 4 _ rfl
        have r5 := hsame 5 _ rfl
        simp only [Nat.zero_add] at r0 r1 r2 r3 r4 r5
        have hgs := gr_setCells W14 w.heap.size 0 [.int .i64 0, .slice none 0 0, .string ⟨#[]⟩, .int .i64 0, .int .i64 0, .int .i64 0]
        have hgf : Gr w (W14.setCells w.heap.size 0 [.int .i64 0, .slice none 0 0, .string ⟨#[]⟩, .int .i64 0, .int .i64 0, .int .i64 0]) := gr_of_below (below_gr st14.out.bel hgs st14.out.bel.size (by intro k hk; cases hk; exact Nat.le_refl _)) (Nat.le_refl _)
        replace hgf := Lib.hid hgf
        clear hsame hgs
        go_wp2_with (refine wpList_store_mid (op := ⟨none, _, _, _, _, _⟩) rfl 57 _ _ rfl w.heap.size 0 #[.int .i64 0, .slice none 0 0, .string ⟨#[]⟩, .int .i64 0, .int .i64 0, .int .i64 0] rfl rfl hth infoAq (by simp [Value.oneCell']) ?_)
        (try simp only [Exit.inBlock, Exit.then])
        refine bodyPost_ret (by simp [results, Tryz.results17, go_sem, r0, r1, r2, r3, r4, r5]; try rfl) rfl ?_
        exact ⟨.inr ⟨hno.out, rfl⟩, hgf.out⟩
      | false =>
        have hth := aqb_there st14.out.res
        have hsame := World.rangeAt_setCells_same W14 w.heap.size 0 [.int .i64 0, .slice none 0 0, .string ⟨#[]⟩, .int .i64 0, .int .i64 0, .int .i64 0] hth
        have r0 := hsame 0 _ rfl
        have r1 := hsame 1 _ rfl
        have r2 := hsame 2 _ rfl
        have r3 := hsame 3 _ rfl
        have r4 := hsame 4 _ rfl
        have r5 := hsame 5 _ rfl
        simp only [Nat.zero_add] at r0 r1 r2 r3 r4 r5
        have hgs := gr_setCells W14 w.heap.size 0 [.int .i64 0, .slice none 0 0, .string ⟨#[]⟩, .int .i64 0, .int .i64 0, .int .i64 0]
        have hgf : Gr w (W14.setCells w.heap.size 0 [.int .i64 0, .slice none 0 0, .string ⟨#[]⟩, .int .i64 0, .int .i64 0, .int .i64 0]) := gr_of_below (below_gr st14.out.bel hgs st14.out.bel.size (by intro k hk; cases hk; exact Nat.le_refl _)) (Nat.le_refl _)
        replace hgf := Lib.hid hgf
        clear hsame hgs
        go_wp2_with (refine wpList_store_mid (op := ⟨none, _, _, _, _, _⟩) rfl 57 _ _ rfl w.heap.size 0 #[.int .i64 0, .slice none 0 0, .string ⟨#[]⟩, .int .i64 0, .int .i64 0, .int .i64 0] rfl rfl hth infoAq (by simp [Value.oneCell']) ?_)
        (try simp only [Exit.inBlock, Exit.then])
        refine bodyPost_ret (by simp [results, Tryz.results17, go_sem, r0, r1, r2, r3, r4, r5]; try rfl) rfl ?_
        exact ⟨.inr ⟨hno.out, rfl⟩, hgf.out⟩
  · have hk1 : ((K : Int) == 1) = false := eqF (by omega)
    rcases h2 : tkS 4 (l1, bad1) with ⟨x2, l2, bad2⟩
    have hn2 := Rq.tkS_len 4 (l1, bad1)
    rw [h2] at hn2
    simp only at hn2
    have hv2 := Nat.lt_of_lt_of_le (dvN_lt x2) (Nat.pow_le_pow_right (by decide) hn2.1 (n := 256))
    have hl2 := hn2.2
    have hnum := Rq.num_any bb 4 l1 bad1 W4 st4.out.rdr (by decide) (by omega)
    rw [h2] at hnum
    simp only at hnum
    obtain ⟨Bn, hBn⟩ : ∃ Bn, Bn = dvN x2 := ⟨_, rfl⟩
    have hmid : midS K (l1, bad1) = ([], (Bn : Int), (l2, bad2)) := by unfold midS; rw [if_neg cK, h2, hBn]
    rw [← hBn] at hnum hv2
    obtain ⟨B, hB⟩ : ∃ B : Int, B = (Bn : Int) := ⟨_, rfl⟩
    rw [← hB] at hmid hnum
    have hB64 : -9223372036854775808 ≤ B ∧ B ≤ 9223372036854775807 := by omega
    replace hnum := Lib.hid hnum
    replace hmid := Lib.hid hmid
    replace cK := Lib.hid cK
    clear h2 hBn hv2 hn2 hB q1 q2 q3 q4 q5
    go_wp2_with fail
    refine hnum.out.mono ?_
    rintro e W5 ⟨rfl, hrd5, g5⟩
    have st5 := raAt_rd st4.out hrd5 g5
    obtain ⟨q0, q1, q2, q3, q4, q5⟩ := aqb_cells st5.out
    have f4 := aqb_free st5.out 4
    have st7 := raAt_set st5 4 (.int .i64 B) (aqb_set4 st5.out B)
    obtain ⟨W7, hW7⟩ : ∃ W7, W7 = W5.setCell ⟨p, 4, none⟩ (.int .i64 B) := ⟨_, rfl⟩
    rw [← hW7] at st7
    replace st7 := Lib.hid st7
    clear hnum hrd5 g5 st5 st4
    go_upto_region 7 with fail
    rw [← hW7]
    clear hW7 f4 q0 q1 q2 q3 q4 q5
    obtain ⟨L, hL⟩ : ∃ L : List Lb, L = [] := ⟨_, rfl⟩
    rw [← hL] at st7 hmid
    have hsm : SmallL L := by rw [hL]; exact ⟨by decide, by simp⟩
    obtain ⟨n, hn0⟩ : ∃ n, n = 0 := ⟨_, rfl⟩
    obtain ⟨A, hA0⟩ : ∃ A : Option Addr, A = none := ⟨_, rfl⟩
    obtain ⟨c, hc0⟩ : ∃ c : Nat, c = 0 := ⟨_, rfl⟩
    have st7' : RaAt w W7 bb p l2 bad2 (K : Int) A n c L [] 0 B 0 := by rw [hA0, hn0, hc0]; exact st7.out
    clear st7
    have st7 := Lib.hid st7'
    have hn : Hid (n = L.length) := by rw [hn0, hL]; exact Lib.hid rfl
    replace hsm := Lib.hid hsm
    clear st7' hn0 hA0 hc0 hL
    rcases h3 : tkS 4 (l2, bad2) with ⟨x3, l3, bad3⟩
    have hn3 := Rq.tkS_len 4 (l2, bad2)
    rw [h3] at hn3
    simp only at hn3
    have hv3 := Nat.lt_of_lt_of_le (dvN_lt x3) (Nat.pow_le_pow_right (by decide) hn3.1 (n := 256))
    have hnum := Rq.num_any bb 4 l2 bad2 W7 st7.out.rdr (by decide) (by omega)
    rw [h3] at hnum
    simp only at hnum
    obtain ⟨a, ha⟩ : ∃ a, a = dvN x3 := ⟨_, rfl⟩
    rw [← ha] at hnum hv3
    replace hnum := Lib.hid hnum
    replace h3 := Lib.hid h3
    replace ha := Lib.hid ha
    have hl3 := hn3.2
    clear hn3
    go_wp2_with fail
    refine hnum.out.mono ?_
    rintro e W8 ⟨rfl, hrd, g⟩
    have stx := raAt_rd st7.out hrd g
    obtain ⟨q0, q1, q2, q3, q4, q5⟩ := aqb_cells stx.out
    have fx := aqb_free stx.out 3
    have st9 := raAt_set stx 3 (.int .i64 (a : Int)) (aqb_set3 stx.out (a : Int))
    obtain ⟨W9, hW9⟩ : ∃ W9, W9 = W8.setCell ⟨p, 3, none⟩ (.int .i64 (a : Int)) := ⟨_, rfl⟩
    rw [← hW9] at st9
    replace st9 := Lib.hid st9
    clear hnum hrd g stx st7
    go_upto_region 8 with fail
    rw [← hW9]
    clear hW9 fx q0 q1 q2 q3 q4 q5
    rcases h4 : tkS 4 (l3, bad3) with ⟨x4, l4, bad4⟩
    have hn4 := Rq.tkS_len 4 (l3, bad3)
    rw [h4] at hn4
    simp only at hn4
    have hv4 := Nat.lt_of_lt_of_le (dvN_lt x4) (Nat.pow_le_pow_right (by decide) hn4.1 (n := 256))
    have hnum := Rq.num_any bb 4 l3 bad3 W9 st9.out.rdr (by decide) (by omega)
    rw [h4] at hnum
    simp only at hnum
    obtain ⟨d, hd⟩ : ∃ d, d = dvN x4 := ⟨_, rfl⟩
    rw [← hd] at hnum hv4
    replace hnum := Lib.hid hnum
    replace h4 := Lib.hid h4
    replace hd := Lib.hid hd
    have hl4 := hn4.2
    clear hn4
    go_wp2_with fail
    refine hnum.out.mono ?_
    rintro e W10 ⟨rfl, hrd, g⟩
    have stx := raAt_rd st9.out hrd g
    obtain ⟨q0, q1, q2, q3, q4, q5⟩ := aqb_cells stx.out
    have fx := aqb_free stx.out 5
    have st11 := raAt_set stx 5 (.int .i64 (d : Int)) (aqb_set5 stx.out (d : Int))
    obtain ⟨W11, hW11⟩ : ∃ W11, W11 = W10.setCell ⟨p, 5, none⟩ (.int .i64 (d : Int)) := ⟨_, rfl⟩
    rw [← hW11] at st11
    replace st11 := Lib.hid st11
    clear hnum hrd g stx st9
    go_upto_region 9 with fail
    rw [← hW11]
    clear hW11 fx q0 q1 q2 q3 q4 q5
    rcases h5 : tkS l4.length (l4, bad4) with ⟨t, l5, bad5⟩
    have hn5 := Rq.tkS_len l4.length (l4, bad4)
    rw [h5] at hn5
    simp only at hn5
    have htk := Rq.rest_any bb l4 bad4 W11 st11.out.rdr (by omega)
    rw [h5] at htk
    simp only at htk
    obtain ⟨c0, c1, _, _⟩ := Rq.rdr_cells st11.out.rdr
    replace htk := Lib.hid htk
    replace h5 := Lib.hid h5
    have hlt := hn5.1
    clear hn5
    go_wp2_with fail
    refine htk.out.mono ?_
    rintro e W12 ⟨rfl, hrd, g⟩
    have stx := raAt_rd st11.out hrd g
    obtain ⟨q0, q1, q2, q3, q4, q5⟩ := aqb_cells stx.out
    have fx := aqb_free stx.out 2
    have st13 := raAt_set stx 2 (.string (txt t)) (aqb_set2 stx.out t)
    obtain ⟨W13, hW13⟩ : ∃ W13, W13 = W12.setCell ⟨p, 2, none⟩ (.string (txt t)) := ⟨_, rfl⟩
    rw [← hW13] at st13
    have hRd : readA b = (⟨(K : Int), L, t, (a : Int), B, (d : Int)⟩, bad5) := by
      rw [hR.out]
      unfold parseA
      rw [h1.out]
      simp only
      rw [← hK.out, hmid.out]
      simp only
      rw [h3.out]
      simp only
      rw [h4.out]
      simp only
      rw [h5.out, ← ha.out, ← hd.out]
    have hAq : AqOk W13 A n c ⟨(K : Int), L, t, (a : Int), B, (d : Int)⟩ := ⟨hn.out.symm, by have := hsm.out.1; have := hn.out; omega, by simp only; omega, own_nilA st13.own, row_own st13.own, small_short hsm.out, hB64⟩
    have hask := ask_any A n c ⟨(K : Int), L, t, (a : Int), B, (d : Int)⟩ W13 hAq
    have hisA : IsAskL b ↔ (bad5 = false ∧ okA ⟨(K : Int), L, t, (a : Int), B, (d : Int)⟩ ∧ askL ⟨(K : Int), L, t, (a : Int), B, (d : Int)⟩ = b) := by unfold IsAskL; rw [hRd]
    unfold AskPost aqV at hask
    simp only at hask
    generalize hQ : (⟨(K : Int), L, t, (a : Int), B, (d : Int)⟩ : Aq) = q at *
    replace hQ := Lib.hid hQ
    replace st13 := Lib.hid st13
    replace hask := Lib.hid hask
    replace hisA := Lib.hid hisA
    replace hRd := Lib.hid hRd
    clear htk hrd g stx st11 c0 c1 hAq hR h1 h3 h4 h5 hK hmid ha hd hB64 hsm
    go_upto_region 10 with fail
    rw [← hW13]
    clear hW13 fx q0 q1 q2 q3 q4 q5
    obtain ⟨q0, q1, q2, q3, q4, q5⟩ := aqb_cells st13.out.out
    by_cases ok : okA q
    · have hask2 := hask.out
      rw [if_pos ok] at hask2
      replace hask2 := Lib.hid hask2
      clear hask
      go_wp2_with fail
      refine hask2.out.mono ?_
      rintro e W14 ⟨rfl, g14⟩
      have st14 := raAt_gr st13.out g14
      clear q0 q1 q2 q3 q4 q5 g14 hask2 st13
      obtain ⟨q0, q1, q2, q3, q4, q5⟩ := aqb_cells st14.out
      obtain ⟨c0, c1, _, _⟩ := Rq.rdr_cells st14.rdr
      replace st14 := Lib.hid st14
      cases bad5 with
      | true =>
        have hno : Hid (¬ IsAskL b) := fun k => by have := (hisA.out.1 k).1; cases this
        clear q0 q1 q2 q3 q4 q5
        have hth := aqb_there st14.out.res
        have hsame := World.rangeAt_setCells_same W14 w.heap.size 0 [.int .i64 0, .slice none 0 0, .string ⟨#[]⟩, .int .i64 0, .int .i64 0, .int .i64 0] hth
        have r0 := hsame 0 _ rfl
        have r1 := hsame 1 _ rfl
        have r2 := hsame 2 _ rfl
        have r3 := hsame 3 _ rfl
        have r4 := hsame 4 _ rfl
        have r5 := hsame 5 _ rfl
        simp only [Nat.zero_add] at r0 r1 r2 r3 r4 r5
        have hgs := gr_setCells W14 w.heap.size 0 [.int .i64 0, .slice none 0 0, .string ⟨#[]⟩, .int .i64 0, .int .i64 0, .int .i64 0]
        have hgf : Gr w (W14.setCells w.heap.size 0 [.int .i64 0, .slice none 0 0, .string ⟨#[]⟩, .int .i64 0, .int .i64 0, .int .i64 0]) := gr_of_below (below_gr st14.out.bel hgs st14.out.bel.size (by intro k hk; cases hk; exact Nat.le_refl _)) (Nat.le_refl _)
        replace hgf := Lib.hid hgf
        clear hsame hgs
        go_wp2_with (refine wpList_store_mid (op := ⟨none, _, _, _, _, _⟩) rfl 57 _ _ rfl w.heap.size 0 #[.int .i64 0, .slice none 0 0, .string ⟨#[]⟩, .int .i64 0, .int .i64 0, .int .i64 0] rfl rfl hth infoAq (by simp [Value.oneCell']) ?_)
        (try simp only [Exit.inBlock, Exit.then])
        refine bodyPost_ret (by simp [results, Tryz.results17, go_sem, r0, r1, r2, r3, r4, r5]; try rfl) rfl ?_
        exact ⟨.inr ⟨hno.out, rfl⟩, hgf.out⟩
      | false =>
        by_cases hq : askL q = b
        · have hqb : (askL q == b) = true := by rw [hq]; exact beq_self_eq_true b
          have hyes : Hid (IsAskL b) := hisA.out.2 ⟨rfl, ok, hq⟩
          clear hq
          have hth := aqb_there st14.out.res
          have hsame := World.rangeAt_setCells_same W14 w.heap.size 0 [.int .i64 (K : Int), .slice A n c, .string (txt t), .int .i64 (a : Int), .int .i64 B, .int .i64 (d : Int)] hth
          have r0 := hsame 0 _ rfl
          have r1 := hsame 1 _ rfl
          have r2 := hsame 2 _ rfl
          have r3 := hsame 3 _ rfl
          have r4 := hsame 4 _ rfl
          have r5 := hsame 5 _ rfl
          simp only [Nat.zero_add] at r0 r1 r2 r3 r4 r5
          have hgs := gr_setCells W14 w.heap.size 0 [.int .i64 (K : Int), .slice A n c, .string (txt t), .int .i64 (a : Int), .int .i64 B, .int .i64 (d : Int)]
          have hgf : Gr w (W14.setCells w.heap.size 0 [.int .i64 (K : Int), .slice A n c, .string (txt t), .int .i64 (a : Int), .int .i64 B, .int .i64 (d : Int)]) := gr_of_below (below_gr st14.out.bel hgs st14.out.bel.size (by intro k hk; cases hk; exact Nat.le_refl _)) (Nat.le_refl _)
          have hof := own_far st14.out.own st14.out.res (by decide) hgs
          replace hof := Lib.hid hof
          replace hgf := Lib.hid hgf
          clear hsame hgs
          go_wp2_with (refine wpList_store_mid (op := ⟨none, _, _, _, _, _⟩) rfl 57 _ _ rfl w.heap.size 0 #[.int .i64 (K : Int), .slice A n c, .string (txt t), .int .i64 (a : Int), .int .i64 B, .int .i64 (d : Int)] rfl rfl hth infoAq (by simp [Value.oneCell']) ?_)
          (try simp only [Exit.inBlock, Exit.then])
          refine bodyPost_ret (by simp [results, Tryz.results17, go_sem, r0, r1, r2, r3, r4, r5]; try rfl) rfl ?_
          unfold ReadPost
          rw [hRd.out, ← hQ.out]
          simp only
          rw [← hn.out]
          exact ⟨.inl ⟨hyes.out, A, c, rfl, hof.out⟩, hgf.out⟩
        · have hqb : (askL q == b) = false := beq_eq_false_iff_ne.2 hq
          have hno : Hid (¬ IsAskL b) := fun k => hq (hisA.out.1 k).2.2
          clear hq q0 q1 q2 q3 q4 q5
          have hth := aqb_there st14.out.res
          have hsame := World.rangeAt_setCells_same W14 w.heap.size 0 [.int .i64 0, .slice none 0 0, .string ⟨#[]⟩, .int .i64 0, .int .i64 0, .int .i64 0] hth
          have r0 := hsame 0 _ rfl
          have r1 := hsame 1 _ rfl
          have r2 := hsame 2 _ rfl
          have r3 := hsame 3 _ rfl
          have r4 := hsame 4 _ rfl
          have r5 := hsame 5 _ rfl
          simp only [Nat.zero_add] at r0 r1 r2 r3 r4 r5
          have hgs := gr_setCells W14 w.heap.size 0 [.int .i64 0, .slice none 0 0, .string ⟨#[]⟩, .int .i64 0, .int .i64 0, .int .i64 0]
          have hgf : Gr w (W14.setCells w.heap.size 0 [.int .i64 0, .slice none 0 0, .string ⟨#[]⟩, .int .i64 0, .int .i64 0, .int .i64 0]) := gr_of_below (below_gr st14.out.bel hgs st14.out.bel.size (by intro k hk; cases hk; exact Nat.le_refl _)) (Nat.le_refl _)
          replace hgf := Lib.hid hgf
          clear hsame hgs
          go_wp2_with (refine wpList_store_mid (op := ⟨none, _, _, _, _, _⟩) rfl 57 _ _ rfl w.heap.size 0 #[.int .i64 0, .slice none 0 0, .string ⟨#[]⟩, .int .i64 0, .int .i64 0, .int .i64 0] rfl rfl hth infoAq (by simp [Value.oneCell']) ?_)
          (try simp only [Exit.inBlock, Exit.then])
          refine bodyPost_ret (by simp [results, Tryz.results17, go_sem, r0, r1, r2, r3, r4, r5]; try rfl) rfl ?_
          exact ⟨.inr ⟨hno.out, rfl⟩, hgf.out⟩
    · have hask2 := hask.out
      rw [if_neg ok] at hask2
      replace hask2 := Lib.hid hask2
      have hno : Hid (¬ IsAskL b) := fun k => ok (hisA.out.1 k).2.1
      clear hask
      go_wp2_with fail
      refine hask2.out.mono ?_
      rintro e W14 ⟨rfl, g14⟩
      have st14 := raAt_gr st13.out g14
      clear q0 q1 q2 q3 q4 q5 g14 hask2 st13
      obtain ⟨c0, c1, _, _⟩ := Rq.rdr_cells st14.rdr
      replace st14 := Lib.hid st14
      cases bad5 with
      | true =>
        have hth := aqb_there st14.out.res
        have hsame := World.rangeAt_setCells_same W14 w.heap.size 0 [.int .i64 0, .slice none 0 0, .string ⟨#[]⟩, .int .i64 0, .int .i64 0, .int .i64 0] hth
        have r0 := hsame 0 _ rfl
        have r1 := hsame 1 _ rfl
        have r2 := hsame 2 _ rfl
        have r3 := hsame 3 _ rfl
        have r4 := hsame 4 _ rfl
        have r5 := hsame 5 _ rfl
        simp only [Nat.zero_add] at r0 r1 r2 r3 r4 r5
        have hgs := gr_setCells W14 w.heap.size 0 [.int .i64 0, .slice none 0 0, .string ⟨#[]⟩, .int .i64 0, .int .i64 0, .int .i64 0]
        have hgf : Gr w (W14.setCells w.heap.size 0 [.int .i64 0, .slice none 0 0, .string ⟨#[]⟩, .int .i64 0, .int .i64 0, .int .i64 0]) := gr_of_below (below_gr st14.out.bel hgs st14.out.bel.size (by intro k hk; cases hk; exact Nat.le_refl _)) (Nat.le_refl _)
        replace hgf := Lib.hid hgf
        clear hsame hgs
        go_wp2_with (refine wpList_store_mid (op := ⟨none, _, _, _, _, _⟩) rfl 57 _ _ rfl w.heap.size 0 #[.int .i64 0, .slice none 0 0, .string ⟨#[]⟩, .int .i64 0, .int .i64 0, .int .i64 0] rfl rfl hth infoAq (by simp [Value.oneCell']) ?_)
        (try simp only [Exit.inBlock, Exit.then])
        refine bodyPost_ret (by simp [results, Tryz.results17, go_sem, r0, r1, r2, r3, r4, r5]; try rfl) rfl ?_
        exact ⟨.inr ⟨hno.out, rfl⟩, hgf.out⟩
      | false =>
        have hth := aqb_there st14.out.res
        have hsame := World.rangeAt_setCells_same W14 w.heap.size 0 [.int .i64 0, .slice none 0 0, .string ⟨#[]⟩, .int .i64 0, .int .i64 0, .int .i64 0] hth
        have r0 := hsame 0 _ rfl
        have r1 := hsame 1 _ rfl
        have r2 := hsame 2 _ rfl
        have r3 := hsame 3 _ rfl
        have r4 := hsame 4 _ rfl
        have r5 := hsame 5 _ rfl
        simp only [Nat.zero_add] at r0 r1 r2 r3 r4 r5
        have hgs := gr_setCells W14 w.heap.size 0 [.int .i64 0, .slice none 0 0, .string ⟨#[]⟩, .int .i64 0, .int .i64 0, .int .i64 0]
        have hgf : Gr w (W14.setCells w.heap.size 0 [.int .i64 0, .slice none 0 0, .string ⟨#[]⟩, .int .i64 0, .int .i64 0, .int .i64 0]) := gr_of_below (below_gr st14.out.bel hgs st14.out.bel.size (by intro k hk; cases hk; exact Nat.le_refl _)) (Nat.le_refl _)
        replace hgf := Lib.hid hgf
        clear hsame hgs
        go_wp2_with (refine wpList_store_mid (op := ⟨none, _, _, _, _, _⟩) rfl 57 _ _ rfl w.heap.size 0 #[.int .i64 0, .slice none 0 0, .string ⟨#[]⟩, .int .i64 0, .int .i64 0, .int .i64 0] rfl rfl hth infoAq (by simp [Value.oneCell']) ?_)
        (try simp only [Exit.inBlock, Exit.then])
        refine bodyPost_ret (by simp [results, Tryz.results17, go_sem, r0, r1, r2, r3, r4, r5]; try rfl) rfl ?_
        exact ⟨.inr ⟨hno.out, rfl⟩, hgf.out⟩
end Go.Proofs.YtbnacoakjhhndaaGreat
namespace Go.Proofs.YtbnacoakjhhndaaGreat
open Go.RowKit

theorem builderLen_any (b : Nat) (l : List UInt8) (w : World) (h : Bld b l w) : Calls Tryz.prog 23 #[.pointer (some ⟨b, 0, none⟩)] w fun e w' => e = .returned (.int .i64 l.length) ∧ w' = w := by
  have := Tryz.Builder_Len_f b b _ w h.1
  rw [Lib.byteCells_length] at this
  exact this
theorem be3 : beI 3 = [0, 0, 0, 3] := by decide +kernel
def repB : List UInt8 := [0, 0, 0, 0, 3, 4, 112, 51, 46, 48, 0]
def repV : Value := .agg #[.int .i64 0, .int .i64 3, .string (txt [112, 51, 46, 48]), .slice none 0 0]
theorem below_le9 {B B' : Nat} {w w' : World} (h : Below B w w') (hB : B' ≤ B) : Below B' w w' := ⟨h.os, h.tape, h.output, h.size, fun k hk => h.block k (Nat.lt_of_lt_of_le hk hB)⟩
theorem below_cell {B : Nat} {w w' : World} {a : Addr} {v : Value} (h : Below B w w') (hc : w.cell? a = some v) (hb : a.block < B) : w'.cell? a = some v := (h.cell hb).trans hc
set_option maxHeartbeats 16000000 in
set_option maxRecDepth 100000 in
theorem reply0_any (w : World) : Calls Tryz.prog 6 #[repV] w fun e w' => e = .returned (.tuple #[.string (txt (Crc.frm repB)), .int .i64 0]) ∧ Gr w w' := by
  unfold repV
  obtain ⟨W1, hW1⟩ : ∃ W1, W1 = w.alloc (.cells #[.int .i64 0, .int .i64 3, .string (txt [112, 51, 46, 48]), .slice none 0 0] 25) := ⟨_, rfl⟩
  have g1 : Gr w W1 := by rw [hW1]; exact gr_alloc _ _ _
  have hs1 : W1.heap.size = w.heap.size + 1 := by rw [hW1]; simp
  have hc : ∀ j x, (#[.int .i64 0, .int .i64 3, .string (txt [112, 51, 46, 48]), .slice none 0 0] : Array Value)[j]? = some x → W1.cell? ⟨w.heap.size, j, none⟩ = some x := fun j x hj => by rw [hW1, World.cell?_alloc_new]; exact hj
  obtain ⟨W2, hW2⟩ : ∃ W2, W2 = W1.alloc (.cells #[.pointer none, .slice none 0 0] 64) := ⟨_, rfl⟩
  have hbld := bld_new W1
  rw [← hW2] at hbld
  have g2 : Gr W1 W2 := by rw [hW2]; exact gr_alloc _ _ _
  have hC : ∀ W, Below W1.heap.size W2 W → (W.cell? ⟨w.heap.size, 0, none⟩ = some (.int .i64 0) ∧ W.cell? ⟨w.heap.size, 1, none⟩ = some (.int .i64 3) ∧ W.cell? ⟨w.heap.size, 2, none⟩ = some (.string (txt [112, 51, 46, 48])) ∧ W.cell? ⟨w.heap.size, 3, none⟩ = some (.slice none 0 0)) := fun W h =>
    ⟨below_cell h (gr_cell g2 (hc 0 _ rfl)) (by simp only; omega), below_cell h (gr_cell g2 (hc 1 _ rfl)) (by simp only; omega), below_cell h (gr_cell g2 (hc 2 _ rfl)) (by simp only; omega), below_cell h (gr_cell g2 (hc 3 _ rfl)) (by simp only; omega)⟩
  have G2 : Gr w W2 := gr_trans g1 g2
  have d0 := hc 0 _ rfl
  have d1 := hc 1 _ rfl
  have d2 := hc 2 _ rfl
  have d3 := hc 3 _ rfl
  obtain ⟨B, hB⟩ : ∃ B, B = W1.heap.size := ⟨_, rfl⟩
  rw [← hB] at hbld hC
  have hBw : w.heap.size ≤ B := by omega
  have hbs : B ≤ W2.heap.size := hbld.2
  have num3 := fun W => anum_any 3 W
  rw [be3] at num3
  replace hbld := Lib.hid hbld
  replace hC := Lib.hid hC
  replace G2 := Lib.hid G2
  replace num3 := Lib.hid num3
  clear hc g1 g2 hs1
  go_enter Tryz.func6, Tryz.ntmps6
  go_upto_region 1 with fail
  rw [← hW1]
  clear hW1
  go_upto_region 4 with fail
  rw [← hW2, ← hB]
  clear hW2 hB d0 d1 d2 d3
  obtain ⟨d0, d1, d2, d3⟩ := hC.out W2 (Below.refl _ _)
  have hw := writeByte_any B [] 0 0 rfl W2 hbld.out (by decide)
  replace hw := Lib.hid hw
  go_wp2_with fail
  refine hw.out.mono ?_
  rintro e w3 ⟨rfl, hb3, hk3⟩
  have bel3 := hk3.bel
  clear d0 d1 d2 d3 hw hbld hk3
  obtain ⟨d0, d1, d2, d3⟩ := hC.out w3 bel3
  replace hb3 := Lib.hid hb3
  replace bel3 := Lib.hid bel3
  go_wp2_with fail
  refine (num3.out _).mono ?_
  rintro e w4 ⟨rfl, g4⟩
  have hb4 := bld_gr hb3.out g4
  have bel4 := below_gr bel3.out g4 (Nat.le_trans hbs bel3.out.size) (by simp)
  have hw := writeString_any B _ [0, 0, 0, 3] w4 hb4 (by decide) (by decide)
  clear d0 d1 d2 d3 g4 hb3 bel3
  obtain ⟨d0, d1, d2, d3⟩ := hC.out w4 bel4
  replace hw := Lib.hid hw
  replace bel4 := Lib.hid bel4
  clear hb4
  go_wp2_with fail
  refine hw.out.mono ?_
  rintro e w5 ⟨rfl, hb5, hk5⟩
  have bel5 := bel4.out.trans hk5.bel
  have hw2 := writeByte_any B _ 4 4 rfl w5 hb5 (by decide)
  clear d0 d1 d2 d3 hw hk5 bel4 hb5
  obtain ⟨d0, d1, d2, d3⟩ := hC.out w5 bel5
  replace hw2 := Lib.hid hw2
  replace bel5 := Lib.hid bel5
  go_wp2_with fail
  refine hw2.out.mono ?_
  rintro e w6 ⟨rfl, hb6, hk6⟩
  have bel6 := bel5.out.trans hk6.bel
  have hw3 := writeString_any B _ [112, 51, 46, 48] w6 hb6 (by decide) (by decide)
  clear d0 d1 d2 d3 hw2 hk6 bel5 hb6
  obtain ⟨d0, d1, d2, d3⟩ := hC.out w6 bel6
  replace hw3 := Lib.hid hw3
  replace bel6 := Lib.hid bel6
  go_wp2_with fail
  refine hw3.out.mono ?_
  rintro e w7 ⟨rfl, hb7, hk7⟩
  have bel7 := bel6.out.trans hk7.bel
  have hw4 := writeByte_any B _ 0 0 rfl w7 hb7 (by decide)
  clear d0 d1 d2 d3 hw3 hk7 bel6 hb7
  obtain ⟨d0, d1, d2, d3⟩ := hC.out w7 bel7
  replace hw4 := Lib.hid hw4
  replace bel7 := Lib.hid bel7
  go_wp2_with fail
  refine hw4.out.mono ?_
  rintro e w8 ⟨rfl, hb8, hk8⟩
  have bel8 := bel7.out.trans hk8.bel
  have hb8' : Bld B repB w8 := hb8
  have hln := builderLen_any B repB w8 hb8'
  have hst := builderString_any B repB w8 hb8'
  clear d0 d1 d2 d3 hw4 hk8 bel7 hb8 hb8'
  obtain ⟨d0, d1, d2, d3⟩ := hC.out w8 bel8
  replace hln := Lib.hid hln
  replace hst := Lib.hid hst
  replace bel8 := Lib.hid bel8
  go_wp2
  refine wp_loop_rounds 1 ?_
  rw [rounds_succ]
  go_wp2_with fail
  refine hln.out.mono ?_
  rintro e w9 ⟨rfl, rfl⟩
  have hl11 : repB.length = 11 := rfl
  rw [hl11]
  go_wp2_with fail
  refine hst.out.mono ?_
  rintro e w10 ⟨rfl, hb10, hk10⟩
  have bel10 := bel8.out.trans hk10.bel
  have hf := frame_any (txt repB) w10 (by rw [txt_size]; decide)
  rw [txt_data] at hf
  replace hf := Lib.hid hf
  replace bel10 := Lib.hid bel10
  clear hb10 hk10 bel8 hst hln
  go_wp2_with fail
  refine hf.out.mono ?_
  rintro e w11 ⟨rfl, g11⟩
  go_wp2
  go_ret2
  exact ⟨rfl, gr_trans (gr_of_below ((gr_below G2.out).trans (below_le9 bel10.out hBw)) (Nat.le_refl _)) g11⟩
end Go.Proofs.YtbnacoakjhhndaaGreat
namespace Go.Proofs.YtbnacoakjhhndaaGreat
open Go.RowKit

def RpB (w : World) (b : Nat) (x y : Int) (t : List UInt8) : Prop := w.heap[b]? = some (.cells #[.int .i64 x, .int .i64 y, .string (txt t), .slice none 0 0] 25 (0, 0))
theorem rpb_cells {w : World} {b : Nat} {x y : Int} {t : List UInt8} (h : RpB w b x y t) : w.cell? ⟨b, 0, none⟩ = some (.int .i64 x) ∧ w.cell? ⟨b, 1, none⟩ = some (.int .i64 y) ∧ w.cell? ⟨b, 2, none⟩ = some (.string (txt t)) ∧ w.cell? ⟨b, 3, none⟩ = some (.slice none 0 0) := ⟨fcellR h rfl, fcellR h rfl, fcellR h rfl, fcellR h rfl⟩
theorem rpb_there {w : World} {b : Nat} {x y : Int} {t : List UInt8} (h : RpB w b x y t) : w.there b 0 4 := fun j hj => ⟨by
  obtain ⟨c0, c1, c2, c3⟩ := rpb_cells h
  match j, hj with
  | 0, _ => rw [c0]; rfl
  | 1, _ => rw [c1]; rfl
  | 2, _ => rw [c2]; rfl
  | 3, _ => rw [c3]; rfl
  | j + 4, hj => omega, fzeroR h _⟩
theorem infoRp : (Tryz.prog.info? 25).map (·.size) = some 4 := by kernel_rfl
/-- What is at hand while the reply is read. -/
structure RrAt (w wr : World) (b p : Nat) (l : List UInt8) (x y : Int) (t : List UInt8) : Prop where
  res : RpB wr w.heap.size 0 0 []
  rdr : Rq.Rdr wr b l false
  out : RpB wr p x y t
  bel : Below w.heap.size w wr
  hb : w.heap.size < b
  hp : b < p
theorem rrAt_gr {w wr w2 : World} {b p : Nat} {l : List UInt8} {x y : Int} {t : List UInt8} (h : RrAt w wr b p l x y t) (g : Gr wr w2) : RrAt w w2 b p l x y t :=
  ⟨gr_blk g h.res (by simp), Rq.rdr_gr h.rdr g, gr_blk g h.out (by simp), below_gr h.bel g h.bel.size (by simp), h.hb, h.hp⟩
theorem rrAt_rd {w wr w2 : World} {b p : Nat} {l l2 : List UInt8} {x y : Int} {t : List UInt8} (h : RrAt w wr b p l x y t) (hr : Rq.Rdr w2 b l2 false) (g : GrB b wr w2) : RrAt w w2 b p l2 x y t :=
  ⟨gr_blk g h.res (by have := h.hb; simp; omega), hr, gr_blk g h.out (by have := h.hp; simp; omega), below_gr h.bel g h.bel.size (by intro j hj; cases hj; have := h.hb; omega), h.hb, h.hp⟩
theorem rrAt_set {w wr : World} {b p : Nat} {l : List UInt8} {x y x2 y2 : Int} {t t2 : List UInt8} (h : RrAt w wr b p l x y t) (j : Nat) (v : Value) (ho : RpB (wr.setCell ⟨p, j, none⟩ v) p x2 y2 t2) : RrAt w (wr.setCell ⟨p, j, none⟩ v) b p l x2 y2 t2 := by
  have g := gr_set wr ⟨p, j, none⟩ v
  have h1 := h.hb
  have h2 := h.hp
  exact ⟨gr_blk g h.res (by simp; omega), gr_blk g h.rdr (by simp; omega), ho, below_gr h.bel g h.bel.size (by intro j hj; cases hj; simp; omega), h1, h2⟩
theorem open_rep : openS (Crc.frm repB) = (repB, false) := by
  have ht := Crc.take_frm repB [] (by decide)
  rw [List.append_nil] at ht
  unfold openS
  rw [ht]
  simp
theorem num_step (b n : Nat) (l x l2 : List UInt8) (N : Nat) (w : World) (h : Rq.Rdr w b l false) (hn : n ≤ 6) (hm : l.length ≤ 100) (hx : tkS n (l, false) = (x, (l2, false))) (hN : dvN x = N) : Calls Tryz.prog 28 #[.pointer (some ⟨b, 0, none⟩), .int .i64 n] w fun e w' => Rq.RdPost b w e w' (.int .i64 N) l2 false := by
  have := Rq.num_any b n l false w h hn (by omega)
  rw [hx] at this
  simp only at this
  rw [hN] at this
  exact this
set_option maxHeartbeats 16000000 in
set_option maxRecDepth 100000 in
theorem readReply0_any (w : World) : Calls Tryz.prog 10 #[.string (txt (Crc.frm repB))] w fun e w' => e = .returned (.tuple #[repV, .int .i64 0]) ∧ Gr w w' := by
  have hop := fun W => opened_any (Crc.frm repB) W (by rw [Crc.frm_length]; decide)
  unfold OpenPost at hop
  rw [open_rep] at hop
  have cRp := fun W => reply0_any W
  unfold repV at cRp ⊢
  have hrl : repB = [0, 0, 0, 0, 3, 4, 112, 51, 46, 48, 0] := rfl
  generalize hF : Crc.frm repB = F at *
  rw [hrl] at hop
  have hFF : (F == F) = true := beq_self_eq_true F
  obtain ⟨W1, hW1⟩ : ∃ W1, W1 = w.alloc (.cells #[.int .i64 0, .int .i64 0, .string ⟨#[]⟩, .slice none 0 0] 25) := ⟨_, rfl⟩
  have g1 : Gr w W1 := by rw [hW1]; exact gr_alloc _ _ _
  have hres : RpB W1 w.heap.size 0 0 [] := by rw [hW1]; exact blk_new w _
  have hs1 : W1.heap.size = w.heap.size + 1 := by rw [hW1]; simp
  replace hop := Lib.hid hop
  replace cRp := Lib.hid cRp
  replace hres := Lib.hid hres
  replace g1 := Lib.hid g1
  replace hs1 := Lib.hid hs1
  clear hrl hF
  go_enter Tryz.func10, Tryz.ntmps10
  go_upto_region 1 with fail
  rw [← hW1]
  clear hW1
  go_wp2_with fail
  refine (hop.out _).mono ?_
  rintro e W2 ⟨bb, rfl, hbb, hrd2, g2⟩
  have hnum := num_step bb 1 _ [0] [0, 0, 0, 3, 4, 112, 51, 46, 48, 0] 0 W2 hrd2 (by decide) (by decide) (by decide +kernel) (by decide +kernel)
  have hres2 : RpB W2 w.heap.size 0 0 [] := gr_blk g2 hres.out (by simp)
  have G2 := gr_trans g1.out g2
  replace hnum := Lib.hid hnum
  clear hop hrd2 g2 hres
  go_wp2_with fail
  refine hnum.out.mono ?_
  rintro e W3 ⟨rfl, hrd3, g3⟩
  obtain ⟨W4, hW4⟩ : ∃ W4, W4 = W3.alloc (.cells #[.int .i64 0, .int .i64 0, .string ⟨#[]⟩, .slice none 0 0] 25) := ⟨_, rfl⟩
  have g4 : Gr W3 W4 := by rw [hW4]; exact gr_alloc _ _ _
  have st4 : RrAt w W4 bb W3.heap.size [0, 0, 0, 3, 4, 112, 51, 46, 48, 0] 0 0 [] := by
    have hs := hs1.out
    refine ⟨gr_blk g4 (gr_blk g3 hres2 (by simp; omega)) (by simp), Rq.rdr_gr hrd3 g4, ?_, ?_, by omega, lt_of_blk hrd3⟩
    · rw [hW4]; exact blk_new W3 _
    · have b2 := gr_below G2
      have b3 := below_gr b2 g3 b2.size (by intro k hk; cases hk; omega)
      exact below_gr b3 g4 b3.size (by simp)
  obtain ⟨p, hpp⟩ : ∃ p, p = W3.heap.size := ⟨_, rfl⟩
  rw [← hpp] at st4
  replace hpp := Lib.hid hpp
  replace st4 := Lib.hid st4
  clear hnum hrd3 g3 g4 hres2 G2 g1 hs1
  go_upto_region 3 with fail
  rw [← hW4, ← hpp.out]
  clear hW4 hpp
  have hnum := num_step bb 4 _ [0, 0, 0, 3] [4, 112, 51, 46, 48, 0] 3 W4 st4.out.rdr (by decide) (by decide) (by decide +kernel) (by decide +kernel)
  replace hnum := Lib.hid hnum
  go_wp2_with fail
  refine hnum.out.mono ?_
  rintro e W5 ⟨rfl, hrd, g⟩
  have st5 := rrAt_rd st4.out hrd g
  obtain ⟨q0, q1, q2, q3⟩ := rpb_cells st5.out
  have f1 : W5.frozen? ⟨p, 1, none⟩ = false := fzeroR st5.out 1
  have st6 := rrAt_set st5 1 (.int .i64 3) (x2 := 0) (y2 := 3) (t2 := []) (blk_set st5.out 1 _)
  obtain ⟨W6, hW6⟩ : ∃ W6, W6 = W5.setCell ⟨p, 1, none⟩ (.int .i64 3) := ⟨_, rfl⟩
  rw [← hW6] at st6
  replace st6 := Lib.hid st6
  clear hnum hrd g st5 st4
  go_upto_region 4 with fail
  rw [← hW6]
  clear hW6 q0 q1 q2 q3 f1
  have hnum := num_step bb 1 _ [4] [112, 51, 46, 48, 0] 4 W6 st6.out.rdr (by decide) (by decide) (by decide +kernel) (by decide +kernel)
  replace hnum := Lib.hid hnum
  go_wp2_with fail
  refine hnum.out.mono ?_
  rintro e W7 ⟨rfl, hrd, g⟩
  have st7 := rrAt_rd st6.out hrd g
  have htk : Calls Tryz.prog 29 #[.pointer (some ⟨bb, 0, none⟩), .int .i64 (4 : Nat)] W7 fun e w' => Rq.RdPost bb W7 e w' (.string (txt [112, 51, 46, 48])) [0] false := by
    have := Rq.take_any bb 4 [112, 51, 46, 48, 0] false W7 st7.rdr (by decide) (by decide)
    rw [show tkS 4 ([112, 51, 46, 48, 0], false) = ([112, 51, 46, 48], ([0], false)) from by decide +kernel] at this
    exact this
  replace htk := Lib.hid htk
  replace st7 := Lib.hid st7
  clear hnum hrd g st6
  go_wp2_with fail
  refine htk.out.mono ?_
  rintro e W8 ⟨rfl, hrd, g⟩
  have st8 := rrAt_rd st7.out hrd g
  obtain ⟨q0, q1, q2, q3⟩ := rpb_cells st8.out
  have f2 : W8.frozen? ⟨p, 2, none⟩ = false := fzeroR st8.out 2
  have st9 := rrAt_set st8 2 (.string (txt [112, 51, 46, 48])) (x2 := 0) (y2 := 3) (t2 := [112, 51, 46, 48]) (blk_set st8.out 2 _)
  obtain ⟨W9, hW9⟩ : ∃ W9, W9 = W8.setCell ⟨p, 2, none⟩ (.string (txt [112, 51, 46, 48])) := ⟨_, rfl⟩
  rw [← hW9] at st9
  replace st9 := Lib.hid st9
  clear htk hrd g st8 st7
  go_upto_region 5 with fail
  rw [← hW9]
  clear hW9 q0 q1 q2 q3 f2
  have hnum := num_step bb 1 _ [0] [] 0 W9 st9.out.rdr (by decide) (by decide) (by decide +kernel) (by decide +kernel)
  replace hnum := Lib.hid hnum
  go_wp2_with fail
  refine hnum.out.mono ?_
  rintro e W10 ⟨rfl, hrd, g⟩
  have st10 := rrAt_rd st9.out hrd g
  obtain ⟨q0, q1, q2, q3⟩ := rpb_cells st10.out
  replace st10 := Lib.hid st10
  clear hnum hrd g st9
  go_wp2
  refine wp_loop_rounds 1 ?_
  rw [rounds_succ]
  go_wp2_with fail
  refine (cRp.out _).mono ?_
  rintro e W11 ⟨rfl, g11⟩
  have st11 := rrAt_gr st10.out g11
  clear q0 q1 q2 q3 g11 st10
  obtain ⟨q0, q1, q2, q3⟩ := rpb_cells st11.out
  obtain ⟨c0, c1, _, _⟩ := Rq.rdr_cells st11.rdr
  have hth := rpb_there st11.res
  have hsame := World.rangeAt_setCells_same W11 w.heap.size 0 [.int .i64 0, .int .i64 3, .string (txt [112, 51, 46, 48]), .slice none 0 0] hth
  have r0 := hsame 0 _ rfl
  have r1 := hsame 1 _ rfl
  have r2 := hsame 2 _ rfl
  have r3 := hsame 3 _ rfl
  simp only [Nat.zero_add] at r0 r1 r2 r3
  have hgs := gr_setCells W11 w.heap.size 0 [.int .i64 0, .int .i64 3, .string (txt [112, 51, 46, 48]), .slice none 0 0]
  have hgf : Gr w (W11.setCells w.heap.size 0 [.int .i64 0, .int .i64 3, .string (txt [112, 51, 46, 48]), .slice none 0 0]) := gr_of_below (below_gr st11.bel hgs st11.bel.size (by intro k hk; cases hk; exact Nat.le_refl _)) (Nat.le_refl _)
  replace hgf := Lib.hid hgf
  clear hsame hgs st11
  go_wp2_with (refine wpList_store_mid (op := ⟨none, _, _, _, _, _⟩) rfl 25 _ _ rfl w.heap.size 0 #[.int .i64 0, .int .i64 3, .string (txt [112, 51, 46, 48]), .slice none 0 0] rfl rfl hth infoRp (by simp [Value.oneCell']) ?_)
  (try simp only [Exit.inBlock, Exit.then])
  refine bodyPost_ret (by simp [results, Tryz.results10, go_sem, r0, r1, r2, r3]; try rfl) rfl ?_
  exact ⟨rfl, hgf.out⟩
def aq0 : Aq := ⟨3, [], [99, 112, 117], 5, 10, 7⟩
theorem aq0_ok : okA aq0 := by decide +kernel
theorem aq2_ok : okA ⟨2, [], [], 0, 0, 0⟩ := by decide +kernel
theorem aqOk_nil (w : World) (q : Aq) (h : q.l = []) (ht : q.t.length ≤ 1000) (hb : 0 ≤ q.b ∧ q.b ≤ 1000) : AqOk w none 0 0 q := ⟨by rw [h]; rfl, by decide, by omega, fun _ => ⟨rfl, rfl⟩, by rw [h]; exact row_nil _ _ _, by rw [h]; intro x hx; simp at hx, by omega⟩
theorem isAsk_inj {b : List UInt8} {q : Aq} (ho : okA q) (e : b = askL q) : IsAskL b ∧ (readA b).1 = q := by subst e; exact ⟨isAsk_of ho, by rw [read_ask ho]⟩
set_option maxHeartbeats 16000000 in
set_option maxRecDepth 100000 in
theorem alive_any (w : World) : Calls Tryz.prog 5 #[] w fun e w' => e = .returned (.bool true) ∧ Gr w w' := by
  have cA := ask_any none 0 0 aq0 w (aqOk_nil w aq0 rfl (by decide) (by decide))
  unfold AskPost at cA
  rw [if_pos aq0_ok] at cA
  obtain ⟨F, hF⟩ : ∃ F, F = askL aq0 := ⟨_, rfl⟩
  have hFl : F.length ≤ 100000 := by rw [hF]; unfold askL; rw [Crc.frm_length]; have := bodyL_len aq0_ok; omega
  obtain ⟨his, hq⟩ := isAsk_inj aq0_ok hF
  rw [← hF] at cA
  have cB := fun W => readAsk_any F W hFl
  unfold ReadPost at cB
  rw [hq] at cB
  have cC := fun W => reply0_any W
  have cD := fun W => readReply0_any W
  have cE := fun W => aright_any none 0 0 ⟨2, [], [], 0, 0, 0⟩ W (aqOk_nil W ⟨2, [], [], 0, 0, 0⟩ rfl (by decide) (by decide))
  rw [decide_eq_true aq2_ok] at cE
  unfold aqV aq0 at cA cB
  unfold aqV at cE
  simp only at cA cB cE
  unfold repV at cC cD
  generalize Crc.frm repB = R at *
  replace cA := Lib.hid cA
  replace cB := Lib.hid cB
  replace cC := Lib.hid cC
  replace cD := Lib.hid cD
  replace cE := Lib.hid cE
  replace his := Lib.hid his
  clear hF hq hFl
  go_enter Tryz.func5, Tryz.ntmps5
  go_wp2_with fail
  refine cA.out.mono ?_
  rintro e W1 ⟨rfl, g1⟩
  go_wp2_with fail
  refine (cB.out _).mono ?_
  rintro e W2 ⟨⟨_, A, c, rfl, hown⟩ | ⟨hno, rfl⟩, g2⟩
  · obtain ⟨W3, hW3⟩ : ∃ W3, W3 = W2.alloc (.cells #[.int .i64 3, .slice A 0 c, .string (txt [99, 112, 117]), .int .i64 5, .int .i64 10, .int .i64 7] 57) := ⟨_, rfl⟩
    have g3 : Gr W2 W3 := by rw [hW3]; exact gr_alloc _ _ _
    have hb3 : AqB W3 W2.heap.size 3 A 0 c [99, 112, 117] 5 10 7 := by rw [hW3]; exact blk_new W2 _
    have G3 := gr_trans g1 (gr_trans g2 g3)
    replace hb3 := Lib.hid hb3
    replace G3 := Lib.hid G3
    clear hown g1 g2 g3 cA cB
    go_upto_region 3 with fail
    rw [← hW3]
    clear hW3
    go_wp2_with fail
    refine (cC.out _).mono ?_
    rintro e W4 ⟨rfl, g4⟩
    go_wp2_with fail
    refine (cD.out _).mono ?_
    rintro e W5 ⟨rfl, g5⟩
    obtain ⟨W6, hW6⟩ : ∃ W6, W6 = W5.alloc (.cells #[.int .i64 0, .int .i64 3, .string (txt [112, 51, 46, 48]), .slice none 0 0] 25) := ⟨_, rfl⟩
    have g6 : Gr W5 W6 := by rw [hW6]; exact gr_alloc _ _ _
    have hr6 : RpB W6 W5.heap.size 0 3 [112, 51, 46, 48] := by rw [hW6]; exact blk_new W5 _
    have hb6 : AqB W6 W2.heap.size 3 A 0 c [99, 112, 117] 5 10 7 := gr_blk (gr_trans g4 (gr_trans g5 g6)) hb3.out (by simp)
    have G6 := gr_trans G3.out (gr_trans g4 (gr_trans g5 g6))
    obtain ⟨p0, p1, p2, p3⟩ := rpb_cells hr6
    obtain ⟨q0, q1, q2, q3, q4, q5⟩ := aqb_cells hb6
    replace G6 := Lib.hid G6
    clear hr6 hb6 g4 g5 g6 G3 hb3 cC cD
    go_upto_region 5 with fail
    rw [← hW6]
    clear hW6
    go_wp2_with fail
    refine (cE.out _).mono ?_
    rintro e W7 ⟨rfl, g7⟩
    go_wp2
    go_ret
    exact ⟨rfl, gr_trans G6.out g7⟩
  · exact absurd his.out hno
end Go.Proofs.YtbnacoakjhhndaaGreat
