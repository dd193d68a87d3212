/-
  Whether a rune is one of those that may not stand alone: strings.ContainsRune of that text. No condition but that it is a rune.
-/
import Derived.Test.YtccmekdmnkmhlaaGreatSqPatRead
import Derived.Test.YtccmekdmnkmhlaaGreatPatRunes
import Derived.Test.YtccmekdmnkmhlaaGreatShelf
import Derived.WalkMore
namespace Go.Proofs.YtccmekdmnkmhlaaGreat
open Go.RowKit
open Go.Lib (encodeRune)

def barL : List UInt8 := [42, 43, 63, 124, 41, 93]
theorem bar_small : ∀ n, n < 128 → decide ((0 : Int) ≤ Lib.indexByte barL n.toUInt8) = decide (n = 42 ∨ n = 43 ∨ n = 63 ∨ n = 124 ∨ n = 41 ∨ n = 93) := by decide +kernel
theorem bar_high (x : UInt8) (h : 128 ≤ x.toNat) (k : Nat) : Lib.indexByte (barL.drop k) x = -1 := by
  have hn : ∀ (l : List UInt8), (∀ c ∈ l, c.toNat < 128) → Lib.indexByte l x = -1 := by
    intro l
    induction l with
    | nil => intro _; rfl
    | cons c t ih =>
      intro hc
      have h1 := hc c (by simp)
      have h2 : (c == x) = false := by
        rw [beq_eq_false_iff_ne]
        rintro rfl
        omega
      simp [Lib.indexByte, h2, ih (fun d hd => hc d (by simp [hd]))]
  exact hn _ (fun c hc => by
    have := List.mem_of_mem_drop hc
    simp only [barL, List.mem_cons, List.not_mem_nil, or_false] at this
    rcases this with rfl | rfl | rfl | rfl | rfl | rfl <;> decide)
theorem bar_chunks : chunks barL = [(42, [42]), (43, [43]), (63, [63]), (124, [124]), (41, [41]), (93, [93])] := by
  unfold barL
  rw [chunks_one _ (by decide), chunks_one _ (by decide), chunks_one _ (by decide), chunks_one _ (by decide), chunks_one _ (by decide), chunks_one _ (by decide)]
  rfl
/-- The last byte of a rune that is no ASCII. -/
theorem enc_last {r : Int} (h : RuneOk r) (h2 : 128 ≤ r) : ∃ (pre : List UInt8) (x : UInt8), encodeRune r = pre ++ [x] ∧ 128 ≤ x.toNat ∧ pre.length ≤ 3 := by
  obtain ⟨h0, h1⟩ := h
  have hx : 128 ≤ ((128 + r % 64).toNat.toUInt8).toNat := by
    have : (128 + r % 64).toNat < 256 := by omega
    have e : ((128 + r % 64).toNat.toUInt8).toNat = (128 + r % 64).toNat := by simp; omega
    omega
  unfold encodeRune Lib.encodeRuneZ
  rw [if_neg (by omega)]
  by_cases c1 : r ≤ 2047
  · rw [if_pos (by omega)]
    exact ⟨[_], _, rfl, hx, by simp⟩
  · rw [if_neg (by omega)]
    by_cases c2 : r ≤ 65535
    · rw [if_pos (by omega)]
      exact ⟨[_, _], _, rfl, hx, by simp⟩
    · rw [if_neg (by omega), if_pos (by omega)]
      exact ⟨[_, _, _], _, rfl, hx, by simp⟩
theorem get_last (pre : List UInt8) (x : UInt8) (hh : pre.length < (txt (pre ++ [x])).size) : (txt (pre ++ [x]))[pre.length]'hh = x := by
  have : (pre ++ [x]).toArray[pre.length]'(by simp) = x := by simp
  exact this
theorem bar_ext (p : Nat) : (txt barL).extract p 6 = txt (barL.drop p) := by
  have := ext_end (txt barL) p
  rw [txt_size, txt_data] at this
  exact str_eq this
set_option maxHeartbeats 4000000 in
set_option maxRecDepth 100000 in
theorem indexRune_high (r : Int) (w : World) (h : RuneOk r) (h2 : 128 ≤ r) : Calls Tryz.prog 176 #[.string (txt barL), .int .i32 r] w fun e w' => e = .returned (.int .i64 (-1)) ∧ Gr w w' := by
  have c1 : ¬ r < 128 := by omega
  have h0 : (0 : Int) ≤ r := by omega
  by_cases hbad : r = 65533
  · subst hbad
    have it0 := it_new w (txt barL)
    have bel0 := gr_below (it_new_gr w (txt barL) none)
    replace it0 := Lib.hid it0
    go_enter Tryz.func176, Tryz.ntmps176
    go_wp2
    go_loopw [] (fun wr => ∃ (p : Nat) (done : List (Nat × List UInt8)), p ≤ barL.length ∧ Hid (chunks barL = done ++ chunks (barL.drop p)) ∧ Hid (It wr w.heap.size (txt barL) p) ∧ Hid (Below w.heap.size w wr)) (fun wr => barL.length - wr.iterPos w.heap.size)
    case atStart => exact ⟨0, [], Nat.zero_le _, rfl, it0, bel0⟩
    case round =>
      obtain ⟨p, done, hp, hch, hit, hbel⟩ := hrel
      by_cases hlt : p < barL.length
      · obtain ⟨q, k, b, hR⟩ := round_at hch.out hlt
        have hn := fun ty => next_round (P := Tryz.prog) hR hit.out ty
        have hit2 := it_step hit.out (p + k)
        have hbel2 := below_gr hbel.out (it_gr wr w.heap.size (txt barL) (p + k)) hbel.out.size (by intro q hq; cases hq; exact Nat.le_refl _)
        have hfit := hR.fits
        have hw1 := hR.width
        have hq : (q : Int) ≠ 65533 := by
          have hm := hR.mem
          rw [bar_chunks] at hm
          simp only [List.mem_cons, List.not_mem_nil, or_false, Prod.mk.injEq] at hm
          omega
        have hqF : ((q : Int) == 65533) = false := eqF hq
        generalize itW wr w.heap.size (txt barL) (p + k) = W2 at hn hit2 hbel2
        have hpos := it_pos hit.out
        have hpos2 := it_pos hit2
        replace hpos := Lib.hid hpos
        replace hpos2 := Lib.hid hpos2
        replace hit2 := Lib.hid hit2
        replace hR := Lib.hid hR
        replace hbel2 := Lib.hid hbel2
        clear hbel hit
        go_wp2
        go_roundw
        case rel => exact ⟨p + k, done ++ [(q, b)], hfit, hR.out.next, hit2, hbel2⟩
        case measure => rw [hpos.out, hpos2.out]; omega
      · have hn := fun ty => next_end (P := Tryz.prog) (by omega) hit.out ty
        go_wp2
        go_ret
        exact ⟨rfl, gr_of_below hbel.out (Nat.le_refl _)⟩
  · have hbF : (r == 65533) = false := eqF hbad
    have hv : Lib.validRune r = true := by unfold Lib.validRune; exact decide_eq_true (by unfold RuneOk at h; omega)
    have cV := Tryz.utf8_ValidRune r w
    rw [hv] at cV
    obtain ⟨pre, x, henc, hx, hpl⟩ := enc_last h h2
    have hidx := fun k w => Tryz.strings_IndexByte (txt (barL.drop k)) (x.toNat : Int) w
    obtain ⟨q, rs, hq3, he, hsz, hgx0⟩ : ∃ (q : Nat) (rs : ByteArray), q ≤ 3 ∧ Utf8.encode r = rs ∧ rs.size = q + 1 ∧ ∀ hh, rs[q]'hh = x := ⟨pre.length, txt (pre ++ [x]), hpl, by rw [encode_txt, henc], by rw [txt_size]; simp, fun hh => get_last pre x hh⟩
    have hgx := hgx0 (by omega)
    have hbs : (txt barL).size = 6 := rfl
    have hbq : ∃ y : UInt8, (∀ hh, (txt barL)[q]'hh = y) ∧ y.toNat < 128 := by
      have : q = 0 ∨ q = 1 ∨ q = 2 ∨ q = 3 := by omega
      rcases this with rfl | rfl | rfl | rfl
      · exact ⟨42, fun _ => rfl, by decide⟩
      · exact ⟨43, fun _ => rfl, by decide⟩
      · exact ⟨63, fun _ => rfl, by decide⟩
      · exact ⟨124, fun _ => rfl, by decide⟩
    obtain ⟨y, hy0, hy2⟩ := hbq
    have hy := hy0 (by omega)
    have hyx : ((y.toNat : Int) == (x.toNat : Int)) = false := eqF (by omega)
    have hyx2 : ((y.toNat : Int) != (x.toNat : Int)) = true := by simp [bne, hyx]
    have hdr : (txt barL).extract (q + 1) 6 = txt (barL.drop (q + 1)) := bar_ext (q + 1)
    have cI := fun w => hidx (q + 1) w
    simp only [txt_data, show ((x.toNat : Int).toNat.toUInt8) = x by simp, bar_high x hx] at cI
    replace henc := Lib.hid henc
    clear hidx hgx0 hy0
    have hq4 : q = 0 ∨ q = 1 ∨ q = 2 ∨ q = 3 := by omega
    have hw1 : IntKind.i64.wrap 1 = 1 := rfl
    have hw2 : IntKind.i64.wrap 2 = 2 := rfl
    have hw3 : IntKind.i64.wrap 3 = 3 := rfl
    have hw4 : IntKind.i64.wrap 4 = 4 := rfl
    rcases hq4 with rfl | rfl | rfl | rfl
    all_goals
      replace hv := Lib.hid hv
      go_enter Tryz.func176, Tryz.ntmps176
      go_wp2_with fail
      refine cV.mono ?_
      rintro e w1 ⟨rfl, rfl⟩
      go_wp2
      go_step3
      go_wp2
      refine wp_loop_rounds 1 ?_
      rw [rounds_succ]
      go_wp2_with fail
      go_step3
      go_wp2_with fail
      go_quiet (fail)
      go_wp2_with fail
      go_region_held3 (fun w' => Gr w1 w') (first | exact gr_refl _ _ | exact gr_drew _ _ | exact gr_drewN _ _ _ | exact gr_trans (gr_drewN _ _ _) (gr_drew _ _) | assumption) (first | (go_at_call 178; refine (cI _).mono ?_; rintro e w' ⟨rfl, rfl⟩))
      go_wp2
      all_goals (simp only [Exit.noGoto_ret, Exit.inBlock, Exit.then]; go_ret; exact ⟨rfl, gr_drewN _ _ _⟩)
set_option maxHeartbeats 2000000 in
theorem bar_any (r : Int) (w : World) (h : RuneOk r) : Calls Tryz.prog 172 #[.string (txt barL), .int .i32 r] w fun e w' => e = .returned (.bool (barred r)) ∧ Gr w w' := by
  have h0 := h.1
  by_cases h1 : r < 128
  · refine (Tryz.strings_ContainsRune_ascii (txt barL) r w h0 h1).mono ?_
    rintro e w' ⟨rfl, rfl⟩
    obtain ⟨n, rfl⟩ : ∃ n : Nat, r = n := ⟨r.toNat, by omega⟩
    refine ⟨?_, gr_refl _ _⟩
    have := bar_small n (by omega)
    rw [txt_data]
    have e1 : ((n : Int).toNat.toUInt8) = n.toUInt8 := rfl
    rw [e1, this]
    unfold barred
    congr 2
    simp only [decide_eq_decide]
    omega
  · have hb : barred r = false := by unfold barred; exact decide_eq_false (by omega)
    rw [hb]
    have cI := fun w => indexRune_high r w h (by omega)
    replace hb := Lib.hid hb
    go_enter Tryz.func172, Tryz.ntmps172
    go_wp2_with fail
    refine (cI _).mono ?_
    rintro e w1 ⟨rfl, g1⟩
    go_wp2
    go_ret
    exact ⟨rfl, g1⟩
end Go.Proofs.YtccmekdmnkmhlaaGreat
