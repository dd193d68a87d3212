/-
  What the document's Unquote answers. No condition but a bound on the length.
-/
import Derived.Test.YtfbjjjkmbpaejaaGlyphRefUnq
namespace Go.Proofs.Ytfbjjjkmbpaejaa
open Go.RowKit

theorem infoByte : (Try.prog.info? 5).map (fun i => (i.zero, i.size, i.bytes)) = some (some (.int .u8 0), 1, 1) := by kernel_rfl
def middle (l : List UInt8) : List UInt8 := (l.drop 1).take (l.length - 2)
theorem refq_iff {l B : List UInt8} (hl : l = 34 :: (B ++ [34])) (s : List UInt8) : ((un B).bind fun t => if quote t = l then some t else none) = some s ↔ quote s = l := by
  constructor
  · intro h
    obtain ⟨t, _, h⟩ := Option.bind_eq_some_iff.1 h
    split at h
    · rename_i hq
      rw [← Option.some.inj h]
      exact hq
    · cases h
  · intro h
    have h1 : qbody (chunks s) ++ [34] = B ++ [34] := by
      have : quote s = 34 :: (B ++ [34]) := h.trans hl
      exact (List.cons.inj this).2
    have h2 := List.append_cancel_right h1
    have h3 := un_quote s []
    rw [List.append_nil, h2, un_nil] at h3
    rw [h3]
    simp [h]
theorem unq_short {l : List UInt8} (h : ∀ B, l ≠ 34 :: (B ++ [34])) : unq l = none := by
  cases hu : unq l with
  | none => rfl
  | some s =>
    have := (unq_iff l s).1 hu
    exact absurd this.symm (h _)
theorem unq_mid {l B : List UInt8} (hl : l = 34 :: (B ++ [34])) : unq l = (un B).bind fun t => if quote t = l then some t else none := by
  cases hu : unq l with
  | none =>
    cases h2 : (un B).bind fun t => if quote t = l then some t else none with
    | none => rfl
    | some s => rw [(unq_iff l s).2 ((refq_iff hl s).1 h2)] at hu; cases hu
  | some s => exact ((refq_iff hl s).2 ((unq_iff l s).1 hu)).symm
theorem mid_of {l : List UInt8} (h2 : 2 ≤ l.length) (h0 : l[0]? = some 34) (h1 : l[l.length - 1]? = some 34) : l = 34 :: (middle l ++ [34]) := by
  cases l with
  | nil => simp at h2
  | cons a t =>
    simp at h0
    subst h0
    simp only [List.length_cons] at h2 h1
    have ht : t ≠ [] := by intro e; subst e; simp at h2
    have hm : middle (34 :: t) = t.dropLast := by
      unfold middle
      simp only [List.drop_succ_cons, List.drop_zero, List.length_cons]
      rw [List.dropLast_eq_take]
      rfl
    rw [hm]
    have hlast : t.getLast ht = 34 := by
      rw [List.getLast_eq_getElem]
      obtain ⟨m, hm⟩ : ∃ m, t.length = m + 1 := ⟨t.length - 1, by omega⟩
      have h1' : t[m]? = some 34 := by
        have h3 := h1
        rw [hm] at h3
        simpa using h3
      have e : t.length - 1 = m := by omega
      simp only [e]
      obtain ⟨_, h4⟩ := List.getElem?_eq_some_iff.1 h1'
      exact h4
    have := List.dropLast_concat_getLast ht
    rw [hlast] at this
    rw [this]

theorem txt_get {l : List UInt8} {p : Nat} {x : UInt8} (h : p < (txt l).size) (hx : l[p]? = some x) : (txt l)[p]'h = x := by
  obtain ⟨h5, h6⟩ := List.getElem?_eq_some_iff.1 hx
  exact h6
theorem drop_next {B rest : List UInt8} {k : Nat} {c : UInt8} (h : B.drop k = c :: rest) : k < B.length ∧ B[k]? = some c ∧ B.drop (k + 1) = rest := by
  have h1 : k < B.length := by
    rcases Nat.lt_or_ge k B.length with h' | h'
    · exact h'
    · rw [List.drop_of_length_le h'] at h; cases h
  rw [List.drop_eq_getElem_cons h1] at h
  obtain ⟨h2, h3⟩ := List.cons.inj h
  exact ⟨h1, by rw [List.getElem?_eq_getElem h1, h2], h3⟩
def UnqNo (w : World) (e : Ending) (w' : World) : Prop := e = .returned (.tuple #[.string (txt []), .bool false]) ∧ Gr w w'
theorem unqPost_no {l : List UInt8} {w : World} (h : unq l = none) {e : Ending} {w' : World} (k : UnqNo w e w') : UnqPost l w e w' := by
  unfold UnqPost
  rw [h]
  exact k
set_option maxHeartbeats 1000000 in
set_option maxRecDepth 100000 in
theorem refUnq_out (l : List UInt8) (w : World) (hl : l.length ≤ 100000000) (h : l.length < 2 ∨ ∃ a t, l = a :: t ∧ 1 ≤ t.length ∧ (a ≠ 34 ∨ (a = 34 ∧ ∃ z, l[l.length - 1]? = some z ∧ z ≠ 34))) : Calls Try.prog 12 #[.string (txt l)] w (UnqNo w) := by
  obtain ⟨S, hS⟩ : ∃ S, S = txt l := ⟨_, rfl⟩
  have hsz : S.size = l.length := by rw [hS, txt_size]
  rw [← hS]
  rcases h with h | ⟨a, t, rfl, h1, h2⟩
  · have hs2 : (S.size : Int) < 2 := by omega
    replace hS := Lib.hid hS
    clear hsz
    go_enter Try.func12, Try.ntmps12
    go_wp2
    go_ret2
    exact ⟨rfl, gr_refl _ _⟩
  · simp only [List.length_cons] at hsz hl
    have hs2 : ¬ (S.size : Int) < 2 := by omega
    have h0' : 0 < S.size := by omega
    have hx : S[0]'h0' = a := by subst hS; rfl
    have i0 : (0 : Int) < (S.size : Int) := by omega
    rcases h2 with h2 | ⟨rfl, z, hz, h2⟩
    · have d1 : ((a.toNat : Int) != 34) = true := by rw [bne_iff_ne]; intro h; exact h2 ((u8_eq (k := 34) (by decide)).1 h)
      replace hS := Lib.hid hS
      replace hsz := Lib.hid hsz
      clear h2
      go_enter Try.func12, Try.ntmps12
      go_wp2
      go_ret2
      exact ⟨rfl, gr_refl _ _⟩
    · obtain ⟨M, hM⟩ : ∃ M, S.size = M + 1 := ⟨S.size - 1, by omega⟩
      have hM' : M < S.size := by omega
      have hxz : S[M]'hM' = z := by
        subst hS
        have e : (34 :: t).length - 1 = M := by rw [txt_size] at hM; simp only [List.length_cons] at hM ⊢; omega
        rw [e] at hz
        obtain ⟨h5, h6⟩ := List.getElem?_eq_some_iff.1 hz
        exact h6
      have d1 : ((z.toNat : Int) != 34) = true := by rw [bne_iff_ne]; intro h; exact h2 ((u8_eq (k := 34) (by decide)).1 h)
      have i1 : (S.size : Int) - 1 = (M : Int) := by omega
      have i2 : (M : Int) < (S.size : Int) := by omega
      have i3 : (M : Int) ≤ 1000000000 := by omega
      replace hS := Lib.hid hS
      replace hsz := Lib.hid hsz
      replace hz := Lib.hid hz
      replace hM := Lib.hid hM
      clear h2
      go_enter Try.func12, Try.ntmps12
      go_wp2
      go_ret2
      exact ⟨rfl, gr_refl _ _⟩

set_option maxHeartbeats 4000000 in
set_option maxRecDepth 100000 in
theorem refUnq_in (B : List UInt8) (w : World) (hl : B.length ≤ 10000000) : Calls Try.prog 12 #[.string (txt (34 :: (B ++ [34])))] w (UnqPost (34 :: (B ++ [34])) w) := by
  obtain ⟨ii, hi, hz0, hz1, hz2⟩ := info_parts infoByte
  have hun := unq_mid (l := 34 :: (B ++ [34])) rfl
  obtain ⟨l, hll⟩ : ∃ l, l = 34 :: (B ++ [34]) := ⟨_, rfl⟩
  rw [← hll] at hun ⊢
  obtain ⟨S, hS⟩ : ∃ S, S = txt l := ⟨_, rfl⟩
  rw [← hS]
  have hsz : S.size = B.length + 2 := by rw [hS, txt_size, hll]; simp
  have hs2 : ¬ (S.size : Int) < 2 := by omega
  have h0' : 0 < S.size := by omega
  have hx : S[0]'h0' = 34 := by subst hS hll; rfl
  have hM' : B.length + 1 < S.size := by omega
  have hxz : S[B.length + 1]'hM' = 34 := by
    subst hS hll
    exact txt_get hM' (by simp)
  have i0 : (0 : Int) < (S.size : Int) := by omega
  have i1 : (S.size : Int) - 1 = ((B.length : Int) + 1) := by omega
  have i2 : ((B.length : Int) + 1) < (S.size : Int) := by omega
  have hex : S.extract 1 (B.length + 1) = txt B := by
    rw [hS, hll]
    have := txt_sub (l := 34 :: (B ++ [34])) (b := B) (p := 1) (k := B.length) (by simp)
    rw [Nat.add_comm] at this
    exact this
  obtain ⟨T, hT⟩ : ∃ T, T = txt B := ⟨_, rfl⟩
  rw [← hT] at hex
  have hTz : T.size = B.length := by rw [hT, txt_size]
  replace hll := Lib.hid hll
  replace hS := Lib.hid hS
  replace hun := Lib.hid hun
  replace hT := Lib.hid hT
  replace hsz := Lib.hid hsz
  go_enter Try.func12, Try.ntmps12
  go_wp2
  go_loopw [5, 6] (fun ov i wr => ∃ (k : Nat) (o : List UInt8), k ≤ B.length ∧ i = .int .i64 k ∧ Hid (un B = (un (B.drop k)).map (o ++ ·)) ∧ o.length ≤ k ∧ Hid (wr.ownsRow w.heap.size 5 1 ov o.length (o.map byteV)) ∧ Hid (Below w.heap.size w wr)) (fun _ i _ => B.length - (intOf i).toNat)
  case atStart => exact ⟨0, [], Nat.zero_le _, rfl, by simp [Hid], Nat.le_refl _, World.ownsRow_nil _ _ _ _, Below.refl _ _⟩
  case round =>
    obtain ⟨k, o, hk, rfl, hur, hol, hown, hbel⟩ := hrel
    have hs := hbel.out.size
    cases hd : B.drop k with
    | nil =>
      have hke : k = B.length := by have := congrArg List.length hd; rw [List.length_drop] at this; simp at this; omega
      subst hke
      have hro : un B = some o := by have := hur.out; rw [hd, un_nil] at this; simpa using this
      have hu2 : unq l = if quote o = l then some o else none := by rw [hun.out, hro]; rfl
      replace hu2 := Lib.hid hu2
      have hcv := run_string_own (P := Try.prog) wr 53 9 5 Try.underlying53 Try.underlying5 Try.underlying9 hown.out
      clear hro hd
      go_wp2_with fail
      refine (refQuote_any _ _ (by omega)).mono ?_
      rintro e W4 ⟨rfl, g4⟩
      have hgr : Gr w W4 := gr_trans (gr_of_below hbel.out (Nat.le_refl _)) g4
      replace hgr := Lib.hid hgr
      by_cases hq : quote o = l
      · have d1 : (quote o == S.toList) = true := by rw [hS.out, hq, txt_toList]; simp
        have hres : unq l = some o := by rw [hu2.out, if_pos hq]
        replace hq := Lib.hid hq
        replace hres := Lib.hid hres
        go_wp2
        go_ret2
        unfold UnqPost
        rw [hres.out]
        exact ⟨rfl, hgr.out⟩
      · have d1 : (quote o == S.toList) = false := by rw [hS.out, txt_toList, beq_eq_false_iff_ne]; exact hq
        have hres : unq l = none := by rw [hu2.out, if_neg hq]
        replace hres := Lib.hid hres
        clear hq
        go_wp2
        go_ret2
        unfold UnqPost
        rw [hres.out]
        exact ⟨rfl, hgr.out⟩
    | cons c rest =>
      obtain ⟨hlt, hkc, hdr⟩ := drop_next hd
      have hkT : k < T.size := by omega
      have hTk : T[k]'hkT = c := by subst hT; exact txt_get hkT hkc
      have hki : (k : Int) < (B.length : Int) := by omega
      have hur' := hur.out
      rw [hd] at hur'
      replace hkc := Lib.hid hkc
      replace hd := Lib.hid hd
      by_cases c1 : c = 92
      · have d1 : ((c.toNat : Int) != 92) = false := by subst c1; decide
        have d2 : ((c.toNat : Int) == 92) = true := by subst c1; decide
        rw [c1] at hur'
        replace c1 := Lib.hid c1
        have hno : esc rest = none → unq l = none := fun h => by rw [hun.out, hur', un_bad h]; rfl
        have hyes : ∀ m n, esc rest = some (m, n) → un B = (un (rest.drop n)).map ((o ++ m) ++ ·) := fun m n h => by
          rw [hur', un_esc h, Option.map_map]
          congr 1
          funext x
          simp
        clear hur'
        cases rest with
        | nil =>
          have hke : k + 1 = B.length := by have := congrArg List.length hdr; rw [List.length_drop] at this; simp at this; omega
          have hk1 : decide ((k : Int) + 1 < (B.length : Int)) = false := decide_eq_false (by omega)
          have hk3 : decide ((k : Int) + 3 < (B.length : Int)) = false := decide_eq_false (by omega)
          have hnone := Lib.hid (hno rfl)
          clear hno hyes hke hdr
          go_wp2
          all_goals
            go_ret2
            exact unqPost_no hnone.out ⟨rfl, gr_of_below hbel.out (Nat.le_refl _)⟩
        | cons a t =>
          obtain ⟨hlt1, hka, hdr2⟩ := drop_next hdr
          have hkT1 : k + 1 < T.size := by omega
          have hTk1 : T[k + 1]'hkT1 = a := by subst hT; exact txt_get hkT1 hka
          have hki1 : (k : Int) + 1 < (B.length : Int) := by omega
          replace hka := Lib.hid hka
          replace hdr := Lib.hid hdr
          by_cases h1 : a = 34 ∨ a = 92
          · have he : esc (a :: t) = some ([a], 1) := if_pos h1
            have hun2 : un B = (un (B.drop (k + 2))).map ((o ++ [a]) ++ ·) := by
              rw [hyes _ _ he, ← hdr2]
              simp
            replace hun2 := Lib.hid hun2
            have hcs : ((a.toNat : Int) == 34) = true ∨ (((a.toNat : Int) == 34) = false ∧ ((a.toNat : Int) == 92) = true) := by
              rcases h1 with h | h
              · exact Or.inl (by subst h; decide)
              · exact Or.inr ⟨by subst h; decide, by subst h; decide⟩
            replace hdr2 := Lib.hid hdr2
            clear hno hyes he h1
            rcases hcs with e1 | ⟨e1, e2⟩
            · go_wp2_with (at_builtin; refine wpList_append_own _ rfl _ _ 53 rfl w.heap.size 5 ii (.int .u8 0) 1 1 Try.underlying53 hi hz0 hz1 hz2 rfl (by decide) u5 _ _ rfl (hown.out.alloc _) ⟨wr.heap.size, 0, none⟩ 1 1 [byteV a] rfl ?c0 ?c1 ?c2 ?c3 ?c4 ?c5 ?_; rotate_right; intro v' W4 hown4 hgrow _nl; clear _nl; have hb4 := below_append hown.out hgrow hs; clear hgrow; replace hown4 := Lib.hid hown4; replace hb4 := Lib.hid hb4)
              case c0 => rfl
              case c1 => exact cell_one_new _ _ _
              case c2 => simp [byteV, Value.oneCell']
              case c3 => unfold maxLen; omega
              case c4 => omega
              case c5 => simp; omega
              go_roundw
              case rel => exact ⟨k + 2, o ++ [a], by omega, by go_num, hun2.out, by simp; omega, by have := hown4.out; rw [List.map_append, List.length_append]; exact this, hbel.out.trans hb4.out⟩
              case measure => simp [intOf]; omega
            · go_wp2_with (at_builtin; refine wpList_append_own _ rfl _ _ 53 rfl w.heap.size 5 ii (.int .u8 0) 1 1 Try.underlying53 hi hz0 hz1 hz2 rfl (by decide) u5 _ _ rfl (hown.out.alloc _) ⟨wr.heap.size, 0, none⟩ 1 1 [byteV a] rfl ?c0 ?c1 ?c2 ?c3 ?c4 ?c5 ?_; rotate_right; intro v' W4 hown4 hgrow _nl; clear _nl; have hb4 := below_append hown.out hgrow hs; clear hgrow; replace hown4 := Lib.hid hown4; replace hb4 := Lib.hid hb4)
              case c0 => rfl
              case c1 => exact cell_one_new _ _ _
              case c2 => simp [byteV, Value.oneCell']
              case c3 => unfold maxLen; omega
              case c4 => omega
              case c5 => simp; omega
              go_roundw
              case rel => exact ⟨k + 2, o ++ [a], by omega, by go_num, hun2.out, by simp; omega, by have := hown4.out; rw [List.map_append, List.length_append]; exact this, hbel.out.trans hb4.out⟩
              case measure => simp [intOf]; omega
          · have e1 : ((a.toNat : Int) == 34) = false := eqF (by intro h; exact h1 (Or.inl ((u8_eq (k := 34) (by decide)).1 h)))
            have e2 : ((a.toNat : Int) == 92) = false := eqF (by intro h; exact h1 (Or.inr ((u8_eq (k := 92) (by decide)).1 h)))
            by_cases h2 : a = 110
            · have he : esc (a :: t) = some ([10], 1) := by show esc1 a t = _; unfold esc1; rw [if_neg h1, if_pos h2]
              have hun2 : un B = (un (B.drop (k + 2))).map ((o ++ [10]) ++ ·) := by
                rw [hyes _ _ he, ← hdr2]
                simp
              replace hun2 := Lib.hid hun2
              have e3 : ((a.toNat : Int) == 110) = true := by subst h2; decide
              replace hdr2 := Lib.hid hdr2
              replace h2 := Lib.hid h2
              clear hno hyes he h1
              go_wp2_with (at_builtin; refine wpList_append_own _ rfl _ _ 53 rfl w.heap.size 5 ii (.int .u8 0) 1 1 Try.underlying53 hi hz0 hz1 hz2 rfl (by decide) u5 _ _ rfl (hown.out.alloc _) ⟨wr.heap.size, 0, none⟩ 1 1 [byteV 10] rfl ?c0 ?c1 ?c2 ?c3 ?c4 ?c5 ?_; rotate_right; intro v' W4 hown4 hgrow _nl; clear _nl; have hb4 := below_append hown.out hgrow hs; clear hgrow; replace hown4 := Lib.hid hown4; replace hb4 := Lib.hid hb4)
              case c0 => rfl
              case c1 => exact cell_one_new _ _ _
              case c2 => simp [byteV, Value.oneCell']
              case c3 => unfold maxLen; omega
              case c4 => omega
              case c5 => simp; omega
              go_roundw
              case rel => exact ⟨k + 2, o ++ [10], by omega, by go_num, hun2.out, by simp; omega, by have := hown4.out; rw [List.map_append, List.length_append]; exact this, hbel.out.trans hb4.out⟩
              case measure => simp [intOf]; omega
            · have e3 : ((a.toNat : Int) == 110) = false := eqF (by intro h; exact h2 ((u8_eq (k := 110) (by decide)).1 h))
              by_cases h3 : a = 120
              · have e4 : ((a.toNat : Int) == 120) = true := by subst h3; decide
                have he : esc (a :: t) = escx t := by show esc1 a t = _; unfold esc1; rw [if_neg h1, if_neg h2, if_pos h3]
                clear h1 h2
                replace h3 := Lib.hid h3
                match t, he, hdr2, hno, hyes with
                | [], he, hdr2, hno, hyes =>
                  have hke : k + 2 = B.length := by have := congrArg List.length hdr2; rw [List.length_drop] at this; simp at this; omega
                  have hk3 : decide ((k : Int) + 3 < (B.length : Int)) = false := decide_eq_false (by omega)
                  have hnone := Lib.hid (hno (by rw [he]; rfl))
                  clear hno hyes hke hdr2 he
                  go_wp2
                  all_goals
                    go_ret2
                    exact unqPost_no hnone.out ⟨rfl, gr_of_below hbel.out (Nat.le_refl _)⟩
                | [x], he, hdr2, hno, hyes =>
                  have hke : k + 3 = B.length := by have := congrArg List.length hdr2; rw [List.length_drop] at this; simp at this; omega
                  have hk3 : decide ((k : Int) + 3 < (B.length : Int)) = false := decide_eq_false (by omega)
                  have hnone := Lib.hid (hno (by rw [he]; rfl))
                  clear hno hyes hke hdr2 he
                  go_wp2
                  all_goals
                    go_ret2
                    exact unqPost_no hnone.out ⟨rfl, gr_of_below hbel.out (Nat.le_refl _)⟩
                | x :: y :: t, he, hdr2, hno, hyes =>
                  have hdr2' : B.drop (k + 2) = x :: y :: t := hdr2
                  obtain ⟨hlt2, hkx, hdr3⟩ := drop_next hdr2'
                  obtain ⟨hlt3, hky, hdr4⟩ := drop_next hdr3
                  have hkT2 : k + 2 < T.size := by omega
                  have hTk2 : T[k + 2]'hkT2 = x := by subst hT; exact txt_get hkT2 hkx
                  have hkT3 : k + 3 < T.size := by omega
                  have hTk3 : T[k + 3]'hkT3 = y := by subst hT; exact txt_get hkT3 hky
                  have hki3 : (k : Int) + 3 < (B.length : Int) := by omega
                  have hki2 : (k : Int) + 2 < (B.length : Int) := by omega
                  have hdr5 : B.drop (k + 4) = t := hdr4
                  have he2 : esc (a :: x :: y :: t) = escp (unhex x) (unhex y) := he
                  replace hkx := Lib.hid hkx
                  replace hky := Lib.hid hky
                  clear hdr2 hdr2' hdr3 hdr4 he
                  cases hbx : unhex x with
                  | none =>
                    have hnone := Lib.hid (hno (by rw [he2, hbx]; rfl))
                    have hv : hexI x = -1 := by unfold hexI; rw [hbx]
                    have hex1 := fun W => hex_any x W
                    rw [hv] at hex1
                    replace hex1 := Lib.hid hex1
                    replace hv := Lib.hid hv
                    replace hbx := Lib.hid hbx
                    clear hno hyes he2 hdr5
                    go_wp2_with fail
                    refine (hex1.out _).mono ?_
                    rintro e W2 ⟨rfl, rfl⟩
                    go_wp2
                    all_goals
                      go_ret2
                      exact unqPost_no hnone.out ⟨rfl, gr_of_below hbel.out (Nat.le_refl _)⟩
                  | some u =>
                    have hv : hexI x = (u : Int) := by unfold hexI; rw [hbx]
                    have hul := unhex_lt hbx
                    have hex1 := fun W => hex_any x W
                    rw [hv] at hex1
                    replace hex1 := Lib.hid hex1
                    replace hv := Lib.hid hv
                    cases hby : unhex y with
                    | none =>
                      have hnone := Lib.hid (hno (by rw [he2, hbx, hby]; rfl))
                      have hv2 : hexI y = -1 := by unfold hexI; rw [hby]
                      have hex2 := fun W => hex_any y W
                      rw [hv2] at hex2
                      replace hex2 := Lib.hid hex2
                      replace hv2 := Lib.hid hv2
                      replace hbx := Lib.hid hbx
                      replace hby := Lib.hid hby
                      clear hno hyes he2 hdr5
                      go_wp2_with fail
                      refine (hex1.out _).mono ?_
                      rintro e W2 ⟨rfl, rfl⟩
                      go_wp2_with fail
                      refine (hex2.out _).mono ?_
                      rintro e W2 ⟨rfl, rfl⟩
                      go_wp2
                      all_goals
                        go_ret2
                        exact unqPost_no hnone.out ⟨rfl, gr_of_below hbel.out (Nat.le_refl _)⟩
                    | some v =>
                      have hv2 : hexI y = (v : Int) := by unfold hexI; rw [hby]
                      have hvl := unhex_lt hby
                      have hex2 := fun W => hex_any y W
                      rw [hv2] at hex2
                      replace hex2 := Lib.hid hex2
                      have hun2 : un B = (un (B.drop (k + 4))).map ((o ++ [UInt8.ofNat (u * 16 + v)]) ++ ·) := by
                        rw [hyes _ _ (by rw [he2, hbx, hby]; rfl), hdr5]
                        simp
                      obtain ⟨z, hz⟩ : ∃ z, z = UInt8.ofNat (u * 16 + v) := ⟨_, rfl⟩
                      have hzn : z.toNat = u * 16 + v := by rw [hz, UInt8.toNat_ofNat_of_lt' (by unfold UInt8.size; omega)]
                      rw [← hz] at hun2
                      replace hun2 := Lib.hid hun2
                      replace hbx := Lib.hid hbx
                      replace hby := Lib.hid hby
                      replace hz := Lib.hid hz
                      clear hno hyes he2 hdr5
                      go_wp2_with fail
                      refine (hex1.out _).mono ?_
                      rintro e W2 ⟨rfl, rfl⟩
                      go_wp2_with fail
                      refine (hex2.out _).mono ?_
                      rintro e W2 ⟨rfl, rfl⟩
                      go_wp2_with fail
                      have hv' := hv.out
                      have hzz : 16 * (u : Int) + (v : Int) = (z.toNat : Int) := by omega
                      have hz256 : (z.toNat : Int) < 256 := by omega
                      have y2 : (0 : Int) ≤ (k : Int) + 2 := by omega
                      have y3 : (0 : Int) ≤ (k : Int) + 3 := by omega
                      have t2 : ((k : Int) + 2).toNat = k + 2 := by omega
                      have t3 : ((k : Int) + 3).toNat = k + 3 := by omega
                      have hm16 : IntKind.i64.wrap (16 * (u : Int)) = 16 * (u : Int) := IntWalk.i64_in _ (by omega)
                      have hmz : IntKind.i64.wrap ((z.toNat : Int)) = (z.toNat : Int) := IntWalk.i64_in _ (by omega)
                      have r2 : IntKind.i64.wrap ((k : Int) + 2) = (k : Int) + 2 := IntWalk.i64_in _ (by omega)
                      have r3 : IntKind.i64.wrap ((k : Int) + 3) = (k : Int) + 3 := IntWalk.i64_in _ (by omega)
                      have hval : IntKind.u8.wrap (IntKind.i64.wrap ((u : Int) * 16 + (v : Int))) = (z.toNat : Int) := by rw [IntWalk.i64_in _ (by omega), IntWalk.u8_in _ (by omega)]; omega
                      have hrd : Row ((wr.alloc (.cells #[.int .u8 (z.toNat : Nat)] 5)).drew) (some ⟨wr.heap.size, 0, none⟩) 1 1 [byteV z] := row_gr (row_new wr #[byteV z] 5 1 rfl) (gr_drew _ none)
                      replace hval := Lib.hid hval
                      replace hrd := Lib.hid hrd
                      have hsw : w.heap.size ≤ wr.heap.size := hs
                      go_region_held3 (fun w' => True) (trivial) (first | (go_at_call 33; refine (hex_any _ _).mono ?_; rintro e w' ⟨rfl, rfl⟩) | (refine step_append_row (by rfl) _ _ 53 (by rfl) w.heap.size 5 ii (.int .u8 0) 1 Try.underlying53 hi hz0 hz1 hz2 (by decide) u5 o.length (o.map byteV) (by rfl) (by exact (hown.out.kept (gr_drew wr none) (by cases u5.ownBlock <;> simp)).alloc _) (some ⟨wr.heap.size, 0, none⟩) 1 1 [byteV z] (by rfl) (by simp) (by first | exact hrd.out | (rw [hval.out]; exact hrd.out)) (by simp [byteV, Value.oneCell']) (by unfold maxLen; omega) (by omega) (by simp; omega) ?_; intro v' W4 hown4 hgrow))
                      all_goals
                        have hownd := hown.out.kept (gr_drew wr none) (by cases u5.ownBlock <;> simp)
                        have hb4 := (below_gr hbel.out (gr_drew wr none) hs (by simp)).trans (below_append hownd hgrow hs)
                        replace hown4 := Lib.hid hown4
                        replace hb4 := Lib.hid hb4
                        clear hgrow hownd
                        go_wp2
                        go_roundw
                        case rel => exact ⟨k + 4, o ++ [z], by omega, by go_num, hun2.out, by simp; omega, by have := hown4.out; rw [List.map_append, List.length_append]; exact this, hb4.out⟩
                        case measure => simp [intOf]; omega
              · have e4 : ((a.toNat : Int) == 120) = false := eqF (by intro h; exact h3 ((u8_eq (k := 120) (by decide)).1 h))
                have hnone := Lib.hid (hno (by show esc1 a t = _; unfold esc1; rw [if_neg h1, if_neg h2, if_neg h3]))
                clear hno hyes h1 h2 h3 hdr2
                go_wp2
                all_goals
                  go_ret2
                  exact unqPost_no hnone.out ⟨rfl, gr_of_below hbel.out (Nat.le_refl _)⟩
      · have d1 : ((c.toNat : Int) != 92) = true := by rw [bne_iff_ne]; intro h; exact c1 ((u8_eq (k := 92) (by decide)).1 h)
        have hun2 : un B = (un (B.drop (k + 1))).map ((o ++ [c]) ++ ·) := by
          rw [hur', un_plain c1, Option.map_map, hdr]
          congr 1
          funext x
          simp
        replace hun2 := Lib.hid hun2
        replace hdr := Lib.hid hdr
        clear c1 hur'
        go_wp2_with (at_builtin; refine wpList_append_own _ rfl _ _ 53 rfl w.heap.size 5 ii (.int .u8 0) 1 1 Try.underlying53 hi hz0 hz1 hz2 rfl (by decide) u5 _ _ rfl (hown.out.alloc _) ⟨wr.heap.size, 0, none⟩ 1 1 [byteV c] rfl rfl ?c1 ?c2 ?c3 ?c4 ?c5 ?_; rotate_right; intro v' W4 hown4 hgrow _nl; clear _nl; have hb4 := below_append hown.out hgrow hs; clear hgrow; replace hown4 := Lib.hid hown4; replace hb4 := Lib.hid hb4)
        case c1 => exact cell_one_new _ _ _
        case c2 => simp [byteV, Value.oneCell']
        case c3 => unfold maxLen; omega
        case c4 => omega
        case c5 => simp; omega
        go_roundw
        case rel => exact ⟨k + 1, o ++ [c], by omega, by go_num, hun2.out, by simp; omega, by have := hown4.out; rw [List.map_append, List.length_append]; exact this, hbel.out.trans hb4.out⟩
        case measure => simp [intOf]; omega
end Go.Proofs.Ytfbjjjkmbpaejaa
