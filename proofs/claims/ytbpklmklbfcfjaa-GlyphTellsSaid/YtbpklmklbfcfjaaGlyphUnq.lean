/-
  What glyph.Unquote answers. No condition but a bound on the length.
-/
import Derived.Test.YtbpklmklbfcfjaaGlyphEsc
import Derived.Test.YtbpklmklbfcfjaaGlyphQuoteDo
namespace Go.Proofs.Ytbpklmklbfcfjaa
open Go.RowKit

def EscPost (l : List UInt8) (w : World) (e : Ending) (w' : World) : Prop :=
  ∃ (m : List UInt8) (n : Nat), e = .returned (.tuple #[.string (txt m), .int .i64 n]) ∧ Gr w w' ∧ ((esc l = none ∧ n = 0) ∨ esc l = some (m, n))
theorem escPost_no {l : List UInt8} {w : World} (h : esc l = none) {e : Ending} {w' : World} (k : EscNo w e w') : EscPost l w e w' := ⟨[], 0, k.1, k.2, Or.inl ⟨h, rfl⟩⟩
theorem escPost_yes {l b : List UInt8} {n : Nat} {w : World} (h : esc l = some (b, n)) {e : Ending} {w' : World} (k : EscYes b n w e w') : EscPost l w e w' := ⟨b, n, k.1, k.2, Or.inr h⟩
theorem escaped_any (l : List UInt8) (w : World) (hl : l.length ≤ 1000000000) : Calls Try.prog 61 #[.string (txt l)] w (EscPost l w) := by
  cases l with
  | nil => exact (escaped_nil w).mono fun _ _ h => escPost_no rfl h
  | cons a t =>
    simp only [List.length_cons] at hl
    by_cases h1 : a = 34 ∨ a = 92
    · exact (escaped_sign a t w h1 (by omega)).mono fun _ _ h => escPost_yes (by show esc1 a t = _; exact if_pos h1) h
    · by_cases h2 : a = 110
      · exact (escaped_n a t w h2 (by omega)).mono fun _ _ h => escPost_yes (by show esc1 a t = _; unfold esc1; rw [if_neg h1, if_pos h2]) h
      · by_cases h3 : a = 120
        · have he : esc (a :: t) = escx t := by show esc1 a t = _; unfold esc1; rw [if_neg h1, if_neg h2, if_pos h3]
          match t, hl, he with
          | [], hl, he => exact (escaped_other a [] w h1 h2 (Or.inr (by simp)) (by simp)).mono fun _ _ h => escPost_no (by rw [he]; rfl) h
          | [b], hl, he => exact (escaped_other a [b] w h1 h2 (Or.inr (by simp)) (by simp)).mono fun _ _ h => escPost_no (by rw [he]; rfl) h
          | b :: c :: t, hl, he =>
            have he2 : esc (a :: b :: c :: t) = escp (unhex b) (unhex c) := he
            cases hb : unhex b with
            | none => exact (escaped_y a b c t w h3 (by simp only [List.length_cons] at hl; omega) (Or.inl hb)).mono fun _ _ h => escPost_no (by rw [he2, hb]; rfl) h
            | some x =>
              cases hc : unhex c with
              | none => exact (escaped_y a b c t w h3 (by simp only [List.length_cons] at hl; omega) (Or.inr hc)).mono fun _ _ h => escPost_no (by rw [he2, hb, hc]; rfl) h
              | some y =>
                have xl := unhex_lt hb
                have yl := unhex_lt hc
                exact (escaped_x a b c t w h3 (by simp only [List.length_cons] at hl; omega) x y hb hc (UInt8.ofNat (x * 16 + y)) (by rw [UInt8.toNat_ofNat_of_lt' (by unfold UInt8.size; omega)])).mono fun _ _ h => escPost_yes (by rw [he2, hb, hc]; rfl) h
        · exact (escaped_other a t w h1 h2 (Or.inl h3) (by omega)).mono fun _ _ h => escPost_no (by show esc1 a t = _; unfold esc1; rw [if_neg h1, if_neg h2, if_neg h3]) h

/-- The text of which something is the quotation. -/
def unq (l : List UInt8) : Option (List UInt8) := (un (Lib.trimPrefix l [34])).bind fun o => if quote (Lib.trimSuffix o [34]) = l then some (Lib.trimSuffix o [34]) else none
theorem unq_iff (l s : List UInt8) : unq l = some s ↔ quote s = l := by
  unfold unq
  constructor
  · intro h
    obtain ⟨o, ho, h⟩ := Option.bind_eq_some_iff.1 h
    split at h
    · rename_i hq
      have := Option.some.inj h
      rw [← this]
      exact hq
    · cases h
  · intro h
    have h1 : Lib.trimPrefix l [34] = qbody (chunks s) ++ [34] := by
      rw [← h]
      unfold Lib.trimPrefix Lib.hasPrefix quote
      simp
    have h2 : Lib.trimSuffix (s ++ [34]) [34] = s := by
      unfold Lib.trimSuffix Lib.hasSuffix
      rw [if_pos (by rw [List.isSuffixOf_iff_suffix]; exact List.suffix_append _ _)]
      simp
    rw [h1, un_back]
    simp only [Option.bind_some]
    rw [h2, if_pos h]
def UnqPost (l : List UInt8) (w : World) (e : Ending) (w' : World) : Prop :=
  e = .returned (.tuple #[.string (txt ((unq l).getD [])), .bool (unq l).isSome]) ∧ Gr w w'
def strLen : Value → Nat
  | .string s => s.size
  | _ => 0
theorem trimPrefix_any (l m : List UInt8) (w : World) : Calls Try.prog 59 #[.string (txt l), .string (txt m)] w fun e w' => e = .returned (.string (txt (Lib.trimPrefix l m))) ∧ w = w' :=
  (Try.strings_TrimPrefix (txt l) (txt m) w).mono fun _ _ ⟨h1, h2⟩ => ⟨h1, h2.symm⟩
theorem trimSuffix_any (l m : List UInt8) (w : World) (hl : l.length ≤ 1000000000) : Calls Try.prog 63 #[.string (txt l), .string (txt m)] w fun e w' => e = .returned (.string (txt (Lib.trimSuffix l m))) ∧ w = w' :=
  (Try.strings_TrimSuffix (txt l) (txt m) w (by rw [txt_size]; omega)).mono fun _ _ ⟨h1, h2⟩ => ⟨h1, h2.symm⟩
theorem trimPrefix_len (l m : List UInt8) : (Lib.trimPrefix l m).length ≤ l.length := by
  unfold Lib.trimPrefix
  split
  · rw [List.length_drop]; omega
  · exact Nat.le_refl _
theorem trimSuffix_len (l m : List UInt8) : (Lib.trimSuffix l m).length ≤ l.length := by
  unfold Lib.trimSuffix
  split
  · rw [List.length_take]; omega
  · exact Nat.le_refl _
theorem txt_drop (l : List UInt8) (n : Nat) : (txt l).extract n (txt l).size = txt (l.drop n) := str_eq (by rw [ext_end, txt_data])

set_option maxHeartbeats 2000000 in
set_option maxRecDepth 100000 in
theorem unq_any (l : List UInt8) (w : World) (hl : l.length ≤ 100000000) : Calls Try.prog 16 #[.string (txt l)] w (UnqPost l w) := by
  have hB0 := bld_new w
  have bel0 : Below w.heap.size w (w.alloc (.cells #[.pointer none, .slice none 0 0] 73)) := (Below.refl _ w).alloc (Nat.le_refl _) _
  replace hB0 := Lib.hid hB0
  replace bel0 := Lib.hid bel0
  obtain ⟨L, hL⟩ : ∃ L, L = txt l := ⟨_, rfl⟩
  rw [← hL]
  have htp := trimPrefix_any l [34]
  rw [← hL] at htp
  replace htp := Lib.hid htp
  have hRl := trimPrefix_len l [34]
  have hun : unq l = (un (Lib.trimPrefix l [34])).bind fun o => if quote (Lib.trimSuffix o [34]) = l then some (Lib.trimSuffix o [34]) else none := rfl
  generalize Lib.trimPrefix l [34] = R at htp hRl hun
  replace hun := Lib.hid hun
  replace hL := Lib.hid hL
  go_enter Try.func16, Try.ntmps16
  go_wp2_with fail
  refine (htp.out _).mono ?_
  rintro e W1 ⟨rfl, rfl⟩
  go_wp2_with fail
  go_loopw [5] (fun rest wr => ∃ (r o : List UInt8), rest = .string (txt r) ∧ Hid (un R = (un r).map (o ++ ·)) ∧ o.length + r.length ≤ l.length ∧ Hid (Bld w.heap.size o wr) ∧ Hid (Below w.heap.size w wr)) (fun rest _ => strLen rest)
  case atStart => exact ⟨R, [], rfl, by simp [Hid], by simpa using hRl, hB0, bel0⟩
  case round =>
    obtain ⟨r, o, rfl, hur, hlen, hB, hbel⟩ := hrel
    cases r with
    | nil =>
      have hro : un R = some o := by have := hur.out; rw [un_nil] at this; simpa using this
      have hu2 : unq l = if quote (Lib.trimSuffix o [34]) = l then some (Lib.trimSuffix o [34]) else none := by rw [hun.out, hro]; rfl
      replace hu2 := Lib.hid hu2
      clear hro
      have hol : o.length ≤ l.length := by omega
      have htl := trimSuffix_len o [34]
      go_wp2_with fail
      refine (builderString_any w.heap.size _ _ hB.out).mono ?_
      rintro e W3 ⟨rfl, hB3, k3⟩
      go_wp2_with fail
      refine (trimSuffix_any _ [34] _ (by omega)).mono ?_
      rintro e W4 ⟨rfl, rfl⟩
      generalize Lib.trimSuffix o [34] = T at htl hu2
      go_wp2_with fail
      refine (quote_any _ _ (by omega)).mono ?_
      rintro e W4 ⟨rfl, g4⟩
      have hgr : Gr w W4 := gr_trans (gr_of_below (hbel.out.trans k3.bel) (Nat.le_refl _)) g4
      replace hgr := Lib.hid hgr
      by_cases hq : quote T = l
      · have d1 : (quote T == L.toList) = true := by rw [hL.out, hq, txt_toList]; simp
        have hres : unq l = some T := by rw [hu2.out, if_pos hq]
        replace hq := Lib.hid hq
        replace hres := Lib.hid hres
        go_wp2
        go_ret2
        unfold UnqPost
        rw [hres.out]
        exact ⟨rfl, hgr.out⟩
      · have d1 : (quote T == L.toList) = false := by rw [hL.out, txt_toList, beq_eq_false_iff_ne]; exact hq
        have hres : unq l = none := by rw [hu2.out, if_neg hq]
        replace hres := Lib.hid hres
        clear hq
        go_wp2
        go_ret2
        unfold UnqPost
        rw [hres.out]
        exact ⟨rfl, hgr.out⟩
    | cons a t =>
      obtain ⟨S, hS⟩ : ∃ S, S = txt (a :: t) := ⟨_, rfl⟩
      rw [← hS]
      have hsz : S.size = t.length + 1 := by rw [hS, txt_size]; rfl
      have hs0 : 0 < S.size := by omega
      have hi0 : (0 : Int) < (S.size : Int) := by omega
      have hi1 : (1 : Int) ≤ (S.size : Int) := by omega
      have hx : S[0]'hs0 = a := by subst hS; rfl
      have hne : S.toList.isEmpty = false := by rw [hS, txt_toList]; rfl
      have he1 : S.extract 1 S.size = txt t := by rw [hS, txt_drop]; rfl
      simp only [List.length_cons] at hlen
      replace hS := Lib.hid hS
      replace hsz := Lib.hid hsz
      by_cases c : a = 92
      · have d1 : ((a.toNat : Int) != 92) = false := by subst c; decide
        have d2 : ((a.toNat : Int) == 92) = true := by subst c; decide
        go_wp2_with fail
        refine (escaped_any _ _ (by omega)).mono ?_
        rintro e W3 ⟨m, n, rfl, g3, hor⟩
        have hB3 := bld_gr hB.out g3
        have hbel3 := below_gr hbel.out g3 hbel.out.size (by simp)
        replace hbel3 := Lib.hid hbel3
        rcases hor with ⟨he, hn0⟩ | he
        · have hu2 : unq l = none := by rw [hun.out, hur.out, c, un_bad he]; rfl
          subst hn0
          replace hu2 := Lib.hid hu2
          clear c
          go_wp2
          go_ret2
          unfold UnqPost
          rw [hu2.out]
          exact ⟨rfl, gr_of_below hbel3.out (Nat.le_refl _)⟩
        · have hel := esc_len he
          have hun2 : un R = (un (t.drop n)).map ((o ++ m) ++ ·) := by
            rw [hur.out, c, un_esc he, Option.map_map]
            congr 1
            funext x
            simp
          replace hun2 := Lib.hid hun2
          have d3 : ((n : Int) == 0) = false := eqF (by omega)
          have hext : S.extract (1 + n) S.size = txt (t.drop n) := by rw [hS.out, txt_drop, Nat.add_comm]; rfl
          have hni : (0 : Int) ≤ 1 + (n : Int) := by omega
          have hnl : 1 + (n : Int) ≤ (S.size : Int) := by rw [hsz.out]; omega
          have hml := hel.2.2.2
          replace hext := Lib.hid hext
          replace he := Lib.hid he
          clear c he1
          go_wp2_with fail
          refine (writeString_any w.heap.size _ m _ hB3 (by omega) (by omega)).mono ?_
          rintro e W4 ⟨rfl, hB4, k4⟩
          go_wp2
          go_roundw
          case rel => exact ⟨t.drop n, o ++ m, by rw [← hext.out], hun2.out, by simp; omega, hB4, hbel3.out.trans k4.bel⟩
          case measure => simp [strLen, txt_size, hsz.out]; omega
      · have d1 : ((a.toNat : Int) != 92) = true := by rw [bne_iff_ne]; intro h; exact c ((u8_eq (k := 92) (by decide)).1 h)
        have d2 : ((a.toNat : Int) == 92) = false := eqF (by intro h; exact c ((u8_eq (k := 92) (by decide)).1 h))
        have hun2 : un R = (un t).map ((o ++ [a]) ++ ·) := by
          rw [hur.out, un_plain c, Option.map_map]
          congr 1
          funext x
          simp
        replace hun2 := Lib.hid hun2
        clear c
        go_wp2_with fail
        refine (writeByte_any w.heap.size _ a _ rfl _ hB.out (by omega)).mono ?_
        rintro e W3 ⟨rfl, hB3, k3⟩
        go_wp2
        go_roundw
        case rel => exact ⟨t, o ++ [a], rfl, hun2.out, by simp; omega, hB3, hbel.out.trans k3.bel⟩
        case measure => simp [strLen, txt_size, hsz.out]
end Go.Proofs.Ytbpklmklbfcfjaa
