/-
  Texts out of runes and back: the two conversions, as lists. No condition but a bound on the length.
-/
import Derived.Test.YtccmekdmnkmhlaaGreatIterAid
import Derived.Test.YtccmekdmnkmhlaaGreatGlyphSpell
import Derived.Laws.Cover4
import Derived.Laws.IdiomStrings
namespace Go.Proofs.YtccmekdmnkmhlaaGreat
open Go.RowKit
open Go.Lib (decodeL encodeRune encodeRuneZ_one encodeRuneZ_two encodeRuneZ_three encodeRuneZ_four encodeRuneZ_bad decodeL_width decodeL_le)

theorem valid_ok (r : Int) : Utf8.valid r = true ↔ RuneOk r := by
  unfold Utf8.valid RuneOk
  simp
  omega
theorem ofNat_toUInt8 (n : Nat) : UInt8.ofNat n = n.toUInt8 := rfl
theorem encode_ok (n : Nat) (h : RuneOk (n : Int)) : (Utf8.encode (n : Int)).data.toList = encodeRune (n : Int) := by
  have hv := (valid_ok _).2 h
  unfold RuneOk at h
  unfold Utf8.encode encodeRune
  simp only [hv, if_true, Int.toNat_natCast]
  by_cases c1 : n < 128
  · rw [if_pos c1, encodeRuneZ_one (by omega) (by omega)]
    simp
  · rw [if_neg c1]
    by_cases c2 : n < 2048
    · rw [if_pos c2, encodeRuneZ_two (by omega) (by omega)]
      simp only [List.map_cons, List.map_nil]
      rw [show (192 + (n : Int) / 64).toNat = 192 + n / 64 by omega, show (128 + (n : Int) % 64).toNat = 128 + n % 64 by omega]
    · rw [if_neg c2]
      by_cases c3 : n < 65536
      · rw [if_pos c3, encodeRuneZ_three (by omega)]
        simp only [List.map_cons, List.map_nil]
        rw [show (224 + (n : Int) / 4096).toNat = 224 + n / 4096 by omega, show (128 + (n : Int) / 64 % 64).toNat = 128 + n / 64 % 64 by omega, show (128 + (n : Int) % 64).toNat = 128 + n % 64 by omega]
      · rw [if_neg c3, encodeRuneZ_four (by omega) (by omega)]
        simp only [List.map_cons, List.map_nil]
        rw [show (240 + (n : Int) / 262144).toNat = 240 + n / 262144 by omega, show (128 + (n : Int) / 4096 % 64).toNat = 128 + n / 4096 % 64 by omega, show (128 + (n : Int) / 64 % 64).toNat = 128 + n / 64 % 64 by omega, show (128 + (n : Int) % 64).toNat = 128 + n % 64 by omega]
theorem encode_txt (r : Int) : Utf8.encode r = txt (encodeRune r) := by
  apply str_eq
  by_cases h : RuneOk r
  · obtain ⟨n, rfl⟩ := Int.eq_ofNat_of_zero_le h.1
    exact encode_ok n h
  · have hv : Utf8.valid r = false := by
      cases hv : Utf8.valid r with
      | false => rfl
      | true => exact absurd ((valid_ok r).1 hv) h
    have h65 : Utf8.valid 65533 = true := by decide
    have : Utf8.encode r = Utf8.encode 65533 := by
      unfold Utf8.encode
      simp only [hv, h65]
      rfl
    rw [this, enc_fix, show fixR r = 65533 from if_neg h]
    exact encode_ok 65533 (by unfold RuneOk; omega)
theorem runesBytes_txt (ns : List Int) : runesBytes ns = txt (encs ns) := by
  have : ∀ (ns : List Int) (l : List UInt8), ns.foldl (fun r n => r ++ Utf8.encode n) (txt l) = txt (l ++ encs ns) := by
    intro ns
    induction ns with
    | nil => intro l; simp [encs]
    | cons n ns ih =>
      intro l
      rw [List.foldl_cons, encode_txt, txt_append, ih]
      simp [encs]
  exact this ns []
theorem encs_len (rs : List Int) : rs.length ≤ (encs rs).length ∧ (encs rs).length ≤ 4 * rs.length := by
  induction rs with
  | nil => simp [encs]
  | cons r rs ih =>
    have := enc_len r
    show _ ≤ (encodeRune r ++ encs rs).length ∧ (encodeRune r ++ encs rs).length ≤ _
    rw [List.length_append, List.length_cons]
    omega
theorem encs_fix (rs : List Int) : encs (rs.map fixR) = encs rs := by
  induction rs with
  | nil => rfl
  | cons r rs ih =>
    show encodeRune (fixR r) ++ encs (rs.map fixR) = encodeRune r ++ encs rs
    rw [ih, ← enc_fix]
/-- 'string(l)' of a slice of runes. -/
theorem run_runes_string {P : Program} {W : World} {src dst e : TypeId} (hs : P.underlying src = some (.slice e)) (he : P.underlying e = some (.int .i32)) (hd : P.underlying dst = some .string) {A : Option Addr} {n : Nat} {zs : List Int} (h : Row W A n 1 (zs.map (.int .i32))) (c : Nat) :
    (convert src dst (.slice A n c)).run P W = .ok (.string (txt (encs zs))) W := by
  have hl : zs.length = n := by simpa using h.1
  cases A with
  | none =>
    have hz : zs = [] := by
      cases zs with
      | nil => rfl
      | cons z zs => obtain ⟨B, o, e', _⟩ := h.2 0 (.int .i32 z) rfl; cases e'
    subst hz
    rw [run_convert_runes_nil W src dst e n c hs he hd]
    rfl
  | some ad =>
    by_cases h0 : zs = []
    · subst h0
      simp at hl
      subst hl
      have := run_convert_runes (P := P) W src dst e ad 0 c [] (Nat.zero_le _) hs he hd (fun j hj => by simp at hj)
      rw [this]
      rfl
    · obtain ⟨z, zs', hz⟩ := List.exists_cons_of_ne_nil h0
      obtain ⟨B, o, e', _, _⟩ := h.2 0 (.int .i32 z) (by rw [hz]; rfl)
      obtain rfl := Option.some.inj e'
      have := run_convert_runes (P := P) W src dst e ⟨B, o, none⟩ n c zs (Nat.le_of_eq hl.symm) hs he hd (fun j hj => by
        obtain ⟨B', o', e2, _, hc⟩ := h.2 j (.int .i32 zs[j]) (by rw [List.getElem?_map, List.getElem?_eq_getElem hj]; rfl)
        have e3 := Option.some.inj e2
        injection e3 with e4 e5 _
        subst e4 e5
        rw [add_plain, hc, List.getD_eq_getElem?_getD, List.getElem?_eq_getElem hj]
        rfl)
      rw [this, List.take_of_length_le (Nat.le_of_eq hl), runesBytes_txt]
/-- What '[]rune(s)' holds. -/
theorem runesFrom_txt (l : List UInt8) : ∀ (b i : Nat) (acc : Array Value), l.length ≤ i + b → Conv.runesFrom (txt l) b i acc = acc ++ ((chunks (l.drop i)).map runeV).toArray := by
  intro b
  induction b with
  | zero =>
    intro i acc h
    rw [List.drop_of_length_le (by omega)]
    simp [Conv.runesFrom, chunks_nil]
  | succ b ih =>
    intro i acc h
    unfold Conv.runesFrom
    rw [txt_size]
    by_cases hi : i < l.length
    · rw [if_pos hi]
      have hd : Utf8.decode (txt l) i = decodeL (l.drop i) := by
        have := Go.Lib.decodeL_drop (txt l) i
        rw [txt_data] at this
        exact this.symm
      have hne : l.drop i ≠ [] := fun e => by have := congrArg List.length e; rw [List.length_drop] at this; simp at this; omega
      have hw := decodeL_width (l.drop i)
      simp only [hd]
      rw [ih _ _ (by omega), chunks_cons hne, List.drop_drop]
      simp [runeV, headC]
    · rw [if_neg hi, List.drop_of_length_le (by omega)]
      simp [chunks_nil]
/-- The world behind '[]rune(s)'. -/
def rW (w : World) (l : List UInt8) : World := w.drew.alloc (.cells (((chunks l).map runeV).toArray ++ Array.replicate (grownCap w (chunks l).length 0 21 - (chunks l).length) (.int .i32 0)) 21)
def rC (w : World) (l : List UInt8) : Nat := grownCap w (chunks l).length 0 21
theorem run_string_runes (w : World) (l : List UInt8) (hl : l.length ≤ 10000000000000) : (convert 9 123 (.string (txt l))).run Tryz.prog w = .ok (.slice (some ⟨w.heap.size, 0, none⟩) (chunks l).length (rC w l)) (rW w l) := by
  have hr : Conv.runesFrom (txt l) (txt l).size 0 #[] = ((chunks l).map runeV).toArray := by
    rw [runesFrom_txt l _ 0 #[] (by rw [txt_size]; omega)]
    simp
  have hsz : (Conv.runesFrom (txt l) (txt l).size 0 #[]).size = (chunks l).length := by rw [hr]; simp
  have := run_runes_of_string (P := Tryz.prog) w 9 123 21 (txt l) Tryz.underlying9 Tryz.underlying123 Tryz.underlying21 (by rw [hsz]; have := chunks_len l; omega)
  rw [hsz, hr] at this
  exact this
theorem rW_gr (w : World) (l : List UInt8) : Gr w (rW w l) := gr_trans (gr_drew w none) (gr_alloc _ _ _)
theorem rW_size (w : World) (l : List UInt8) : (rW w l).heap.size = w.heap.size + 1 := by unfold rW; simp
theorem rW_cell (w : World) (l : List UInt8) {j : Nat} {c : Nat × List UInt8} (hj : (chunks l)[j]? = some c) : (rW w l).cell? ⟨w.heap.size, j, none⟩ = some (runeV c) := by
  have h1 := World.cell?_alloc_new w.drew (((chunks l).map runeV).toArray ++ Array.replicate (grownCap w (chunks l).length 0 21 - (chunks l).length) (.int .i32 0)) 21 j
  have h2 : w.drew.heap.size = w.heap.size := rfl
  rw [h2] at h1
  unfold rW
  rw [h1]
  have hlt := (List.getElem?_eq_some_iff.1 hj).1
  rw [Array.getElem?_append_left (by simpa using hlt)]
  simp [hj]
end Go.Proofs.YtccmekdmnkmhlaaGreat
