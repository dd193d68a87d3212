/-
  Several facts, one behind the other; no condition but bounds: Plain facts on texts in quotation marks, as lists of bytes. No condition, no program. What the document's Quote answers (GlyphRefQuote where glyph.Quote itself is not). No condition but a bound on the length. What the document's Text of labels answers. No condition but bounds. Points that are put in whatever order: plain. No condition. Two stores side by side. No condition but bounds. A map of texts that were seen. No condition but bounds on a text's length and on how many there are. Which labels were seen: plain. No condition.
-/
import Derived.Test.YthlkcoiaahpmoaaGlyphMath
import Derived.Test.YthlkcoiaahpmoaaIterAid
import Derived.Test.YthlkcoiaahpmoaaGlyphName
import Derived.LoopN
import Derived.Deep.CutBlock
import Derived.Test.YthlkcoiaahpmoaaLabelLight
import Derived.Test.YthlkcoiaahpmoaaQuietGr
import Derived.Test.YthlkcoiaahpmoaaStoPlay
import Derived.Test.YthlkcoiaahpmoaaAid
import Derived.Test.YthlkcoiaahpmoaaProg
import Derived.Maps.OwnOps
import Derived.Maps.Views
import Derived.WalkKit
import Derived.Test.YthlkcoiaahpmoaaOpOpen
namespace Go.Proofs.Ythlkcoiaahpmoaa
open Go.Lib (decodeL encodeRune encodeRuneZ encodeRuneZ_one encodeRuneZ_two encodeRuneZ_three encodeRuneZ_four)

def digs : List UInt8 := [48, 49, 50, 51, 52, 53, 54, 55, 56, 57, 97, 98, 99, 100, 101, 102]
def hexd (n : Nat) : UInt8 := digs.getD n 0
/-- What becomes of one rune. -/
def qc (c : Nat × List UInt8) : List UInt8 :=
  if c.1 = 34 ∨ c.1 = 92 then 92 :: c.2
  else if c.1 = 10 then [92, 110]
  else if c.1 = 65533 ∧ c.2 ≠ [239, 191, 189] then [92, 120, hexd ((c.2.headD 0).toNat / 16), hexd ((c.2.headD 0).toNat % 16)]
  else c.2
def qbody (cs : List (Nat × List UInt8)) : List UInt8 := cs.flatMap qc
def quote (l : List UInt8) : List UInt8 := 34 :: (qbody (chunks l) ++ [34])
theorem qbody_snoc (cs : List (Nat × List UInt8)) (c : Nat × List UInt8) : qbody (cs ++ [c]) = qbody cs ++ qc c := by simp [qbody]

/-- The number of a digit. -/
def unhex (c : UInt8) : Option Nat := if 48 ≤ c.toNat ∧ c.toNat ≤ 57 then some (c.toNat - 48) else if 97 ≤ c.toNat ∧ c.toNat ≤ 102 then some (c.toNat - 87) else none
theorem unhex_hexd : ∀ n, n < 16 → unhex (hexd n) = some n := by decide
/-- What stands behind a backslash, and how many bytes that takes; 0: it is nothing. -/
def escp : Option Nat → Option Nat → Option (List UInt8 × Nat)
  | some x, some y => some ([UInt8.ofNat (x * 16 + y)], 3)
  | _, _ => none
def escx : List UInt8 → Option (List UInt8 × Nat)
  | b :: c :: _ => escp (unhex b) (unhex c)
  | _ => none
def esc1 (a : UInt8) (l : List UInt8) : Option (List UInt8 × Nat) :=
  if a = 34 ∨ a = 92 then some ([a], 1) else if a = 110 then some ([10], 1) else if a = 120 then escx l else none
def esc : List UInt8 → Option (List UInt8 × Nat)
  | [] => none
  | a :: l => esc1 a l
theorem escx_len {l b : List UInt8} {n : Nat} (h : escx l = some (b, n)) : n = 3 ∧ 2 ≤ l.length ∧ b.length = 1 := by
  match l, h with
  | x :: y :: t, h =>
    have h' : escp (unhex x) (unhex y) = some (b, n) := h
    cases hx : unhex x with
    | none => rw [hx] at h'; simp [escp] at h'
    | some u =>
      cases hy : unhex y with
      | none => rw [hx, hy] at h'; simp [escp] at h'
      | some v =>
        rw [hx, hy] at h'
        simp only [escp, Option.some.injEq, Prod.mk.injEq] at h'
        obtain ⟨rfl, rfl⟩ := h'
        simp
  | [x], h => simp [escx] at h
  | [], h => simp [escx] at h
theorem esc_len {l b : List UInt8} {n : Nat} (h : esc l = some (b, n)) : 1 ≤ n ∧ n ≤ l.length ∧ n ≤ 3 ∧ b.length = 1 := by
  cases l with
  | nil => simp [esc] at h
  | cons a l =>
    have h' : esc1 a l = some (b, n) := h
    unfold esc1 at h'
    split at h'
    · simp at h'; obtain ⟨rfl, rfl⟩ := h'; simp
    · split at h'
      · simp at h'; obtain ⟨rfl, rfl⟩ := h'; simp
      · split at h'
        · have := escx_len h'
          simp only [List.length_cons]
          omega
        · simp at h'
def unF : Nat → List UInt8 → Option (List UInt8)
  | 0, _ => some []
  | _ + 1, [] => some []
  | n + 1, a :: l => if a = 92 then match esc l with
      | none => none
      | some (b, k) => (unF n (l.drop k)).map (b ++ ·)
    else (unF n l).map (a :: ·)
def un (l : List UInt8) : Option (List UInt8) := unF l.length l
theorem unF_any : ∀ (n m : Nat) (l : List UInt8), l.length ≤ n → l.length ≤ m → unF n l = unF m l
  | 0, 0, _, _, _ => rfl
  | 0, m + 1, l, h, _ => by obtain rfl : l = [] := List.eq_nil_of_length_eq_zero (by omega); rfl
  | n + 1, 0, l, _, h => by obtain rfl : l = [] := List.eq_nil_of_length_eq_zero (by omega); rfl
  | n + 1, m + 1, [], _, _ => rfl
  | n + 1, m + 1, a :: l, h1, h2 => by
    simp only [List.length_cons] at h1 h2
    unfold unF
    split
    · cases he : esc l with
      | none => rfl
      | some bk =>
        obtain ⟨b, k⟩ := bk
        simp only
        rw [unF_any n m (l.drop k) (by rw [List.length_drop]; omega) (by rw [List.length_drop]; omega)]
    · rw [unF_any n m l (by omega) (by omega)]
theorem un_nil : un [] = some [] := rfl
theorem un_plain {a : UInt8} (h : a ≠ 92) (l : List UInt8) : un (a :: l) = (un l).map (a :: ·) := by
  show unF (l.length + 1) (a :: l) = _
  unfold unF
  rw [if_neg h]
  rfl
theorem un_bad {l : List UInt8} (h : esc l = none) : un (92 :: l) = none := by
  show unF (l.length + 1) (92 :: l) = _
  unfold unF
  rw [if_pos rfl, h]
theorem un_esc {l b : List UInt8} {k : Nat} (h : esc l = some (b, k)) : un (92 :: l) = (un (l.drop k)).map (b ++ ·) := by
  show unF (l.length + 1) (92 :: l) = _
  unfold unF
  rw [if_pos rfl, h]
  simp only
  rw [unF_any l.length (l.drop k).length (l.drop k) (by rw [List.length_drop]; omega) (Nat.le_refl _)]
  rfl
theorem un_len : ∀ (n : Nat) (l o : List UInt8), unF n l = some o → o.length ≤ l.length
  | 0, _, o, h => by simp [unF] at h; subst h; simp
  | n + 1, [], o, h => by simp [unF] at h; subst h; simp
  | n + 1, a :: l, o, h => by
    unfold unF at h
    split at h
    · cases he : esc l with
      | none => rw [he] at h; simp at h
      | some bk =>
        obtain ⟨b, k⟩ := bk
        have hl := esc_len he
        rw [he] at h
        simp only [Option.map_eq_some_iff] at h
        obtain ⟨x, hx, rfl⟩ := h
        have := un_len n _ x hx
        rw [List.length_drop] at this
        rw [List.length_append, List.length_cons]
        omega
    · simp only [Option.map_eq_some_iff] at h
      obtain ⟨x, hx, rfl⟩ := h
      have := un_len n _ x hx
      simp only [List.length_cons]
      omega
/-- Bytes without a backslash. -/
theorem un_bytes {a : List UInt8} (h : ∀ x ∈ a, x ≠ 92) (t : List UInt8) : un (a ++ t) = (un t).map (a ++ ·) := by
  induction a with
  | nil => simp
  | cons x a ih =>
    rw [List.cons_append, un_plain (h x (by simp)), ih (fun y hy => h y (by simp [hy])), Option.map_map]
    rfl
/-- The bytes of a rune are its own sign, or none of ASCII. -/
theorem enc_bytes {r : Int} (h : RuneOk r) : ∀ x ∈ encodeRune r, (x.toNat : Int) = r ∨ 128 ≤ x.toNat := by
  obtain ⟨h0, h1⟩ := h
  unfold encodeRune
  intro x hx
  rw [List.mem_map] at hx
  obtain ⟨z, hz, rfl⟩ := hx
  have hb := Go.Lib.encodeRuneZ_byte r z hz
  rw [u8n z hb.1 hb.2]
  by_cases c1 : r ≤ 127
  · rw [encodeRuneZ_one h0 c1] at hz
    simp at hz
    omega
  · right
    by_cases c2 : r ≤ 2047
    · rw [encodeRuneZ_two (by omega) c2] at hz
      simp at hz
      omega
    · by_cases c3 : r ≤ 65535
      · rw [encodeRuneZ_three (by omega)] at hz
        simp at hz
        omega
      · rw [encodeRuneZ_four (by omega) (by omega)] at hz
        simp at hz
        omega
theorem chunk_bytes {l : List UInt8} {c : Nat × List UInt8} (h : c ∈ chunks l) (hb : ¬ BadC c) {k : Nat} (hk : k < 128) (hne : c.1 ≠ k) : ∀ x ∈ c.2, x.toNat ≠ k := by
  intro x hx
  rw [← chunk_enc h hb] at hx
  have := enc_bytes (chunk_rune h) x hx
  omega
theorem chunk_ascii {l : List UInt8} {c : Nat × List UInt8} (h : c ∈ chunks l) (hk : c.1 < 128) : c.2 = [UInt8.ofNat c.1] := by
  have hb : ¬ BadC c := fun h => by have := h.1; omega
  rw [← chunk_enc h hb]
  unfold encodeRune
  rw [encodeRuneZ_one (by omega) (by omega)]
  simp
theorem wide_enc : encodeRune 65533 = [239, 191, 189] := by
  unfold encodeRune
  rw [encodeRuneZ_three (by omega)]
  decide
theorem chunk_wide {l : List UInt8} {c : Nat × List UInt8} (h : c ∈ chunks l) (h1 : c.1 = 65533) (h2 : c.2 ≠ [239, 191, 189]) : ∃ b, c.2 = [b] := by
  have hb : BadC c := Decidable.byContradiction fun hb => h2 (by rw [← chunk_enc h hb, h1]; exact wide_enc)
  obtain ⟨_, h4⟩ := hb
  match hc : c.2, h4 with
  | [b], _ => exact ⟨b, rfl⟩
theorem hex_back : ∀ n, n < 256 → UInt8.ofNat (n / 16 * 16 + n % 16) = UInt8.ofNat n := by
  intro n h
  congr 1
  omega
theorem un_qc {l : List UInt8} {c : Nat × List UInt8} (h : c ∈ chunks l) (t : List UInt8) : un (qc c ++ t) = (un t).map (c.2 ++ ·) := by
  unfold qc
  split
  · rename_i h1
    have ha := chunk_ascii h (by omega)
    rcases h1 with h1 | h1
    · rw [h1] at ha
      rw [ha]
      exact un_esc (l := 34 :: t) (b := [34]) (k := 1) rfl
    · rw [h1] at ha
      rw [ha]
      exact un_esc (l := 92 :: t) (b := [92]) (k := 1) rfl
  · split
    · rename_i _ h1
      have ha := chunk_ascii h (by omega)
      rw [h1] at ha
      rw [ha]
      exact un_esc (l := 110 :: t) (b := [10]) (k := 1) rfl
    · split
      · rename_i _ _ h1
        obtain ⟨b, hb⟩ := chunk_wide h h1.1 h1.2
        rw [hb]
        have hlt := UInt8.toNat_lt b
        refine un_esc (l := 120 :: hexd (b.toNat / 16) :: hexd (b.toNat % 16) :: t) (b := [b]) (k := 3) ?_
        show escp (unhex (hexd (b.toNat / 16))) (unhex (hexd (b.toNat % 16))) = _
        rw [unhex_hexd _ (by omega), unhex_hexd _ (by omega)]
        show some ([UInt8.ofNat (b.toNat / 16 * 16 + b.toNat % 16)], 3) = _
        rw [hex_back _ (by omega)]
        simp
      · rename_i h1 _ h3
        refine un_bytes ?_ t
        intro x hx e
        by_cases hb : BadC c
        · obtain ⟨g1, g2⟩ := hb
          refine h3 ⟨g1, fun e2 => ?_⟩
          rw [e2] at g2
          simp at g2
        · exact chunk_bytes h hb (k := 92) (by omega) (by omega) x hx (by rw [e]; rfl)
theorem un_qbody {l : List UInt8} : ∀ (cs : List (Nat × List UInt8)), (∀ c ∈ cs, c ∈ chunks l) → ∀ t, un (qbody cs ++ t) = (un t).map (joinC cs ++ ·)
  | [], _, t => by simp [qbody, joinC]
  | c :: cs, h, t => by
    show un ((qc c ++ qbody cs) ++ t) = _
    rw [List.append_assoc, un_qc (h c (by simp)), un_qbody cs (fun x hx => h x (by simp [hx])), Option.map_map, joinC_cons]
    congr 1
    funext x
    simp
theorem un_quote (l t : List UInt8) : un (qbody (chunks l) ++ t) = (un t).map (l ++ ·) := by
  rw [un_qbody (l := l) _ (fun _ h => h), chunks_join]
theorem un_back (l : List UInt8) : un (qbody (chunks l) ++ [34]) = some (l ++ [34]) := by
  rw [un_quote]
  rfl
theorem quote_inj {a b : List UInt8} (h : quote a = quote b) : a = b := by
  have h1 := List.cons.inj h
  have ha := un_back a
  rw [h1.2, un_back] at ha
  exact (List.append_cancel_right (Option.some.inj ha)).symm

/-- What stands behind the first quotation mark that ends. -/
def scan : List UInt8 → Option (List UInt8)
  | [] => none
  | [a] => if a = 34 then some [] else none
  | a :: b :: l => if a = 34 then some (b :: l) else if a = 92 then scan l else scan (b :: l)
theorem scan_end (t : List UInt8) : scan (34 :: t) = some t := by
  cases t with
  | nil => rfl
  | cons b l => rfl
theorem scan_plain {a : UInt8} (h : a ≠ 34) (h2 : a ≠ 92) (t : List UInt8) : scan (a :: t) = scan t := by
  cases t with
  | nil => simp [scan, h]
  | cons b l => simp [scan, h, h2]
theorem scan_esc (b : UInt8) (t : List UInt8) : scan (92 :: b :: t) = scan t := by simp [scan]
theorem scan_bytes {a : List UInt8} (h : ∀ x ∈ a, x ≠ 34 ∧ x ≠ 92) (t : List UInt8) : scan (a ++ t) = scan t := by
  induction a with
  | nil => rfl
  | cons x a ih =>
    rw [List.cons_append, scan_plain (h x (by simp)).1 (h x (by simp)).2, ih (fun y hy => h y (by simp [hy]))]
theorem hexd_ne : ∀ n, n < 16 → hexd n ≠ 34 ∧ hexd n ≠ 92 := by decide
theorem scan_qc {l : List UInt8} {c : Nat × List UInt8} (h : c ∈ chunks l) (t : List UInt8) : scan (qc c ++ t) = scan t := by
  unfold qc
  split
  · rename_i h1
    have ha := chunk_ascii h (by omega)
    rcases h1 with h1 | h1
    · rw [h1] at ha; rw [ha]; exact scan_esc _ _
    · rw [h1] at ha; rw [ha]; exact scan_esc _ _
  · split
    · exact scan_esc _ _
    · split
      · rename_i _ _ h1
        obtain ⟨b, hb⟩ := chunk_wide h h1.1 h1.2
        have hlt := UInt8.toNat_lt b
        rw [hb]
        show scan (92 :: 120 :: hexd (b.toNat / 16) :: hexd (b.toNat % 16) :: t) = _
        rw [scan_esc]
        have e1 := hexd_ne (b.toNat / 16) (by omega)
        have e2 := hexd_ne (b.toNat % 16) (by omega)
        rw [scan_plain e1.1 e1.2, scan_plain e2.1 e2.2]
      · rename_i h1 _ h3
        refine scan_bytes ?_ t
        intro x hx
        have hnb : ¬ BadC c := by
          intro ⟨g1, g2⟩
          refine h3 ⟨g1, fun e2 => ?_⟩
          rw [e2] at g2
          simp at g2
        have k1 := chunk_bytes h hnb (k := 34) (by omega) (by omega) x hx
        have k2 := chunk_bytes h hnb (k := 92) (by omega) (by omega) x hx
        exact ⟨fun e => k1 (by rw [e]; rfl), fun e => k2 (by rw [e]; rfl)⟩
theorem scan_qbody {l : List UInt8} : ∀ (cs : List (Nat × List UInt8)), (∀ c ∈ cs, c ∈ chunks l) → ∀ t, scan (qbody cs ++ t) = scan t
  | [], _, t => rfl
  | c :: cs, h, t => by
    show scan ((qc c ++ qbody cs) ++ t) = _
    rw [List.append_assoc, scan_qc (h c (by simp)), scan_qbody cs (fun x hx => h x (by simp [hx]))]
/-- No quotation is the beginning of another one. -/
theorem quote_pre {a b t : List UInt8} (h : quote b = quote a ++ t) : t = [] := by
  have h1 := (List.cons.inj h).2
  have hb := scan_qbody (l := b) (chunks b) (fun _ h => h) [34]
  rw [h1] at hb
  change scan ((qbody (chunks a) ++ [34]) ++ t) = _ at hb
  rw [List.append_assoc, scan_qbody (l := a) (chunks a) (fun _ h => h)] at hb
  rw [List.singleton_append, scan_end, scan_end] at hb
  exact Option.some.inj hb
theorem qc_len {l : List UInt8} {c : Nat × List UInt8} (h : c ∈ chunks l) : (qc c).length ≤ 4 * c.2.length := by
  have := chunk_len h
  unfold qc
  repeat' split
  all_goals simp
  all_goals omega
theorem qbody_len {l : List UInt8} : ∀ (cs : List (Nat × List UInt8)), (∀ c ∈ cs, c ∈ chunks l) → (qbody cs).length ≤ 4 * (joinC cs).length
  | [], _ => Nat.le_refl _
  | c :: cs, h => by
    have h1 := qc_len (h c (by simp))
    have h2 := qbody_len cs (fun x hx => h x (by simp [hx]))
    rw [joinC_cons]
    show (qc c ++ qbody cs).length ≤ _
    rw [List.length_append, List.length_append]
    omega
end Go.Proofs.Ythlkcoiaahpmoaa
namespace Go.Proofs.Ythlkcoiaahpmoaa
open Go.RowKit

theorem txt_sub {l b : List UInt8} {p k : Nat} (h : b = (l.drop p).take k) : (txt l).extract p (p + k) = txt b := str_eq (by rw [Lib.extract_data, txt_data, h]; simp)
theorem digs_sub (n : Nat) (h : n < 16) : (⟨#[48, 49, 50, 51, 52, 53, 54, 55, 56, 57, 97, 98, 99, 100, 101, 102]⟩ : ByteArray).extract n (n + 1) = txt [hexd n] := by
  have h1 : n < digs.length := h
  have := txt_sub (l := digs) (b := [hexd n]) (p := n) (k := 1) (by
    rw [List.drop_eq_getElem_cons h1]
    unfold hexd
    rw [List.getD_eq_getElem?_getD, List.getElem?_eq_getElem h1]
    rfl)
  exact this

set_option maxHeartbeats 4000000 in
set_option maxRecDepth 100000 in
theorem refQuote_any (l : List UInt8) (w : World) (hl : l.length ≤ 1000000000) : Calls Try.prog 37 #[.string (txt l)] w fun e w' => e = .returned (.string (txt (quote l))) ∧ Gr w w' := by
  have it0 := it_new w (txt l)
  have bel0 := gr_below (it_new_gr w (txt l) none)
  have hsz : (txt l).size = l.length := txt_size l
  replace hsz := Lib.hid hsz
  replace it0 := Lib.hid it0
  go_enter Try.func37, Try.ntmps37
  go_wp2
  go_loopw [3] (fun o wr => ∃ (p : Nat) (done : List (Nat × List UInt8)), p ≤ l.length ∧ o = .string (txt (34 :: qbody done)) ∧ Hid (chunks l = done ++ chunks (l.drop p)) ∧ Hid (It wr w.heap.size (txt l) p) ∧ Hid (Below w.heap.size w wr)) (fun _ wr => l.length - wr.iterPos w.heap.size)
  case atStart => exact ⟨0, [], Nat.zero_le _, rfl, rfl, it0, bel0⟩
  case round =>
    obtain ⟨p, done, hp, rfl, hch, hit, hbel⟩ := hrel
    by_cases hlt : p < l.length
    · obtain ⟨r, k, b, hR⟩ := round_at hch.out hlt
      have hn := fun ty => next_round (P := Try.prog) hR hit.out ty
      have hit2 := it_step hit.out (p + k)
      have hbel2 := below_gr hbel.out (it_gr wr w.heap.size (txt l) (p + k)) hbel.out.size (by intro q hq; cases hq; exact Nat.le_refl _)
      have hfit := hR.fits
      have hw1 := hR.width
      have hrr := (round_rng hR).1
      have hpos := it_pos hit.out
      have hql : (34 :: qbody done).length ≤ 4 * l.length + 1 := by
        have h1 := qbody_len (l := l) done (fun c hc => by rw [hch.out]; simp [hc])
        have h2 := chunks_at hch.out hp
        simp only [List.length_cons]
        have h4 : (joinC done).length ≤ l.length := by rw [h2, List.length_take]; omega
        omega
      generalize itW wr w.heap.size (txt l) (p + k) = W2 at hn hit2 hbel2
      have hlast := txt_last l p
      have hsub := txt_sub hR.bytes
      have hR1 : Round (l.drop p) [] 0 r k b := ⟨by simpa using hR.dec, by
        have h1 := hR.next
        rw [hch.out, List.append_assoc] at h1
        have h2 := List.append_cancel_left h1
        simp only [List.nil_append, Nat.zero_add, List.drop_drop]
        exact h2, hR.width, by rw [List.length_drop]; omega, by simpa using hR.bytes, hR.len, hR.ok, by
          have h1 := hR.next
          rw [hch.out, List.append_assoc] at h1
          rw [List.append_cancel_left h1]
          simp⟩
      have hii := it_new W2 (txt (l.drop p))
      have hn1 := fun ty => next_round (P := Try.prog) hR1 hii ty
      have hii2 := it_step hii (0 + k)
      have gi : Gr W2 (itW (W2.iter (txt (l.drop p)) 0) W2.heap.size (txt (l.drop p)) (0 + k)) := by
        have h1 := it_new_gr W2 (txt (l.drop p)) none
        have h2 := below_gr (gr_below h1) (it_gr (W2.iter (txt (l.drop p)) 0) W2.heap.size (txt (l.drop p)) (0 + k)) h1.size (by intro q hq; cases hq; exact Nat.le_refl _)
        exact gr_of_below h2 (Nat.le_refl _)
      rw [Nat.zero_add] at hn1 hii2 gi
      generalize itW (W2.iter (txt (l.drop p)) 0) W2.heap.size (txt (l.drop p)) k = V1 at hn1 hii2 gi
      replace hpos := Lib.hid hpos
      replace hit2 := Lib.hid hit2
      replace hbel2 := Lib.hid hbel2
      replace hii := Lib.hid hii
      replace hii2 := Lib.hid hii2
      replace gi := Lib.hid gi
      have hps : (p : Int) ≤ ((txt l).size : Int) := by rw [hsz.out]; omega
      clear hbel hit
      have hqs : qbody (done ++ [(r, b)]) = qbody done ++ qc (r, b) := qbody_snoc _ _
      replace hqs := Lib.hid hqs
      replace hR1 := Lib.hid hR1
      replace hsub := Lib.hid hsub
      go_upto_block 2 with fail
      go_cut [6] (fun s6 wx => s6 = .int .i64 k ∧ Hid (Gr W2 wx))
      case first =>
        have hk0 : (0 : Int) < (k : Int) := by omega
        by_cases h2 : p + k < l.length
        · have hl2 : k < (l.drop p).length := by rw [List.length_drop]; omega
          obtain ⟨r2, k2, b2, hR2⟩ := round_at (l := l.drop p) (done := [(r, b)]) (p := k) (by have := hR1.out.next; simpa using this) hl2
          have hn2 := fun ty => next_round (P := Try.prog) hR2 hii2.out ty
          have gi2 : Gr W2 (itW V1 W2.heap.size (txt (l.drop p)) (k + k2)) := gr_of_below (below_gr (gr_below gi.out) (it_gr V1 W2.heap.size (txt (l.drop p)) (k + k2)) gi.out.size (by intro q hq; cases hq; exact Nat.le_refl _)) (Nat.le_refl _)
          generalize itW V1 W2.heap.size (txt (l.drop p)) (k + k2) = V2 at hn2 gi2
          replace gi2 := Lib.hid gi2
          replace hR2 := Lib.hid hR2
          go_wp2
          refine wp_loop_rounds 2 ?_
          rw [rounds_succ]
          go_wp2
          rw [rounds_succ]
          go_wp2
          go_meet
          exact ⟨rfl, gi2.out⟩
        · have hl2 : (l.drop p).length ≤ k := by rw [List.length_drop]; omega
          have hn2 := fun ty => next_end (P := Try.prog) hl2 hii2.out ty
          have hkk : (l.length : Int) - (p : Int) = (k : Int) := by omega
          go_wp2
          refine wp_loop_rounds 2 ?_
          rw [rounds_succ]
          go_wp2
          rw [rounds_succ]
          go_wp2
          go_meet
          exact ⟨rfl, gi.out⟩
      case rest =>
        obtain ⟨rfl, gx⟩ := hcut
        have hit3 := it_keep hit2.out gx.out (by simp)
        have hbel3 := below_gr hbel2.out gx.out hbel2.out.size (by simp)
        replace hit3 := Lib.hid hit3
        replace hbel3 := Lib.hid hbel3
        have hsb := hsub.out
        have hpk : (p : Int) + (k : Int) ≤ ((txt l).size : Int) := by rw [hsz.out]; omega
        have hbl := hR.len
        have hbl2 : b.length ≤ 4 := by have := (round_rng hR).2; omega
        have s1 : (34 :: qbody done).length + 2 ≤ 9223372036854775807 := by omega
        have s2 : (34 :: qbody done).length + 1 ≤ 9223372036854775807 := by omega
        have s3 : (34 :: qbody done).length + b.length ≤ 9223372036854775807 := by omega
        have s4 : (34 :: qbody done).length + 1 + b.length ≤ 9223372036854775807 := by omega
        have s5 : (34 :: qbody done).length + 2 + 1 ≤ 9223372036854775807 := by omega
        have s6 : (34 :: qbody done).length + 2 + 1 + 1 ≤ 9223372036854775807 := by omega
        replace hbl := Lib.hid hbl
        have fin : ∀ (wy : World) (o : List UInt8), o = 34 :: qbody (done ++ [(r, b)]) → Gr wc wy → ∃ (p : Nat) (done : List (Nat × List UInt8)), p ≤ l.length ∧ Value.string (txt o) = .string (txt (34 :: qbody done)) ∧ Hid (chunks l = done ++ chunks (l.drop p)) ∧ Hid (It wy w.heap.size (txt l) p) ∧ Hid (Below w.heap.size w wy) :=
          fun wy o ho g => ⟨p + k, _, hfit, by rw [ho], hR.next, it_keep hit3.out g (by simp), below_gr hbel3.out g hbel3.out.size (by simp)⟩
        have mea : ∀ wy, Gr wc wy → l.length - wy.iterPos w.heap.size < l.length - wr.iterPos w.heap.size := fun wy g => by rw [it_pos (it_keep hit3.out g (by simp)), hpos.out]; omega
        replace fin := Lib.hid fin
        replace mea := Lib.hid mea
        generalize hO : 34 :: qbody done = O at *
        have hO2 : 34 :: qbody (done ++ [(r, b)]) = O ++ qc (r, b) := by rw [hqs.out, ← hO]; rfl
        replace hO := Lib.hid hO
        clear hqs hlast hn hn1 hps
        by_cases c3 : r = 65533 ∧ b ≠ [239, 191, 189]
        · have hqc : qc (r, b) = [92, 120, hexd ((b.headD 0).toNat / 16), hexd ((b.headD 0).toNat % 16)] := by unfold qc; rw [if_neg (by simp only; omega), if_neg (by simp only; omega), if_pos c3]
          obtain ⟨x, hx⟩ := chunk_wide hR.mem c3.1 c3.2
          simp only at hx
          have hf : O ++ [92, 120] ++ [hexd (x.toNat / 16)] ++ [hexd (x.toNat % 16)] = 34 :: qbody (done ++ [(r, b)]) := by rw [hO2, hqc, hx]; simp
          have d4 : ((r : Int) == 65533) = true := eqT (by omega)
          have d5 : (b == [239, 191, 189]) = false := by rw [beq_eq_false_iff_ne]; exact c3.2
          have hxl := UInt8.toNat_lt x
          have e1 := digs_sub (x.toNat / 16) (by omega)
          have e2 := digs_sub (x.toNat % 16) (by omega)
          have hbl0 : 0 < b.length := by rw [hx]; simp
          have hb1 : 0 < (txt b).size := by rw [txt_size, hx]; simp
          have hbx : (txt b)[0]'hb1 = x := by subst hx; rfl
          have hbi : (0 : Int) < ((txt b).size : Int) := by omega
          have i1 : (0 : Int) ≤ (x.toNat : Int) / 16 := by omega
          have i2 : (x.toNat : Int) / 16 + 1 ≤ 16 := by omega
          have i3 : (x.toNat : Int) % 16 + 1 ≤ 16 := by omega
          have i4 : (0 : Int) ≤ (x.toNat : Int) % 16 := by omega
          have i5 : ((x.toNat : Int) / 16 + 1).toNat = x.toNat / 16 + 1 := by omega
          have i6 : ((x.toNat : Int) % 16 + 1).toNat = x.toNat % 16 + 1 := by omega
          replace hx := Lib.hid hx
          replace hf := Lib.hid hf
          replace hR := Lib.hid hR
          clear hqc hO2 c3
          have n1 : (9223372036854775807 < O.length + 2) = False := by simp; omega
          have n2 : (9223372036854775807 < O.length + 2 + 1) = False := by simp; omega
          have n3 : (9223372036854775807 < O.length + 2 + 1 + 1) = False := by simp; omega
          have k1 : txt O ++ (⟨#[92, 120]⟩ : ByteArray) = txt (O ++ [92, 120]) := txt_append O [92, 120]
          go_wp2_with fail
          go_quiet (fail)
          go_wp2
          go_roundw
          case rel => exact fin.out _ _ (by rw [← hf.out]; simp) (gr_drewN _ _ _)
          case measure => exact mea.out _ (gr_drewN _ _ _)
        · have d6 : r = 65533 → b = [239, 191, 189] := fun h => Decidable.byContradiction fun hb => c3 ⟨h, hb⟩
          have hdec : (((r : Int) == 65533) = true ∧ (b == [239, 191, 189]) = true) ∨ ((r : Int) == 65533) = false := by
            by_cases h : r = 65533
            · exact Or.inl ⟨eqT (by omega), by rw [d6 h]; rfl⟩
            · exact Or.inr (eqF (by omega))
          have hdefault : ¬ (r = 34 ∨ r = 92) → r ≠ 10 → qc (r, b) = b := fun h1 h2 => by unfold qc; rw [if_neg h1, if_neg h2, if_neg c3]
          clear d6 c3
          by_cases c1 : r = 34 ∨ r = 92
          · have hqc : qc (r, b) = 92 :: b := if_pos c1
            have hf : O ++ [92] ++ b = 34 :: qbody (done ++ [(r, b)]) := by rw [hO2, hqc]; simp
            have d4 : ((r : Int) == 65533) = false := eqF (by omega)
            have hcs : (((r : Int) == 34) = true) ∨ (((r : Int) == 34) = false ∧ ((r : Int) == 92) = true) := by
              rcases c1 with h | h
              · exact Or.inl (eqT (by omega))
              · exact Or.inr ⟨eqF (by omega), eqT (by omega)⟩
            have e5 : txt O ++ txt [92] ++ txt b = txt (O ++ [92] ++ b) := by rw [txt_append, txt_append]
            replace hf := Lib.hid hf
            replace hR := Lib.hid hR
            replace e5 := Lib.hid e5
            clear hdec hqc hO2 hdefault c1
            rcases hcs with d1 | ⟨d1, d2⟩
            all_goals
              go_wp2
              go_roundw
              case rel => first | exact fin.out _ _ hf.out (gr_refl _ _) | (rw [show (⟨#[92]⟩ : ByteArray) = txt [92] from rfl, e5.out]; exact fin.out _ _ hf.out (gr_refl _ _))
              case measure => exact mea.out _ (gr_refl _ _)
          · have d1 : ((r : Int) == 34) = false := eqF (by omega)
            have d2 : ((r : Int) == 92) = false := eqF (by omega)
            by_cases c2 : r = 10
            · have hqc : qc (r, b) = [92, 110] := by unfold qc; rw [if_neg c1, if_pos c2]
              have hf : O ++ [92, 110] = 34 :: qbody (done ++ [(r, b)]) := by rw [hO2, hqc]
              have d3 : ((r : Int) == 10) = true := eqT (by omega)
              have d4 : ((r : Int) == 65533) = false := eqF (by omega)
              have e5 : txt O ++ txt [92, 110] = txt (O ++ [92, 110]) := by rw [txt_append]
              replace hf := Lib.hid hf
              replace hR := Lib.hid hR
              replace e5 := Lib.hid e5
              clear hdec hqc hO2 hdefault c2
              go_wp2
              go_roundw
              case rel => first | exact fin.out _ _ hf.out (gr_refl _ _) | (rw [show (⟨#[92, 110]⟩ : ByteArray) = txt [92, 110] from rfl, e5.out]; exact fin.out _ _ hf.out (gr_refl _ _))
              case measure => exact mea.out _ (gr_refl _ _)
            · have d3 : ((r : Int) == 10) = false := eqF (by omega)
              have hf : O ++ b = 34 :: qbody (done ++ [(r, b)]) := by rw [hO2, hdefault c1 c2]
              replace hf := Lib.hid hf
              replace hR := Lib.hid hR
              clear hO2 hdefault
              rcases hdec with ⟨d4, d5⟩ | d4
              all_goals
                go_wp2
                go_roundw
                case rel => exact fin.out _ _ hf.out (gr_refl _ _)
                case measure => exact mea.out _ (gr_refl _ _)
    · have hn := fun ty => next_end (P := Try.prog) (by omega) hit.out ty
      have hd := chunks_done hch.out (by omega)
      subst hd
      have hql : (34 :: qbody (chunks l)).length ≤ 4 * l.length + 1 := by
        have h1 := qbody_len (l := l) (chunks l) (fun c hc => hc)
        rw [chunks_join] at h1
        simp only [List.length_cons]
        omega
      have hq2 : (34 :: qbody (chunks l)).length + 1 ≤ 9223372036854775807 := by omega
      have hq3 : (qbody (chunks l)).length + 1 + 1 ≤ 9223372036854775807 := by simp only [List.length_cons] at hql; omega
      go_wp2
      go_ret
      exact ⟨rfl, gr_of_below hbel.out (Nat.le_refl _)⟩
end Go.Proofs.Ythlkcoiaahpmoaa
namespace Go.Proofs.Ythlkcoiaahpmoaa
open Go.RowKit

def tone (x : Lb) : List UInt8 := x.n ++ [61] ++ quote x.v
/-- The text of the first k. -/
def tk (zs : List Lb) : Nat → List UInt8
  | 0 => [123]
  | k + 1 => (if k = 0 then tk zs k else tk zs k ++ [44]) ++ (match zs[k]? with | some x => tone x | none => [])
def textL (zs : List Lb) : List UInt8 := tk zs zs.length ++ [125]
theorem quote_len (l : List UInt8) : (quote l).length ≤ 4 * l.length + 2 := by
  have h1 := qbody_len (l := l) (chunks l) (fun c hc => hc)
  rw [chunks_join] at h1
  unfold quote
  simp only [List.length_cons, List.length_append, List.length_nil]
  omega
theorem tone_len {x : Lb} (h : x.n.length ≤ 200 ∧ x.v.length ≤ 200) : (tone x).length ≤ 1100 := by
  have := quote_len x.v
  unfold tone
  simp only [List.length_append, List.length_cons, List.length_nil]
  omega
theorem tk_len {zs : List Lb} (h : LightL zs) : ∀ k, (tk zs k).length ≤ 1 + 1101 * k
  | 0 => by simp [tk]
  | k + 1 => by
    have ih := tk_len h k
    have e : (match zs[k]? with | some x => tone x | none => []).length ≤ 1100 := by
      cases hx : zs[k]? with
      | none => simp
      | some x => exact tone_len (h.2 x (List.mem_of_getElem? hx))
    have e2 : (if k = 0 then tk zs k else tk zs k ++ [44]).length ≤ 2 + 1101 * k := by
      split
      · omega
      · simp only [List.length_append, List.length_cons, List.length_nil]; omega
    show ((if k = 0 then tk zs k else tk zs k ++ [44]) ++ (match zs[k]? with | some x => tone x | none => [])).length ≤ _
    rw [List.length_append]
    omega
theorem text_len {zs : List Lb} (h : LightL zs) : (textL zs).length ≤ 30000 := by
  have h1 := tk_len h zs.length
  have h2 := h.1
  unfold textL
  simp only [List.length_append, List.length_cons, List.length_nil]
  omega
theorem tk_succ {zs : List Lb} {k : Nat} {x : Lb} (h : zs[k]? = some x) : tk zs (k + 1) = (if k = 0 then tk zs k else tk zs k ++ [44]) ++ tone x := by
  show (if k = 0 then tk zs k else tk zs k ++ [44]) ++ (match zs[k]? with | some x => tone x | none => []) = _
  rw [h]
set_option maxHeartbeats 8000000 in
set_option maxRecDepth 100000 in
theorem refText_any (A : Option Addr) (n c : Nat) (zs : List Lb) (w : World) (hL : LightL zs) (hz : Row w A n 2 (sR lblC zs)) :
    Calls Try.prog 15 #[.slice A n c] w fun e w' => e = .returned (.string (txt (textL zs))) ∧ Gr w w' := by
  have hl : zs.length = n := by have := hz.1; rw [sR_len lblC 2 lblC_len] at this; omega
  have hn20 : n ≤ 20 := by have := hL.1; omega
  have hlen := fun k => tk_len hL k
  have hlen2 := text_len hL
  obtain ⟨R, hR⟩ : ∃ R, R = textL zs := ⟨_, rfl⟩
  rw [← hR] at hlen2 ⊢
  have hRe : R = tk zs n ++ [125] := by rw [hR]; unfold textL; rw [hl]
  clear hR
  replace hRe := Lib.hid hRe
  replace hlen := Lib.hid hlen
  replace hz := Lib.hid hz
  replace hl := Lib.hid hl
  replace hL := Lib.hid hL
  go_enter Try.func15, Try.ntmps15
  go_wp2
  go_loopw [3, 4] (fun sv iv wr => ∃ (k : Nat) (O : List UInt8), k ≤ n ∧ sv = .string (txt O) ∧ iv = .int .i64 k ∧ Hid (O = tk zs k) ∧ Hid (Gr w wr)) (fun _ iv _ => n - (intOf iv).toNat)
  case atStart => exact ⟨0, [123], Nat.zero_le _, rfl, rfl, Lib.hid rfl, Lib.hid (gr_refl _ _)⟩
  case round =>
    obtain ⟨k, O, hkn, rfl, rfl, hO, hg⟩ := hrel
    have hOl : O.length ≤ 25000 := by rw [hO.out]; have := hlen.out k; omega
    by_cases hlt : k < n
    · obtain ⟨x, B, o, hx, rfl, _, hcc⟩ := rowS_elem lblC_len (row_gr hz.out hg.out) (by decide) hlt
      obtain ⟨d0, d1⟩ := two_cells hcc
      have hkI : (k : Int) < (n : Int) := by omega
      have hk0 : (0 : Int) ≤ (k : Int) := by omega
      have hxs := hL.out.2 x (List.mem_of_getElem? hx)
      obtain ⟨q, hq⟩ : ∃ q, q = quote x.v := ⟨_, rfl⟩
      have hql : q.length ≤ 1000 := by rw [hq]; have := quote_len x.v; omega
      have cQ := fun W => refQuote_any x.v W (by omega)
      rw [← hq] at cQ
      have hstep := tk_succ hx
      unfold tone at hstep
      rw [← hO.out, ← hq] at hstep
      replace hq := Lib.hid hq
      obtain ⟨l1, l2⟩ := hxs
      replace cQ := Lib.hid cQ
      clear hcc hx hO
      by_cases h0 : k = 0
      · have hkd : ((0 : Int) < (k : Int)) = False := eq_false (by omega)
        have hkd2 : (0 < k) = False := eq_false (by omega)
        rw [if_pos h0] at hstep
        replace hstep := Lib.hid hstep
        replace h0 := Lib.hid h0
        have n1 : (9223372036854775807 < O.length + x.n.length) = False := eq_false (by omega)
        have n2 : (9223372036854775807 < O.length + x.n.length + 1) = False := eq_false (by omega)
        have n3 : (9223372036854775807 < O.length + x.n.length + 1 + q.length) = False := eq_false (by omega)
        have n4 : (9223372036854775807 < O.length + (x.n.length + 1)) = False := eq_false (by omega)
        have n5 : (9223372036854775807 < O.length + (x.n.length + (1 + q.length))) = False := eq_false (by omega)
        have n6 : (9223372036854775807 < O.length + (x.n.length + 1) + q.length) = False := eq_false (by omega)
        have k1 : txt (O ++ x.n) ++ (⟨#[61]⟩ : ByteArray) = txt (O ++ x.n ++ [61]) := txt_append (O ++ x.n) [61]
        have k0 : txt O ++ txt x.n = txt (O ++ x.n) := (txt_append _ _).symm
        obtain ⟨Z, hZ⟩ : ∃ Z, Z = O ++ (x.n ++ [61]) := ⟨_, rfl⟩
        have kZ : O ++ (x.n ++ [61]) = Z := hZ.symm
        have n7 : (9223372036854775807 < Z.length + q.length) = False := eq_false (by rw [hZ]; simp only [List.length_append, List.length_cons, List.length_nil]; omega)
        have kq : txt Z ++ txt q = txt (Z ++ q) := (txt_append _ _).symm
        replace hZ := Lib.hid hZ
        go_upto_region 7 with fail
        refine wp_region_quiet_gr (by kernel_rfl) (by kernel_rfl) ?_
        have E0 := cell_to (w := wr) d0
        have E1 := cell_to (w := wr) d1
        repeat (go_big_quiet_step ((go_at_call 37; exact calls_gr (cQ.out _))))
        refine wpQuiet_nil ?_
        intro w2 hw2
        obtain ⟨⟨wP, gP⟩, rfl⟩ := hw2
        have Gf := Lib.hid (gr_trans hg.out gP)
        go_wp2
        go_roundw
        case rel => exact ⟨k + 1, _, by omega, rfl, by go_num, Lib.hid (by rw [hstep.out, hZ.out]; simp), Gf⟩
        case measure => simp [intOf]; omega
      · have hkd : ((0 : Int) < (k : Int)) = True := eq_true (by omega)
        have hkd2 : (0 < k) = True := eq_true (by omega)
        rw [if_neg h0] at hstep
        obtain ⟨P, hP⟩ : ∃ P, P = O ++ [44] := ⟨_, rfl⟩
        have hPl : P.length ≤ 25001 := by rw [hP]; simp; omega
        rw [← hP] at hstep
        have kP : txt O ++ (⟨#[44]⟩ : ByteArray) = txt P := by rw [hP]; exact txt_append O [44]
        replace hP := Lib.hid hP
        replace hstep := Lib.hid hstep
        replace h0 := Lib.hid h0
        have n0 : O.length + 1 ≤ 9223372036854775807 := by omega
        have n1 : (9223372036854775807 < P.length + x.n.length) = False := eq_false (by omega)
        have n2 : (9223372036854775807 < P.length + x.n.length + 1) = False := eq_false (by omega)
        have n3 : (9223372036854775807 < P.length + x.n.length + 1 + q.length) = False := eq_false (by omega)
        have n4 : (9223372036854775807 < P.length + (x.n.length + 1)) = False := eq_false (by omega)
        have n5 : (9223372036854775807 < P.length + (x.n.length + (1 + q.length))) = False := eq_false (by omega)
        have n6 : (9223372036854775807 < P.length + (x.n.length + 1) + q.length) = False := eq_false (by omega)
        have k1 : txt (P ++ x.n) ++ (⟨#[61]⟩ : ByteArray) = txt (P ++ x.n ++ [61]) := txt_append (P ++ x.n) [61]
        have k0 : txt P ++ txt x.n = txt (P ++ x.n) := (txt_append _ _).symm
        obtain ⟨Z, hZ⟩ : ∃ Z, Z = P ++ (x.n ++ [61]) := ⟨_, rfl⟩
        have kZ : P ++ (x.n ++ [61]) = Z := hZ.symm
        have n7 : (9223372036854775807 < Z.length + q.length) = False := eq_false (by rw [hZ]; simp only [List.length_append, List.length_cons, List.length_nil]; omega)
        have kq : txt Z ++ txt q = txt (Z ++ q) := (txt_append _ _).symm
        replace hZ := Lib.hid hZ
        go_upto_region 7 with fail
        refine wp_region_quiet_gr (by kernel_rfl) (by kernel_rfl) ?_
        have E0 := cell_to (w := wr) d0
        have E1 := cell_to (w := wr) d1
        repeat (go_big_quiet_step ((go_at_call 37; exact calls_gr (cQ.out _))))
        refine wpQuiet_nil ?_
        intro w2 hw2
        obtain ⟨⟨wP, gP⟩, rfl⟩ := hw2
        have Gf := Lib.hid (gr_trans hg.out gP)
        go_wp2
        go_roundw
        case rel => exact ⟨k + 1, _, by omega, rfl, by go_num, Lib.hid (by rw [hstep.out, hZ.out]; simp), Gf⟩
        case measure => simp [intOf]; omega
    · have hkI : ((k : Int) < (n : Int)) = False := eq_false (by omega)
      obtain rfl : k = n := by omega
      have hf : R = O ++ [125] := by rw [hRe.out, hO.out]
      have kP : txt O ++ (⟨#[125]⟩ : ByteArray) = txt R := by rw [hf]; exact txt_append O [125]
      replace hf := Lib.hid hf
      have n0 : O.length + 1 ≤ 9223372036854775807 := by omega
      go_wp2
      go_ret
      exact ⟨by first | rfl | rw [kP] | (rw [hf.out]; rfl), hg.out⟩
end Go.Proofs.Ythlkcoiaahpmoaa
namespace Go.Proofs.Ythlkcoiaahpmoaa
open Go.RowKit

/-! ### A store without bounds on how many series -/
def putAtF (ss : List Ser) (k : Nat) (l : List Lb) (t v : Int) : List Ser :=
  match ss[k]? with
  | some s => if s.l = l then (if t ≤ lastT s.p then ss else if 25 ≤ s.p.length then ss else ss.set k ⟨s.l, s.p ++ [(t, v)]⟩) else ss.take k ++ ⟨l, [(t, v)]⟩ :: ss.drop k
  | none => ss.take k ++ ⟨l, [(t, v)]⟩ :: ss.drop k
def putF (ss : List Ser) (o : Opx) : List Ser := if okSer o.l ∧ okPt o.t o.v then putAtF ss (placeS ss o.l) o.l o.t o.v else ss
def plF (os : List Opx) (ss : List Ser) : List Ser := os.foldl putF ss
theorem putAtF_no {ss : List Ser} {k : Nat} {l : List Lb} {t v : Int} (h : ¬ ∃ s, ss[k]? = some s ∧ s.l = l) : putAtF ss k l t v = ss.take k ++ ⟨l, [(t, v)]⟩ :: ss.drop k := by
  unfold putAtF
  cases hs : ss[k]? with
  | none => rfl
  | some s => simp only; rw [if_neg (fun e => h ⟨s, hs, e⟩)]
theorem putAtF_yes {ss : List Ser} {k : Nat} {s : Ser} {t v : Int} (h : ss[k]? = some s) : putAtF ss k s.l t v = if t ≤ lastT s.p then ss else if 25 ≤ s.p.length then ss else ss.set k ⟨s.l, s.p ++ [(t, v)]⟩ := by
  unfold putAtF
  rw [h]
  simp only
  rw [if_pos True.intro]
theorem ins_len {ss : List Ser} (k : Nat) (s : Ser) : (ss.take k ++ s :: ss.drop k).length = ss.length + 1 := by
  rw [List.length_append, List.length_cons, ← Nat.add_assoc, ← List.length_append, List.take_append_drop]
theorem putF_two (ss : List Ser) (o : Opx) : (putF ss o = (putS ss o.l o.t o.v).2 ∧ ((putS ss o.l o.t o.v).2.length = ss.length ∨ ((putS ss o.l o.t o.v).2.length = ss.length + 1 ∧ ss.length < 40))) ∨ (40 ≤ ss.length ∧ (putS ss o.l o.t o.v).2 = ss ∧ (putF ss o).length = ss.length + 1) := by
  unfold putF putS
  by_cases hb : okSer o.l ∧ okPt o.t o.v
  · rw [if_pos hb, if_pos hb]
    generalize placeS ss o.l = k
    by_cases hex : ∃ s, ss[k]? = some s ∧ s.l = o.l
    · obtain ⟨s, hs, he⟩ := hex
      rw [← he, putAtF_yes hs, putAt_yes hs]
      left
      split
      · exact ⟨rfl, .inl rfl⟩
      · split
        · exact ⟨rfl, .inl rfl⟩
        · exact ⟨rfl, .inl List.length_set⟩
    · rw [putAtF_no hex, putAt_no hex]
      by_cases h40 : 40 ≤ ss.length
      · rw [if_pos h40]
        exact .inr ⟨h40, rfl, ins_len _ _⟩
      · rw [if_neg h40]
        exact .inl ⟨rfl, .inr ⟨ins_len _ _, by omega⟩⟩
  · rw [if_neg hb, if_neg hb]
    exact .inl ⟨rfl, .inl rfl⟩
theorem pl_snoc (os : List Opx) (o : Opx) (ss : List Ser) : pl (os ++ [o]) ss = (putS (pl os ss) o.l o.t o.v).2 := by rw [pl_append]; rfl
theorem plF_snoc (os : List Opx) (o : Opx) (ss : List Ser) : plF (os ++ [o]) ss = putF (plF os ss) o := by unfold plF; rw [List.foldl_append]; rfl
theorem pl_less : ∀ (n : Nat) (os : List Opx), os.length = n → (pl os []).length < 40 → plF os [] = pl os []
  | 0, os, h, _ => by
    have : os = [] := List.eq_nil_of_length_eq_zero h
    subst this
    rfl
  | n + 1, os, h, hl => by
    have hne : os ≠ [] := by rintro rfl; simp at h
    obtain ⟨init, o, rfl⟩ : ∃ init o, os = init ++ [o] := ⟨os.dropLast, os.getLast hne, (List.dropLast_concat_getLast hne).symm⟩
    rw [pl_snoc] at hl ⊢
    rw [plF_snoc]
    have hi : init.length = n := by simpa using h
    rcases putF_two (pl init []) o with ⟨h1, h2⟩ | ⟨h1, h2, _⟩
    · have ih := pl_less n init hi (by rcases h2 with q | q <;> omega)
      rw [ih, h1]
    · rw [h2] at hl
      omega
theorem plF_most : ∀ (n : Nat) (os : List Opx), os.length = n → (plF os []).length ≤ 40 → pl os [] = plF os []
  | 0, os, h, _ => by
    have : os = [] := List.eq_nil_of_length_eq_zero h
    subst this
    rfl
  | n + 1, os, h, hl => by
    have hne : os ≠ [] := by rintro rfl; simp at h
    obtain ⟨init, o, rfl⟩ : ∃ init o, os = init ++ [o] := ⟨os.dropLast, os.getLast hne, (List.dropLast_concat_getLast hne).symm⟩
    rw [plF_snoc] at hl ⊢
    rw [pl_snoc]
    have hi : init.length = n := by simpa using h
    rcases putF_two (plF init []) o with ⟨h1, h2⟩ | ⟨h1, h2, h3⟩
    · have ih := plF_most n init hi (by rw [h1] at hl; rcases h2 with q | q <;> omega)
      rw [ih, h1]
    · omega
/-! ### What a store has of labels -/
def look (ss : List Ser) (l : List Lb) : Option (List (Int × Int)) := (ss.find? (fun s => decide (s.l = l))).map (·.p)
theorem look_cons (x : Ser) (ss : List Ser) (l : List Lb) : look (x :: ss) l = if x.l = l then some x.p else look ss l := by
  unfold look
  rw [List.find?_cons]
  by_cases h : x.l = l
  · rw [if_pos h, decide_eq_true h]; rfl
  · rw [if_neg h, decide_eq_false h]
theorem look_none {ss : List Ser} {l : List Lb} (h : ∀ s ∈ ss, s.l ≠ l) : look ss l = none := by
  unfold look
  rw [List.find?_eq_none.2 (fun s hs => by simpa using h s hs)]
  rfl
theorem look_append (a b : List Ser) (l : List Lb) : look (a ++ b) l = (look a l).or (look b l) := by
  induction a with
  | nil => rfl
  | cons x a ih =>
    rw [List.cons_append, look_cons, look_cons]
    split
    · rfl
    · exact ih
theorem look_at {ss : List Ser} (h : SortedS ss) {k : Nat} {s : Ser} (hs : ss[k]? = some s) : look ss s.l = some s.p := by
  induction ss generalizing k with
  | nil => simp at hs
  | cons x ss ih =>
    rw [look_cons]
    cases k with
    | zero =>
      have : x = s := by simpa using hs
      subst this
      rw [if_pos rfl]
    | succ k =>
      have hs2 : ss[k]? = some s := by simpa using hs
      have hlt := (List.pairwise_cons.1 h).1 s (List.mem_of_getElem? hs2)
      rw [if_neg (fun e => ltLs_irr s.l (by rw [e] at hlt; exact hlt))]
      exact ih (List.pairwise_cons.1 h).2 hs2
theorem sorted_ext : ∀ {a b : List Ser}, SortedS a → SortedS b → (∀ l, look a l = look b l) → a = b
  | [], [], _, _, _ => rfl
  | [], y :: b, _, _, h => by have := h y.l; rw [look_cons, if_pos rfl] at this; cases this
  | x :: a, [], _, _, h => by have := h x.l; rw [look_cons, if_pos rfl] at this; cases this
  | x :: a, y :: b, ha, hb, h => by
    have ha1 := (List.pairwise_cons.1 ha).1
    have hb1 := (List.pairwise_cons.1 hb).1
    have e : x.l = y.l := by
      rcases ltLs_tri x.l y.l with q | q | q
      · have h1 := h x.l
        rw [look_cons, if_pos rfl, look_cons, if_neg (fun e => ltLs_irr x.l (by rw [e] at q; exact q)), look_none (fun s hs e => ltLs_irr x.l (ltLs_trans q (by have := hb1 s hs; rw [e] at this; exact this)))] at h1
        cases h1
      · exact q
      · have h1 := h y.l
        rw [look_cons, if_neg (fun e => ltLs_irr y.l (by rw [e] at q; exact q)), look_cons, if_pos rfl, look_none (fun s hs e => ltLs_irr y.l (ltLs_trans q (by have := ha1 s hs; rw [e] at this; exact this)))] at h1
        cases h1
    have h0 := h x.l
    rw [look_cons, if_pos rfl, look_cons, if_pos e.symm] at h0
    have ep := Option.some.inj h0
    have exy : x = y := by cases x; cases y; simp only at e ep; subst e ep; rfl
    subst exy
    have ht : ∀ l, look a l = look b l := fun l => by
      by_cases hl : x.l = l
      · subst hl
        rw [look_none (fun s hs e => ltLs_irr x.l (by have := ha1 s hs; rw [e] at this; exact this)), look_none (fun s hs e => ltLs_irr x.l (by have := hb1 s hs; rw [e] at this; exact this))]
      · have := h l
        rw [look_cons, if_neg hl, look_cons, if_neg hl] at this
        exact this
    rw [sorted_ext (List.pairwise_cons.1 ha).2 (List.pairwise_cons.1 hb).2 ht]
/-- A point more under labels. -/
def upd (o : Option (List (Int × Int))) (x : Opx) : Option (List (Int × Int)) :=
  if okSer x.l ∧ okPt x.t x.v then (match o with
    | none => some [(x.t, x.v)]
    | some p => if x.t ≤ lastT p then some p else if 25 ≤ p.length then some p else some (p ++ [(x.t, x.v)])) else o
theorem look_set {ss : List Ser} (h : SortedS ss) {k : Nat} {s : Ser} (hs : ss[k]? = some s) (p : List (Int × Int)) (l : List Lb) : look (ss.set k ⟨s.l, p⟩) l = if l = s.l then some p else look ss l := by
  obtain ⟨h1, h2⟩ := List.getElem?_eq_some_iff.1 hs
  have e : ss = ss.take k ++ s :: ss.drop (k + 1) := by rw [← h2, ← List.drop_eq_getElem_cons h1, List.take_append_drop]
  have e2 : ss.set k ⟨s.l, p⟩ = ss.take k ++ ⟨s.l, p⟩ :: ss.drop (k + 1) := by rw [List.set_eq_take_append_cons_drop, if_pos h1]
  rw [e2, look_append, look_cons]
  by_cases hl : s.l = l
  · subst hl
    rw [if_pos rfl, if_pos rfl, look_none, Option.none_or]
    intro y hy e3
    obtain ⟨i, hi⟩ := List.getElem?_of_mem hy
    rw [List.getElem?_take] at hi
    split at hi
    · have := sortedS_at h hi hs (by assumption)
      rw [e3] at this
      exact ltLs_irr _ this
    · cases hi
  · rw [if_neg hl, if_neg (fun q => hl q.symm)]
    conv => rhs; rw [e]
    rw [look_append, look_cons, if_neg hl]
theorem sorted_set {ss : List Ser} (h : SortedS ss) {k : Nat} {s : Ser} (hs : ss[k]? = some s) (p : List (Int × Int)) : SortedS (ss.set k ⟨s.l, p⟩) := by
  unfold SortedS
  rw [List.pairwise_iff_getElem]
  intro i j hi hj hij
  rw [List.length_set] at hi hj
  have hk := List.getElem?_eq_some_iff.1 hs
  have key : ∀ m (hm : m < ss.length), ((ss.set k ⟨s.l, p⟩)[m]'(by rw [List.length_set]; exact hm)).l = ss[m].l := by
    intro m hm
    rw [List.getElem_set]
    split
    · next e => subst e; rw [hk.2]
    · rfl
  rw [key i hi, key j hj]
  exact List.pairwise_iff_getElem.1 h i j hi hj hij
theorem place_new {ss : List Ser} (h : SortedS ss) {l : List Lb} (hne : ¬ ∃ s, ss[placeS ss l]? = some s ∧ s.l = l) : (∀ y ∈ ss.take (placeS ss l), ltLs y.l l) ∧ ∀ y ∈ ss.drop (placeS ss l), ltLs l y.l := by
  have hpl := placeS_ex ss h l
  generalize placeS ss l = k at *
  refine ⟨hpl.2.1, fun y hy => ?_⟩
  rcases ltLs_tri l y.l with q | q | q
  · exact q
  · exfalso
    obtain ⟨i, hi⟩ := List.getElem?_of_mem hy
    rw [List.getElem?_drop] at hi
    rcases Nat.eq_zero_or_pos i with rfl | hi0
    · exact hne ⟨y, hi, q.symm⟩
    · have hk : k < ss.length := by have := (List.getElem?_eq_some_iff.1 hi).1; omega
      have hk2 : ss[k]? = some (ss[k]'hk) := List.getElem?_eq_getElem hk
      have h1 := sortedS_at h hk2 hi (by omega)
      have h2 : ss[k] ∈ ss.drop k := List.mem_of_getElem? (i := 0) (by rw [List.getElem?_drop, Nat.add_zero]; exact hk2)
      rw [← q] at h1
      exact hpl.2.2 _ h2 h1
  · exact absurd q (hpl.2.2 y hy)
theorem sorted_ins {ss : List Ser} (h : SortedS ss) {k : Nat} {l : List Lb} (p : List (Int × Int)) (h1 : ∀ y ∈ ss.take k, ltLs y.l l) (h2 : ∀ y ∈ ss.drop k, ltLs l y.l) : SortedS (ss.take k ++ ⟨l, p⟩ :: ss.drop k) := by
  have h0 := h
  rw [← List.take_append_drop k ss] at h0
  unfold SortedS at h0 ⊢
  rw [List.pairwise_append] at h0 ⊢
  obtain ⟨ha, hb, hc⟩ := h0
  refine ⟨ha, List.pairwise_cons.2 ⟨h2, hb⟩, fun a haa b hbb => ?_⟩
  rcases List.mem_cons.1 hbb with rfl | hbb
  · exact h1 a haa
  · exact hc a haa b hbb
theorem putF_look {ss : List Ser} (h : SortedS ss) (o : Opx) : SortedS (putF ss o) ∧ ∀ l, look (putF ss o) l = if l = o.l then upd (look ss l) o else look ss l := by
  unfold putF upd
  by_cases hb : okSer o.l ∧ okPt o.t o.v
  · rw [if_pos hb]
    by_cases hex : ∃ s, ss[placeS ss o.l]? = some s ∧ s.l = o.l
    · obtain ⟨s, hs, he⟩ := hex
      have hat := look_at h hs
      rw [← he, putAtF_yes (by rw [he]; exact hs)]
      by_cases c1 : o.t ≤ lastT s.p
      · rw [if_pos c1]
        refine ⟨h, fun l => ?_⟩
        split
        · next e => subst e; rw [hat, if_pos (by rw [he]; exact hb)]; simp only; rw [if_pos c1]
        · rfl
      · rw [if_neg c1]
        by_cases c2 : 25 ≤ s.p.length
        · rw [if_pos c2]
          refine ⟨h, fun l => ?_⟩
          split
          · next e => subst e; rw [hat, if_pos (by rw [he]; exact hb)]; simp only; rw [if_neg c1, if_pos c2]
          · rfl
        · rw [if_neg c2]
          refine ⟨sorted_set h (by rw [he]; exact hs) _, fun l => ?_⟩
          rw [look_set h (by rw [he]; exact hs)]
          split
          · next e => subst e; rw [hat, if_pos (by rw [he]; exact hb)]; simp only; rw [if_neg c1, if_neg c2]
          · rfl
    · rw [putAtF_no hex]
      obtain ⟨h1, h2⟩ := place_new h hex
      refine ⟨sorted_ins h _ h1 h2, fun l => ?_⟩
      have hlo : look (ss.take (placeS ss o.l)) o.l = none := look_none fun s hs e => ltLs_irr o.l (by have := h1 s hs; rw [e] at this; exact this)
      have hhi : look (ss.drop (placeS ss o.l)) o.l = none := look_none fun s hs e => ltLs_irr o.l (by have := h2 s hs; rw [e] at this; exact this)
      rw [look_append, look_cons]
      split
      · next e =>
        subst e
        have hnone : look ss o.l = none := by
          have q := look_append (ss.take (placeS ss o.l)) (ss.drop (placeS ss o.l)) o.l
          rw [List.take_append_drop] at q
          rw [q, hlo, hhi]
          rfl
        rw [hlo, if_pos rfl, hnone]
        first | rfl | (rw [if_pos hb]; rfl)
      · next e =>
        rw [if_neg (fun q => e q.symm)]
        have q := look_append (ss.take (placeS ss o.l)) (ss.drop (placeS ss o.l)) l
        rw [List.take_append_drop] at q
        exact q.symm
  · rw [if_neg hb]
    refine ⟨h, fun l => ?_⟩
    rw [if_neg hb]
    split <;> rfl
def updIf (l : List Lb) (o : Option (List (Int × Int))) (x : Opx) : Option (List (Int × Int)) := if l = x.l then upd o x else o
theorem plF_look : ∀ (os : List Opx) {ss : List Ser}, SortedS ss → SortedS (plF os ss) ∧ ∀ l, look (plF os ss) l = os.foldl (updIf l) (look ss l)
  | [], ss, h => ⟨h, fun _ => rfl⟩
  | o :: os, ss, h => by
    obtain ⟨h1, h2⟩ := putF_look h o
    obtain ⟨h3, h4⟩ := plF_look os h1
    refine ⟨h3, fun l => ?_⟩
    have := h4 l
    rw [h2 l] at this
    exact this
theorem fold_skip {l : List Lb} : ∀ (os : List Opx) (o : Option (List (Int × Int))), (∀ x ∈ os, x.l ≠ l) → os.foldl (updIf l) o = o
  | [], _, _ => rfl
  | x :: os, o, h => by
    rw [List.foldl_cons, show updIf l o x = o from by unfold updIf; rw [if_neg (fun e => h x List.mem_cons_self e.symm)]]
    exact fold_skip os o fun y hy => h y (List.mem_cons_of_mem _ hy)
/-- Of labels that have nothing in common, in either order. -/
theorem plF_swap (a b : List Opx) (h : ∀ x ∈ a, ∀ y ∈ b, x.l ≠ y.l) : plF (a ++ b) [] = plF (b ++ a) [] := by
  obtain ⟨s1, l1⟩ := plF_look (a ++ b) (ss := []) List.Pairwise.nil
  obtain ⟨s2, l2⟩ := plF_look (b ++ a) (ss := []) List.Pairwise.nil
  refine sorted_ext s1 s2 fun l => ?_
  rw [l1, l2, List.foldl_append, List.foldl_append]
  by_cases hex : ∃ x ∈ a, x.l = l
  · obtain ⟨x, hx, rfl⟩ := hex
    have hb : ∀ y ∈ b, y.l ≠ x.l := fun y hy e => h x hx y hy e.symm
    rw [fold_skip b _ hb, fold_skip b _ hb]
  · have ha : ∀ x ∈ a, x.l ≠ l := fun x hx e => hex ⟨x, hx, e⟩
    rw [fold_skip a _ ha, fold_skip a _ ha]
theorem order_law (a b : List Opx) (h : ∀ x ∈ a, ∀ y ∈ b, x.l ≠ y.l) : 40 ≤ (pl (a ++ b) []).length ∨ pl (a ++ b) [] = pl (b ++ a) [] := by
  rcases Nat.lt_or_ge (pl (a ++ b) []).length 40 with q | q
  · right
    have h1 := pl_less _ (a ++ b) rfl q
    have h2 := plF_swap a b h
    have h3 := plF_most _ (b ++ a) rfl (by rw [← h2, h1]; omega)
    rw [h3, ← h2, h1]
  · exact .inl q
end Go.Proofs.Ythlkcoiaahpmoaa
namespace Go.Proofs.Ythlkcoiaahpmoaa
open Go.RowKit

def stoO : Obj := .cells #[.slice none 0 0] 31
/-- Two stores that share no block. -/
structure Two (K : Nat) (wr : World) (S1 : Nat) (s1 : List Ser) (S2 : Nat) (s2 : List Ser) : Prop where
  ex : ∃ m1 m2 : StoM, m1.St = S1 ∧ m2.St = S2 ∧ StoHas wr K m1 s1 ∧ StoHas wr K m2 s2 ∧ ∀ k, BlkS m1 k → ¬ BlkS m2 k
theorem two_swap {K : Nat} {wr : World} {S1 S2 : Nat} {s1 s2 : List Ser} (h : Two K wr S1 s1 S2 s2) : Two K wr S2 s2 S1 s1 := by
  obtain ⟨m1, m2, e1, e2, h1, h2, h3⟩ := h.ex
  exact ⟨m2, m1, e2, e1, h2, h1, fun k a b => h3 k b a⟩
theorem two_gr {K : Nat} {wr w' : World} {S1 S2 : Nat} {s1 s2 : List Ser} (h : Two K wr S1 s1 S2 s2) (g : Gr wr w') : Two K w' S1 s1 S2 s2 := by
  obtain ⟨m1, m2, e1, e2, h1, h2, h3⟩ := h.ex
  exact ⟨m1, m2, e1, e2, stoHas_gr h1 g, stoHas_gr h2 g, h3⟩
theorem two_pair (W : World) (o1 : Obj) (ho : o1 = stoO) : Two W.heap.size ((W.alloc o1).alloc o1) W.heap.size [] (W.heap.size + 1) [] := by
  subst ho
  have hs : (W.alloc stoO).heap.size = W.heap.size + 1 := by simp
  refine ⟨⟨W.heap.size, none, 0, []⟩, ⟨W.heap.size + 1, none, 0, []⟩, rfl, rfl, stoHas_gr (stoHas_new W) (gr_alloc _ _ none), ⟨?_, invS_nil, fun k hk => by rw [new_blks hk]; exact Nat.le_succ _, by simp; omega⟩, fun k a b => ?_⟩
  · have := sto_new (w := W.alloc stoO) W.heap.size
    rw [hs] at this
    exact this
  · rw [new_blks a] at b
    have := new_blks b
    omega
/-- .. while another block turns. -/
theorem two_keep {K : Nat} {wr w' : World} {S1 S2 M : Nat} {s1 s2 : List Ser} (h : Two K wr S1 s1 S2 s2) (hM : wr.heap.size ≤ M) (g : GrS (fun q => q = M) wr w') : Two K w' S1 s1 S2 s2 := by
  obtain ⟨m1, m2, e1, e2, h1, h2, h3⟩ := h.ex
  refine ⟨m1, m2, e1, e2, ⟨stoAt_grs h1.sat g (fun k q r => ?_), h1.inv, h1.low, Nat.le_trans h1.hb g.size⟩, ⟨stoAt_grs h2.sat g (fun k q r => ?_), h2.inv, h2.low, Nat.le_trans h2.hb g.size⟩, h3⟩
  · have := stoAt_lt h1.sat k q; omega
  · have := stoAt_lt h2.sat k q; omega
theorem two_put {K : Nat} {wr : World} {S1 S2 : Nat} {s1 s2 : List Ser} (h : Two K wr S1 s1 S2 s2) {A : Option Addr} {n c : Nat} {zs : List Lb} (t v : Int) (hn : n ≤ 1000000000) (hA : A = none → n = 0 ∧ c = 0) (hz : Row wr A n 2 (sR lblC zs)) (hsh : ShortL zs) :
    Calls Try.prog 12 #[.pointer (some ⟨S1, 0, none⟩), .slice A n c, .int .i64 t, .int .i64 v] wr fun e w' => e = .returned (.int .i64 (putS s1 zs t v).1) ∧ Two K w' S1 (putS s1 zs t v).2 S2 s2 ∧ Below K wr w' := by
  obtain ⟨m1, m2, rfl, e2, h1, h2, hd⟩ := h.ex
  refine (put_in t v h1 hn hA hz hsh).mono ?_
  rintro e w' ⟨rfl, ⟨m', e1, k1, k2, k3⟩, B⟩
  refine ⟨rfl, ⟨m', m2, e1, e2, k1, ⟨stoAt_grs h2.sat k2 (fun k q r => hd k r q), h2.inv, h2.low, Nat.le_trans h2.hb k2.size⟩, fun k q r => ?_⟩, B⟩
  rcases k3 k q with s | s
  · exact hd k s r
  · have := stoAt_lt h2.sat k r
    omega
theorem two_put2 {K : Nat} {wr : World} {S1 S2 : Nat} {s1 s2 : List Ser} (h : Two K wr S1 s1 S2 s2) {A : Option Addr} {n c : Nat} {zs : List Lb} (t v : Int) (hn : n ≤ 1000000000) (hA : A = none → n = 0 ∧ c = 0) (hz : Row wr A n 2 (sR lblC zs)) (hsh : ShortL zs) :
    Calls Try.prog 12 #[.pointer (some ⟨S2, 0, none⟩), .slice A n c, .int .i64 t, .int .i64 v] wr fun e w' => e = .returned (.int .i64 (putS s2 zs t v).1) ∧ Two K w' S1 s1 S2 (putS s2 zs t v).2 ∧ Below K wr w' := by
  refine (two_put (two_swap h) t v hn hA hz hsh).mono ?_
  rintro e w' ⟨rfl, q, B⟩
  exact ⟨rfl, two_swap q, B⟩
end Go.Proofs.Ythlkcoiaahpmoaa
namespace Go.Proofs.Ythlkcoiaahpmoaa
open Go.RowKit Go.Maps Go.ChangeMaps Go.WideElems Go.MapKept

theorem seen_key (l : List UInt8) (h : l.length ≤ 1000000) : keyOf Try.prog 9 (.string (txt l)) = some (.string l) :=
  Go.WideMaps.keyOf_string_mk Try.underlying9 (by show l.toArray.size ≤ maxLen; unfold maxLen; simp; omega)
theorem seen_law : Keyed Try.prog 9 := string_keyed Try.underlying9
/-- Every one of ks was put. -/
def SeenM (w : World) (M n : Nat) (ks : List (List UInt8)) : Prop :=
  ∃ D : DataW Unit, w.ownsMap Try.prog 9 (plainElem Try.prog 4) M n D ∧ IsMap D ∧ ∀ k ∈ ks, ∀ z, D.atKey (.string k) z = .lit (.bool true)
theorem seen_new (w : World) : SeenM (w.alloc (.map #[] 0)) w.heap.size 0 [] := ⟨.map [], World.ownsMap_made w _ _ _, isMap_empty, by simp⟩
theorem seen_gr {w w' : World} {M n : Nat} {ks : List (List UInt8)} (h : SeenM w M n ks) (g : Gr w w') : SeenM w' M n ks := by
  obtain ⟨D, h1, h2, h3⟩ := h
  exact ⟨D, h1.kept g (by simp), h2, h3⟩
set_option maxRecDepth 100000 in
theorem seen_look {w : World} {M n : Nat} {ks : List (List UInt8)} (h : SeenM w M n ks) (k : List UInt8) (hk : k.length ≤ 1000000) :
    ∃ b, (Instr.lookup 42 (.map (some M)) (.string (txt k)) false).run Try.prog w = .ok (.bool b) w ∧ (k ∈ ks → b = true) := by
  obtain ⟨D, h1, h2, h3⟩ := h
  have hz : (zeroValue 4).run Try.prog w = .ok (.bool false) w := by kernel_rfl
  obtain ⟨v, ps, hrun, hv⟩ := h1.lookup seen_law Try.underlying42 hz (plainElem_bool Try.underlying4 false) (seen_key k hk)
  unfold plainElem at hv
  rw [Try.underlying4] at hv
  cases v <;> simp at hv
  rename_i b
  refine ⟨b, hrun, fun hm => ?_⟩
  have h4 := h3 k hm (.lit (.bool false))
  rw [h4] at hv
  have h5 := hv.1
  simp at h5
  exact h5
theorem seen_put {w : World} {M n : Nat} {ks : List (List UInt8)} (h : SeenM w M n ks) (k : List UInt8) (hk : k.length ≤ 1000000) (hn : n < 1000000) :
    ∃ w', (Instr.mapUpdate 42 (.map (some M)) (.string (txt k)) (.bool true)).run Try.prog w = .ok () w' ∧ SeenM w' M (n + 1) (ks ++ [k]) ∧ GrB M w w' := by
  obtain ⟨D, h1, h2, h3⟩ := h
  obtain ⟨w', hrun, hown, hg⟩ := h1.update seen_law Try.underlying42 (by unfold maxLen; omega) (seen_key k hk) (plainElem_bool Try.underlying4 true)
  refine ⟨w', hrun, ⟨_, hown, h2.put _ _, fun k' hk' z => ?_⟩, hg⟩
  by_cases e : k' = k
  · subst e
    exact atKey_put_same (k := .string k') h2 trivial _ _
  · rw [atKey_put_other (fun q => e (by injection q))]
    rcases List.mem_append.1 hk' with q | q
    · exact h3 k' q z
    · exact absurd (List.mem_singleton.1 q) e
theorem wpList_seen {w : World} {ops : Array Oper} {rest : List Oper} {o : Oper} {a : Act} {Q : Exit → Act → World → Prop} (hg : o.guard = none) (m x v : Operand) (hop : o.op = Op.mapUpdate 42 m x v)
    (M n : Nat) (ks : List (List UInt8)) (hm : a.eval m = .map (some M)) (h : SeenM w M n ks) (k : List UInt8) (hx : a.eval x = .string (txt k)) (hv : a.eval v = .bool true) (hk : k.length ≤ 1000000) (hn : n < 1000000)
    (hK : ∀ w', SeenM w' M (n + 1) (ks ++ [k]) → GrB M w w' → wpList Try.prog ops Q rest (a.put o.dst undef) w') : wpList Try.prog ops Q (o :: rest) a w := by
  refine wpList_plain hg fun K' hK' => ?_
  obtain ⟨w', hrun, r1, r2⟩ := seen_put h k hk hn
  unfold Oper.wp
  simp [execOp, hop, hm, hx, hv, hrun, Result.andThen]
  exact hK' _ _ (hK w' r1 r2)
end Go.Proofs.Ythlkcoiaahpmoaa
namespace Go.Proofs.Ythlkcoiaahpmoaa
open Go.RowKit

def seenL (z : List Opx) (k : Nat) : List (List UInt8) := (z.take k).map fun o => textL o.l
theorem seenL_succ {z : List Opx} {k : Nat} {o : Opx} (h : z[k]? = some o) : seenL z (k + 1) = seenL z k ++ [textL o.l] := by
  obtain ⟨h1, h2⟩ := List.getElem?_eq_some_iff.1 h
  unfold seenL
  rw [List.take_succ_eq_append_getElem h1, h2, List.map_append]
  rfl
theorem seen_next {z0 z1 : List Opx} {n k : Nat} {o : Opx} (hl : z0.length = n) (hD : ∀ y ∈ z1.take k, ∀ x ∈ z0, x.l ≠ y.l) (ho : z1[k]? = some o) (hn : textL o.l ∉ seenL z0 n) : ∀ y ∈ z1.take (k + 1), ∀ x ∈ z0, x.l ≠ y.l := by
  obtain ⟨h1, h2⟩ := List.getElem?_eq_some_iff.1 ho
  intro y hy x hx e
  rw [List.take_succ_eq_append_getElem h1, h2] at hy
  rcases List.mem_append.1 hy with q | q
  · exact hD y q x hx e
  · rw [List.mem_singleton.1 q] at e
    refine hn ?_
    unfold seenL
    rw [List.take_of_length_le (by omega), ← e]
    exact List.mem_map.2 ⟨x, hx, rfl⟩
end Go.Proofs.Ythlkcoiaahpmoaa
