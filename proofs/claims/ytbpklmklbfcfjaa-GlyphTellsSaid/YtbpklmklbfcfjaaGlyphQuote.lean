/-
  Plain facts on texts in quotation marks, as lists of bytes. No condition, no program.
-/
import Derived.Test.YtbpklmklbfcfjaaGlyphMath
namespace Go.Proofs.Ytbpklmklbfcfjaa
open Go.Lib (decodeL encodeRune encodeRuneZ encodeRuneZ_one encodeRuneZ_two encodeRuneZ_three encodeRuneZ_four)

def digs : List UInt8 := [48, 49, 50, 51, 52, 53, 54, 55, 56, 57, 97, 98, 99, 100, 101, 102]
def hexd (n : Nat) : UInt8 := digs.getD n 0
/-- What becomes of one rune. -/
def qc (c : Nat × List UInt8) : List UInt8 :=
  if c.1 = 34 ∨ c.1 = 92 then 92 :: c.2
  else if c.1 = 10 then [92, 110]
  else if c.1 = 65533 ∧ c.2 ≠ [239, 191, 189] then [92, 120, hexd ((c.2.headD 0).toNat / 16), hexd ((c.2.headD 0).toNat % 16)]
  else c.2
def qbody (cs : List (Nat × List UInt8)) : List UInt8 := cs.flatMap qc
def quote (l : List UInt8) : List UInt8 := 34 :: (qbody (chunks l) ++ [34])
theorem qbody_snoc (cs : List (Nat × List UInt8)) (c : Nat × List UInt8) : qbody (cs ++ [c]) = qbody cs ++ qc c := by simp [qbody]

/-- The number of a digit. -/
def unhex (c : UInt8) : Option Nat := if 48 ≤ c.toNat ∧ c.toNat ≤ 57 then some (c.toNat - 48) else if 97 ≤ c.toNat ∧ c.toNat ≤ 102 then some (c.toNat - 87) else none
theorem unhex_hexd : ∀ n, n < 16 → unhex (hexd n) = some n := by decide
/-- What stands behind a backslash, and how many bytes that takes; 0: it is nothing. -/
def escp : Option Nat → Option Nat → Option (List UInt8 × Nat)
  | some x, some y => some ([UInt8.ofNat (x * 16 + y)], 3)
  | _, _ => none
def escx : List UInt8 → Option (List UInt8 × Nat)
  | b :: c :: _ => escp (unhex b) (unhex c)
  | _ => none
def esc1 (a : UInt8) (l : List UInt8) : Option (List UInt8 × Nat) :=
  if a = 34 ∨ a = 92 then some ([a], 1) else if a = 110 then some ([10], 1) else if a = 120 then escx l else none
def esc : List UInt8 → Option (List UInt8 × Nat)
  | [] => none
  | a :: l => esc1 a l
theorem escx_len {l b : List UInt8} {n : Nat} (h : escx l = some (b, n)) : n = 3 ∧ 2 ≤ l.length ∧ b.length = 1 := by
  match l, h with
  | x :: y :: t, h =>
    have h' : escp (unhex x) (unhex y) = some (b, n) := h
    cases hx : unhex x with
    | none => rw [hx] at h'; simp [escp] at h'
    | some u =>
      cases hy : unhex y with
      | none => rw [hx, hy] at h'; simp [escp] at h'
      | some v =>
        rw [hx, hy] at h'
        simp only [escp, Option.some.injEq, Prod.mk.injEq] at h'
        obtain ⟨rfl, rfl⟩ := h'
        simp
  | [x], h => simp [escx] at h
  | [], h => simp [escx] at h
theorem esc_len {l b : List UInt8} {n : Nat} (h : esc l = some (b, n)) : 1 ≤ n ∧ n ≤ l.length ∧ n ≤ 3 ∧ b.length = 1 := by
  cases l with
  | nil => simp [esc] at h
  | cons a l =>
    have h' : esc1 a l = some (b, n) := h
    unfold esc1 at h'
    split at h'
    · simp at h'; obtain ⟨rfl, rfl⟩ := h'; simp
    · split at h'
      · simp at h'; obtain ⟨rfl, rfl⟩ := h'; simp
      · split at h'
        · have := escx_len h'
          simp only [List.length_cons]
          omega
        · simp at h'
def unF : Nat → List UInt8 → Option (List UInt8)
  | 0, _ => some []
  | _ + 1, [] => some []
  | n + 1, a :: l => if a = 92 then match esc l with
      | none => none
      | some (b, k) => (unF n (l.drop k)).map (b ++ ·)
    else (unF n l).map (a :: ·)
def un (l : List UInt8) : Option (List UInt8) := unF l.length l
theorem unF_any : ∀ (n m : Nat) (l : List UInt8), l.length ≤ n → l.length ≤ m → unF n l = unF m l
  | 0, 0, _, _, _ => rfl
  | 0, m + 1, l, h, _ => by obtain rfl : l = [] := List.eq_nil_of_length_eq_zero (by omega); rfl
  | n + 1, 0, l, _, h => by obtain rfl : l = [] := List.eq_nil_of_length_eq_zero (by omega); rfl
  | n + 1, m + 1, [], _, _ => rfl
  | n + 1, m + 1, a :: l, h1, h2 => by
    simp only [List.length_cons] at h1 h2
    unfold unF
    split
    · cases he : esc l with
      | none => rfl
      | some bk =>
        obtain ⟨b, k⟩ := bk
        simp only
        rw [unF_any n m (l.drop k) (by rw [List.length_drop]; omega) (by rw [List.length_drop]; omega)]
    · rw [unF_any n m l (by omega) (by omega)]
theorem un_nil : un [] = some [] := rfl
theorem un_plain {a : UInt8} (h : a ≠ 92) (l : List UInt8) : un (a :: l) = (un l).map (a :: ·) := by
  show unF (l.length + 1) (a :: l) = _
  unfold unF
  rw [if_neg h]
  rfl
theorem un_bad {l : List UInt8} (h : esc l = none) : un (92 :: l) = none := by
  show unF (l.length + 1) (92 :: l) = _
  unfold unF
  rw [if_pos rfl, h]
theorem un_esc {l b : List UInt8} {k : Nat} (h : esc l = some (b, k)) : un (92 :: l) = (un (l.drop k)).map (b ++ ·) := by
  show unF (l.length + 1) (92 :: l) = _
  unfold unF
  rw [if_pos rfl, h]
  simp only
  rw [unF_any l.length (l.drop k).length (l.drop k) (by rw [List.length_drop]; omega) (Nat.le_refl _)]
  rfl
theorem un_len : ∀ (n : Nat) (l o : List UInt8), unF n l = some o → o.length ≤ l.length
  | 0, _, o, h => by simp [unF] at h; subst h; simp
  | n + 1, [], o, h => by simp [unF] at h; subst h; simp
  | n + 1, a :: l, o, h => by
    unfold unF at h
    split at h
    · cases he : esc l with
      | none => rw [he] at h; simp at h
      | some bk =>
        obtain ⟨b, k⟩ := bk
        have hl := esc_len he
        rw [he] at h
        simp only [Option.map_eq_some_iff] at h
        obtain ⟨x, hx, rfl⟩ := h
        have := un_len n _ x hx
        rw [List.length_drop] at this
        rw [List.length_append, List.length_cons]
        omega
    · simp only [Option.map_eq_some_iff] at h
      obtain ⟨x, hx, rfl⟩ := h
      have := un_len n _ x hx
      simp only [List.length_cons]
      omega
/-- Bytes without a backslash. -/
theorem un_bytes {a : List UInt8} (h : ∀ x ∈ a, x ≠ 92) (t : List UInt8) : un (a ++ t) = (un t).map (a ++ ·) := by
  induction a with
  | nil => simp
  | cons x a ih =>
    rw [List.cons_append, un_plain (h x (by simp)), ih (fun y hy => h y (by simp [hy])), Option.map_map]
    rfl
/-- The bytes of a rune are its own sign, or none of ASCII. -/
theorem enc_bytes {r : Int} (h : RuneOk r) : ∀ x ∈ encodeRune r, (x.toNat : Int) = r ∨ 128 ≤ x.toNat := by
  obtain ⟨h0, h1⟩ := h
  unfold encodeRune
  intro x hx
  rw [List.mem_map] at hx
  obtain ⟨z, hz, rfl⟩ := hx
  have hb := Go.Lib.encodeRuneZ_byte r z hz
  rw [u8n z hb.1 hb.2]
  by_cases c1 : r ≤ 127
  · rw [encodeRuneZ_one h0 c1] at hz
    simp at hz
    omega
  · right
    by_cases c2 : r ≤ 2047
    · rw [encodeRuneZ_two (by omega) c2] at hz
      simp at hz
      omega
    · by_cases c3 : r ≤ 65535
      · rw [encodeRuneZ_three (by omega)] at hz
        simp at hz
        omega
      · rw [encodeRuneZ_four (by omega) (by omega)] at hz
        simp at hz
        omega
theorem chunk_bytes {l : List UInt8} {c : Nat × List UInt8} (h : c ∈ chunks l) (hb : ¬ BadC c) {k : Nat} (hk : k < 128) (hne : c.1 ≠ k) : ∀ x ∈ c.2, x.toNat ≠ k := by
  intro x hx
  rw [← chunk_enc h hb] at hx
  have := enc_bytes (chunk_rune h) x hx
  omega
theorem chunk_ascii {l : List UInt8} {c : Nat × List UInt8} (h : c ∈ chunks l) (hk : c.1 < 128) : c.2 = [UInt8.ofNat c.1] := by
  have hb : ¬ BadC c := fun h => by have := h.1; omega
  rw [← chunk_enc h hb]
  unfold encodeRune
  rw [encodeRuneZ_one (by omega) (by omega)]
  simp
theorem wide_enc : encodeRune 65533 = [239, 191, 189] := by
  unfold encodeRune
  rw [encodeRuneZ_three (by omega)]
  decide
theorem chunk_wide {l : List UInt8} {c : Nat × List UInt8} (h : c ∈ chunks l) (h1 : c.1 = 65533) (h2 : c.2 ≠ [239, 191, 189]) : ∃ b, c.2 = [b] := by
  have hb : BadC c := Decidable.byContradiction fun hb => h2 (by rw [← chunk_enc h hb, h1]; exact wide_enc)
  obtain ⟨_, h4⟩ := hb
  match hc : c.2, h4 with
  | [b], _ => exact ⟨b, rfl⟩
theorem hex_back : ∀ n, n < 256 → UInt8.ofNat (n / 16 * 16 + n % 16) = UInt8.ofNat n := by
  intro n h
  congr 1
  omega
theorem un_qc {l : List UInt8} {c : Nat × List UInt8} (h : c ∈ chunks l) (t : List UInt8) : un (qc c ++ t) = (un t).map (c.2 ++ ·) := by
  unfold qc
  split
  · rename_i h1
    have ha := chunk_ascii h (by omega)
    rcases h1 with h1 | h1
    · rw [h1] at ha
      rw [ha]
      exact un_esc (l := 34 :: t) (b := [34]) (k := 1) rfl
    · rw [h1] at ha
      rw [ha]
      exact un_esc (l := 92 :: t) (b := [92]) (k := 1) rfl
  · split
    · rename_i _ h1
      have ha := chunk_ascii h (by omega)
      rw [h1] at ha
      rw [ha]
      exact un_esc (l := 110 :: t) (b := [10]) (k := 1) rfl
    · split
      · rename_i _ _ h1
        obtain ⟨b, hb⟩ := chunk_wide h h1.1 h1.2
        rw [hb]
        have hlt := UInt8.toNat_lt b
        refine un_esc (l := 120 :: hexd (b.toNat / 16) :: hexd (b.toNat % 16) :: t) (b := [b]) (k := 3) ?_
        show escp (unhex (hexd (b.toNat / 16))) (unhex (hexd (b.toNat % 16))) = _
        rw [unhex_hexd _ (by omega), unhex_hexd _ (by omega)]
        show some ([UInt8.ofNat (b.toNat / 16 * 16 + b.toNat % 16)], 3) = _
        rw [hex_back _ (by omega)]
        simp
      · rename_i h1 _ h3
        refine un_bytes ?_ t
        intro x hx e
        by_cases hb : BadC c
        · obtain ⟨g1, g2⟩ := hb
          refine h3 ⟨g1, fun e2 => ?_⟩
          rw [e2] at g2
          simp at g2
        · exact chunk_bytes h hb (k := 92) (by omega) (by omega) x hx (by rw [e]; rfl)
theorem un_qbody {l : List UInt8} : ∀ (cs : List (Nat × List UInt8)), (∀ c ∈ cs, c ∈ chunks l) → ∀ t, un (qbody cs ++ t) = (un t).map (joinC cs ++ ·)
  | [], _, t => by simp [qbody, joinC]
  | c :: cs, h, t => by
    show un ((qc c ++ qbody cs) ++ t) = _
    rw [List.append_assoc, un_qc (h c (by simp)), un_qbody cs (fun x hx => h x (by simp [hx])), Option.map_map, joinC_cons]
    congr 1
    funext x
    simp
theorem un_quote (l t : List UInt8) : un (qbody (chunks l) ++ t) = (un t).map (l ++ ·) := by
  rw [un_qbody (l := l) _ (fun _ h => h), chunks_join]
theorem un_back (l : List UInt8) : un (qbody (chunks l) ++ [34]) = some (l ++ [34]) := by
  rw [un_quote]
  rfl
theorem quote_inj {a b : List UInt8} (h : quote a = quote b) : a = b := by
  have h1 := List.cons.inj h
  have ha := un_back a
  rw [h1.2, un_back] at ha
  exact (List.append_cancel_right (Option.some.inj ha)).symm

/-- What stands behind the first quotation mark that ends. -/
def scan : List UInt8 → Option (List UInt8)
  | [] => none
  | [a] => if a = 34 then some [] else none
  | a :: b :: l => if a = 34 then some (b :: l) else if a = 92 then scan l else scan (b :: l)
theorem scan_end (t : List UInt8) : scan (34 :: t) = some t := by
  cases t with
  | nil => rfl
  | cons b l => rfl
theorem scan_plain {a : UInt8} (h : a ≠ 34) (h2 : a ≠ 92) (t : List UInt8) : scan (a :: t) = scan t := by
  cases t with
  | nil => simp [scan, h]
  | cons b l => simp [scan, h, h2]
theorem scan_esc (b : UInt8) (t : List UInt8) : scan (92 :: b :: t) = scan t := by simp [scan]
theorem scan_bytes {a : List UInt8} (h : ∀ x ∈ a, x ≠ 34 ∧ x ≠ 92) (t : List UInt8) : scan (a ++ t) = scan t := by
  induction a with
  | nil => rfl
  | cons x a ih =>
    rw [List.cons_append, scan_plain (h x (by simp)).1 (h x (by simp)).2, ih (fun y hy => h y (by simp [hy]))]
theorem hexd_ne : ∀ n, n < 16 → hexd n ≠ 34 ∧ hexd n ≠ 92 := by decide
theorem scan_qc {l : List UInt8} {c : Nat × List UInt8} (h : c ∈ chunks l) (t : List UInt8) : scan (qc c ++ t) = scan t := by
  unfold qc
  split
  · rename_i h1
    have ha := chunk_ascii h (by omega)
    rcases h1 with h1 | h1
    · rw [h1] at ha; rw [ha]; exact scan_esc _ _
    · rw [h1] at ha; rw [ha]; exact scan_esc _ _
  · split
    · exact scan_esc _ _
    · split
      · rename_i _ _ h1
        obtain ⟨b, hb⟩ := chunk_wide h h1.1 h1.2
        have hlt := UInt8.toNat_lt b
        rw [hb]
        show scan (92 :: 120 :: hexd (b.toNat / 16) :: hexd (b.toNat % 16) :: t) = _
        rw [scan_esc]
        have e1 := hexd_ne (b.toNat / 16) (by omega)
        have e2 := hexd_ne (b.toNat % 16) (by omega)
        rw [scan_plain e1.1 e1.2, scan_plain e2.1 e2.2]
      · rename_i h1 _ h3
        refine scan_bytes ?_ t
        intro x hx
        have hnb : ¬ BadC c := by
          intro ⟨g1, g2⟩
          refine h3 ⟨g1, fun e2 => ?_⟩
          rw [e2] at g2
          simp at g2
        have k1 := chunk_bytes h hnb (k := 34) (by omega) (by omega) x hx
        have k2 := chunk_bytes h hnb (k := 92) (by omega) (by omega) x hx
        exact ⟨fun e => k1 (by rw [e]; rfl), fun e => k2 (by rw [e]; rfl)⟩
theorem scan_qbody {l : List UInt8} : ∀ (cs : List (Nat × List UInt8)), (∀ c ∈ cs, c ∈ chunks l) → ∀ t, scan (qbody cs ++ t) = scan t
  | [], _, t => rfl
  | c :: cs, h, t => by
    show scan ((qc c ++ qbody cs) ++ t) = _
    rw [List.append_assoc, scan_qc (h c (by simp)), scan_qbody cs (fun x hx => h x (by simp [hx]))]
/-- No quotation is the beginning of another one. -/
theorem quote_pre {a b t : List UInt8} (h : quote b = quote a ++ t) : t = [] := by
  have h1 := (List.cons.inj h).2
  have hb := scan_qbody (l := b) (chunks b) (fun _ h => h) [34]
  rw [h1] at hb
  change scan ((qbody (chunks a) ++ [34]) ++ t) = _ at hb
  rw [List.append_assoc, scan_qbody (l := a) (chunks a) (fun _ h => h)] at hb
  rw [List.singleton_append, scan_end, scan_end] at hb
  exact Option.some.inj hb
theorem qc_len {l : List UInt8} {c : Nat × List UInt8} (h : c ∈ chunks l) : (qc c).length ≤ 4 * c.2.length := by
  have := chunk_len h
  unfold qc
  repeat' split
  all_goals simp
  all_goals omega
theorem qbody_len {l : List UInt8} : ∀ (cs : List (Nat × List UInt8)), (∀ c ∈ cs, c ∈ chunks l) → (qbody cs).length ≤ 4 * (joinC cs).length
  | [], _ => Nat.le_refl _
  | c :: cs, h => by
    have h1 := qc_len (h c (by simp))
    have h2 := qbody_len cs (fun x hx => h x (by simp [hx]))
    rw [joinC_cons]
    show (qc c ++ qbody cs).length ≤ _
    rw [List.length_append, List.length_append]
    omega
end Go.Proofs.Ytbpklmklbfcfjaa
