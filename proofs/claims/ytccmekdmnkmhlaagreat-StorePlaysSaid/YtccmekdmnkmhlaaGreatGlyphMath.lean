/-
  Plain facts on texts as lists of bytes: their runes, one behind the other. No condition, no program.
-/
import Derived.Lib.MapLaws
import Derived.Lib.QuoteLoop
namespace Go.Proofs.YtccmekdmnkmhlaaGreat
open Go.Lib (decodeL encodeRune decodeN decodeL_N encodeRuneZ encodeRuneZ_one encodeRuneZ_two encodeRuneZ_three encodeRuneZ_four encodeRuneZ_bad decodeL_width decodeL_le)

/-! ### decode, what was encoded -/
theorem decN2 {n b0 b1 b2 b3 : Nat} (c1 : b0 / 32 = 6) (c2 : 1 < n) (c3 : b1 / 64 = 2) (cv : 128 ≤ b0 % 32 * 64 + b1 % 64) : decodeN n b0 b1 b2 b3 = (b0 % 32 * 64 + b1 % 64, 2) := by
  unfold decodeN
  repeat' split
  all_goals first | (exfalso; omega) | rfl
theorem decN3 {n b0 b1 b2 b3 : Nat} (c1 : b0 / 16 = 14) (c2 : 2 < n) (c3 : b1 / 64 = 2) (c4 : b2 / 64 = 2) (cv : 2048 ≤ b0 % 16 * 4096 + b1 % 64 * 64 + b2 % 64) (cs : b0 % 16 * 4096 + b1 % 64 * 64 + b2 % 64 < 55296 ∨ 57344 ≤ b0 % 16 * 4096 + b1 % 64 * 64 + b2 % 64) : decodeN n b0 b1 b2 b3 = (b0 % 16 * 4096 + b1 % 64 * 64 + b2 % 64, 3) := by
  unfold decodeN
  repeat' split
  all_goals first | (exfalso; omega) | rfl
theorem decN4 {n b0 b1 b2 b3 : Nat} (c1 : b0 / 8 = 30) (c2 : 3 < n) (c3 : b1 / 64 = 2) (c4 : b2 / 64 = 2) (c5 : b3 / 64 = 2) (cv : 65536 ≤ b0 % 8 * 262144 + b1 % 64 * 4096 + b2 % 64 * 64 + b3 % 64) (cw : b0 % 8 * 262144 + b1 % 64 * 4096 + b2 % 64 * 64 + b3 % 64 ≤ 1114111) : decodeN n b0 b1 b2 b3 = (b0 % 8 * 262144 + b1 % 64 * 4096 + b2 % 64 * 64 + b3 % 64, 4) := by
  unfold decodeN
  repeat' split
  all_goals first | (exfalso; omega) | rfl

/-- May a number be a rune? -/
def RuneOk (r : Int) : Prop := 0 ≤ r ∧ (r < 55296 ∨ (57343 < r ∧ r ≤ 1114111))
instance (r : Int) : Decidable (RuneOk r) := by unfold RuneOk; infer_instance
def fixR (r : Int) : Int := if RuneOk r then r else 65533
theorem fixR_ok (r : Int) : RuneOk (fixR r) := by
  unfold fixR
  split
  · assumption
  · unfold RuneOk; omega
theorem fixR_of {r : Int} (h : RuneOk r) : fixR r = r := if_pos h
theorem enc_fix (r : Int) : encodeRune r = encodeRune (fixR r) := by
  unfold fixR
  split
  · rfl
  · rename_i h
    unfold RuneOk at h
    unfold encodeRune
    rw [encodeRuneZ_bad (by omega), encodeRuneZ_three (by omega)]
    rfl
theorem u8n (z : Int) (_h0 : 0 ≤ z) (h1 : z < 256) : (z.toNat.toUInt8).toNat = z.toNat := by
  simp
  omega
theorem enc_len (r : Int) : 1 ≤ (encodeRune r).length ∧ (encodeRune r).length ≤ 4 := by
  unfold encodeRune
  rw [List.length_map]
  exact Go.Lib.encodeRuneZ_length r
theorem enc_ne (r : Int) : encodeRune r ≠ [] := fun h => by have := (enc_len r).1; rw [h] at this; simp at this
theorem dec_enc {r : Int} (h : RuneOk r) (t : List UInt8) : decodeL (encodeRune r ++ t) = (r.toNat, (encodeRune r).length) := by
  obtain ⟨h0, h1⟩ := h
  rw [decodeL_N]
  unfold encodeRune
  by_cases c1 : r ≤ 127
  · rw [encodeRuneZ_one h0 c1]
    simp only [List.map_cons, List.map_nil, List.cons_append, List.nil_append, List.getD_cons_zero, List.length_cons, List.length_nil]
    rw [u8n _ h0 (by omega), Go.Lib.decodeN_ascii _ _ _ _ _ (by omega)]
  · by_cases c2 : r ≤ 2047
    · rw [encodeRuneZ_two (by omega) c2]
      simp only [List.map_cons, List.map_nil, List.cons_append, List.nil_append, List.getD_cons_zero, List.getD_cons_succ, List.length_cons, List.length_nil]
      rw [u8n _ (by omega) (by omega), u8n _ (by omega) (by omega), decN2 (by omega) (by omega) (by omega) (by omega)]
      exact Prod.ext (by simp only []; omega) rfl
    · by_cases c3 : r ≤ 65535
      · rw [encodeRuneZ_three (by omega)]
        simp only [List.map_cons, List.map_nil, List.cons_append, List.nil_append, List.getD_cons_zero, List.getD_cons_succ, List.length_cons, List.length_nil]
        rw [u8n _ (by omega) (by omega), u8n _ (by omega) (by omega), u8n _ (by omega) (by omega), decN3 (by omega) (by omega) (by omega) (by omega) (by omega) (by omega)]
        exact Prod.ext (by simp only []; omega) rfl
      · rw [encodeRuneZ_four (by omega) (by omega)]
        simp only [List.map_cons, List.map_nil, List.cons_append, List.nil_append, List.getD_cons_zero, List.getD_cons_succ, List.length_cons, List.length_nil]
        rw [u8n _ (by omega) (by omega), u8n _ (by omega) (by omega), u8n _ (by omega) (by omega), u8n _ (by omega) (by omega), decN4 (by omega) (by omega) (by omega) (by omega) (by omega) (by omega) (by omega)]
        exact Prod.ext (by simp only []; omega) rfl

/-- The runes that come out may be runes. -/
theorem dec_ok (l : List UInt8) : RuneOk ((decodeL l).1 : Int) := by
  rw [decodeL_N]
  have := Go.Lib.decodeN_valid l.length (l.getD 0 0).toNat (l.getD 1 0).toNat (l.getD 2 0).toNat (l.getD 3 0).toNat (UInt8.toNat_lt _)
  unfold RuneOk
  omega
/-- Is what stands at the beginning no right rune? -/
def BadC (c : Nat × List UInt8) : Prop := c.1 = 65533 ∧ c.2.length = 1
instance (c : Nat × List UInt8) : Decidable (BadC c) := by unfold BadC; infer_instance
def headC (l : List UInt8) : Nat × List UInt8 := ((decodeL l).1, l.take (decodeL l).2)
theorem head_len {l : List UInt8} (h : l ≠ []) : (headC l).2.length = (decodeL l).2 := by
  have := decodeL_le l h
  show (l.take _).length = _
  rw [List.length_take]
  omega
theorem head_enc {l : List UInt8} (h : l ≠ []) (hv : ¬ BadC (headC l)) : encodeRune ((headC l).1 : Int) = (headC l).2 := by
  refine Go.Lib.encode_decode l h fun ⟨a, b⟩ => hv ⟨a, ?_⟩
  rw [head_len h, b]
theorem head_ext {l : List UInt8} (h : l ≠ []) (hv : ¬ BadC (headC l)) (t : List UInt8) : decodeL ((headC l).2 ++ t) = decodeL l := by
  rw [← head_enc h hv]
  have := dec_enc (dec_ok l) t
  show decodeL (encodeRune ((decodeL l).1 : Int) ++ t) = _
  rw [this]
  have h2 := head_enc h hv
  have h3 := head_len h
  rw [← h2] at h3
  have h4 : (encodeRune ((decodeL l).1 : Int)).length = (decodeL l).2 := h3
  rw [h4]
  rfl

/-! ### the runes of a text, with their bytes -/
def chunksF : Nat → List UInt8 → List (Nat × List UInt8)
  | 0, _ => []
  | n + 1, l => if l = [] then [] else headC l :: chunksF n (l.drop (decodeL l).2)
def chunks (l : List UInt8) : List (Nat × List UInt8) := chunksF l.length l
theorem chunksF_any : ∀ (n m : Nat) (l : List UInt8), l.length ≤ n → l.length ≤ m → chunksF n l = chunksF m l
  | 0, 0, _, _, _ => rfl
  | 0, m + 1, l, h, _ => by obtain rfl : l = [] := List.eq_nil_of_length_eq_zero (by omega); rfl
  | n + 1, 0, l, _, h => by obtain rfl : l = [] := List.eq_nil_of_length_eq_zero (by omega); rfl
  | n + 1, m + 1, l, h1, h2 => by
    unfold chunksF
    by_cases hl : l = []
    · rw [if_pos hl, if_pos hl]
    · rw [if_neg hl, if_neg hl]
      have := decodeL_width l
      have hp := List.length_pos_iff.2 hl
      rw [chunksF_any n m _ (by rw [List.length_drop]; omega) (by rw [List.length_drop]; omega)]
theorem chunks_nil : chunks [] = [] := rfl
theorem chunks_cons {l : List UInt8} (h : l ≠ []) : chunks l = headC l :: chunks (l.drop (decodeL l).2) := by
  have hp := List.length_pos_iff.2 h
  obtain ⟨n, hn⟩ : ∃ n, l.length = n + 1 := ⟨l.length - 1, by omega⟩
  have := decodeL_width l
  unfold chunks
  rw [hn]
  show (if l = [] then [] else _) = _
  rw [if_neg h, chunksF_any n (l.drop (decodeL l).2).length _ (by rw [List.length_drop]; omega) (Nat.le_refl _)]
theorem chunk_ind {P : List UInt8 → Prop} (h0 : P []) (h1 : ∀ l, l ≠ [] → P (l.drop (decodeL l).2) → P l) : ∀ l, P l := by
  have : ∀ n (l : List UInt8), l.length ≤ n → P l := by
    intro n
    induction n with
    | zero => intro l h; obtain rfl : l = [] := List.eq_nil_of_length_eq_zero (by omega); exact h0
    | succ n ih =>
      intro l h
      by_cases hl : l = []
      · subst hl; exact h0
      · have := decodeL_width l
        have hp := List.length_pos_iff.2 hl
        exact h1 l hl (ih _ (by rw [List.length_drop]; omega))
  exact fun l => this _ l (Nat.le_refl _)
def joinC (cs : List (Nat × List UInt8)) : List UInt8 := cs.flatMap (·.2)
theorem joinC_cons (c : Nat × List UInt8) (cs : List (Nat × List UInt8)) : joinC (c :: cs) = c.2 ++ joinC cs := by simp [joinC]
theorem joinC_append (a b : List (Nat × List UInt8)) : joinC (a ++ b) = joinC a ++ joinC b := by simp [joinC]
theorem chunks_join (l : List UInt8) : joinC (chunks l) = l := by
  refine chunk_ind (P := fun l => joinC (chunks l) = l) rfl ?_ l
  intro l hl ih
  rw [chunks_cons hl, joinC_cons, ih]
  exact List.take_append_drop _ _
theorem chunks_len (l : List UInt8) : (chunks l).length ≤ l.length := by
  refine chunk_ind (P := fun l => (chunks l).length ≤ l.length) (Nat.le_refl _) ?_ l
  intro l hl ih
  rw [chunks_cons hl, List.length_cons]
  rw [List.length_drop] at ih
  have := decodeL_width l
  have := decodeL_le l hl
  omega
theorem chunks_mem {l : List UInt8} : ∀ c ∈ chunks l, ∃ m, m ≠ [] ∧ c = headC m := by
  refine chunk_ind (P := fun l => ∀ c ∈ chunks l, ∃ m, m ≠ [] ∧ c = headC m) (by simp [chunks_nil]) ?_ l
  intro l hl ih c hc
  rw [chunks_cons hl] at hc
  rcases List.mem_cons.1 hc with rfl | hc
  · exact ⟨l, hl, rfl⟩
  · exact ih c hc
theorem chunk_rune {l : List UInt8} {c : Nat × List UInt8} (h : c ∈ chunks l) : RuneOk (c.1 : Int) := by
  obtain ⟨m, _, rfl⟩ := chunks_mem c h
  exact dec_ok m
theorem chunk_len {l : List UInt8} {c : Nat × List UInt8} (h : c ∈ chunks l) : 1 ≤ c.2.length := by
  obtain ⟨m, hm, rfl⟩ := chunks_mem c h
  rw [head_len hm]
  exact decodeL_width m
theorem chunk_le4 {l : List UInt8} {c : Nat × List UInt8} (h : c ∈ chunks l) : c.2.length ≤ 4 := by
  obtain ⟨m, hm, rfl⟩ := chunks_mem c h
  rw [head_len hm, decodeL_N]
  rcases Go.Lib.decodeN_shape m.length (m.getD 0 0).toNat (m.getD 1 0).toNat (m.getD 2 0).toNat (m.getD 3 0).toNat with ⟨_, e⟩ | ⟨_, _, _, _, e⟩ | ⟨_, _, _, _, _, _, e⟩ | ⟨_, _, _, _, _, _, _, e⟩ | e
  all_goals rw [e]; simp
theorem joinC_le4 : ∀ cs : List (Nat × List UInt8), (∀ c ∈ cs, c.2.length ≤ 4) → (joinC cs).length ≤ 4 * cs.length
  | [], _ => Nat.le_refl _
  | c :: cs, h => by
    have h1 := h c (by simp)
    have h2 := joinC_le4 cs (fun x hx => h x (by simp [hx]))
    rw [joinC_cons, List.length_append, List.length_cons]
    omega
theorem chunks_le4 (l : List UInt8) : l.length ≤ 4 * (chunks l).length := by
  have := joinC_le4 (chunks l) (fun c hc => chunk_le4 hc)
  rwa [chunks_join] at this
theorem chunk_enc {l : List UInt8} {c : Nat × List UInt8} (h : c ∈ chunks l) (hb : ¬ BadC c) : encodeRune (c.1 : Int) = c.2 := by
  obtain ⟨m, hm, rfl⟩ := chunks_mem c h
  exact head_enc hm hb

/-- The first k runes, and where they end: what a range over a text does. -/
theorem chunks_step {l : List UInt8} {done : List (Nat × List UInt8)} {p : Nat} (h : chunks l = done ++ chunks (l.drop p)) (hp : p < l.length) :
    chunks l = (done ++ [headC (l.drop p)]) ++ chunks (l.drop (p + (decodeL (l.drop p)).2)) := by
  rw [h]
  have hne : l.drop p ≠ [] := fun e => by have := congrArg List.length e; rw [List.length_drop] at this; simp at this; omega
  conv => lhs; rw [chunks_cons hne]
  rw [List.drop_drop, List.append_assoc]
  rfl
theorem chunks_pos {l : List UInt8} {done : List (Nat × List UInt8)} {p : Nat} (h : chunks l = done ++ chunks (l.drop p)) : joinC done ++ l.drop p = l := by
  have := chunks_join l
  rw [h, joinC_append, chunks_join] at this
  exact this
theorem chunks_at {l : List UInt8} {done : List (Nat × List UInt8)} {p : Nat} (h : chunks l = done ++ chunks (l.drop p)) (_hp : p ≤ l.length) : joinC done = l.take p := by
  have h1 := chunks_pos h
  have h2 := List.take_append_drop p l
  exact List.append_cancel_right (h1.trans h2.symm)

/-! ### encoded runes -/
def encs (rs : List Int) : List UInt8 := rs.flatMap encodeRune
theorem chunks_enc (r : Int) (t : List UInt8) : chunks (encodeRune r ++ t) = ((fixR r).toNat, encodeRune r) :: chunks t := by
  have hne : encodeRune r ++ t ≠ [] := by simp [enc_ne]
  rw [chunks_cons hne]
  have hd : decodeL (encodeRune r ++ t) = ((fixR r).toNat, (encodeRune r).length) := by
    conv => lhs; rw [enc_fix r]
    rw [dec_enc (fixR_ok r), ← enc_fix]
  unfold headC
  rw [hd]
  simp
theorem chunks_encs (rs : List Int) (t : List UInt8) : chunks (encs rs ++ t) = rs.map (fun r => ((fixR r).toNat, encodeRune r)) ++ chunks t := by
  induction rs with
  | nil => rfl
  | cons r rs ih =>
    show chunks ((encodeRune r ++ encs rs) ++ t) = _
    rw [List.append_assoc, chunks_enc, ih]
    rfl
/-- Texts of right UTF-8. -/
def Good (l : List UInt8) : Prop := ∀ c ∈ chunks l, ¬ BadC c
theorem chunks_append {l : List UInt8} (h : Good l) (t : List UInt8) : chunks (l ++ t) = chunks l ++ chunks t := by
  revert h
  refine chunk_ind (P := fun l => Good l → chunks (l ++ t) = chunks l ++ chunks t) (fun _ => rfl) ?_ l
  intro l hl ih h
  unfold Good at h
  rw [chunks_cons hl] at h
  have hb : ¬ BadC (headC l) := h _ (by simp)
  have e : l = (headC l).2 ++ l.drop (decodeL l).2 := (List.take_append_drop _ _).symm
  have hd : decodeL (l ++ t) = decodeL l := by
    conv => lhs; rw [e, List.append_assoc]
    exact head_ext hl hb _
  have hle := decodeL_le l hl
  rw [chunks_cons (l := l ++ t) (by simp [hl]), chunks_cons hl, hd, List.drop_append_of_le_length hle, ih (fun c hc => h c (by simp [hc]))]
  unfold headC
  rw [hd, List.take_append_of_le_length hle]
  rfl
theorem good_append {l t : List UInt8} (h : Good l) (k : Good t) : Good (l ++ t) := by
  unfold Good
  rw [chunks_append h]
  intro c hc
  rcases List.mem_append.1 hc with hc | hc
  · exact h c hc
  · exact k c hc
theorem good_encs (rs : List Int) : Good (encs rs) := by
  have h := chunks_encs rs []
  rw [List.append_nil, chunks_nil, List.append_nil] at h
  unfold Good
  rw [h]
  intro c hc ⟨h1, h2⟩
  obtain ⟨r, _, rfl⟩ := List.mem_map.1 hc
  have hr := fixR_ok r
  have e : fixR r = 65533 := by unfold RuneOk at hr; simp at h1; omega
  simp only at h2
  rw [enc_fix, e] at h2
  unfold encodeRune at h2
  rw [encodeRuneZ_three (by omega)] at h2
  simp at h2

/-! ### the first n runes -/
def upto (n : Nat) (l : List UInt8) : List UInt8 := joinC ((chunks l).take n)
theorem head_prefix {l m : List UInt8} (hl : l ≠ []) (h : m <+: l) (hm : (headC l).2 <+: m) : headC m = headC l ∧ decodeL m = decodeL l := by
  have hlen := head_len hl
  have hwl := decodeL_width l
  have hmn : m ≠ [] := by
    intro e
    subst e
    have := hm.length_le
    rw [hlen] at this
    simp at this
    omega
  obtain ⟨t, ht⟩ := hm
  obtain ⟨u, hu⟩ := h
  have key : decodeL m = decodeL l := by
    by_cases hb : BadC (headC l)
    · by_cases hbm : BadC (headC m)
      · obtain ⟨a1, a2⟩ := hb
        obtain ⟨b1, b2⟩ := hbm
        rw [head_len hl] at a2
        rw [head_len hmn] at b2
        exact Prod.ext (b1.trans a1.symm) (b2.trans a2.symm)
      · have h1 := head_ext hmn hbm (m.drop (decodeL m).2 ++ u)
        rw [← List.append_assoc] at h1
        have h2 : (headC m).2 ++ m.drop (decodeL m).2 = m := List.take_append_drop _ _
        rw [h2, hu] at h1
        exact h1.symm
    · rw [← ht]
      exact head_ext hl hb t
  refine ⟨?_, key⟩
  have h3 := decodeL_le m hmn
  unfold headC
  rw [key] at h3
  have h4 : l.take (decodeL l).2 = m.take (decodeL l).2 := by
    conv => lhs; arg 2; rw [← hu]
    rw [List.take_append_of_le_length h3]
  rw [key, h4]
theorem chunks_upto (n : Nat) : ∀ l : List UInt8, chunks (upto n l) = (chunks l).take n := by
  induction n with
  | zero => intro l; simp [upto, joinC, chunks_nil]
  | succ n ih =>
    intro l
    by_cases hl : l = []
    · subst hl; rfl
    · have e : upto (n + 1) l = (headC l).2 ++ upto n (l.drop (decodeL l).2) := by
        unfold upto
        rw [chunks_cons hl, List.take_succ_cons, joinC_cons]
      have hpre : upto (n + 1) l <+: l := by
        refine ⟨joinC ((chunks l).drop (n + 1)), ?_⟩
        unfold upto
        rw [← joinC_append, List.take_append_drop, chunks_join]
      have hh := head_prefix hl hpre (e ▸ List.prefix_append _ _)
      have hlen := head_len hl
      have hwl := decodeL_width l
      have hne : upto (n + 1) l ≠ [] := by
        intro e2
        rw [e2] at e
        have := congrArg List.length e
        rw [List.length_append, hlen] at this
        simp at this
        omega
      rw [chunks_cons hne, hh.1, hh.2, chunks_cons hl, List.take_succ_cons, ← ih]
      congr 2
      rw [e, List.drop_append_of_le_length (by rw [hlen]; exact Nat.le_refl _), ← hlen, List.drop_length, List.nil_append]
theorem upto_rest (n : Nat) (l : List UInt8) : upto n l ++ joinC ((chunks l).drop n) = l := by
  unfold upto
  rw [← joinC_append, List.take_append_drop, chunks_join]
theorem upto_upto (n : Nat) (l : List UInt8) : upto n (upto n l) = upto n l := by
  have h : upto n (upto n l) = joinC ((chunks (upto n l)).take n) := rfl
  rw [h, chunks_upto, List.take_take, Nat.min_self]
  rfl
theorem upto_mono {n m : Nat} (h : n ≤ m) (l : List UInt8) : (upto n l).length ≤ (upto m l).length := by
  unfold upto
  have : (chunks l).take m = (chunks l).take n ++ ((chunks l).drop n).take (m - n) := by
    conv => lhs; rw [show m = n + (m - n) by omega, List.take_add]
  rw [this, joinC_append, List.length_append]
  omega
end Go.Proofs.YtccmekdmnkmhlaaGreat
