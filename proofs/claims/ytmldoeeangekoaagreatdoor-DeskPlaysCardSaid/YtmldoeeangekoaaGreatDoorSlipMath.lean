/-
  Plain facts on slips of paper as bytes. No condition, no program.
-/
import Derived.Test.YtmldoeeangekoaaGreatDoorGlyphMath
import Derived.Lib.ItoaMem
import Derived.Lib.AtoiTie
import Derived.Lib.Bytealg
namespace Go.Proofs.YtmldoeeangekoaaGreatDoor
open Go.Lib (decDigits decFrom decNat digitVal atoi atoiAll decodeL itoa)

theorem decodeL_ascii (b : UInt8) (t : List UInt8) (h : b.toNat < 128) : decodeL (b :: t) = (b.toNat, 1) := by
  rw [Go.Lib.decodeL_N]
  exact Go.Lib.decodeN_ascii _ _ _ _ _ (by simpa using h)

/-! ### Decimal digits -/
theorem dec_digit : ∀ (u : Nat), ∀ c ∈ decDigits u, 48 ≤ c.toNat ∧ c.toNat ≤ 57 := by
  intro u
  induction u using Nat.strongRecOn with
  | ind u ih =>
    rw [decDigits]
    split
    · rename_i h
      intro c hc
      obtain rfl : c = UInt8.ofNat (48 + u) := by simpa using hc
      have : (UInt8.ofNat (48 + u)).toNat = 48 + u := by simp; omega
      omega
    · rename_i h
      intro c hc
      rcases List.mem_append.1 hc with h' | h'
      · exact ih (u / 10) (by omega) c h'
      · obtain rfl : c = UInt8.ofNat (48 + u % 10) := by simpa using h'
        have : (UInt8.ofNat (48 + u % 10)).toNat = 48 + u % 10 := by simp; omega
        omega
theorem dec_ne (u : Nat) : decDigits u ≠ [] := by
  rw [decDigits]
  split <;> simp
theorem decFrom_append : ∀ (l m : List UInt8) (acc : Nat), decFrom acc (l ++ m) = (decFrom acc l).bind fun n => decFrom n m := by
  intro l
  induction l with
  | nil => intro m acc; rfl
  | cons b t ih =>
    intro m acc
    simp only [List.cons_append, decFrom]
    cases digitVal b with
    | none => rfl
    | some d => exact ih m _
theorem digitVal_of {d : Nat} (h : d < 10) : digitVal (UInt8.ofNat (48 + d)) = some d := by
  have : (UInt8.ofNat (48 + d)).toNat = 48 + d := by simp; omega
  unfold digitVal
  rw [this, if_pos (by omega)]
  congr 1
  omega
theorem decFrom_dec : ∀ (u : Nat), decFrom 0 (decDigits u) = some u := by
  intro u
  induction u using Nat.strongRecOn with
  | ind u ih =>
    rw [decDigits]
    split
    · rename_i h
      simp only [decFrom, digitVal_of h]
      congr 1
      omega
    · rename_i h
      rw [decFrom_append, ih (u / 10) (by omega)]
      simp only [Option.bind_some, decFrom, digitVal_of (show u % 10 < 10 by omega)]
      congr 1
      omega
theorem dec_inj {u v : Nat} (h : decDigits u = decDigits v) : u = v := by
  have h1 := decFrom_dec u
  rw [h, decFrom_dec v] at h1
  exact (Option.some.inj h1).symm
theorem atoi_dec (u : Nat) : atoi (decDigits u) = some (u : Int) := by
  have h := dec_digit u
  have hv := decFrom_dec u
  cases hd : decDigits u with
  | nil => exact absurd hd (dec_ne u)
  | cons b r =>
    rw [hd] at h hv
    have hb := h b (by simp)
    have h1 : (b == 45) = false := by rw [beq_eq_false_iff_ne]; rintro rfl; simp at hb
    have h2 : (b == 43) = false := by rw [beq_eq_false_iff_ne]; rintro rfl; simp at hb
    unfold atoi
    simp [h1, h2, decNat, hv]
theorem dec_len (u : Nat) (h : u ≤ 1000000) : (decDigits u).length ≤ 7 ∧ 0 < (decDigits u).length := by
  refine ⟨?_, ?_⟩
  · rw [Go.Lib.decDigits_length]
    by_cases h6 : u < 1000000
    · have : ∀ n u : Nat, u < 10 ^ n → 0 < n → Go.Lib.nDigits u ≤ n := by
        intro n
        induction n with
        | zero => intro u _ h; omega
        | succ n ih =>
          intro u hu _
          by_cases h10 : u < 10
          · rw [Go.Lib.nDigits_small h10]; omega
          · rw [Go.Lib.nDigits_big h10]
            have h1 : u / 10 < 10 ^ n := by rw [Nat.pow_succ] at hu; omega
            have h2 : 0 < n := by
              rcases Nat.eq_zero_or_pos n with rfl | h
              · simp at hu; omega
              · exact h
            have := ih (u / 10) h1 h2
            omega
      have := this 6 u (by omega) (by omega)
      omega
    · obtain rfl : u = 1000000 := by omega
      have := Go.Lib.nDigits_unique 6 1000000 (by decide) (by decide)
      omega
  · exact List.length_pos_iff.2 (dec_ne u)
theorem itoa_dec (u : Nat) : itoa (u : Int) = decDigits u := Go.Lib.itoa_nonneg u

/-! ### Slips -/
def slipL (a b : Nat) : List UInt8 := 112 :: (decDigits a ++ 46 :: decDigits b)
/-- May these be on a slip? -/
def SlipOk (a b : Nat) : Prop := 1 ≤ a ∧ a ≤ 1000000 ∧ b ≤ 2000
theorem split_at {x : UInt8} : ∀ {l l' r r' : List UInt8}, (∀ c ∈ l, c ≠ x) → (∀ c ∈ l', c ≠ x) → l ++ x :: r = l' ++ x :: r' → l = l' ∧ r = r' := by
  intro l
  induction l with
  | nil =>
    intro l' r r' _ h' e
    cases l' with
    | nil => simp at e; exact ⟨rfl, e⟩
    | cons b t =>
      simp at e
      exact absurd e.1.symm (h' b (by simp))
  | cons a s ih =>
    intro l' r r' h h' e
    cases l' with
    | nil =>
      simp at e
      exact absurd e.1 (h a (by simp))
    | cons b t =>
      simp at e
      obtain ⟨rfl, e2⟩ := e
      obtain ⟨h1, h2⟩ := ih (fun c hc => h c (by simp [hc])) (fun c hc => h' c (by simp [hc])) e2
      exact ⟨by rw [h1], h2⟩
theorem dec_no_dot (u : Nat) : ∀ c ∈ decDigits u, c ≠ 46 := fun c hc e => by
  have := dec_digit u c hc
  rw [e] at this
  simp at this
theorem slip_inj {a b c d : Nat} (h : slipL a b = slipL c d) : a = c ∧ b = d := by
  unfold slipL at h
  have h1 := (List.cons.inj h).2
  obtain ⟨h2, h3⟩ := split_at (dec_no_dot a) (dec_no_dot c) h1
  exact ⟨dec_inj h2, dec_inj h3⟩
theorem slip_len {a b : Nat} (h : SlipOk a b) : (slipL a b).length ≤ 16 ∧ 4 ≤ (slipL a b).length := by
  obtain ⟨h1, h2, h3⟩ := h
  have := dec_len a h2
  have := dec_len b (by omega)
  unfold slipL
  simp
  omega

/-! ### Where the sign and the dot stand -/
def plc : List (Nat × List UInt8) → Nat → Int → Int → Int × Int
  | [], _, a, b => (a, b)
  | c :: t, p, a, b =>
    if c.1 = 112 ∧ a < 0 then plc t (p + c.2.length) (p : Nat) b
    else if c.1 = 46 ∧ b < 0 then plc t (p + c.2.length) a (p : Nat)
    else plc t (p + c.2.length) a b
theorem chunks_ascii : ∀ (l : List UInt8), (∀ c ∈ l, c.toNat < 128) → chunks l = l.map fun b => (b.toNat, [b]) := by
  intro l
  induction l with
  | nil => intro _; rfl
  | cons b t ih =>
    intro h
    have hb := h b (by simp)
    rw [chunks_cons (by simp)]
    have hd := decodeL_ascii b t hb
    unfold headC
    rw [hd]
    simp only [List.take_succ_cons, List.take_zero, List.drop_succ_cons, List.drop_zero, List.map_cons]
    rw [ih (fun c hc => h c (by simp [hc]))]
/-- Nothing is found where nothing is looked for, or it is not there. -/
theorem plc_skip : ∀ (l : List UInt8) (t : List (Nat × List UInt8)) (p : Nat) (a b : Int), (0 ≤ a ∨ ∀ c ∈ l, c.toNat ≠ 112) → (0 ≤ b ∨ ∀ c ∈ l, c.toNat ≠ 46) → plc ((l.map fun b => (b.toNat, [b])) ++ t) p a b = plc t (p + l.length) a b := by
  intro l
  induction l with
  | nil => intro t p a b _ _; rfl
  | cons x s ih =>
    intro t p a b ha hb
    simp only [List.map_cons, List.cons_append, plc]
    rw [if_neg, if_neg, ih t _ a b]
    · simp only [List.length_cons, List.length_nil]
      congr 1
      omega
    · rcases ha with h | h
      · exact .inl h
      · exact .inr fun c hc => h c (by simp [hc])
    · rcases hb with h | h
      · exact .inl h
      · exact .inr fun c hc => h c (by simp [hc])
    · rintro ⟨h1, h2⟩
      rcases hb with h | h
      · omega
      · exact h x (by simp) h1
    · rintro ⟨h1, h2⟩
      rcases ha with h | h
      · omega
      · exact h x (by simp) h1
theorem plc_slip (a b : Nat) : plc (chunks (slipL a b)) 0 (-1) (-1) = (0, ((1 + (decDigits a).length : Nat) : Int)) := by
  have hd : ∀ u, ∀ c ∈ decDigits u, c.toNat ≠ 46 := fun u c hc e => by have := dec_digit u c hc; omega
  rw [chunks_ascii]
  · unfold slipL
    simp only [List.map_cons, List.map_append, plc]
    rw [if_pos (by decide)]
    have h1 := plc_skip (decDigits a) ((((46 : UInt8).toNat, [46]) : Nat × List UInt8) :: (decDigits b).map fun c => (c.toNat, [c])) 1 ((0 : Nat) : Int) (-1) (.inl (by omega)) (.inr (hd a))
    simp only [List.length_cons, List.length_nil, Nat.zero_add]
    rw [h1]
    simp only [plc]
    rw [if_neg (by decide), if_pos (by decide)]
    have h2 := plc_skip (decDigits b) [] (1 + (decDigits a).length + 1) ((0 : Nat) : Int) ((1 + (decDigits a).length : Nat) : Int) (.inl (by omega)) (.inl (by omega))
    rw [List.append_nil] at h2
    simp only [List.length_cons, List.length_nil, Nat.zero_add]
    rw [h2]
    rfl
  · intro c hc
    unfold slipL at hc
    simp only [List.mem_cons, List.mem_append] at hc
    rcases hc with rfl | h | rfl | h
    · decide
    · have := dec_digit a c h; omega
    · decide
    · have := dec_digit b c h; omega
theorem slip_cut1 (a b : Nat) : (slipL a b).drop (1 + (decDigits a).length + 1) = decDigits b := by
  have h : slipL a b = (112 :: decDigits a ++ [46]) ++ decDigits b := by unfold slipL; simp
  rw [h]
  exact List.drop_left' (by simp; omega)
theorem slip_cut0 (a b : Nat) : ((slipL a b).drop 1).take (decDigits a).length = decDigits a := by
  unfold slipL
  simp

/-! ### Compare -/
theorem cmp_zero : ∀ (a b : List UInt8), Go.Lib.compareBytes a b = 0 ↔ a = b := by
  intro a
  induction a with
  | nil => intro b; cases b <;> simp [Go.Lib.compareBytes]
  | cons x s ih =>
    intro b
    cases b with
    | nil => simp [Go.Lib.compareBytes]
    | cons y t =>
      simp only [Go.Lib.compareBytes]
      split
      · rename_i h
        simp
        rintro rfl
        exact absurd h (by simp)
      · split
        · rename_i h
          simp
          rintro rfl
          exact absurd h (by simp)
        · rename_i h1 h2
          have hxy : x = y := by
            rw [UInt8.not_lt] at h1 h2
            exact UInt8.le_antisymm h2 h1
          subst hxy
          simp [ih]
end Go.Proofs.YtmldoeeangekoaaGreatDoor
