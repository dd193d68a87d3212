/-
  Plain facts for the law DeskSlips. No condition but bounds.
-/
import Derived.Test.YtilbeoblppigeaaDoorDeskTick
import Derived.Test.YtilbeoblppigeaaDoorSlipRefA
namespace Go.Proofs.YtilbeoblppigeaaDoor
open Go.RowKit
open Go.Lib (decDigits decFrom)

theorem in_pages {R S f : Nat} (hS : 0 < S) : (f : Int) ∈ pagesL S (pagesN R S) ↔ f % S = 0 ∧ (f < R ∨ f = 0) := by
  constructor
  · intro h
    obtain ⟨k, hk, rfl⟩ := mem_pages h
    refine ⟨Nat.mul_mod_left k S, ?_⟩
    rcases Nat.eq_zero_or_pos k with rfl | hk0
    · right; exact Nat.zero_mul S
    · left; exact (pages_more hS hk0).1 hk
  · rintro ⟨h1, h2⟩
    have he : f / S * S = f := Nat.div_mul_cancel (Nat.dvd_of_mod_eq_zero h1)
    rw [← he]
    refine pages_mem ?_
    rcases Nat.eq_zero_or_pos (f / S) with h0 | h0
    · rw [h0]; unfold pagesN; omega
    · refine (pages_more hS h0).2 ?_
      rw [he]
      rcases h2 with h2 | h2
      · exact h2
      · subst h2; rw [Nat.zero_div] at h0; omega
theorem no_slip00 : ∀ m n : Nat, SlipOk m n → ([112, 49, 46, 48, 48] : List UInt8) ≠ slipL m n := by
  intro m n _ e
  unfold slipL at e
  have e1 : ([49] : List UInt8) ++ 46 :: [48, 48] = decDigits m ++ 46 :: decDigits n := by injection e
  have e2 := (split_at (by decide) (dec_no_dot m) e1).2
  have h0 : ([48, 48] : List UInt8) = decDigits n := e2
  have h1 := decFrom_dec n
  rw [← h0] at h1
  have hn : n = 0 := by
    have : decFrom 0 [48, 48] = some 0 := by decide
    rw [this] at h1
    exact (Option.some.inj h1).symm
  subst hn
  rw [Go.Lib.decDigits_one (show 0 < 10 by omega)] at h0
  cases h0
theorem find_gone {x : Cur} {n : Nat} {fr e : Int} (h : FindIs 2 [] (slipL 1 n) x fr e) (hok : SlipOk 1 n) : x = cu0 ∧ fr = 0 ∧ e = 12 := by
  rcases h with ⟨h, _⟩ | ⟨m', n', hok', hsl, h⟩
  · exact absurd rfl (h 1 n hok)
  · obtain ⟨rfl, rfl⟩ := slip_inj hsl
    rcases h with ⟨v, hat, hne, rfl, rfl⟩ | ⟨k, y, hm, hy, _⟩
    · rcases hat with ⟨h1, _⟩ | ⟨_, _, _, _, rfl⟩ | ⟨_, _, h3, _⟩
      · exfalso; omega
      · exact ⟨rfl, rfl, rfl⟩
      · exact absurd h3 hne
    · cases hy
theorem find_no {nx : Int} {op : List Cur} {l : List UInt8} {x : Cur} {fr e : Int} (h : FindIs nx op l x fr e) (hno : ∀ m n : Nat, SlipOk m n → l ≠ slipL m n) : x = cu0 ∧ fr = 0 ∧ e = 11 := by
  rcases h with ⟨_, h⟩ | ⟨m, n, hok, hsl, _⟩
  · exact h
  · exact absurd hsl (hno m n hok)
theorem close_one {w w' : World} {D : Nat} {C : Cur} {seg : List UInt8} {now pts : Int} {A : Option Addr} {c : Nat} {e : Ending} (h : ClosePost w D ⟨2, now, [C], seg, pts⟩ A 1 c 1 e w') (hC : C.id = 1) :
    e = .returned (.tuple #[curV C, .int .i64 0]) ∧ DkIn w w' D ⟨2, now, [], seg, pts⟩ A 0 c := by
  obtain ⟨x, ee, rfl, ⟨hne, _, ⟨v, hat⟩, _⟩ | ⟨rfl, k, hk, _, _, _, hd⟩⟩ := h
  · exfalso
    rcases hat with ⟨h1, _⟩ | ⟨_, _, h3, _⟩ | ⟨_, _, h3, _⟩
    · simp only at h1; omega
    · exact h3 C (by simp) hC
    · exact hne h3
  · obtain rfl : x = C := by simpa using List.mem_of_getElem? hk
    have hk0 : k = 0 := by have := (List.getElem?_eq_some_iff.1 hk).1; simp at this; omega
    subst hk0
    exact ⟨rfl, hd⟩
theorem close_gone {w w' : World} {D : Nat} {seg : List UInt8} {now pts : Int} {A : Option Addr} {c : Nat} {e : Ending} (h : ClosePost w D ⟨2, now, [], seg, pts⟩ A 0 c 1 e w') :
    e = .returned (.tuple #[curV cu0, .int .i64 12]) ∧ DkIn w w' D ⟨2, now, [], seg, pts⟩ A 0 c := by
  obtain ⟨x, ee, rfl, ⟨hne, rfl, ⟨v, hat⟩, hd⟩ | ⟨rfl, k, hk, _⟩⟩ := h
  · rcases hat with ⟨h1, _⟩ | ⟨_, _, _, _, rfl⟩ | ⟨_, _, h3, _⟩
    · exfalso; simp only at h1; omega
    · exact ⟨rfl, hd⟩
    · exact absurd h3 hne
  · cases hk
end Go.Proofs.YtilbeoblppigeaaDoor
