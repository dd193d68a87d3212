/-
  What glyph.escaped answers. No condition but a bound on the length.
-/
import Derived.Test.YtbpklmklbfcfjaaBuilderAid
import Derived.Test.YtbpklmklbfcfjaaGlyphQuote
namespace Go.Proofs.Ytbpklmklbfcfjaa
open Go.RowKit

theorem txt_cons0 (a : UInt8) (t : List UInt8) (h : 0 < (txt (a :: t)).size) : (txt (a :: t))[0]'h = a := rfl
theorem indexByte_any (s : ByteArray) (c : Int) (w : World) : Calls Try.prog 88 #[.string s, .int .u8 c] w fun e w' => e = .returned (.int .i64 (Lib.indexByte s.data.toList c.toNat.toUInt8)) ∧ w' = w := Try.strings_IndexByte s c w
def hexI (c : UInt8) : Int := match unhex c with | some x => (x : Int) | none => -1
theorem index_hexN : ∀ n, n < 256 → Lib.indexByte digs (UInt8.ofNat n) = hexI (UInt8.ofNat n) := by decide +kernel
theorem index_hex (c : UInt8) : Lib.indexByte digs c = hexI c := by
  have := index_hexN c.toNat (UInt8.toNat_lt c)
  rwa [UInt8.ofNat_toNat] at this
def EscNo (w : World) (e : Ending) (w' : World) : Prop := e = .returned (.tuple #[.string (txt []), .int .i64 0]) ∧ Gr w w'
def EscYes (b : List UInt8) (n : Nat) (w : World) (e : Ending) (w' : World) : Prop := e = .returned (.tuple #[.string (txt b), .int .i64 n]) ∧ Gr w w'
theorem u8_eq {a : UInt8} {k : Nat} (hk : k < 256) : ((a.toNat : Int) = (k : Int)) ↔ a = UInt8.ofNat k := by
  constructor
  · intro h
    apply UInt8.toNat_inj.1
    rw [UInt8.toNat_ofNat_of_lt' hk]
    omega
  · rintro rfl
    rw [UInt8.toNat_ofNat_of_lt' hk]

set_option maxHeartbeats 1000000 in
theorem escaped_nil (w : World) : Calls Try.prog 61 #[.string (txt [])] w (EscNo w) := by
  go_enter Try.func61, Try.ntmps61
  go_wp2
  go_ret2
  exact ⟨rfl, gr_refl _ _⟩
set_option maxHeartbeats 1000000 in
theorem escaped_sign (a : UInt8) (t : List UInt8) (w : World) (ha : a = 34 ∨ a = 92) (hl : t.length ≤ 1000000000) : Calls Try.prog 61 #[.string (txt (a :: t))] w (EscYes [a] 1 w) := by
  have h0 : (0 : Int) < ((txt (a :: t)).size : Int) := by rw [txt_size]; simp
  have h0' : 0 < (txt (a :: t)).size := by omega
  have h1 : (1 : Int) ≤ ((txt (a :: t)).size : Int) := by omega
  have hx := txt_cons0 a t h0'
  have hne : ((txt (a :: t)).toList = []) = False := by rw [txt_toList]; simp
  have e1 : (txt (a :: t)).extract 0 1 = txt [a] := str_eq (by rw [Lib.extract_data, txt_data]; simp)
  rcases ha with ha | ha
  · have d1 : ((a.toNat : Int) == 34) = true := eqT (by subst ha; rfl)
    replace ha := Lib.hid ha
    replace e1 := Lib.hid e1
    go_enter Try.func61, Try.ntmps61
    go_wp2
    go_ret2
    unfold EscYes
    rw [e1.out]
    exact ⟨rfl, gr_refl _ _⟩
  · have d1 : ((a.toNat : Int) == 34) = false := eqF (by subst ha; decide)
    have d2 : ((a.toNat : Int) == 92) = true := eqT (by subst ha; rfl)
    replace ha := Lib.hid ha
    replace e1 := Lib.hid e1
    go_enter Try.func61, Try.ntmps61
    go_wp2
    go_ret2
    unfold EscYes
    rw [e1.out]
    exact ⟨rfl, gr_refl _ _⟩
set_option maxHeartbeats 1000000 in
theorem escaped_n (a : UInt8) (t : List UInt8) (w : World) (ha : a = 110) (hl : t.length ≤ 10000000000000) : Calls Try.prog 61 #[.string (txt (a :: t))] w (EscYes [10] 1 w) := by
  have h0 : (0 : Int) < ((txt (a :: t)).size : Int) := by rw [txt_size]; simp
  have h0' : 0 < (txt (a :: t)).size := by omega
  have hx := txt_cons0 a t h0'
  have hne : ((txt (a :: t)).toList = []) = False := by rw [txt_toList]; simp
  have d1 : ((a.toNat : Int) == 34) = false := eqF (by subst ha; decide)
  have d2 : ((a.toNat : Int) == 92) = false := eqF (by subst ha; decide)
  have d3 : ((a.toNat : Int) == 110) = true := eqT (by subst ha; rfl)
  replace ha := Lib.hid ha
  go_enter Try.func61, Try.ntmps61
  go_wp2
  go_ret2
  exact ⟨rfl, gr_refl _ _⟩
set_option maxHeartbeats 1000000 in
theorem escaped_other (a : UInt8) (t : List UInt8) (w : World) (h1 : ¬ (a = 34 ∨ a = 92)) (h2 : a ≠ 110) (h3 : a ≠ 120 ∨ t.length < 2) (hl : t.length ≤ 10000000000000) : Calls Try.prog 61 #[.string (txt (a :: t))] w (EscNo w) := by
  have h0 : (0 : Int) < ((txt (a :: t)).size : Int) := by rw [txt_size]; simp
  have h0' : 0 < (txt (a :: t)).size := by omega
  have hx := txt_cons0 a t h0'
  have hne : ((txt (a :: t)).toList = []) = False := by rw [txt_toList]; simp
  have d1 : ((a.toNat : Int) == 34) = false := eqF (by intro h; exact h1 (Or.inl ((u8_eq (k := 34) (by decide)).1 h)))
  have d2 : ((a.toNat : Int) == 92) = false := eqF (by intro h; exact h1 (Or.inr ((u8_eq (k := 92) (by decide)).1 h)))
  have d3 : ((a.toNat : Int) == 110) = false := eqF (by intro h; exact h2 ((u8_eq (k := 110) (by decide)).1 h))
  by_cases c : a = 120
  · have d4 : ((a.toNat : Int) == 120) = true := eqT (by subst c; rfl)
    have hs : ¬ (3 : Int) ≤ ((txt (a :: t)).size : Int) := by rw [txt_size, List.length_cons]; rcases h3 with h3 | h3; exact absurd c h3; omega
    have hs' : decide ((3 : Int) ≤ ((txt (a :: t)).size : Int)) = false := decide_eq_false hs
    replace c := Lib.hid c
    clear h1 h2 h3
    go_enter Try.func61, Try.ntmps61
    go_wp2
    go_ret2
    exact ⟨rfl, gr_refl _ _⟩
  · have d4 : ((a.toNat : Int) == 120) = false := eqF (by intro h; exact c ((u8_eq (k := 120) (by decide)).1 h))
    clear h1 h2 h3
    go_enter Try.func61, Try.ntmps61
    go_wp2
    go_ret2
    exact ⟨rfl, gr_refl _ _⟩
theorem or_nibN : ∀ x, x < 16 → ∀ y, y < 16 → bits BinOp.or IntKind.i64 ((x : Nat) * 16) (y : Nat) = ((x : Nat) : Int) * 16 + (y : Nat) := by decide +kernel
theorem or_nib (x y : Nat) (hx : x < 16) (hy : y < 16) : bits BinOp.or IntKind.i64 ((x : Int) * 16) (y : Int) = (x : Int) * 16 + (y : Int) := or_nibN x hx y hy
theorem run_string_one (v : UInt8) (W : World) (g : Nat) (hg : W.heap.size = g) : (convert 71 9 (.slice (some ⟨g, 0, none⟩) 1 1)).run Try.prog (W.alloc (.cells #[.int .u8 v.toNat] 5)) = .ok (.string (txt [v])) (W.alloc (.cells #[.int .u8 v.toNat] 5)) := by
  subst hg
  refine run_string_cells (P := Try.prog) (W.alloc (.cells #[.int .u8 v.toNat] 5)) 71 9 5 Try.underlying71 Try.underlying5 Try.underlying9 ⟨W.heap.size, 0, none⟩ [v] 1 ?_
  intro j b hb
  match j, hb with
  | 0, hb =>
    obtain rfl : v = b := by simpa using hb
    show (W.alloc _).cell? ⟨W.heap.size, 0, none⟩ = _
    rw [World.cell?_alloc_new]
    rfl
  | j + 1, hb => simp at hb
theorem unhex_lt {b : UInt8} {x : Nat} (h : unhex b = some x) : x < 16 := by
  unfold unhex at h
  split at h
  · have := Option.some.inj h; omega
  · split at h
    · have := Option.some.inj h; omega
    · cases h
set_option maxHeartbeats 1000000 in
set_option maxRecDepth 100000 in
theorem escaped_x (a b c : UInt8) (t : List UInt8) (w : World) (ha : a = 120) (hl : t.length ≤ 10000000000000) (x y : Nat) (hb : unhex b = some x) (hc : unhex c = some y) (v : UInt8) (hv : v.toNat = x * 16 + y) :
    Calls Try.prog 61 #[.string (txt (a :: b :: c :: t))] w (EscYes [v] 3 w) := by
  obtain ⟨S, hS⟩ : ∃ S, S = txt (a :: b :: c :: t) := ⟨_, rfl⟩
  have hsz : S.size = t.length + 3 := by rw [hS, txt_size]; rfl
  have h0' : 0 < S.size := by omega
  have h1' : 1 < S.size := by omega
  have h2' : 2 < S.size := by omega
  have hx : S[0]'h0' = a := by subst hS; rfl
  have hx1 : S[1]'h1' = b := by subst hS; rfl
  have hx2 : S[2]'h2' = c := by subst hS; rfl
  have hne : S.toList.isEmpty = false := by rw [hS, txt_toList]; rfl
  have i0 : (0 : Int) < (S.size : Int) := by omega
  have i1 : (1 : Int) < (S.size : Int) := by omega
  have i2 : (2 : Int) < (S.size : Int) := by omega
  have i3 : (3 : Int) ≤ (S.size : Int) := by omega
  have d1 : ((a.toNat : Int) == 34) = false := eqF (by subst ha; decide)
  have d2 : ((a.toNat : Int) == 92) = false := eqF (by subst ha; decide)
  have d3 : ((a.toNat : Int) == 110) = false := eqF (by subst ha; decide)
  have d4 : ((a.toNat : Int) == 120) = true := eqT (by subst ha; rfl)
  rw [← hS]
  replace ha := Lib.hid ha
  replace hS := Lib.hid hS
  replace hsz := Lib.hid hsz
  have kb : Lib.indexByte [48, 49, 50, 51, 52, 53, 54, 55, 56, 57, 97, 98, 99, 100, 101, 102] b = (x : Int) := by have := index_hex b; unfold hexI at this; rw [hb] at this; exact this
  have kc : Lib.indexByte [48, 49, 50, 51, 52, 53, 54, 55, 56, 57, 97, 98, 99, 100, 101, 102] c = (y : Int) := by have := index_hex c; unfold hexI at this; rw [hc] at this; exact this
  have xl := unhex_lt hb
  have yl := unhex_lt hc
  have hor := or_nib x y xl yl
  have hve : (v.toNat : Int) = (x : Int) * 16 + (y : Int) := by omega
  have hcv := fun nq => run_string_one v (w.drewN nq) w.heap.size rfl
  simp only [hve] at hcv
  replace hve := Lib.hid hve
  replace hb := Lib.hid hb
  replace hc := Lib.hid hc
  replace hv := Lib.hid hv
  go_enter Try.func61, Try.ntmps61
  go_wp2
  go_quiet ((go_at_call 88; exact Calls.quiet_of_same (indexByte_any _ _ _)))
  go_wp2_with fail
  go_wp2
  go_ret2
  exact ⟨rfl, gr_trans (gr_drewN w _ none) (gr_alloc _ _ _)⟩
set_option maxHeartbeats 1000000 in
set_option maxRecDepth 100000 in
theorem escaped_y (a b c : UInt8) (t : List UInt8) (w : World) (ha : a = 120) (hl : t.length ≤ 10000000000000) (hbc : unhex b = none ∨ unhex c = none) :
    Calls Try.prog 61 #[.string (txt (a :: b :: c :: t))] w (EscNo w) := by
  obtain ⟨S, hS⟩ : ∃ S, S = txt (a :: b :: c :: t) := ⟨_, rfl⟩
  have hsz : S.size = t.length + 3 := by rw [hS, txt_size]; rfl
  have h0' : 0 < S.size := by omega
  have h1' : 1 < S.size := by omega
  have h2' : 2 < S.size := by omega
  have hx : S[0]'h0' = a := by subst hS; rfl
  have hx1 : S[1]'h1' = b := by subst hS; rfl
  have hx2 : S[2]'h2' = c := by subst hS; rfl
  have hne : S.toList.isEmpty = false := by rw [hS, txt_toList]; rfl
  have i0 : (0 : Int) < (S.size : Int) := by omega
  have i1 : (1 : Int) < (S.size : Int) := by omega
  have i2 : (2 : Int) < (S.size : Int) := by omega
  have i3 : (3 : Int) ≤ (S.size : Int) := by omega
  have d1 : ((a.toNat : Int) == 34) = false := eqF (by subst ha; decide)
  have d2 : ((a.toNat : Int) == 92) = false := eqF (by subst ha; decide)
  have d3 : ((a.toNat : Int) == 110) = false := eqF (by subst ha; decide)
  have d4 : ((a.toNat : Int) == 120) = true := eqT (by subst ha; rfl)
  rw [← hS]
  replace ha := Lib.hid ha
  replace hS := Lib.hid hS
  replace hsz := Lib.hid hsz
  have kb : Lib.indexByte [48, 49, 50, 51, 52, 53, 54, 55, 56, 57, 97, 98, 99, 100, 101, 102] b = hexI b := index_hex b
  have kc : Lib.indexByte [48, 49, 50, 51, 52, 53, 54, 55, 56, 57, 97, 98, 99, 100, 101, 102] c = hexI c := index_hex c
  by_cases h : unhex b = none
  · have e : hexI b = -1 := by unfold hexI; rw [h]
    rw [e] at kb
    clear e hbc
    replace h := Lib.hid h
    go_enter Try.func61, Try.ntmps61
    go_wp2
    go_quiet ((go_at_call 88; exact Calls.quiet_of_same (indexByte_any _ _ _)))
    go_wp2
    go_ret2
    exact ⟨rfl, gr_drewN _ _ _⟩
  · have h2 : unhex c = none := by rcases hbc with h' | h'; exact absurd h' h; exact h'
    have e : hexI c = -1 := by unfold hexI; rw [h2]
    obtain ⟨x, hx⟩ : ∃ x, unhex b = some x := by cases hu : unhex b with
      | none => exact absurd hu h
      | some x => exact ⟨x, rfl⟩
    have e' : hexI b = (x : Int) := by unfold hexI; rw [hx]
    rw [e] at kc
    rw [e'] at kb
    clear e e' hbc h
    replace h2 := Lib.hid h2
    replace hx := Lib.hid hx
    go_enter Try.func61, Try.ntmps61
    go_wp2
    go_quiet ((go_at_call 88; exact Calls.quiet_of_same (indexByte_any _ _ _)))
    go_wp2
    go_ret2
    exact ⟨rfl, gr_drewN _ _ _⟩
end Go.Proofs.Ytbpklmklbfcfjaa
