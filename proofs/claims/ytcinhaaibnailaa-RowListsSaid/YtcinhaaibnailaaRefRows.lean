/-
  The document's Tidy of rows each of which may be, and the laws' Light of rows. No condition but bounds on the lengths.
-/
import Derived.Test.YtcinhaaibnailaaRefOrder
import Derived.Test.YtcinhaaibnailaaRowLight
namespace Go.Proofs.Ytcinhaaibnailaa
open Go.RowKit

theorem isName_len {l : List UInt8} (h : isName l = true) : l.length ≤ 120 := by
  have h1 := chunks_le4 l
  unfold isName at h
  rw [Bool.and_eq_true] at h
  have h2 := of_decide_eq_true h.2
  omega
theorem okLbs_short {zs : List Lb} (h : okLbs zs) : ∀ x ∈ zs, x.n.length ≤ 1000000 ∧ x.v.length ≤ 1000000 := fun x hx => by
  obtain ⟨h1, h2, h3⟩ := h.2.1 x hx
  have := isName_len h1
  omega
theorem okLbs_light {zs : List Lb} (h : okLbs zs) : LightL zs := ⟨by have := h.1; omega, fun x hx => by
  obtain ⟨h1, h2, h3⟩ := h.2.1 x hx
  have := isName_len h1
  omega⟩
/-- A row that may be. -/
def GoodH (w : World) (h : Hd) : Prop := ∃ r, HdOk w h r ∧ okR r
theorem goodH_gr {w w' : World} {h : Hd} (k : GoodH w h) (g : Gr w w') : GoodH w' h := by
  obtain ⟨r, k1, k2⟩ := k
  exact ⟨r, hdOk_gr k1 g, k2⟩
set_option maxHeartbeats 8000000 in
set_option maxRecDepth 100000 in
theorem refRows_any (A : Option Addr) (n c : Nat) (hs : List Hd) (w : World) (hn : n ≤ 2000) (hz : Row w A n 2 (sR hdC hs)) (hP : ∀ h ∈ hs, GoodH w h) :
    Calls Try.prog 20 #[.slice A n c] w (OrderPost n hs w) := by
  have hord : ∀ W, Gr w W → Calls Try.prog 28 #[.slice A n c] W (OrderPost n hs W) := fun W g => order7_any A n c hs W (by omega) (row_gr hz g) (fun h hh => by
    obtain ⟨r, k1, k2⟩ := goodH_gr (hP h hh) g
    exact ⟨r, k1, by have := k2.1.1; omega⟩)
  replace hz := Lib.hid hz
  replace hP := Lib.hid hP
  replace hord := Lib.hid hord
  go_enter Try.func20, Try.ntmps20
  have hn2 : ((2000 : Int) < (n : Int)) = False := eq_false (by omega)
  go_wp2
  clear hn2
  go_loopw [4] (fun iv wr => ∃ k : Nat, k ≤ n ∧ iv = .int .i64 k ∧ Hid (Gr w wr)) (fun iv _ => n - (intOf iv).toNat)
  case atStart => exact ⟨0, Nat.zero_le _, rfl, gr_refl _ _⟩
  case round =>
    obtain ⟨k, hk, rfl, hg⟩ := hrel
    by_cases hlt : k < n
    · obtain ⟨x, gA, oA, hx, rfl, _, ha⟩ := rowS_elem hdC_len (row_gr hz.out hg.out) (by decide) hlt
      have a0 : wr.cell? ⟨gA, oA + k * 2, none⟩ = some (.slice x.A x.n x.c) := ha 0 (by decide)
      have a1 : wr.cell? ⟨gA, oA + k * 2 + 1, none⟩ = some (.int .i64 x.v) := ha 1 (by decide)
      obtain ⟨r, k1, k2⟩ := goodH_gr (hP.out x (List.mem_of_getElem? hx)) hg.out
      have hki : (k : Int) < (n : Int) := by omega
      have hk0 : (0 : Int) ≤ (k : Int) := by omega
      have hR := refRight_any x.A x.n x.c r.l wr (by rw [k1.n]; have := k2.1.1; omega) k1.row (okLbs_short k2.1)
      rw [decide_eq_true k2.1] at hR
      have hV := fun W => refValue_any x.v W
      rw [k1.v, decide_eq_true k2.2] at hV
      have hxv := k1.v
      rw [hxv] at a1
      clear ha hx k1 k2
      replace hR := Lib.hid hR
      replace hV := Lib.hid hV
      go_wp2_with fail
      refine hR.out.mono ?_
      rintro e w2 ⟨rfl, g2⟩
      have b1 := gr_cell g2 a1
      clear a0 a1
      go_wp2_with fail
      refine (hV.out _).mono ?_
      rintro e w3 ⟨rfl, rfl⟩
      go_wp2
      go_roundw
      case rel => exact ⟨k + 1, by omega, by go_num, gr_trans hg.out g2⟩
      case measure => simp [intOf]; omega
    · obtain rfl : k = n := by omega
      go_wp2_with fail
      refine (hord.out _ hg.out).mono ?_
      rintro e w2 ⟨⟨v, z1, rfl, hm, hzl, ho⟩ | rfl, g2⟩
      · replace hm := Lib.hid hm
        replace hzl := Lib.hid hzl
        replace ho := Lib.hid ho
        go_wp2
        go_ret2
        exact ⟨.inl ⟨_, z1, rfl, hm.out, hzl.out, own_mono ho.out hg.out.size⟩, gr_trans hg.out g2⟩
      · go_wp2
        go_ret2
        exact ⟨.inr rfl, gr_trans hg.out g2⟩
def RLPost (rs : List Rw) (w : World) (e : Ending) (w' : World) : Prop := (∃ b, e = .returned (.bool b) ∧ (b = true → rs.length ≤ 60 ∧ ∀ r ∈ rs, LightL r.l)) ∧ w = w'
set_option maxHeartbeats 8000000 in
set_option maxRecDepth 100000 in
theorem rlight_any (A : Option Addr) (n c : Nat) (rs : List Rw) (w : World) (hn : n ≤ 9223372036854775807) (hr : Rows w A n rs) :
    Calls Try.prog 10 #[.slice A n c] w (RLPost rs w) := by
  have hl : rs.length = n := hr.1
  replace hr := Lib.hid hr
  replace hl := Lib.hid hl
  go_enter Try.func10, Try.ntmps10
  go_wp2
  go_loopw [3] (fun i wr => ∃ k : Nat, k ≤ n ∧ i = .int .i64 k ∧ Hid (∀ r ∈ rs.take k, LightL r.l) ∧ w = wr) (fun i _ => n - (intOf i).toNat)
  case atStart => exact ⟨0, Nat.zero_le _, rfl, (by intro x hx; simp at hx), rfl⟩
  case round =>
    obtain ⟨k, hk, rfl, ht, rfl⟩ := hrel
    by_cases hlt : k < n ∧ k < 100
    · obtain ⟨r, h, B, o, hx, hok, rfl, c0, c1⟩ := rows_at hr.out hlt.1
      have hki : (k : Int) < (n : Int) := by omega
      have hkj : (k : Int) < 100 := by omega
      have hk0 : (0 : Int) ≤ (k : Int) := by omega
      have hL := llight_any h.A h.n h.c r.l w (by have := hok.le; have := hok.small; omega) hok.row
      have hnext : LightL r.l → ∀ y ∈ rs.take (k + 1), LightL y.l := fun h y hy => by
        obtain ⟨h1, h2⟩ := List.getElem?_eq_some_iff.1 hx
        rw [List.take_succ_eq_append_getElem h1, h2] at hy
        rcases List.mem_append.1 hy with hy | hy
        · exact ht.out y hy
        · rw [List.mem_singleton.1 hy]; exact h
      replace hnext := Lib.hid hnext
      replace hL := Lib.hid hL
      clear hok hx ht
      go_wp2_with fail
      refine hL.out.mono ?_
      rintro e w3 ⟨⟨b, rfl, hb⟩, rfl⟩
      cases b with
      | false =>
        clear hb
        go_wp2
        go_ret
        exact ⟨⟨false, rfl, fun h => by cases h⟩, rfl⟩
      | true =>
        have hn2 := hnext.out (hb rfl)
        replace hn2 := Lib.hid hn2
        clear hb
        go_wp2
        go_roundw
        case rel => exact ⟨k + 1, by omega, by go_num, hn2.out, by first | rfl | trivial⟩
        case measure => simp [intOf]; omega
    · by_cases hkn : k < n
      · have hkj : ¬ (k : Int) < 100 := by omega
        have hki : (k : Int) < (n : Int) := by omega
        have hn60 : ((n : Int) ≤ 60) = False := eq_false (by omega)
        go_wp2
        go_ret
        exact ⟨⟨false, rfl, fun h => by cases h⟩, rfl⟩
      · obtain rfl : k = n := by omega
        by_cases h60 : k ≤ 60
        · have hn60 : (k : Int) ≤ 60 := by omega
          have hfull : rs.length ≤ 60 ∧ ∀ r ∈ rs, LightL r.l := ⟨by rw [hl.out]; exact h60, by
            have h1 := ht.out
            rwa [List.take_of_length_le (by rw [hl.out]; exact Nat.le_refl _)] at h1⟩
          replace hfull := Lib.hid hfull
          go_wp2
          go_ret
          exact ⟨⟨true, rfl, fun _ => hfull.out⟩, rfl⟩
        · have hn60 : ((k : Int) ≤ 60) = False := eq_false (by omega)
          go_wp2
          go_ret
          exact ⟨⟨false, rfl, fun h => by cases h⟩, rfl⟩
end Go.Proofs.Ytcinhaaibnailaa
