/-
  A label that a series has not is as if it were empty: plain; and Select of one matcher. No condition.
-/
import Derived.Test.YthlkcoiaahpmoaaStoPlay
namespace Go.Proofs.Ythlkcoiaahpmoaa
open Go.RowKit

theorem eName_len {l : List UInt8} (h : isName l = true) : l.length ≤ 120 := by
  have h1 := chunks_le4 l
  unfold isName at h
  rw [Bool.and_eq_true] at h
  have h2 := of_decide_eq_true h.2
  omega
def e3T : T := .alt1 (.rowS .row0 (.rep (.one dotS) false true))
theorem pat_e2 : patOf [] = some (.alt1 .row0) := patOf_yes (by decide) (by
  have h : pAlt 5 [] = some (T.alt1 .row0, []) := by rfl
  exact pAlt_more h (by omega))
theorem pat_e3 : patOf [46, 43] = some e3T := by
  have r1 : runesOf [46, 43] = [46, 43] := (runes_ascii _ (by decide)).trans rfl
  exact patOf_yes (by rw [r1]; decide) (by
    rw [r1]
    have h : pAlt 40 [46, 43] = some (e3T, []) := by rfl
    exact pAlt_more h (by omega))
theorem star_dots (u : List Int) : Star (Lang (.one dotS)) u := by
  induction u with
  | nil => exact .nil
  | cons r t ih => exact .cons (u := [r]) ⟨r, rfl, rfl⟩ ih
theorem lang_e3 (u : List Int) : Lang e3T u ↔ u ≠ [] := by
  constructor
  · rintro ⟨a, b, rfl, rfl, a', b', rfl, ⟨r, rfl, _⟩, _⟩ h
    simp at h
  · intro h
    cases u with
    | nil => exact absurd rfl h
    | cons r t => exact ⟨[], r :: t, rfl, rfl, [r], t, rfl, ⟨r, rfl, rfl⟩, star_dots t⟩
theorem eRunes (l : List UInt8) : runesOf l = [] ↔ l = [] := by
  constructor
  · intro h
    have h1 : (chunks l).length = 0 := by rw [← runes_len, h]; rfl
    have h2 := chunks_join l
    rw [List.eq_nil_of_length_eq_zero h1] at h2
    exact h2.symm
  · rintro rfl; rfl
theorem hold_e2 {H : T → List Int → Bool} (hH : Holds H) (nm : List UInt8) (l : List Lb) : holdM H ⟨nm, 3, []⟩ l = decide (getL l nm = []) := by
  unfold holdM
  rw [if_neg (show ¬ (3 : Int) = 1 by decide), if_neg (show ¬ (3 : Int) = 2 by decide)]
  simp only [pat_e2, if_pos]
  rw [Bool.eq_iff_iff, hH, decide_eq_true_iff, ← eRunes]
  exact Iff.rfl
theorem hold_e3 {H : T → List Int → Bool} (hH : Holds H) (nm : List UInt8) (l : List Lb) : holdM H ⟨nm, 3, [46, 43]⟩ l = !decide (getL l nm = []) := by
  unfold holdM
  rw [if_neg (show ¬ (3 : Int) = 1 by decide), if_neg (show ¬ (3 : Int) = 2 by decide)]
  simp only [pat_e3, if_pos]
  rw [Bool.eq_iff_iff, hH, lang_e3, Bool.not_eq_true', decide_eq_false_iff_not, Ne, eRunes]
theorem hold_e1 {H : T → List Int → Bool} (nm : List UInt8) (l : List Lb) : holdM H ⟨nm, 1, []⟩ l = decide (getL l nm = []) := by
  unfold holdM
  rw [if_pos rfl]
theorem all_one {H : T → List Int → Bool} (m : Mt) (l : List Lb) : allM H [m] l = holdM H m l := by
  unfold allM
  simp
theorem sel_e1 {H : T → List Int → Bool} (nm : List UInt8) (ss : List Ser) : selS H [⟨nm, 1, []⟩] ss = ss.filter fun s => decide (getL s.l nm = []) := by
  unfold selS
  exact List.filter_congr fun s _ => by rw [all_one, hold_e1]
theorem sel_e2 {H : T → List Int → Bool} (hH : Holds H) (nm : List UInt8) (ss : List Ser) : selS H [⟨nm, 3, []⟩] ss = ss.filter fun s => decide (getL s.l nm = []) := by
  unfold selS
  exact List.filter_congr fun s _ => by rw [all_one, hold_e2 hH]
theorem sel_e3 {H : T → List Int → Bool} (hH : Holds H) (nm : List UInt8) (ss : List Ser) : selS H [⟨nm, 3, [46, 43]⟩] ss = ss.filter fun s => !decide (getL s.l nm = []) := by
  unfold selS
  exact List.filter_congr fun s _ => by rw [all_one, hold_e3 hH]
theorem filter_two {α : Type} (p : α → Bool) (l : List α) : (l.filter p).length + (l.filter fun x => !p x).length = l.length := by
  induction l with
  | nil => rfl
  | cons a t ih => cases h : p a <;> simp [h] <;> omega
theorem okM_one {nm v : List UInt8} {op : Int} (h : isName nm = true) (h1 : op = 1 ∨ op = 3) (h2 : op = 3 → (patOf v).isSome = true) : okMs [⟨nm, op, v⟩] := ⟨fun m hm => by
  rw [List.mem_singleton.1 hm]
  exact ⟨h, by simp only; omega, by simp only; omega, fun q => h2 (by simp only at q; omega)⟩, by show 1 ≤ 10; decide⟩
set_option maxRecDepth 100000 in
theorem sel_one (H : T → List Int → Bool) (hH : Holds H) (base : Nat) (m : StoM) (ss : List Ser) (nm v : List UInt8) (vb : ByteArray) (hvb : vb = txt v) (op : Int) (W : World) (h : StoHas W base m ss) (hn : isName nm = true) (h1 : op = 1 ∨ op = 3) (h2 : op = 3 → (patOf v).isSome = true) (hv : v.length ≤ 1000000) :
    Calls Try.prog 13 #[.pointer (some ⟨m.St, 0, none⟩), .slice (some ⟨W.heap.size, 0, none⟩) 1 1] (W.alloc (.cells #[.string (txt nm), .int .i64 op, .string vb] 24)) fun e w' => ∃ A c hs, e = .returned (.tuple #[.slice A (selS H [⟨nm, op, v⟩] ss).length c, .int .i64 0]) ∧ SersOf w' A (selS H [⟨nm, op, v⟩] ss).length hs (selS H [⟨nm, op, v⟩] ss) ∧ Gr W w' := by
  subst hvb
  have g := gr_alloc W (.cells #[.string (txt nm), .int .i64 op, .string (txt v)] 24) none
  have hr : Row (W.alloc (.cells #[.string (txt nm), .int .i64 op, .string (txt v)] 24)) (some ⟨W.heap.size, 0, none⟩) 1 3 (sR mtC [⟨nm, op, v⟩]) :=
    row_blk (cs := sR mtC [⟨nm, op, v⟩]) (blk_new W (.cells #[.string (txt nm), .int .i64 op, .string (txt v)] 24)) rfl
  have hk := eName_len hn
  refine (select_any H hH base m ss (some ⟨W.heap.size, 0, none⟩) 1 1 [⟨nm, op, v⟩] _ (stoAt_gr h.sat g) h.inv (by decide) hr (fun x hx => by rw [List.mem_singleton.1 hx]; exact ⟨by simp only; omega, hv⟩)).mono ?_
  rintro e w' ⟨g2, ⟨_, A, c, hs, rfl, hF⟩ | ⟨hno, _⟩⟩
  · exact ⟨A, c, hs, rfl, sersIn_rd hF, gr_trans g g2⟩
  · exact absurd (okM_one hn h1 h2) hno
end Go.Proofs.Ythlkcoiaahpmoaa
