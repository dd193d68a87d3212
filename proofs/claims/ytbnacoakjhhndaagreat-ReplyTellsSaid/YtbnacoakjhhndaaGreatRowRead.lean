/-
  The reader of a row's bytes: take, num, text. No condition but bounds on the lengths.
-/
import Derived.Test.YtbnacoakjhhndaaGreatRowMath
import Derived.Test.YtbnacoakjhhndaaGreatQuietGr
namespace Go.Proofs.YtbnacoakjhhndaaGreat
open Go.RowKit

/-- The reader at b stands ahead of these bytes; has it failed? -/
def Rdr (w : World) (b : Nat) (l : List UInt8) (bad : Bool) : Prop := w.heap[b]? = some (.cells #[.string (txt l), .bool bad] 165 (0, 0))
theorem rdr_cells {w : World} {b : Nat} {l : List UInt8} {bad : Bool} (h : Rdr w b l bad) : w.cell? ⟨b, 0, none⟩ = some (.string (txt l)) ∧ w.cell? ⟨b, 1, none⟩ = some (.bool bad) ∧ w.frozen? ⟨b, 0, none⟩ = false ∧ w.frozen? ⟨b, 1, none⟩ = false := by
  unfold Rdr at h
  refine ⟨?_, ?_, ?_, ?_⟩ <;> (first | unfold World.cell? | unfold World.frozen?) <;> rw [h] <;> rfl
theorem rdr_bad {w : World} {b : Nat} {l : List UInt8} {bad : Bool} (h : Rdr w b l bad) (v : Bool) : Rdr (w.setCell ⟨b, 1, none⟩ (.bool v)) b l v := blk_set h 1 _
theorem rdr_on {w : World} {b : Nat} {l : List UInt8} {bad : Bool} (h : Rdr w b l bad) (m : List UInt8) : Rdr (w.setCell ⟨b, 0, none⟩ (.string (txt m))) b m bad := blk_set h 0 _
theorem rdr_gr {w w' : World} {b : Nat} {l : List UInt8} {bad : Bool} (h : Rdr w b l bad) (g : Gr w w') : Rdr w' b l bad := gr_blk g h (by simp)
def RdPost (b : Nat) (w : World) (e : Ending) (w' : World) (v : Value) (l : List UInt8) (bad : Bool) : Prop := e = .returned v ∧ Rdr w' b l bad ∧ GrB b w w'
set_option maxHeartbeats 4000000 in
set_option maxRecDepth 100000 in
theorem take_bad (b n : Nat) (l : List UInt8) (w : World) (h : Rdr w b l true) (_hn : n ≤ 255) : Calls Tryz.prog 118 #[.pointer (some ⟨b, 0, none⟩), .int .i64 n] w fun e w' => RdPost b w e w' (.string (txt [])) l true := by
  obtain ⟨c0, c1, f0, f1⟩ := rdr_cells h
  have hr := rdr_bad h true
  replace hr := Lib.hid hr
  clear h
  go_enter Tryz.func118, Tryz.ntmps118
  go_wp2
  go_ret
  exact ⟨rfl, hr.out, gr_set _ _ _⟩
set_option maxHeartbeats 4000000 in
set_option maxRecDepth 100000 in
theorem take_far (b n : Nat) (l : List UInt8) (w : World) (h : Rdr w b l false) (_hn : n ≤ 255) (hl : l.length < n) : Calls Tryz.prog 118 #[.pointer (some ⟨b, 0, none⟩), .int .i64 n] w fun e w' => RdPost b w e w' (.string (txt [])) l true := by
  obtain ⟨c0, c1, f0, f1⟩ := rdr_cells h
  have hr := rdr_bad h true
  replace hr := Lib.hid hr
  clear h
  have hli : (l.length : Int) < (n : Int) := by omega
  go_enter Tryz.func118, Tryz.ntmps118
  go_wp2
  go_ret
  exact ⟨rfl, hr.out, gr_set _ _ _⟩
theorem txt_take (l : List UInt8) (n : Nat) : (txt l).extract 0 n = txt (l.take n) := str_eq (by rw [Lib.extract_data, txt_data]; simp)
theorem txt_drop (l : List UInt8) (n : Nat) : (txt l).extract n l.length = txt (l.drop n) := by
  apply str_eq
  have := ext_end (txt l) n
  rw [txt_size] at this
  exact this
set_option maxHeartbeats 4000000 in
set_option maxRecDepth 100000 in
theorem take_on (b n : Nat) (l : List UInt8) (w : World) (h : Rdr w b l false) (hl : n ≤ l.length) (_hm : l.length ≤ 1000000000) : Calls Tryz.prog 118 #[.pointer (some ⟨b, 0, none⟩), .int .i64 n] w fun e w' => RdPost b w e w' (.string (txt (l.take n))) (l.drop n) false := by
  obtain ⟨c0, c1, f0, f1⟩ := rdr_cells h
  have hr := rdr_on h (l.drop n)
  replace hr := Lib.hid hr
  clear h
  have hli : ((l.length : Int) < (n : Int)) = False := eq_false (by omega)
  have hli2 : (n : Int) ≤ (l.length : Int) := by omega
  have e1 := txt_take l n
  have e2 := txt_drop l n
  go_enter Tryz.func118, Tryz.ntmps118
  go_wp2
  go_ret
  exact ⟨rfl, hr.out, gr_set _ _ _⟩
theorem dor6 (x y : Nat) (hx : x < 281474976710656) (hy : y < 256) : bits .or .i64 ((x : Int) * 256) (y : Int) = ((x * 256 + y : Nat) : Int) := by
  rw [bits_join .i64 62 (by decide) (fun n h0 h1 => IntWalk.i64_in _ (by omega)) 8 _ _ (by omega) (by omega) (by omega) (by omega) (by omega) (by omega)]
  simp
set_option maxHeartbeats 4000000 in
set_option maxRecDepth 100000 in
theorem num_of (b n : Nat) (m l' : List UInt8) (bad' : Bool) (w : World) (hm : m.length ≤ 6) (hT : Calls Tryz.prog 118 #[.pointer (some ⟨b, 0, none⟩), .int .i64 n] w fun e w' => RdPost b w e w' (.string (txt m)) l' bad') :
    Calls Tryz.prog 108 #[.pointer (some ⟨b, 0, none⟩), .int .i64 n] w fun e w' => RdPost b w e w' (.int .i64 (dvN m)) l' bad' := by
  replace hT := Lib.hid hT
  go_enter Tryz.func108, Tryz.ntmps108
  go_wp2_with fail
  refine hT.out.mono ?_
  rintro e w1 ⟨rfl, hr, hg⟩
  replace hr := Lib.hid hr
  replace hg := Lib.hid hg
  go_wp2
  go_loop [6, 13] (fun x i => ∃ (k X : Nat), k ≤ m.length ∧ i = .int .i64 k ∧ x = .int .i64 X ∧ X < 256 ^ 6 ∧ Hid (X = dvN (m.take k))) (fun _ i => m.length - (intOf i).toNat)
  case atStart => exact ⟨0, 0, Nat.zero_le _, rfl, rfl, by decide, Lib.hid rfl⟩
  case round =>
    obtain ⟨k, X, hk, rfl, rfl, hX, HX⟩ := hrel
    by_cases hlt : k < m.length
    · have hv := dvN_lt (m.take (k + 1))
      have hs := dvN_snoc (m.take k) m[k]
      rw [← List.take_succ_eq_append_getElem hlt, ← HX.out] at hs
      have h6 : dvN (m.take (k + 1)) < 256 ^ 6 := Nat.lt_of_lt_of_le hv (Nat.pow_le_pow_right (by omega) (by simp; omega))
      have hb := m[k].toNat_lt
      have hki : (k : Int) < (m.length : Int) := by omega
      have hX2 : X * 256 + m[k].toNat < 281474976710656 := by rw [← hs]; exact h6
      have hXs : X < 281474976710656 := by omega
      have hget : (txt m)[k]'(by rw [txt_size]; exact hlt) = m[k] := by show m.toArray[k] = m[k]; simp
      have hor := dor6 X m[k].toNat (by omega) (by omega)
      have hwx : IntKind.i64.wrap ((X : Int) * 256) = (X : Int) * 256 := IntWalk.i64_in _ (by omega)
      replace hs := Lib.hid hs
      replace h6 := Lib.hid h6
      clear hv
      go_wp2
      go_round
      case rel => exact ⟨k + 1, _, by omega, by go_num, rfl, by rw [← hs.out]; exact h6.out, Lib.hid hs.out.symm⟩
      case measure => simp [intOf]; omega
    · obtain rfl : k = m.length := by omega
      have hx := HX.out
      rw [List.take_length] at hx
      subst hx
      go_wp2
      go_ret
      exact ⟨rfl, hr.out, hg.out⟩
theorem num_bad (b n : Nat) (l : List UInt8) (w : World) (h : Rdr w b l true) (hn : n ≤ 255) : Calls Tryz.prog 108 #[.pointer (some ⟨b, 0, none⟩), .int .i64 n] w fun e w' => RdPost b w e w' (.int .i64 (0 : Nat)) l true :=
  num_of b n [] l true w (by simp) (take_bad b n l w h hn)
theorem num_far (b n : Nat) (l : List UInt8) (w : World) (h : Rdr w b l false) (hn : n ≤ 255) (hl : l.length < n) : Calls Tryz.prog 108 #[.pointer (some ⟨b, 0, none⟩), .int .i64 n] w fun e w' => RdPost b w e w' (.int .i64 (0 : Nat)) l true :=
  num_of b n [] l true w (by simp) (take_far b n l w h hn hl)
theorem num_on (b n : Nat) (l : List UInt8) (w : World) (h : Rdr w b l false) (hn : n ≤ 6) (hl : n ≤ l.length) (hm : l.length ≤ 1000000000) : Calls Tryz.prog 108 #[.pointer (some ⟨b, 0, none⟩), .int .i64 n] w fun e w' => RdPost b w e w' (.int .i64 (dvN (l.take n))) (l.drop n) false :=
  num_of b n (l.take n) (l.drop n) false w (by rw [List.length_take]; omega) (take_on b n l w h hl hm)
/-- A text behind its length is read, or the reader fails. -/
def TextPost (b : Nat) (l : List UInt8) (bad : Bool) (w : World) (e : Ending) (w' : World) : Prop :=
  ∃ (x r : List UInt8) (bad' : Bool), e = .returned (.string (txt x)) ∧ Rdr w' b r bad' ∧ GrB b w w' ∧ x.length ≤ l.length ∧ r.length ≤ l.length ∧ (bad = true → bad' = true) ∧ (bad = false → takeT l = if bad' = true then none else some (x, r))
set_option maxHeartbeats 4000000 in
set_option maxRecDepth 100000 in
theorem text_of (b n : Nat) (l l1 l2 x : List UInt8) (bad bad1 bad2 : Bool) (w : World) (_hn : n ≤ 255) (h1 : Calls Tryz.prog 108 #[.pointer (some ⟨b, 0, none⟩), .int .i64 1] w fun e w' => RdPost b w e w' (.int .i64 n) l1 bad1)
    (h2 : ∀ w1, Rdr w1 b l1 bad1 → Calls Tryz.prog 118 #[.pointer (some ⟨b, 0, none⟩), .int .i64 n] w1 fun e w' => RdPost b w1 e w' (.string (txt x)) l2 bad2)
    (h3 : x.length ≤ l.length ∧ l2.length ≤ l.length ∧ (bad = true → bad2 = true) ∧ (bad = false → takeT l = if bad2 = true then none else some (x, l2))) :
    Calls Tryz.prog 109 #[.pointer (some ⟨b, 0, none⟩)] w (TextPost b l bad w) := by
  replace h1 := Lib.hid h1
  replace h2 := Lib.hid h2
  replace h3 := Lib.hid h3
  go_enter Tryz.func109, Tryz.ntmps109
  go_wp2_with fail
  refine h1.out.mono ?_
  rintro e w1 ⟨rfl, hr, hg⟩
  have h4 := h2.out w1 hr
  replace hg := Lib.hid hg
  replace h4 := Lib.hid h4
  clear h2 hr
  go_wp2_with fail
  refine h4.out.mono ?_
  rintro e w2 ⟨rfl, hr2, hg2⟩
  replace hr2 := Lib.hid hr2
  replace hg2 := Lib.hid hg2
  go_wp2
  go_ret
  exact ⟨x, l2, bad2, rfl, hr2.out, gr_trans hg.out hg2.out, h3.out⟩
theorem text_any (b : Nat) (l : List UInt8) (bad : Bool) (w : World) (h : Rdr w b l bad) (hm : l.length ≤ 1000000000) : Calls Tryz.prog 109 #[.pointer (some ⟨b, 0, none⟩)] w (TextPost b l bad w) := by
  cases bad with
  | true => exact text_of b 0 l l l [] true true true w (by decide) (num_bad b 1 l w h (by decide)) (fun w1 hr => take_bad b 0 l w1 hr (by decide)) ⟨by simp, Nat.le_refl _, fun _ => rfl, fun e => by cases e⟩
  | false =>
    cases l with
    | nil => exact text_of b 0 [] [] [] [] false true true w (by decide) (num_far b 1 [] w h (by decide) (by decide)) (fun w1 hr => take_bad b 0 [] w1 hr (by decide)) ⟨by simp, Nat.le_refl _, fun e => by (cases e), fun _ => rfl⟩
    | cons c t =>
      have hc := c.toNat_lt
      have hd : dvN ((c :: t).take 1) = c.toNat := by simp [dvN]
      have hn := num_on b 1 (c :: t) w h (by decide) (by simp) hm
      rw [hd] at hn
      have hlt : t.length ≤ (c :: t).length := by simp
      simp only [List.length_cons] at hm
      by_cases hcl : c.toNat ≤ t.length
      · refine text_of b c.toNat (c :: t) t (t.drop c.toNat) (t.take c.toNat) false false false w (by omega) hn (fun w1 hr => take_on b c.toNat t w1 hr hcl (by omega)) ⟨by rw [List.length_take]; omega, by rw [List.length_drop]; omega, fun e => e, fun _ => ?_⟩
        show (if c.toNat ≤ t.length then some (t.take c.toNat, t.drop c.toNat) else none) = _
        rw [if_pos hcl]
        rfl
      · refine text_of b c.toNat (c :: t) t t [] false false true w (by omega) hn (fun w1 hr => take_far b c.toNat t w1 hr (by omega) (by omega)) ⟨by simp, hlt, fun e => by (cases e), fun _ => ?_⟩
        show (if c.toNat ≤ t.length then some (t.take c.toNat, t.drop c.toNat) else none) = _
        rw [if_neg hcl]
        rfl
end Go.Proofs.YtbnacoakjhhndaaGreat
