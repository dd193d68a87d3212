/-
  How many bytes all files have. No condition but a bound on them.
-/
import Derived.Test.YtbkhopfoabdeiaaChestB
namespace Go.Proofs.Ytbkhopfoabdeiaa
open Go.RowKit Go.Maps

/-- The bytes of those that are still to come. -/
def sumL (left : Lit → Bool) (fs : Fs) : Nat := sumF (fs.filter (fun p => left (.string p.1)))
theorem sumF_cons (p : List UInt8 × Fl) (fs : Fs) : sumF (p :: fs) = p.2.b.length + sumF fs := rfl
theorem sumL_all (fs : Fs) : sumL (Maps.has (DataW.map (fs.map entF))) fs = sumF fs := by
  unfold sumL
  rw [List.filter_eq_self.2]
  intro p hp
  show Maps.has (DataW.map (fs.map entF)) (.string p.1) = true
  unfold Maps.has
  rw [List.any_eq_true]
  exact ⟨entF p, List.mem_map.2 ⟨p, hp, rfl⟩, by simp [entF, Lit.sameKey]⟩
theorem sumL_none {left : Lit → Bool} (h : ∀ kl, left kl = false) (fs : Fs) : sumL left fs = 0 := by
  unfold sumL
  rw [List.filter_eq_nil_iff.2 (fun p _ => by rw [h]; simp)]
  rfl
theorem sumL_same {left left' : Lit → Bool} : ∀ {fs : Fs}, (∀ p ∈ fs, left (.string p.1) = left' (.string p.1)) → sumL left fs = sumL left' fs
  | [], _ => rfl
  | p :: r, h => by
    unfold sumL
    rw [List.filter_congr (fun q hq => h q hq)]
theorem sumL_step {left : Lit → Bool} {n : List UInt8} {f : Fl} (hl : left (.string n) = true) : ∀ {fs : Fs}, Dist fs → getF fs n = some f → sumL left fs = f.b.length + sumL (fun z => left z && !z.sameKey (.string n)) fs
  | [], _, h => by cases h
  | p :: r, hd, h => by
    obtain ⟨h1, h2⟩ := List.pairwise_cons.1 hd
    rw [get_cons] at h
    by_cases hp : p.1 = n
    · rw [if_pos hp] at h
      have hf : p.2 = f := Option.some.inj h
      have e : sumL left r = sumL (fun z => left z && !z.sameKey (.string n)) r := sumL_same (fun q hq => by
        have hne : q.1 ≠ n := fun e => h1 q hq (by rw [hp, e])
        have : (Lit.string q.1).sameKey (.string n) = false := by simp [Lit.sameKey, hne]
        simp [this])
      have a1 : sumL left (p :: r) = p.2.b.length + sumL left r := by
        unfold sumL
        rw [List.filter_cons_of_pos (p := fun p : List UInt8 × Fl => left (.string p.1)) (by rw [hp]; exact hl), sumF_cons]
      have a2 : sumL (fun z => left z && !z.sameKey (.string n)) (p :: r) = sumL (fun z => left z && !z.sameKey (.string n)) r := by
        unfold sumL
        rw [List.filter_cons_of_neg (by simp [hp, Lit.sameKey])]
      rw [a1, a2, ← e, hf]
    · rw [if_neg hp] at h
      have ih := sumL_step hl h2 h
      have hs : (Lit.string p.1).sameKey (.string n) = false := by simp [Lit.sameKey, hp]
      by_cases hlp : left (.string p.1) = true
      · have a1 : sumL left (p :: r) = p.2.b.length + sumL left r := by
          unfold sumL
          rw [List.filter_cons_of_pos (p := fun p : List UInt8 × Fl => left (.string p.1)) hlp, sumF_cons]
        have a2 : sumL (fun z => left z && !z.sameKey (.string n)) (p :: r) = p.2.b.length + sumL (fun z => left z && !z.sameKey (.string n)) r := by
          unfold sumL
          rw [List.filter_cons_of_pos (by simp [hlp, hs]), sumF_cons]
        omega
      · have a1 : sumL left (p :: r) = sumL left r := by
          unfold sumL
          rw [List.filter_cons_of_neg (p := fun p : List UInt8 × Fl => left (.string p.1)) hlp]
        have a2 : sumL (fun z => left z && !z.sameKey (.string n)) (p :: r) = sumL (fun z => left z && !z.sameKey (.string n)) r := by
          unfold sumL
          rw [List.filter_cons_of_neg (by simp [hlp])]
        omega
theorem rangesF_gr {w w' : World} {M r n cnt : Nat} {D : DataW Unit} {left : Lit → Bool} (h : w.ranges Try.prog 9 flR M r n D left cnt) (g : Gr w w') : w'.ranges Try.prog 9 flR M r n D left cnt := h.kept g (by simp) (by simp)
set_option maxHeartbeats 4000000 in
set_option maxRecDepth 100000 in
theorem used_any (C M : Nat) (q dd : Int) (off : Bool) (fs : Fs) (W : World) (h : ChB W C M q off dd) (hm : MapF W M fs) (hs : sumF fs ≤ 1000000000000) :
    Calls Try.prog 15 #[.pointer (some ⟨C, 0, none⟩)] W fun e w' => e = .returned (.int .i64 (sumF fs)) ∧ Gr W w' := by
  have cN := none_any C M q dd off W h
  have hdist := mapF_dist hm
  have hall := sumL_all fs
  obtain ⟨c0, c1, c2, c3, c4, c5, c6⟩ := chb_cells h
  clear h c0 c2 c3 c4 c5 c6
  replace hm := Lib.hid hm
  replace cN := Lib.hid cN
  replace hdist := Lib.hid hdist
  replace hall := Lib.hid hall
  go_enter Try.func15, Try.ntmps15
  go_wp2_with fail
  refine cN.out.mono ?_
  rintro e w' ⟨rfl, rfl⟩
  go_wp2_with (at_range; refine wpList_range_own _ rfl _ _ rfl 9 47 lawF Try.underlying41 flR M fs.length _ rfl hm.out ?_; intro W1 hrg g1 hsz1)
  go_frame
  replace hrg := Lib.hid hrg
  replace g1 := Lib.hid g1
  clear c1
  go_loopw [3] (fun nv wr => ∃ (left : Lit → Bool) (cnt m : Nat), nv = .int .i64 m ∧ Hid (wr.ranges Try.prog 9 flR M W.heap.size fs.length (.map (fs.map entF)) left cnt) ∧ Hid (m + sumL left fs = sumF fs) ∧ Hid (Gr W wr)) (fun _ wr => wr.rangeLeft M W.heap.size)
  case atStart => exact ⟨_, _, 0, rfl, hrg.out, by rw [Nat.zero_add]; exact hall.out, g1.out⟩
  case round =>
    obtain ⟨left, cnt, m, rfl, hr, hsum, hg⟩ := hrel
    go_wp2_with (at_next; refine wpList_next_ranges _ rfl _ rfl 9 lawF flR (fun l : List UInt8 => Value.string (txt l)) flV (fun key kl hk => by obtain ⟨l, hl, _⟩ := key_inv hk; exact ⟨l, hl⟩) (fun v y hv => by obtain ⟨f, hf, _⟩ := flR_inv hv; exact ⟨f, hf⟩) M W.heap.size fs.length _ left cnt rfl hr.out ?_ ?_)
    · intro _ hl0
      have hm0 : m = sumF fs := by
        have := hsum.out
        rw [sumL_none hl0] at this
        exact this
      replace hm0 := Lib.hid hm0
      clear hl0
      go_wp2
      go_ret
      exact ⟨by rw [hm0.out]; rfl, hg.out⟩
    · intro x f kl y0 y1 w1 cnt1 hkey hlk hv hat hrg1 hlt hg1 hs1 hen
      obtain ⟨l, hl, rfl⟩ := key_inv hkey
      have hxl : x = l := txt_inj (by injection hl)
      subst hxl
      have hgf : getF fs x = some f := by
        rw [flR_mk] at hv
        have hy : flD f = y0 := congrArg Prod.fst (Option.some.inj hv)
        have h1 := hat .nil
        rw [ent_get, ← hy] at h1
        cases hg0 : getF fs x with
        | none => rw [hg0] at h1; cases h1
        | some g => rw [hg0] at h1; rw [flD_inj h1]
      have hstep := sumL_step hlk hdist.out hgf
      have hG1 := gr_overC hg.out hg1 (Nat.le_refl _)
      have hml : m + f.b.length ≤ 1000000000000 := by have := hsum.out; omega
      have hi : IntKind.i64.wrap ((m : Int) + (f.b.length : Int)) = ((m + f.b.length : Nat) : Int) := by rw [IntWalk.i64_in _ (by omega)]; omega
      have hs' : m + f.b.length + sumL (fun z => left z && !z.sameKey (.string x)) fs = sumF fs := by have := hsum.out; omega
      have hrg2 := rangesF_gr hrg1 (gr_alloc w1 (.cells #[.string (txt f.b), .int .i64 f.fx] 47) none)
      have hG2 := gr_trans hG1 (gr_alloc w1 (.cells #[.string (txt f.b), .int .i64 f.fx] 47) none)
      have hmeas : cnt1 < wr.rangeLeft M W.heap.size := by rw [hr.out.left_eq]; exact hlt
      replace hrg2 := Lib.hid hrg2
      replace hG2 := Lib.hid hG2
      replace hs' := Lib.hid hs'
      replace hmeas := Lib.hid hmeas
      clear hkey hlk hv hat hrg1 hlt hg1 hs1 hl hgf hstep hG1 hr hsum hg
      unfold flV at hen ⊢
      go_wp2
      go_roundw
      case rel => exact ⟨_, cnt1, m + f.b.length, by go_num, hrg2.out, hs'.out, hG2.out⟩
      case measure => rw [hrg2.out.left_eq]; exact hmeas.out
end Go.Proofs.Ytbkhopfoabdeiaa
