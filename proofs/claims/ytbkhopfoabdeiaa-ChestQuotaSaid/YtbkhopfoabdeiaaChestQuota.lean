/-
  ChestQuota holds of the program: for every input the call returns true and leaves what came in as it was. No condition.
-/
import Derived.Test.YtbkhopfoabdeiaaRows
import Derived.Test.YtbkhopfoabdeiaaChestI
import Derived.WalkKit
import Derived.ProofKit
import Derived.OpenShut
import Derived.ShutString
import Derived.ChangeOld
import Derived.Below
namespace Go.Proofs.Ytbkhopfoabdeiaa.chestQuota
open Go.ChangeShapes Go.WideShapes Go.ChangeAt Go.RowKit
open Go.ChangeMaps (open_string shut_string)
set_option linter.unusedVariables false

theorem own : ownKnob Try.prog.godebug = none := by kernel_rfl
theorem laidOut : laidOutB Try.prog = true := by kernel_rfl
theorem mem_ins {x p : List UInt8 × Fl} : ∀ {fs : Fs}, p ∈ insF x fs → p = x ∨ p ∈ fs
  | [], h => by
    unfold insF at h
    exact .inl (List.mem_singleton.1 h)
  | y :: r, h => by
    unfold insF at h
    split at h
    · rcases List.mem_cons.1 h with h | h
      · exact .inl h
      · exact .inr h
    · rcases List.mem_cons.1 h with h | h
      · exact .inr (h ▸ List.mem_cons_self)
      · rcases mem_ins h with h | h
        · exact .inl h
        · exact .inr (List.mem_cons_of_mem _ h)
theorem mem_put {n : List UInt8} {f : Fl} {p : List UInt8 × Fl} {fs : Fs} (h : p ∈ putF n f fs) : p.1 = n ∨ p ∈ fs := by
  rcases mem_ins h with h | h
  · exact .inl (by rw [h])
  · exact .inr (List.mem_filter.1 h).1
theorem sum_filter (q : List UInt8 × Fl → Bool) : ∀ fs : Fs, sumF (fs.filter q) ≤ sumF fs
  | [] => Nat.le_refl _
  | p :: r => by
    have ih := sum_filter q r
    rw [sumF_cons]
    by_cases h : q p = true
    · rw [List.filter_cons_of_pos h, sumF_cons]; omega
    · rw [List.filter_cons_of_neg h]; omega
theorem sum_put (n : List UInt8) (f : Fl) (fs : Fs) : sumF (putF n f fs) ≤ f.b.length + sumF fs := by
  unfold putF
  rw [sum_ins]
  have := sum_filter (fun p => !(p.1 == n)) fs
  unfold delF
  simp only
  omega

theorem row_txt {w : World} {a : Option Addr} {n c : Nat} {ss : List ByteArray} (h : IsTexts w a n c ss) : ∃ zs : List (List UInt8), Row w a n 1 (zs.map strV) := by
  refine ⟨ss.map (fun s => s.data.toList), ?_⟩
  have e : (ss.map (fun s => s.data.toList)).map strV = ss.map .string := by
    rw [List.map_map]
    exact List.map_congr_left (fun s _ => by show Value.string (txt s.data.toList) = _; rw [txt_of])
  rw [e]
  exact h.2.2.1
theorem row_at {w : World} {B o n k : Nat} {zs : List (List UInt8)} {x : List UInt8} (h : Row w (some ⟨B, o, none⟩) n 1 (zs.map strV)) (hx : zs[k]? = some x) : w.cell? ⟨B, o + k, none⟩ = some (.string (txt x)) := by
  obtain ⟨B', o', e, _, hc⟩ := h.2 k (strV x) (by rw [List.getElem?_map, hx]; rfl)
  injection e with e
  injection e with e1 e2
  subst e1 e2
  exact hc
def nmQ (j : Nat) : List UInt8 := [102, UInt8.ofNat (65 + j)]
theorem nmQ_ok (j : Nat) : okNm (nmQ j) = true := rfl
theorem nmQ_inj {i j : Nat} (hi : i < 5) (hj : j < 5) (h : nmQ i = nmQ j) : i = j := by
  unfold nmQ at h
  injection h with _ h
  injection h with h _
  have := congrArg UInt8.toNat h
  simp [UInt8.toNat_ofNat'] at this
  omega
theorem cv_name (j : Nat) (hj : j < 5) (wr : World) : (convert 33 9 (.slice (some ⟨wr.heap.size, 0, none⟩) 2 2)).run Try.prog (wr.alloc (.cells #[.int .u8 102, .int .u8 (65 + (j : Int))] 5)) = .ok (.string (txt (nmQ j))) (wr.alloc (.cells #[.int .u8 102, .int .u8 (65 + (j : Int))] 5)) := by
  refine run_string_cells (P := Try.prog) _ 33 9 5 Try.underlying33 Try.underlying5 Try.underlying9 ⟨wr.heap.size, 0, none⟩ (nmQ j) 2 (fun i b hb => ?_)
  rw [add_plain, Nat.zero_add, World.cell?_alloc_new]
  match i, hb with
  | 0, hb =>
    obtain rfl : 102 = b := Option.some.inj hb
    rfl
  | 1, hb =>
    obtain rfl : UInt8.ofNat (65 + j) = b := Option.some.inj hb
    show some (Value.int .u8 (65 + (j : Int))) = some (byteV (UInt8.ofNat (65 + j)))
    unfold byteV
    congr 2
    rw [UInt8.toNat_ofNat']
    omega
  | i + 2, hb => cases hb
/-- The files behind k rounds. -/
structure InQ (k used : Nat) (fs : Fs) : Prop where
  nm : ∀ p ∈ fs, ∃ j, j < 5 ∧ j < k ∧ p.1 = nmQ j
  has : ∀ j, j < 5 → j < k → (getF fs (nmQ j)).isSome = true
  sum : sumF fs = used
  len : fs.length ≤ 2 * k
theorem inQ_new {k used : Nat} {fs : Fs} (h : InQ k used fs) (hk : k < 5) : InQ (k + 1) used (putF (nmQ k) ⟨[], 0⟩ fs) := by
  have hno : getF fs (nmQ k) = none := by
    cases hg : getF fs (nmQ k) with
    | none => rfl
    | some f =>
      exfalso
      have := (mem_get (fs := fs) (n := nmQ k)).1 (by rw [hg]; rfl)
      obtain ⟨p, hp, he⟩ := List.mem_map.1 this
      obtain ⟨j, h1, h2, h3⟩ := h.nm p hp
      rw [h3] at he
      have := nmQ_inj h1 hk he
      omega
  refine ⟨fun p hp => ?_, fun j h1 h2 => ?_, ?_, ?_⟩
  · rcases mem_put hp with e | hp
    · exact ⟨k, hk, by omega, e⟩
    · obtain ⟨j, h1, h2, h3⟩ := h.nm p hp
      exact ⟨j, h1, by omega, h3⟩
  · by_cases e : j = k
    · rw [e, get_put_self]; rfl
    · rw [get_put_other _ _ (fun e2 => e (nmQ_inj h1 hk e2))]
      exact h.has j h1 (by omega)
  · unfold putF
    rw [sum_ins, del_none hno]
    have := h.sum
    simp only [List.length_nil]
    omega
  · have := put_len (nmQ k) ⟨[], 0⟩ fs
    have := h.len
    omega
theorem inQ_next {k used : Nat} {fs : Fs} (h : InQ k used fs) (hk : 5 ≤ k) : InQ (k + 1) used fs :=
  ⟨fun p hp => by obtain ⟨j, h1, h2, h3⟩ := h.nm p hp; exact ⟨j, h1, by omega, h3⟩, fun j h1 _ => h.has j h1 (by omega), h.sum, by have := h.len; omega⟩
theorem inQ_add {k used : Nat} {fs : Fs} {j : Nat} {x : List UInt8} {f : Fl} (h : InQ (k + 1) used fs) (hd : Dist fs) (hj : j < 5) (hjk : j < k + 1) (hg : getF fs (nmQ j) = some f) (hl : fs.length ≤ 2 * k + 1) : InQ (k + 1) (used + x.length) (putF (nmQ j) ⟨f.b ++ x, f.fx⟩ fs) := by
  refine ⟨fun p hp => ?_, fun i h1 h2 => ?_, ?_, by have := put_len (nmQ j) ⟨f.b ++ x, f.fx⟩ fs; omega⟩
  · rcases mem_put hp with e | hp
    · exact ⟨j, hj, hjk, e⟩
    · exact h.nm p hp
  · by_cases e : i = j
    · rw [e, get_put_self]; rfl
    · rw [get_put_other _ _ (fun e2 => e (nmQ_inj h1 hj e2))]
      exact h.has i h1 h2
  · unfold putF
    rw [sum_ins]
    have h1 := sum_del (nmQ j) fs hd
    rw [hg] at h1
    simp only [Option.getD_some] at h1
    have h2 := h.sum
    simp only [List.length_append]
    omega
/-- What is left when some names are gone. -/
def leftQ (fs : Fs) (ns : List (List UInt8)) : Fs := fs.filter (fun p => !ns.contains p.1)
theorem leftQ_nil (fs : Fs) : leftQ fs [] = fs := by unfold leftQ; rw [List.filter_eq_self.2]; intro p _; rfl
theorem leftQ_step (fs : Fs) (ns : List (List UInt8)) (n : List UInt8) : delF n (leftQ fs ns) = leftQ fs (ns ++ [n]) := by
  unfold leftQ delF
  rw [List.filter_filter]
  congr 1
  funext p
  have e : (ns ++ [n]).contains p.1 = (ns.contains p.1 || p.1 == n) := by
    rw [Bool.eq_iff_iff]
    simp
  rw [e]
  cases ns.contains p.1 <;> cases (p.1 == n) <;> rfl
theorem leftQ_all {fs : Fs} {ns : List (List UInt8)} (h : ns.Perm (fs.map (·.1))) : leftQ fs ns = [] := by
  unfold leftQ
  rw [List.filter_eq_nil_iff]
  intro p hp
  have : p.1 ∈ ns := h.mem_iff.2 (List.mem_map.2 ⟨p, hp, rfl⟩)
  simp [this]
theorem leftQ_has {fs : Fs} {ns : List (List UInt8)} {k : Nat} {x : List UInt8} (h : ns.Perm (fs.map (·.1))) (hd : Dist fs) (hx : ns[k]? = some x) : ∃ f, getF (leftQ fs (ns.take k)) x = some f := by
  have hnd : ns.Nodup := h.nodup_iff.2 (by rw [List.nodup_iff_pairwise_ne, List.pairwise_map]; exact hd)
  have hmem : x ∈ fs.map (·.1) := h.mem_iff.1 (List.mem_of_getElem? hx)
  obtain ⟨p, hp, he⟩ := List.mem_map.1 hmem
  have hno : x ∉ ns.take k := by
    intro hm
    obtain ⟨hk, hxk⟩ := List.getElem?_eq_some_iff.1 hx
    obtain ⟨i, hi, hxi⟩ := List.mem_iff_getElem.1 hm
    rw [List.length_take] at hi
    rw [List.getElem_take] at hxi
    have := (List.getElem_inj hnd).1 (hxi.trans hxk.symm)
    omega
  have hin : x ∈ (leftQ fs (ns.take k)).map (·.1) := by
    refine List.mem_map.2 ⟨p, List.mem_filter.2 ⟨hp, ?_⟩, he⟩
    rw [he]
    simpa using hno
  have := mem_get.2 hin
  exact Option.isSome_iff_exists.1 this
theorem leftQ_len (fs : Fs) (ns : List (List UInt8)) : (leftQ fs ns).length ≤ fs.length := List.length_filter_le _ _
theorem take_snocQ {zs : List (List UInt8)} {k : Nat} {x : List UInt8} (h : zs[k]? = some x) : zs.take (k + 1) = zs.take k ++ [x] := by
  obtain ⟨h1, h2⟩ := List.getElem?_eq_some_iff.1 h
  rw [List.take_succ_eq_append_getElem h1, h2]
set_option maxHeartbeats 16000000 in
set_option maxRecDepth 100000 in
theorem walk (w : World) (a0 : Int) (w0 : (Lit.int .i64 a0).wf = true) (a1 : Option Addr) (len1 cap1 : Nat) (z1 : List ByteArray) (w1 : IsTexts w a1 len1 cap1 z1) :
    Calls Try.prog 4 #[.int .i64 a0, .slice a1 len1 cap1] w fun e w' => e = .returned (.bool true) ∧ Below w.heap.size w w' := by
  obtain ⟨zs, hr0⟩ := row_txt w1
  have hcap1 := w1.1
  have hcapn := w1.2.1
  unfold maxLen at hcapn
  clear w0 w1
  have hzl : zs.length = len1 := by have := hr0.1; simpa using this
  by_cases c : 0 ≤ a0 ∧ a0 ≤ 1000 ∧ len1 ≤ 40
  · obtain ⟨c1, c2, c3⟩ := c
    have i1 : ¬ (40 : Int) < (len1 : Int) := by omega
    replace hr0 := Lib.hid hr0
    replace hzl := Lib.hid hzl
    have hcvn := cv_name
    replace hcvn := Lib.hid hcvn
    go_enter Try.func4, Try.ntmps4
    go_wp2_with fail
    refine (alive_any _).mono ?_
    rintro e W1 ⟨rfl, g1⟩
    go_wp2_with fail
    refine (cnew_any w W1 g1 a0 (by omega)).mono ?_
    rintro e W2 ⟨C, M, rfl, h2, _⟩
    replace h2 := Lib.hid h2
    clear g1
    go_wp2_with fail
    go_loopw [6, 7] (fun uv iv wr => ∃ (k used : Nat) (fs : Fs) (dd : Int), k ≤ len1 ∧ iv = .int .i64 k ∧ uv = .int .i64 used ∧ Hid ((used : Int) ≤ a0) ∧ Hid (0 ≤ dd ∧ dd ≤ 2 * k) ∧ Hid (InQ k used fs) ∧ Hid (ChIs w wr C M a0 fs false dd)) (fun _ iv _ => len1 - (intOf iv).toNat)
    case atStart => exact ⟨0, 0, [], 0, Nat.zero_le _, rfl, rfl, Lib.hid c1, Lib.hid (by omega), Lib.hid ⟨fun p hp => absurd hp List.not_mem_nil, fun j _ h => absurd h (Nat.not_lt_zero _), rfl, Nat.zero_le _⟩, h2⟩
    case round =>
      obtain ⟨k, used, fs, dd, hk, rfl, rfl, hu, hdd, hq, hc⟩ := hrel
      have hub := hu.out
      have hu0 : (0 : Int) ≤ (used : Int) := by omega
      by_cases hlt : k < len1
      · have hki : (k : Int) < (len1 : Int) := by omega
        have hk0 : (0 : Int) ≤ (k : Int) := by omega
        obtain ⟨x, B, o, hx, rfl, hcell⟩ := row_elem (row_gr hr0.out hc.out.gr) hlt
        replace hcell : wr.cell? ⟨B, o + k, none⟩ = some (.string (txt x)) := hcell
        obtain ⟨j, hj⟩ : ∃ j, j = k % 5 := ⟨_, rfl⟩
        have hj5 : j < 5 := by omega
        have hrem : (k : Int) % 5 = (j : Int) := by omega
        have hremt : (k : Int).tmod 5 = (j : Int) := by rw [Int.tmod_eq_emod_of_nonneg (by omega)]; omega
        have hadd : IntKind.i64.wrap (65 + (j : Int)) = 65 + (j : Int) := IntWalk.i64_in _ (by omega)
        have hu8 : IntKind.u8.wrap (65 + (j : Int)) = 65 + (j : Int) := by simp [IntKind.wrap, IntKind.bits, IntKind.signed]; omega
        have hcv := hcvn.out j hj5 wr
        replace hj := Lib.hid hj
        replace hj5 := Lib.hid hj5
        replace hx := Lib.hid hx
        go_upto_region 11 with fail
        have hc0 := ch_gr hc.out (gr_alloc wr (.cells #[.int .u8 102, .int .u8 (65 + (j : Int))] 5) none)
        have hcell2 := row_at (row_gr hr0.out hc0.gr) hx.out
        generalize wr.alloc (.cells #[.int .u8 102, .int .u8 (65 + (j : Int))] 5) = Wa at *
        replace hc0 := Lib.hid hc0
        clear hcv hcell hrem hremt hadd hu8 hc
        by_cases hbig : 200 < x.length
        · have hbi : (200 : Int) < (x.length : Int) := by omega
          have hgr := hc0.out.gr
          replace hgr := Lib.hid hgr
          go_wp2
          go_ret
          exact ⟨rfl, gr_below hgr.out⟩
        · have hbi : ¬ (200 : Int) < (x.length : Int) := by omega
          have hdd' := hdd.out
          by_cases hk5 : k < 5
          · have hk5i : (k : Int) < 5 := by omega
            have hjk : j = k := by have := hj.out; omega
            have cC := create_any hc0.out (by omega) (by have := hq.out.len; omega) (nmQ j) (nmQ_ok j)
            have hq1 := inQ_new hq.out hk5
            have hl1 : (putF (nmQ k) ⟨[], 0⟩ fs).length ≤ 2 * k + 1 := by have := put_len (nmQ k) ⟨[], 0⟩ fs; have := hq.out.len; omega
            rw [← hjk] at hq1
            have hl1 : (putF (nmQ j) ⟨[], 0⟩ fs).length ≤ 2 * k + 1 := by rw [hjk]; exact hl1
            have hq1 : InQ (k + 1) used (putF (nmQ j) ⟨[], 0⟩ fs) := by have := inQ_new hq.out hk5; rw [hjk]; exact this
            have hjk1 : j < k + 1 := by omega
            generalize putF (nmQ j) ⟨[], 0⟩ fs = fs1 at *
            replace cC := Lib.hid cC
            replace hq1 := Lib.hid hq1
            replace hl1 := Lib.hid hl1
            replace hjk1 := Lib.hid hjk1
            clear hjk hc0 hq
            go_wp2_with fail
            refine cC.out.mono ?_
            rintro e W8 ⟨rfl, hc1, _⟩
            have hdd1 : Hid (0 ≤ dd + 1 ∧ dd + 1 ≤ 2 * (k : Int) + 1) := Lib.hid (by omega)
            replace hq1 := hq1.out
            replace hl1 := hl1.out
            clear cC hcell2
            have hcc := row_at (row_gr hr0.out hc1.gr) hx.out
            have hsub : IntKind.i64.wrap (a0 - (used : Int)) = a0 - (used : Int) := IntWalk.i64_in _ (by omega)
            obtain ⟨f, hf⟩ := Option.isSome_iff_exists.1 (hq1.has j hj5.out hjk1.out)
            have hsd := sum_del (nmQ j) fs1 (mapF_dist hc1.map)
            have hs1 := hq1.sum
            rw [hf] at hsd
            simp only [Option.getD_some] at hsd
            have cA := append_any hc1 (by omega) (by omega) (by omega) (by omega) (nmQ j) x f (nmQ_ok j) hf (by omega) (by omega)
            rw [hs1] at cA
            have hq2 := inQ_add (x := x) hq1 (mapF_dist hc1.map) hj5.out hjk1.out hf hl1
            generalize putF (nmQ j) ⟨f.b ++ x, f.fx⟩ fs1 = fs2 at *
            replace cA := Lib.hid cA
            replace hq1 := Lib.hid hq1
            replace hq2 := Lib.hid hq2
            clear hsd hs1 hf hc1 hl1
            go_wp2_with fail
            refine cA.out.mono ?_
            rintro e W9 ⟨ee, rfl, hor, _⟩
            clear cA
            rcases hor with ⟨hfu, rfl, h9⟩ | ⟨hfu, rfl, h9⟩
            · have hle : ¬ (x.length : Int) ≤ a0 - (used : Int) := by omega
              have hcc9 := row_at (row_gr hr0.out h9.gr) hx.out
              have cU := used_any C M a0 _ false _ W9 h9.blk h9.map (by rw [hq1.out.sum]; omega)
              rw [hq1.out.sum] at cU
              have hug : ¬ a0 < (used : Int) := by omega
              replace cU := Lib.hid cU
              replace h9 := Lib.hid h9
              clear hfu hcc
              go_wp2_with fail
              refine cU.out.mono ?_
              rintro e W10 ⟨rfl, g10⟩
              have h10 := ch_gr h9.out g10
              replace h10 := Lib.hid h10
              clear g10 cU hcc9 h9
              go_wp2
              go_roundw
              case rel => exact ⟨k + 1, used, _, _, by omega, by go_num, rfl, hu, Lib.hid (by have := hdd1.out; omega), hq1, h10⟩
              case measure => simp [intOf]; omega
            · have hle : (x.length : Int) ≤ a0 - (used : Int) := by omega
              have hcc9 := row_at (row_gr hr0.out h9.gr) hx.out
              have cU := fun W (g : Gr W9 W) => used_any C M a0 _ false _ W (ch_gr h9 g).blk (ch_gr h9 g).map (by rw [hq2.out.sum]; omega)
              rw [hq2.out.sum] at cU
              have hua : IntKind.i64.wrap ((used : Int) + (x.length : Int)) = ((used + x.length : Nat) : Int) := by rw [IntWalk.i64_in _ (by omega)]; omega
              have hug : ¬ a0 < ((used + x.length : Nat) : Int) := by omega
              have hug2 : ¬ a0 < (used : Int) + (x.length : Int) := by omega
              have hu2 : Hid (((used + x.length : Nat) : Int) ≤ a0) := Lib.hid (by omega)
              replace cU := Lib.hid cU
              replace h9 := Lib.hid h9
              clear hfu hcc
              go_wp2_with fail
              refine (cU.out _ (gr_refl _ _)).mono ?_
              rintro e W10 ⟨rfl, g10⟩
              have h10 := ch_gr h9.out g10
              replace h10 := Lib.hid h10
              clear g10 cU hcc9 h9
              go_wp2
              go_roundw
              case rel => exact ⟨k + 1, used + x.length, _, _, by omega, by go_num, by go_num, hu2, Lib.hid (by have := hdd1.out; omega), hq2, h10⟩
              case measure => simp [intOf]; omega
          · have hk5i : ¬ (k : Int) < 5 := by omega
            have hc1 := hc0.out
            have hq1 := inQ_next hq.out (by omega)
            have hl1 : fs.length ≤ 2 * k + 1 := by have := hq.out.len; omega
            have hdd1 : Hid (0 ≤ dd ∧ dd ≤ 2 * (k : Int) + 1) := Lib.hid (by omega)
            have hjk1 : Hid (j < k + 1) := Lib.hid (by have := hj5.out; omega)
            clear hc0 hq hcell2
            have hcc := row_at (row_gr hr0.out hc1.gr) hx.out
            have hsub : IntKind.i64.wrap (a0 - (used : Int)) = a0 - (used : Int) := IntWalk.i64_in _ (by omega)
            obtain ⟨f, hf⟩ := Option.isSome_iff_exists.1 (hq1.has j hj5.out hjk1.out)
            have hsd := sum_del (nmQ j) fs (mapF_dist hc1.map)
            have hs1 := hq1.sum
            rw [hf] at hsd
            simp only [Option.getD_some] at hsd
            have cA := append_any hc1 (by omega) (by omega) (by omega) (by omega) (nmQ j) x f (nmQ_ok j) hf (by omega) (by omega)
            rw [hs1] at cA
            have hq2 := inQ_add (x := x) hq1 (mapF_dist hc1.map) hj5.out hjk1.out hf hl1
            generalize putF (nmQ j) ⟨f.b ++ x, f.fx⟩ fs = fs2 at *
            replace cA := Lib.hid cA
            replace hq1 := Lib.hid hq1
            replace hq2 := Lib.hid hq2
            clear hsd hs1 hf hc1 hl1
            go_wp2_with fail
            refine cA.out.mono ?_
            rintro e W9 ⟨ee, rfl, hor, _⟩
            clear cA
            rcases hor with ⟨hfu, rfl, h9⟩ | ⟨hfu, rfl, h9⟩
            · have hle : ¬ (x.length : Int) ≤ a0 - (used : Int) := by omega
              have hcc9 := row_at (row_gr hr0.out h9.gr) hx.out
              have cU := used_any C M a0 _ false _ W9 h9.blk h9.map (by rw [hq1.out.sum]; omega)
              rw [hq1.out.sum] at cU
              have hug : ¬ a0 < (used : Int) := by omega
              replace cU := Lib.hid cU
              replace h9 := Lib.hid h9
              clear hfu hcc
              go_wp2_with fail
              refine cU.out.mono ?_
              rintro e W10 ⟨rfl, g10⟩
              have h10 := ch_gr h9.out g10
              replace h10 := Lib.hid h10
              clear g10 cU hcc9 h9
              go_wp2
              go_roundw
              case rel => exact ⟨k + 1, used, _, _, by omega, by go_num, rfl, hu, Lib.hid (by have := hdd1.out; omega), hq1, h10⟩
              case measure => simp [intOf]; omega
            · have hle : (x.length : Int) ≤ a0 - (used : Int) := by omega
              have hcc9 := row_at (row_gr hr0.out h9.gr) hx.out
              have cU := fun W (g : Gr W9 W) => used_any C M a0 _ false _ W (ch_gr h9 g).blk (ch_gr h9 g).map (by rw [hq2.out.sum]; omega)
              rw [hq2.out.sum] at cU
              have hua : IntKind.i64.wrap ((used : Int) + (x.length : Int)) = ((used + x.length : Nat) : Int) := by rw [IntWalk.i64_in _ (by omega)]; omega
              have hug : ¬ a0 < ((used + x.length : Nat) : Int) := by omega
              have hug2 : ¬ a0 < (used : Int) + (x.length : Int) := by omega
              have hu2 : Hid (((used + x.length : Nat) : Int) ≤ a0) := Lib.hid (by omega)
              replace cU := Lib.hid cU
              replace h9 := Lib.hid h9
              clear hfu hcc
              go_wp2_with fail
              refine (cU.out _ (gr_refl _ _)).mono ?_
              rintro e W10 ⟨rfl, g10⟩
              have h10 := ch_gr h9.out g10
              replace h10 := Lib.hid h10
              clear g10 cU hcc9 h9
              go_wp2
              go_roundw
              case rel => exact ⟨k + 1, used + x.length, _, _, by omega, by go_num, by go_num, hu2, Lib.hid (by have := hdd1.out; omega), hq2, h10⟩
              case measure => simp [intOf]; omega
      · obtain rfl : k = len1 := by omega
        have hq' := hq.out
        have cN := nnames_any hc.out (by have := hq'.len; omega)
        replace cN := Lib.hid cN
        clear hzl hr0 hcvn h2
        go_wp2_with fail
        refine cN.out.mono ?_
        rintro e W5 ⟨A, n, cc, ss, rfl, hp, hl, ho, g5⟩
        have h5 := ch_gr hc.out g5
        have hdist := mapF_dist h5.map
        have hddb := hdd.out
        have hn5 : n ≤ 100 := by
          have h1 := hp.length_eq
          rw [List.length_map] at h1
          have := hq'.len
          omega
        have hlq : fs.length ≤ 100 := by have := hq'.len; omega
        have hoks : ∀ s ∈ ss, okNm s = true := fun s hs => by
          obtain ⟨p, hp', he⟩ := List.mem_map.1 (hp.mem_iff.1 hs)
          obtain ⟨j, _, _, h3⟩ := hq'.nm p hp'
          rw [← he, h3]
          exact nmQ_ok j
        replace h5 := Lib.hid h5
        replace hp := Lib.hid hp
        replace hl := Lib.hid hl
        replace ho := Lib.hid ho
        replace hdist := Lib.hid hdist
        replace hoks := Lib.hid hoks
        clear cN hc hq hdd hu g5 hq'
        go_wp2_with fail
        go_loopw [106] (fun iv wr2 => ∃ m : Nat, m ≤ n ∧ iv = .int .i64 m ∧ Hid (ChIs w wr2 C M a0 (leftQ fs (ss.take m)) false (dd + m)) ∧ Hid (GrS (TnC C M) W5 wr2)) (fun iv _ => n - (intOf iv).toNat)
        case atStart => exact ⟨0, Nat.zero_le _, rfl, Lib.hid (by rw [List.take_zero, leftQ_nil]; simpa using h5.out), Lib.hid (tnC_gr (gr_refl _ _))⟩
        case round =>
          obtain ⟨m, hm, rfl, hc2, hg2⟩ := hrel
          by_cases hlt2 : m < n
          · have ho2 := own_grC ho.out h5.out.blk h5.out.map hg2.out
            obtain ⟨x, B, o, hx, rfl, hcell⟩ := row_elem (row_own ho2) hlt2
            replace hcell : wr.cell? ⟨B, o + m, none⟩ = some (.string (txt x)) := hcell
            have hmi : (m : Int) < (n : Int) := by omega
            have hm0 : (0 : Int) ≤ (m : Int) := by omega
            obtain ⟨f, hf⟩ := leftQ_has hp.out hdist.out hx
            have cD := delete_any hc2.out (by omega) x f (hoks.out x (List.mem_of_getElem? hx)) hf
            rw [leftQ_step, ← take_snocQ hx] at cD
            replace cD := Lib.hid cD
            clear hf hx hc2 ho2
            go_wp2_with fail
            refine cD.out.mono ?_
            rintro e W7 ⟨rfl, h7, g7⟩
            have hg7 := grS_step hg2.out g7
            replace h7 := Lib.hid h7
            replace hg7 := Lib.hid hg7
            clear cD hcell g7 hg2
            go_wp2
            go_roundw
            case rel => exact ⟨m + 1, by omega, by go_num, Lib.hid (by have := h7.out; push_cast; rw [← Int.add_assoc]; exact this), hg7⟩
            case measure => simp [intOf]; omega
          · obtain rfl : m = n := by omega
            have he : leftQ fs (ss.take m) = [] := by rw [List.take_of_length_le (by rw [hl.out]; exact Nat.le_refl _)]; exact leftQ_all hp.out
            have h8 := hc2.out
            rw [he] at h8
            have cU := fun W (g : Gr wr W) => used_any C M a0 _ false [] W (ch_gr h8 g).blk (ch_gr h8 g).map (by simp [sumF])
            have es : sumF [] = 0 := rfl
            rw [es] at cU
            have cN := fun W (g : Gr wr W) => nnames_any (ch_gr h8 g) (by simp)
            have hgr := h8.gr
            replace cU := Lib.hid cU
            replace cN := Lib.hid cN
            replace hgr := Lib.hid hgr
            clear h8 he hc2 hg2 ho h5 hp hl
            go_wp2_with fail
            refine (cU.out _ (gr_refl _ _)).mono ?_
            rintro e W9 ⟨rfl, g9⟩
            go_wp2_with fail
            refine (cN.out _ g9).mono ?_
            rintro e W10 ⟨A3, n3, c3, ss3, rfl, hp3, hl3, _, g10⟩
            obtain rfl : ss3 = [] := hp3.eq_nil
            obtain rfl : 0 = n3 := hl3
            clear hp3
            go_wp2
            go_ret
            exact ⟨rfl, gr_below (gr_trans hgr.out (gr_trans g9 g10))⟩
  · by_cases d0 : a0 < 0
    · clear c hr0 hzl
      have j0 : a0 < 0 := by omega
      go_enter Try.func4, Try.ntmps4
      go_wp2_with fail
      refine (alive_any _).mono ?_
      rintro e W1 ⟨rfl, g1⟩
      go_wp2
      go_ret
      exact ⟨rfl, gr_below g1⟩
    by_cases d1 : 1000 < a0
    · clear c hr0 hzl
      have j1 : 1000 < a0 := by omega
      go_enter Try.func4, Try.ntmps4
      go_wp2_with fail
      refine (alive_any _).mono ?_
      rintro e W1 ⟨rfl, g1⟩
      go_wp2
      go_ret
      exact ⟨rfl, gr_below g1⟩
    by_cases d2 : 40 < len1
    · clear c hr0 hzl
      have j2 : (40 : Int) < (len1 : Int) := by omega
      go_enter Try.func4, Try.ntmps4
      go_wp2_with fail
      refine (alive_any _).mono ?_
      rintro e W1 ⟨rfl, g1⟩
      go_wp2
      go_ret
      exact ⟨rfl, gr_below g1⟩
    exact absurd ⟨by omega, by omega, by omega⟩ c



set_option maxRecDepth 100000 in
theorem lifted (os : Os) (started : os.Started) (H : Type) (enc : TypeId × Value → H) :
    ReturnsInHanded {} Try.checked os 4 .any (Rows.chestQuotaSpec.pre6 enc Try.prog Try.f4 Rows.chestQuotaRow.domain false) (Rows.chestQuotaSpec.post enc Try.prog Try.f4 false true false false) := by
  refine returnsInHanded_of_change (C := Try.checked) own started (by kernel_rfl) Try.func4
    (ChangeSpec.witness6 (enc := enc) (C := Try.checked) false ⟨#[], #[.int .i64 0, .slice none 0 0], []⟩ 8 (by kernel_rfl) (by kernel_rfl) (by kernel_rfl) (by kernel_rfl)) ?_
  intro W base args ds gs before hval0 hW hcnd _
  have hval : ∀ (j : Nat) t v, Try.f4.params[j]? = some t → args[j]? = some v → Value.okWide Try.prog W .any base t v := hval0
  have hW' := hW
  obtain ⟨p, q, hA0, hV, rfl, hfz, hnd⟩ := hW
  have hA : DataW.TrodAll enc Try.prog W 0 (fun _ => true) true Try.f4.params.toList args.toList ds p := hA0
  rw [Try.params4] at hA hval
  obtain ⟨v0, vs0, d0, ds0, p0, q0, hargs, rfl, rfl, h0, r0⟩ := trodAll_cons hA
  obtain ⟨v1, vs1, d1, ds1, p1, q1, rfl, rfl, rfl, h1, r1⟩ := trodAll_cons r0
  obtain ⟨rfl, rfl, rfl⟩ := trodAll_nil r1
  obtain rfl : args = #[v0, v1] := by cases args; simp_all
  obtain ⟨rfl, rfl⟩ := trodVars_none hV
  obtain ⟨a0, rfl, rfl, rfl, w0⟩ := open_int Try.underlying3 (hval 0 3 v0 rfl rfl) h0
  obtain ⟨a1, len1, cap1, rfl⟩ := okWide_slice Try.underlying22 (hval 1 22 v1 rfl rfl)
  have k1 := h1
  have lt1 : ∀ x ∈ p1, x.block < W.heap.size := by obtain ⟨m, hm⟩ := k1; exact DataW.trod_lt m _ _ _ hm
  obtain ⟨z1, w1⟩ := isTexts_open Try.underlying22 Try.underlying9 (by kernel_rfl) h1 rfl
  clear hA0 hval0
  refine (walk W a0 w0 a1 len1 cap1 z1 w1).mono fun e W' ⟨he, bel⟩ => ?_
  subst he
  exact ⟨_, rfl, _, _, _, [], _, [], hW', trodAll_mk1 (shut_bool Try.underlying4 _), (trodAll_cons_mk (shut_int Try.underlying3 w0) (trodAll_cons_mk (Below.trod laidOut (by kernel_rfl) (of_decide_eq_true (by kernel_rfl)) k1 bel lt1) trodAll_mk0)), rfl, bel.frame _, fun h => by cases h⟩

theorem over : Rows.chestQuotaRow.holds Try.pinned (OpenSpec.ofChange Rows.chestQuotaSpec) :=
  OpenClaim.holds_of_wide 4 Try.f4 rfl rfl rfl rfl rfl rfl rfl ⟨rfl, rfl, rfl, rfl, rfl⟩ rfl rfl rfl rfl rfl (by kernel_rfl) Try.func4 (by kernel_rfl)
    (of_decide_eq_true (by kernel_rfl)) (by unfold Func.isWrapper; first | (rw [if_pos (by decide +kernel)]; kernel_rfl) | (rw [if_neg (by decide +kernel)]; exact ⟨rfl, rfl⟩))
    (fun os started H enc _ => lifted os started H enc)

/-- THE STATEMENT -/
theorem proved : Rows.ChestQuotaSaid := over
#print axioms proved
end Go.Proofs.Ytbkhopfoabdeiaa.chestQuota

