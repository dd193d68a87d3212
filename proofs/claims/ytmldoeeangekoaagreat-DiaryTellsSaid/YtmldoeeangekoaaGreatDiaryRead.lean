/-
  What diary.Read answers of all bytes. No condition but a bound on the length.
-/
import Derived.Test.YtmldoeeangekoaaGreatDiaryLay
import Derived.Test.YtmldoeeangekoaaGreatDiaryOne
namespace Go.Proofs.YtmldoeeangekoaaGreat
open Go.RowKit

namespace Crc
theorem all_len : ∀ (f : Nat) (L : List UInt8), (cat (all f L).1).length + (all f L).2.length = L.length
  | 0, L => by simp [all, cat]
  | f + 1, L => by
    unfold all
    by_cases h : (take L).2.2 = 0
    · rw [if_pos h]
      have h1 := (take_shorter L h).2
      have h2 := all_len f (take L).2.1
      show (cat ((take L).1 :: (all f (take L).2.1).1)).length + (all f (take L).2.1).2.length = _
      rw [cat_cons, List.length_append, frm_length]
      omega
    · rw [if_neg h]; simp [cat]
end Crc
theorem infoNote : (Tryz.prog.info? 30).map (fun i => (i.zero, i.size, i.bytes)) = some (some (.agg #[.int .i64 0, .int .i64 0, .int .i64 0, .int .i64 0, .int .i64 0, .string ⟨#[]⟩]), 6, 56) := by kernel_rfl
theorem nteC_ones (x : Nte) : ∀ u ∈ nteC x, u.oneCell' = true := by
  intro u hu
  simp only [nteC, List.mem_cons, List.not_mem_nil, or_false] at hu
  rcases hu with rfl | rfl | rfl | rfl | rfl | rfl <;> rfl
/-- The notes of bytes. -/
def notesOf (L : List UInt8) : List Nte := readN (Crc.all L.length L).1
def catN (l : List Nte) : List UInt8 := Crc.cat (l.map noteL)
def ReadPost (L : List UInt8) (w : World) (e : Ending) (w' : World) : Prop :=
  ∃ v, e = .returned (.tuple #[v, .int .i64 ((catN (notesOf L)).length : Nat)]) ∧ w'.ownsRow w.heap.size 30 6 v (notesOf L).length (sR nteC (notesOf L)) ∧ Gr w w'
theorem catN_of {fs : List (List UInt8)} {k : Nat} (h : readN fs = (fs.take k).map noteOf) (hg : readN (fs.take k) = (fs.take k).map noteOf) : catN (readN fs) = Crc.cat (fs.take k) := by
  unfold catN
  rw [h, ← hg, readN_frames, hg, List.length_map]
  rw [List.take_of_length_le (Nat.le_refl _)]
theorem readN_all {fs : List (List UInt8)} (h : readN (fs.take fs.length) = (fs.take fs.length).map noteOf) : readN fs = fs.map noteOf := by
  rwa [List.take_of_length_le (Nat.le_refl _)] at h
set_option maxHeartbeats 16000000 in
set_option maxRecDepth 100000 in
theorem dread_any (L : List UInt8) (w : World) (hL : L.length ≤ 1000000) : Calls Tryz.prog 12 #[.string (txt L)] w (ReadPost L w) := by
  have cA := fun W => all_any (txt L) W (by rw [txt_size]; omega)
  unfold AllPost at cA
  rw [txt_data] at cA
  have hlen := Crc.all_len L.length L
  have hN : notesOf L = readN (Crc.all L.length L).1 := rfl
  generalize (Crc.all L.length L).2.length = rl at *
  generalize (Crc.all L.length L).1 = fs at *
  obtain ⟨ii, hi, hz0, hz1, hz2⟩ := info_parts infoNote
  have hle : ∀ k, (Crc.cat (fs.take k)).length ≤ 1000000 := fun k => by
    have h1 := Crc.cat_append (fs.take k) (fs.drop k)
    rw [List.take_append_drop] at h1
    have h2 := congrArg List.length h1
    rw [List.length_append] at h2
    omega
  have hfl : ∀ (k : Nat) (f : List UInt8), fs[k]? = some f → f.length + 10 + (Crc.cat (fs.take k)).length ≤ 1000000 ∧ fs.take (k + 1) = fs.take k ++ [f] := fun k f hf => by
    obtain ⟨h1, h2⟩ := List.getElem?_eq_some_iff.1 hf
    have h3 : fs.take (k + 1) = fs.take k ++ [f] := by rw [List.take_succ_eq_append_getElem h1, h2]
    have h4 := hle (k + 1)
    rw [h3, Crc.cat_snoc, List.length_append, Crc.frm_length] at h4
    exact ⟨by omega, h3⟩
  have hfsn : fs.length ≤ 1000000 := by
    have : ∀ l : List (List UInt8), l.length ≤ (Crc.cat l).length := by
      intro l
      induction l with
      | nil => simp
      | cons a l ih => rw [Crc.cat_cons, List.length_append, Crc.frm_length, List.length_cons]; omega
    have := this fs
    omega
  replace hle := Lib.hid hle
  replace hfl := Lib.hid hfl
  replace hN := Lib.hid hN
  replace cA := Lib.hid cA
  clear hlen
  go_enter Tryz.func12, Tryz.ntmps12
  go_wp2_with fail
  refine (cA.out _).mono ?_
  rintro e W1 ⟨fv, rfl, hfo, g1⟩
  unfold OwnTexts at hfo
  obtain ⟨fA, fc, rfl, _, _⟩ := own_open hfo
  have hfr : Row W1 fA fs.length 1 (fs.map fun l => Value.string (txt l)) := row_own hfo
  have hb1 := gr_below g1
  replace hfr := Lib.hid hfr
  replace g1 := Lib.hid g1
  clear hfo
  have hb1' := Lib.hid hb1
  clear hb1
  generalize hFN : fs.length = FN at *
  replace hFN := Lib.hid hFN
  go_wp2_with fail
  go_loopw [6, 7, 21] (fun ov nv iv wr => ∃ (k N : Nat), k ≤ FN ∧ iv = .int .i64 k ∧ nv = .int .i64 N ∧ Hid (N = (Crc.cat (fs.take k)).length) ∧ Hid (readN (fs.take k) = (fs.take k).map noteOf) ∧ Hid (wr.ownsRow W1.heap.size 30 6 ov k (sR nteC ((fs.take k).map noteOf))) ∧ Hid (Below W1.heap.size W1 wr)) (fun _ _ iv _ => FN - (intOf iv).toNat)
  case atStart => exact ⟨0, 0, Nat.zero_le _, rfl, rfl, rfl, rfl, World.ownsRow_nil _ _ _ _, Below.refl _ _⟩
  case round =>
    obtain ⟨k, N, hk, rfl, rfl, hNk, hrd, hown, hbel⟩ := hrel
    have hs := hbel.out.size
    have hstop : ∀ (W' : World) (K : Nat), Gr wr W' → readN fs = (fs.take k).map noteOf → ReadPost L w (.returned (.tuple #[u6, .int .i64 (N : Int)])) W' := fun W' _ g hf => by
      have hlen : (readN fs).length = k := by rw [hf, List.length_map, List.length_take]; have := hFN.out; omega
      refine ⟨u6, ?_, ?_, ?_⟩
      · rw [hN.out, catN_of hf hrd.out, hNk.out]
      · rw [hN.out, hlen, hf]
        exact own_mono (hown.out.kept g (by cases u6.ownBlock <;> simp)) g1.out.size
      · exact gr_trans g1.out (gr_of_below (below_gr hbel.out g hs (by simp)) (Nat.le_refl _))
    replace hstop := Lib.hid hstop
    by_cases hlt : k < FN
    · obtain ⟨f, B, o, hf, rfl, hcf⟩ := row_elem hfr.out hlt
      have hcf' := gr_cell (gr_of_below hbel.out (Nat.le_refl _)) hcf
      obtain ⟨hfb, htk⟩ := hfl.out k f hf
      have hNb : N + (f.length + 10) ≤ 1000000 := by have := hNk.out; omega
      have hki : (k : Int) < (FN : Int) := by omega
      have hk0 : (0 : Int) ≤ (k : Int) := by omega
      have hfk : k < fs.length := by rw [hFN.out]; exact hlt
      have hfe : fs[k] = f := by
        rw [List.getElem?_eq_getElem hfk] at hf
        exact Option.some.inj hf
      have hcat : (Crc.cat (fs.take (k + 1))).length = N + (f.length + 10) := by rw [htk, Crc.cat_snoc, List.length_append, Crc.frm_length, ← hNk.out]
      clear hcf hf
      by_cases hlen : 17 ≤ f.length
      · have cO := fun W => done_long f W hlen (by omega)
        by_cases hok : okN (noteOf f)
        · have cL := fun W => dlay_ok (noteOf f) W hok
          rw [noteL_of hlen] at cL
          have hrd2 := readN_step hfk hrd.out (by rw [hfe]; exact ⟨hlen, hok⟩)
          rw [decide_eq_true hok] at cO
          have hmap : (fs.take (k + 1)).map noteOf = (fs.take k).map noteOf ++ [noteOf f] := by rw [htk, List.map_append]; rfl
          unfold oneV nteV at cO
          unfold nteV at cL
          have hx : nteC (noteOf f) = [.int .i64 (noteOf f).kind, .int .i64 (noteOf f).c.id, .int .i64 (noteOf f).c.rows, .int .i64 (noteOf f).c.size, .int .i64 (noteOf f).c.tl, .string (txt (noteOf f).c.file)] := rfl
          generalize (noteOf f).kind = x0 at *
          generalize (noteOf f).c.id = x1 at *
          generalize (noteOf f).c.rows = x2 at *
          generalize (noteOf f).c.size = x3 at *
          generalize (noteOf f).c.tl = x4 at *
          generalize (noteOf f).c.file = x5 at *
          replace cO := Lib.hid cO
          replace cL := Lib.hid cL
          replace hrd2 := Lib.hid hrd2
          replace hmap := Lib.hid hmap
          replace hx := Lib.hid hx
          replace hok := Lib.hid hok
          replace hcat := Lib.hid hcat
          clear hfe hstop htk
          go_wp2_with fail
          refine (cO.out _).mono ?_
          rintro e W2 ⟨rfl, g2⟩
          go_wp2_with fail
          refine (cL.out _).mono ?_
          rintro e W4 ⟨rfl, g4⟩
          have hcl : ∀ j v, (#[.int .i64 x0, .int .i64 x1, .int .i64 x2, .int .i64 x3, .int .i64 x4, .string (txt x5)] : Array Value)[j]? = some v → W4.cell? ⟨W2.heap.size, j, none⟩ = some v := fun j v hj => gr_cell g4 (by rw [World.cell?_alloc_new]; exact hj)
          have m0 := hcl 0 _ rfl
          have m1 := hcl 1 _ rfl
          have m2 := hcl 2 _ rfl
          have m3 := hcl 3 _ rfl
          have m4 := hcl 4 _ rfl
          have m5 := hcl 5 _ rfl
          have gg : Gr wr W4 := gr_trans g2 (gr_trans (gr_alloc _ _ _) g4)
          have hown4 := hown.out.kept gg (by cases u6.ownBlock <;> simp)
          have hbel4 := below_gr hbel.out gg hs (by simp)
          have hs4 := hbel4.size
          replace hown4 := Lib.hid hown4
          replace hbel4 := Lib.hid hbel4
          clear hcl g2 g4 gg
          go_wp2_with (at_builtin; refine wpList_append_own _ rfl _ _ 22 rfl W1.heap.size 30 ii (.agg #[.int .i64 0, .int .i64 0, .int .i64 0, .int .i64 0, .int .i64 0, .string ⟨#[]⟩]) 6 56 Tryz.underlying22 hi hz0 hz1 hz2 rfl (by decide) u6 _ _ rfl (hown4.out.alloc _) ⟨W4.heap.size, 0, none⟩ 1 1 [.int .i64 x0, .int .i64 x1, .int .i64 x2, .int .i64 x3, .int .i64 x4, .string (txt x5)] rfl rfl ?c1 ?c2 ?c3 ?c4 ?c5 ?_; rotate_right; intro v' W5 hown5 hgrow _nl; clear _nl; have hb5 := hbel4.out.trans (below_append hown4.out hgrow hbel4.out.size); clear hgrow; replace hown5 := Lib.hid hown5; replace hb5 := Lib.hid hb5)
          try (case c1 =>
            intro j u hj
            have hjl := (List.getElem?_eq_some_iff.1 hj).1
            rw [add_plain, Nat.zero_add, World.cell?_alloc_new]
            simpa using hj)
          case c2 => rw [← hx.out]; exact nteC_ones _
          case c3 => unfold maxLen; omega
          case c4 => omega
          case c5 => first | omega | (simp; omega)
          go_roundw
          case rel =>
            refine ⟨k + 1, N + (f.length + 10), by omega, by go_num, by go_num, Lib.hid hcat.out.symm, hrd2, ?_, hb5.out⟩
            rw [hmap.out, sR_append, sR_one, hx.out]
            exact hown5.out
          case measure => simp [intOf]; omega
        · have hst := hstop.out
          have hrs := readN_stop hfk hrd.out (by rw [hfe]; exact fun h => hok h.2)
          rw [decide_eq_false hok] at cO
          unfold oneV nteV at cO
          generalize (noteOf f).kind = x0 at *
          generalize (noteOf f).c.id = x1 at *
          generalize (noteOf f).c.rows = x2 at *
          generalize (noteOf f).c.size = x3 at *
          generalize (noteOf f).c.tl = x4 at *
          generalize (noteOf f).c.file = x5 at *
          replace cO := Lib.hid cO
          replace hrs := Lib.hid hrs
          replace hst := Lib.hid hst
          replace hok := Lib.hid hok
          clear hfe hcat htk
          go_wp2_with fail
          refine (cO.out _).mono ?_
          rintro e W2 ⟨rfl, g2⟩
          go_wp2
          go_ret2
          exact hst.out _ 0 (gr_trans g2 (gr_alloc _ _ _)) hrs.out
      · have cO := fun W => done_short f W (by omega)
        have hst := hstop.out
        have hrs := readN_stop hfk hrd.out (by rw [hfe]; exact fun h => hlen h.1)
        replace cO := Lib.hid cO
        replace hrs := Lib.hid hrs
        replace hst := Lib.hid hst
        clear hfe hcat htk
        go_wp2_with fail
        refine (cO.out _).mono ?_
        rintro e W2 ⟨rfl, g2⟩
        go_wp2
        go_ret2
        exact hst.out _ 0 (gr_trans g2 (gr_alloc _ _ _)) hrs.out
    · obtain rfl : k = FN := by omega
      have hrd2 := hrd.out
      rw [← hFN.out] at hrd2
      have hrs := readN_all hrd2
      have hst := hstop.out
      replace hst := Lib.hid hst
      replace hrs := Lib.hid (show readN fs = (fs.take k).map noteOf by rw [List.take_of_length_le (Nat.le_of_eq hFN.out)]; exact hrs)
      clear hrd2
      go_wp2
      go_ret2
      exact hst.out _ 0 (gr_refl _ _) hrs.out
end Go.Proofs.YtmldoeeangekoaaGreat
