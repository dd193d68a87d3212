/-
  What guard.Take answers, of every text. No condition.
-/
import Derived.Test.YtmldoeeangekoaaGreatGuardNum
namespace Go.Proofs.YtmldoeeangekoaaGreat
open Go.RowKit

namespace Crc
/-- What Take answers of a text: what is in the frame, what stands behind it, the error's number. -/
def take (L : List UInt8) : List UInt8 × List UInt8 × Int :=
  if L.length < 6 then ([], [], 2)
  else if be 4 (sum (L.take 2)) ≠ (L.drop 2).take 4 then ([], [], 10)
  else if L.length < 10 + ((L.getD 0 0).toNat * 256 + (L.getD 1 0).toNat) then ([], [], 2)
  else if 12000 < (L.getD 0 0).toNat * 256 + (L.getD 1 0).toNat then ([], [], 10)
  else if be 4 (sum ((L.drop 6).take ((L.getD 0 0).toNat * 256 + (L.getD 1 0).toNat))) ≠ ((L.drop 6).drop ((L.getD 0 0).toNat * 256 + (L.getD 1 0).toNat)).take 4 then ([], [], 10)
  else ((L.drop 6).take ((L.getD 0 0).toNat * 256 + (L.getD 1 0).toNat), L.drop (10 + ((L.getD 0 0).toNat * 256 + (L.getD 1 0).toNat)), 0)
end Crc

theorem or256 (x y : Nat) (hx : x < 256) (hy : y < 256) : bits .or .i64 ((x : Int) * 256) (y : Int) = ((x * 256 + y : Nat) : Int) := by
  rw [bits_join .i64 16 (by decide) (fun n h0 h1 => IntWalk.i64_in _ (by omega)) 8 _ _ (by omega) (by omega) (by omega) (by omega) (by omega) (by omega)]
  simp

def TakeAns (r : List UInt8 × List UInt8 × Int) : Ending := .returned (.tuple #[.string (txt r.1), .string (txt r.2.1), .int .i64 r.2.2])

set_option maxHeartbeats 2000000 in
theorem take_any (s : ByteArray) (w : World) (hs : s.size ≤ maxLen) :
    Calls Tryz.prog 125 #[.string s] w fun e w' => e = TakeAns (Crc.take s.data.toList) ∧ Gr w w' := by
  unfold maxLen at hs
  have hsz : s.data.toList.length = s.size := by simp
  by_cases h6 : s.size < 6
  · have hfin : Crc.take s.data.toList = ([], [], 2) := by unfold Crc.take; rw [if_pos (by omega)]
    have HF := Lib.hid hfin
    clear hfin hsz
    go_enter Tryz.func125, Tryz.ntmps125
    go_wp2
    go_ret3
    exact ⟨by rw [HF.out]; rfl, gr_refl _ _⟩
  · have h6n : 6 ≤ s.size := by omega
    have h2n : 2 ≤ s.size := by omega
    have h6i : (6 : Int) ≤ s.size := by omega
    have h2i : (2 : Int) ≤ s.size := by omega
    have hd1 : (s.extract 0 2).data.toList = s.data.toList.take 2 := by rw [Lib.extract_data]; rfl
    have hd2 : (s.extract 2 6).data.toList = (s.data.toList.drop 2).take 4 := by rw [Lib.extract_data]
    have hs1 : (s.extract 0 2).size ≤ maxLen := by unfold maxLen; simp; omega
    have HD1 := Lib.hid hd1
    have HD2 := Lib.hid hd2
    have HZ := Lib.hid hsz
    clear hd1 hd2 hsz
    by_cases hh : Crc.be 4 (Crc.sum (s.data.toList.take 2)) = (s.data.toList.drop 2).take 4
    · have hne : (Crc.be 4 (Crc.sum (List.take 2 s.data.toList)) == (s.extract 2 6).toList) = true := by
        rw [Lib.toList_data, HD2.out, hh]; simp
      have HH := Lib.hid hh
      clear hh
      have i0 : 0 < s.size := by omega
      have i1 : 1 < s.size := by omega
      have j1 : (1 : Int) < s.size := by omega
      have lb0 : s[0].toNat < 256 := UInt8.toNat_lt s[0]
      have lb1 : s[1].toNat < 256 := UInt8.toNat_lt s[1]
      have e0 : IntKind.i64.wrap (s[0].toNat : Int) = s[0].toNat := IntWalk.i64_in _ (by omega)
      have e1 : IntKind.i64.wrap (s[1].toNat : Int) = s[1].toNat := IntWalk.i64_in _ (by omega)
      have e2 : IntKind.i64.wrap ((s[0].toNat : Int) * 256) = (s[0].toNat : Int) * 256 := IntWalk.i64_in _ (by omega)
      obtain ⟨N, hN0⟩ : ∃ N, N = s[0].toNat * 256 + s[1].toNat := ⟨_, rfl⟩
      have eN : bits .or .i64 ((s[0].toNat : Int) * 256) (s[1].toNat : Int) = (N : Int) := by rw [or256 _ _ lb0 lb1, hN0]
      have hN1 : N < 65536 := by omega
      have hN := Lib.hid hN0
      clear hN0
      have hget : (s.data.toList.getD 0 0).toNat * 256 + (s.data.toList.getD 1 0).toNat = N := by
        rw [hN.out]
        have g0 : s.data.toList.getD 0 0 = s[0] := by rw [List.getD_eq_getElem?_getD, List.getElem?_eq_getElem (by simpa using i0)]; rfl
        have g1 : s.data.toList.getD 1 0 = s[1] := by rw [List.getD_eq_getElem?_getD, List.getElem?_eq_getElem (by simpa using i1)]; rfl
        rw [g0, g1]
      have HG := Lib.hid hget
      clear hget
      have eN4 : IntKind.i64.wrap ((N : Int) + 4) = (N : Int) + 4 := IntWalk.i64_in _ (by omega)
      by_cases hc1 : s.size < 10 + N
      · have hc1' : ((s.size - 6 : Nat) : Int) < (N : Int) + 4 := by omega
        have hfin : Crc.take s.data.toList = ([], [], 2) := by unfold Crc.take; rw [if_neg (by have := HZ.out; omega), if_neg (by simpa using HH.out), HG.out, if_pos (by have := HZ.out; omega)]
        have HF := Lib.hid hfin
        clear hfin
        go_enter Tryz.func125, Tryz.ntmps125
        go_wp2_with fail
        go_region_held3 (fun w' => Gr w w') (first | assumption | exact gr_drew _ _ | exact gr_trans (by assumption) hg) (first | (go_at_call 120; refine (of_any _ _ hs1).mono ?_; rintro e w' ⟨rfl, rfl⟩) | (go_at_call 119; refine (num4 _ _ (Crc.sum_lt _)).mono ?_; rintro e w' ⟨rfl, hg⟩))
        go_wp2
        go_quiet (fail)
        go_wp2
        go_ret3
        exact ⟨by rw [HF.out]; rfl, gr_trans (by assumption) (gr_drewN _ _ _)⟩
      · have hc1' : (N : Int) + 4 ≤ ((s.size - 6 : Nat) : Int) := by omega
        by_cases hc2 : 12000 < N
        · have hc2' : (12000 : Int) < N := by omega
          have hfin : Crc.take s.data.toList = ([], [], 10) := by unfold Crc.take; rw [if_neg (by have := HZ.out; omega), if_neg (by simpa using HH.out), HG.out, if_neg (by have := HZ.out; omega), if_pos hc2]
          have HF := Lib.hid hfin
          clear hfin
          go_enter Tryz.func125, Tryz.ntmps125
          go_wp2_with fail
          go_region_held3 (fun w' => Gr w w') (first | assumption | exact gr_drew _ _ | exact gr_trans (by assumption) hg) (first | (go_at_call 120; refine (of_any _ _ hs1).mono ?_; rintro e w' ⟨rfl, rfl⟩) | (go_at_call 119; refine (num4 _ _ (Crc.sum_lt _)).mono ?_; rintro e w' ⟨rfl, hg⟩))
          go_wp2
          go_quiet (fail)
          go_wp2
          go_quiet (fail)
          go_wp2
          go_ret3
          exact ⟨by rw [HF.out]; rfl, gr_trans (gr_trans (by assumption) (gr_drewN _ _ _)) (gr_drewN _ _ _)⟩
        · have hc2' : decide ((12000 : Int) < N) = false := by simp; omega
          have hc2i : (N : Int) ≤ 12000 := by omega
          go_enter Tryz.func125, Tryz.ntmps125
          go_wp2_with fail
          go_region_held3 (fun w' => Gr w w') (first | assumption | exact gr_drew _ _ | exact gr_trans (by assumption) hg) (first | (go_at_call 120; refine (of_any _ _ hs1).mono ?_; rintro e w' ⟨rfl, rfl⟩) | (go_at_call 119; refine (num4 _ _ (Crc.sum_lt _)).mono ?_; rintro e w' ⟨rfl, hg⟩))
          go_wp2
          go_quiet (fail)
          go_wp2_with fail
          obtain ⟨t, ht0⟩ : ∃ t, t = s.extract 6 s.size := ⟨_, rfl⟩
          have htz : t.size = s.size - 6 := by rw [ht0]; simp
          rw [← ht0]
          have ht1 : t.data.toList = s.data.toList.drop 6 := by rw [ht0]; exact ext_end _ _
          clear ht0
          have HT := Lib.hid ht1
          clear ht1
          have q1 : N + 4 ≤ t.size := by omega
          have q2 : N ≤ t.size := by omega
          have q3 : (N : Int) + 4 ≤ (t.size : Int) := by omega
          have q4 : (N : Int) ≤ (t.size : Int) := by omega
          have q5 : (0 : Int) ≤ (N : Int) := by omega
          have q6 : (0 : Int) ≤ (N : Int) + 4 := by omega
          have q7 : ((N : Int) + 4).toNat = N + 4 := by omega
          have q8 : (N : Int) ≤ (N : Int) + 4 := by omega
          have hts : (t.extract 0 N).size ≤ maxLen := by unfold maxLen; simp; omega
          replace htz := Lib.hid htz
          have GG : Gr w (w'.drewN nq) := gr_trans (by assumption) (gr_drewN _ _ _)
          generalize w'.drewN nq = W2 at GG ⊢
          have hx : (t.extract N (N + 4)).toList = (t.data.toList.drop N).take 4 := by rw [Lib.toList_data, Lib.extract_data]; congr 1; omega
          by_cases hp : Crc.be 4 (Crc.sum ((s.data.toList.drop 6).take N)) = ((s.data.toList.drop 6).drop N).take 4
          · have hnp : (Crc.be 4 (Crc.sum (List.take N t.data.toList)) == (t.extract N (N + 4)).toList) = true := by
              rw [hx, HT.out, hp]; simp
            have hfin : Crc.take s.data.toList = ((s.data.toList.drop 6).take N, s.data.toList.drop (10 + N), 0) := by unfold Crc.take; rw [if_neg (by have := HZ.out; omega), if_neg (by simpa using HH.out), HG.out, if_neg (by have := HZ.out; omega), if_neg hc2, if_neg (by simpa using hp)]
            have HF := Lib.hid hfin
            clear hfin hp hx
            go_region_held3 (fun w' => Gr w w') (first | assumption | exact gr_trans GG (gr_drew _ _) | exact gr_trans (by assumption) hg2) (first | (go_at_call 120; refine (of_any _ _ hts).mono ?_; rintro e w' ⟨rfl, rfl⟩) | (go_at_call 119; refine (num4 _ _ (Crc.sum_lt _)).mono ?_; rintro e w' ⟨rfl, hg2⟩))
            go_wp2
            go_quiet (fail)
            go_wp2
            go_ret3
            refine ⟨?_, gr_trans (by assumption) (gr_drewN _ _ _)⟩
            rw [HF.out]
            have r1 : t.extract 0 N = txt ((s.data.toList.drop 6).take N) := str_eq (by rw [Lib.extract_data, HT.out]; rfl)
            have r2 : t.extract (N + 4) t.size = txt (s.data.toList.drop (10 + N)) := str_eq (by rw [ext_end, HT.out, List.drop_drop]; congr 1; omega)
            rw [r1, r2]
            rfl
          · have hnp : (Crc.be 4 (Crc.sum (List.take N t.data.toList)) == (t.extract N (N + 4)).toList) = false := by
              rw [hx, HT.out]; simpa using hp
            have hfin : Crc.take s.data.toList = ([], [], 10) := by unfold Crc.take; rw [if_neg (by have := HZ.out; omega), if_neg (by simpa using HH.out), HG.out, if_neg (by have := HZ.out; omega), if_neg hc2, if_pos (by simpa using hp)]
            have HF := Lib.hid hfin
            clear hfin hp hx
            go_region_held3 (fun w' => Gr w w') (first | assumption | exact gr_trans GG (gr_drew _ _) | exact gr_trans (by assumption) hg2) (first | (go_at_call 120; refine (of_any _ _ hts).mono ?_; rintro e w' ⟨rfl, rfl⟩) | (go_at_call 119; refine (num4 _ _ (Crc.sum_lt _)).mono ?_; rintro e w' ⟨rfl, hg2⟩))
            go_wp2
            go_ret3
            exact ⟨by rw [HF.out]; rfl, by assumption⟩
    · have hne : (Crc.be 4 (Crc.sum (List.take 2 s.data.toList)) == (s.extract 2 6).toList) = false := by
        rw [Lib.toList_data, HD2.out]; simpa using hh
      have hfin : Crc.take s.data.toList = ([], [], 10) := by unfold Crc.take; rw [if_neg (by have := HZ.out; omega), if_pos hh]
      have HF := Lib.hid hfin
      clear hh hfin
      go_enter Tryz.func125, Tryz.ntmps125
      go_wp2_with fail
      go_region_held3 (fun w' => Gr w w') (first | assumption | exact gr_drew _ _ | exact gr_trans (by assumption) hg) (first | (go_at_call 120; refine (of_any _ _ hs1).mono ?_; rintro e w' ⟨rfl, rfl⟩) | (go_at_call 119; refine (num4 _ _ (Crc.sum_lt _)).mono ?_; rintro e w' ⟨rfl, hg⟩))
      go_wp2
      go_ret3
      exact ⟨by rw [HF.out]; rfl, by assumption⟩

theorem take_eq (s : ByteArray) (w : World) (hs : s.size ≤ maxLen) (x y : List UInt8) (n : Int) (h : Crc.take s.data.toList = (x, y, n)) :
    Calls Tryz.prog 125 #[.string s] w fun e w' => e = .returned (.tuple #[.string (txt x), .string (txt y), .int .i64 n]) ∧ Gr w w' :=
  (take_any s w hs).mono (by rintro e w' ⟨rfl, g⟩; rw [h]; exact ⟨rfl, g⟩)
end Go.Proofs.YtmldoeeangekoaaGreat
