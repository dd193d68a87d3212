/-
  Several facts, one behind the other; no condition but bounds (soft): Cells of a block that is there. No condition.
-/
import Derived.Test.YtmldoeeangekoaaGreatDoorDiaryCur
import Derived.Test.YtmldoeeangekoaaGreatDoorQuietGr
import Derived.Test.YtmldoeeangekoaaGreatDoorProg
import Derived.Deep.RegionLaw
import Derived.Test.YtmldoeeangekoaaGreatDoorAppendRow
import Derived.Deep.RegionHeld3
import Derived.Test.YtmldoeeangekoaaGreatDoorRowMore
namespace Go.Proofs.YtmldoeeangekoaaGreatDoor.Dy
open Go.RowKit

theorem fzero {w : World} {b : Nat} {cs : Array Value} {t : TypeId} (h : w.heap[b]? = some (.cells cs t (0, 0))) (j : Nat) : w.frozen? ⟨b, j, none⟩ = false := by
  unfold World.frozen?
  rw [h]
  simp
theorem fcell {w : World} {b : Nat} {cs : Array Value} {t : TypeId} {fr : Nat × Nat} (h : w.heap[b]? = some (.cells cs t fr)) {j : Nat} {v : Value} (hj : cs[j]? = some v) : w.cell? ⟨b, j, none⟩ = some v := by
  unfold World.cell?
  rw [h]
  exact hj
theorem cell0_new (w : World) (v : Value) (t : TypeId) : (w.alloc (.cells #[v] t)).cell? ⟨w.heap.size, 0, none⟩ = some v := by
  rw [World.cell?_alloc_new]; rfl
end Go.Proofs.YtmldoeeangekoaaGreatDoor.Dy
/- (soft)
  slices.IndexFunc, DeleteFunc, BinarySearchFunc, Insert of no cursors; diary's close of a state in which none is open. No condition.
-/
namespace Go.Proofs.YtmldoeeangekoaaGreatDoor.Dy
open Go.RowKit

theorem infoCur : (Tryz.prog.info? 52).map (fun i => (i.zero, i.size, i.bytes)) = some (some (.agg #[.int .i64 0, .int .i64 0, .int .i64 0, .int .i64 0, .string ⟨#[]⟩]), 5, 48) := by kernel_rfl
theorem dindex0 (fv : Value) (w : World) : Calls Tryz.prog 101 #[.slice none 0 0, fv] w fun e w' => e = .returned (.int .i64 (-1)) ∧ w = w' := by
  go_enter Tryz.func101, Tryz.ntmps101
  go_wp2
  go_loopw [8] (fun i wr => i = .int .i64 0 ∧ w = wr) (fun _ _ => 0)
  case atStart => exact ⟨rfl, rfl⟩
  case round =>
    obtain ⟨rfl, rfl⟩ := hrel
    go_wp2
    go_ret
    exact ⟨rfl, rfl⟩
theorem ddelete0 (fv : Value) (w : World) : Calls Tryz.prog 95 #[.slice none 0 0, fv] w fun e w' => e = .returned (.slice none 0 0) ∧ w = w' := by
  go_enter Tryz.func95, Tryz.ntmps95
  go_wp2_with fail
  refine (dindex0 _ _).mono ?_
  rintro e w2 ⟨rfl, rfl⟩
  go_wp2
  go_ret
  exact ⟨rfl, rfl⟩
theorem dsearch0 (n : Int) (fv : Value) (w : World) : Calls Tryz.prog 92 #[.slice none 0 0, .int .i64 n, fv] w fun e w' => e = .returned (.tuple #[.int .i64 0, .bool false]) ∧ w = w' := by
  go_enter Tryz.func92, Tryz.ntmps92
  go_wp2
  go_loopw [9, 10] (fun i j wr => i = .int .i64 0 ∧ j = .int .i64 0 ∧ w = wr) (fun _ _ _ => 0)
  case atStart => exact ⟨rfl, rfl, rfl⟩
  case round =>
    obtain ⟨rfl, rfl, rfl⟩ := hrel
    go_wp2
    go_ret2
    exact ⟨rfl, rfl⟩
set_option maxRecDepth 100000 in
theorem dinsert0 (B : Nat) (x : Cur) (w : World) (hx : ∀ j, j < 5 → w.cell? ⟨B, j, none⟩ = (curC x)[j]?) : Calls Tryz.prog 94 #[.slice none 0 0, .int .i64 0, .slice (some ⟨B, 0, none⟩) 1 1] w fun e w' => ∃ A cap, e = .returned (.slice A 1 cap) ∧ w'.ownsRow w.heap.size 52 5 (.slice A 1 cap) 1 (curC x) ∧ Gr w w' := by
  obtain ⟨ii, hi, hz0, hz1, hz2⟩ := info_parts infoCur
  have hnil : w.ownsRow w.heap.size 52 5 (.slice none 0 0) 0 [] := World.ownsRow_nil _ _ _ _
  replace hx := Lib.hid hx
  replace hnil := Lib.hid hnil
  go_enter Tryz.func94, Tryz.ntmps94
  go_wp2_with (at_builtin; refine wpList_append_own _ rfl _ _ 28 rfl w.heap.size 52 ii (.agg #[.int .i64 0, .int .i64 0, .int .i64 0, .int .i64 0, .string ⟨#[]⟩]) 5 48 Tryz.underlying28 hi hz0 hz1 hz2 rfl (by decide) (.slice none 0 0) 0 [] rfl hnil.out ⟨B, 0, none⟩ 1 1 (curC x) rfl rfl ?c1 ?c2 ?c3 ?c4 ?c5 ?_; rotate_right; intro v' W5 hown5 hgrow _nl; clear _nl; replace hown5 := Lib.hid hown5; replace hgrow := Lib.hid hgrow)
  case c1 =>
    intro j u hj
    have hjl := (List.getElem?_eq_some_iff.1 hj).1
    rw [add_plain, Nat.zero_add, hx.out j hjl]
    exact hj
  case c2 =>
    intro u hu
    simp only [curC, List.mem_cons, List.not_mem_nil, or_false] at hu
    rcases hu with rfl | rfl | rfl | rfl | rfl <;> rfl
  case c3 => unfold maxLen; omega
  case c4 => omega
  case c5 => exact Nat.le_refl _
  obtain ⟨A, cap, rfl, _, _⟩ := own_openS hown5.out
  go_ret
  exact ⟨A, cap, rfl, hown5.out, hgrow.out⟩
end Go.Proofs.YtmldoeeangekoaaGreatDoor.Dy
/- (soft)
  What diary.lift and diary.Right answer of every note. No condition but the machine's numbers.
-/
namespace Go.Proofs.YtmldoeeangekoaaGreatDoor.Dy
open Go.RowKit

theorem did_yes (n : Int) (w : World) (h : 1 ≤ n ∧ n ≤ 1000000) : Calls Tryz.prog 97 #[.int .i64 n] w fun e w' => e = .returned (.bool true) ∧ w = w' := by
  obtain ⟨h1, h2⟩ := h
  go_enter Tryz.func97, Tryz.ntmps97
  go_wp2
  go_ret
  exact ⟨rfl, rfl⟩
theorem did_no (n : Int) (w : World) (h : ¬ (1 ≤ n ∧ n ≤ 1000000)) : Calls Tryz.prog 97 #[.int .i64 n] w fun e w' => e = .returned (.bool false) ∧ w = w' := by
  by_cases h1 : 1 ≤ n
  · have h2 : ¬ n ≤ 1000000 := fun h3 => h ⟨h1, h3⟩
    go_enter Tryz.func97, Tryz.ntmps97
    go_wp2
    go_ret
    exact ⟨rfl, rfl⟩
  · go_enter Tryz.func97, Tryz.ntmps97
    go_wp2
    go_ret
    exact ⟨rfl, rfl⟩
theorem dun_yes (n : Int) (w : World) (h : 0 ≤ n ∧ n ≤ 1000000000) : Calls Tryz.prog 98 #[.int .i64 n] w fun e w' => e = .returned (.bool true) ∧ w = w' := by
  obtain ⟨h1, h2⟩ := h
  go_enter Tryz.func98, Tryz.ntmps98
  go_wp2
  go_ret
  exact ⟨rfl, rfl⟩
theorem dun_no (n : Int) (w : World) (h : ¬ (0 ≤ n ∧ n ≤ 1000000000)) : Calls Tryz.prog 98 #[.int .i64 n] w fun e w' => e = .returned (.bool false) ∧ w = w' := by
  by_cases h1 : 0 ≤ n
  · have h2 : ¬ n ≤ 1000000000 := fun h3 => h ⟨h1, h3⟩
    go_enter Tryz.func98, Tryz.ntmps98
    go_wp2
    go_ret
    exact ⟨rfl, rfl⟩
  · go_enter Tryz.func98, Tryz.ntmps98
    go_wp2
    go_ret
    exact ⟨rfl, rfl⟩
theorem dfl_yes (s : List UInt8) (w : World) (h : 1 ≤ s.length ∧ s.length ≤ 60) : Calls Tryz.prog 99 #[.string (txt s)] w fun e w' => e = .returned (.bool true) ∧ w = w' := by
  have h1 : (s == []) = false := by rw [beq_eq_false_iff_ne]; rintro rfl; simp at h
  have h2 : (s.length : Int) ≤ 60 := by omega
  go_enter Tryz.func99, Tryz.ntmps99
  go_wp2
  go_ret
  exact ⟨rfl, rfl⟩
theorem dfl_no (s : List UInt8) (w : World) (h : ¬ (1 ≤ s.length ∧ s.length ≤ 60)) : Calls Tryz.prog 99 #[.string (txt s)] w fun e w' => e = .returned (.bool false) ∧ w = w' := by
  by_cases h0 : s = []
  · subst h0
    go_enter Tryz.func99, Tryz.ntmps99
    go_wp2
    go_ret
    exact ⟨rfl, rfl⟩
  · have h1 : (s == []) = false := by rw [beq_eq_false_iff_ne]; exact h0
    have h2 : ¬ (s.length : Int) ≤ 60 := by
      have : s.length ≠ 0 := fun h => h0 (List.eq_nil_of_length_eq_zero h)
      omega
    go_enter Tryz.func99, Tryz.ntmps99
    go_wp2
    go_ret
    exact ⟨rfl, rfl⟩
def liftV (x : Nte) : Value :=
  if okOpen x then .iface 126 (.agg #[.int .i64 x.c.id, .int .i64 x.c.rows, .int .i64 x.c.size, .int .i64 x.c.tl, .string (txt x.c.file)])
  else if okClose x then .iface 133 (.agg #[.int .i64 x.c.id])
  else if okClock x then .iface 136 (.agg #[.int .i64 x.c.tl])
  else if okSeg x then .iface 141 (.agg #[.string (txt x.c.file), .int .i64 x.c.rows])
  else .nilIface
def LiftPost (x : Nte) (w : World) (e : Ending) (w' : World) : Prop := e = .returned (liftV x) ∧ Gr w w'
theorem liftV_none {x : Nte} (h : ¬ okN x) : liftV x = .nilIface := by
  unfold okN at h
  unfold liftV
  rw [if_neg (fun h1 => h (Or.inl h1)), if_neg (fun h1 => h (Or.inr (Or.inl h1))), if_neg (fun h1 => h (Or.inr (Or.inr (Or.inl h1)))), if_neg (fun h1 => h (Or.inr (Or.inr (Or.inr h1))))]
theorem ne_len {s : List UInt8} (h : ¬ s = []) : (s == []) = false := by rw [beq_eq_false_iff_ne]; exact h
theorem gr_lift (w : World) (a b : Obj) : Gr w ((w.alloc a).alloc b) := gr_trans (gr_alloc _ _ _) (gr_alloc _ _ _)
set_option maxHeartbeats 4000000 in
set_option maxRecDepth 100000 in
theorem lift_1 (kd id rows size tl : Int) (file : List UInt8) (w : World) (hk : kd = 1) : Calls Tryz.prog 32 #[.agg #[.int .i64 kd, .int .i64 id, .int .i64 rows, .int .i64 size, .int .i64 tl, .string (txt file)]] w (LiftPost ⟨kd, ⟨id, rows, size, tl, file⟩⟩ w) := by
  subst hk
  by_cases q0 : 1 ≤ id ∧ id ≤ 1000000
  rotate_left
  · have hres : Ending.returned Value.nilIface = .returned (liftV ⟨1, ⟨id, rows, size, tl, file⟩⟩) := by
      rw [liftV_none (by rintro (h | h | h | h) <;> simp [okOpen, okClose, okClock, okSeg] at h <;> (first | omega | (exfalso; simp_all; done) | (have := h; simp_all; omega)))]
    go_enter Tryz.func32, Tryz.ntmps32
    go_wp2_with fail
    refine (did_no _ _ q0).mono ?_
    rintro e w2 ⟨rfl, rfl⟩
    go_wp2
    go_ret
    exact ⟨hres, gr_lift _ _ _⟩
  by_cases q1 : 0 ≤ rows
  rotate_left
  · have hres : Ending.returned Value.nilIface = .returned (liftV ⟨1, ⟨id, rows, size, tl, file⟩⟩) := by
      rw [liftV_none (by rintro (h | h | h | h) <;> simp [okOpen, okClose, okClock, okSeg] at h <;> (first | omega | (exfalso; simp_all; done) | (have := h; simp_all; omega)))]
    go_enter Tryz.func32, Tryz.ntmps32
    go_wp2_with fail
    refine (did_yes _ _ q0).mono ?_
    rintro e w2 ⟨rfl, rfl⟩
    go_wp2
    go_ret
    exact ⟨hres, gr_lift _ _ _⟩
  by_cases q2 : rows ≤ 2000
  rotate_left
  · have hres : Ending.returned Value.nilIface = .returned (liftV ⟨1, ⟨id, rows, size, tl, file⟩⟩) := by
      rw [liftV_none (by rintro (h | h | h | h) <;> simp [okOpen, okClose, okClock, okSeg] at h <;> (first | omega | (exfalso; simp_all; done) | (have := h; simp_all; omega)))]
    go_enter Tryz.func32, Tryz.ntmps32
    go_wp2_with fail
    refine (did_yes _ _ q0).mono ?_
    rintro e w2 ⟨rfl, rfl⟩
    go_wp2
    go_ret
    exact ⟨hres, gr_lift _ _ _⟩
  by_cases q3 : 1 ≤ size
  rotate_left
  · have hres : Ending.returned Value.nilIface = .returned (liftV ⟨1, ⟨id, rows, size, tl, file⟩⟩) := by
      rw [liftV_none (by rintro (h | h | h | h) <;> simp [okOpen, okClose, okClock, okSeg] at h <;> (first | omega | (exfalso; simp_all; done) | (have := h; simp_all; omega)))]
    go_enter Tryz.func32, Tryz.ntmps32
    go_wp2_with fail
    refine (did_yes _ _ q0).mono ?_
    rintro e w2 ⟨rfl, rfl⟩
    go_wp2
    go_ret
    exact ⟨hres, gr_lift _ _ _⟩
  by_cases q4 : size ≤ 100
  rotate_left
  · have hres : Ending.returned Value.nilIface = .returned (liftV ⟨1, ⟨id, rows, size, tl, file⟩⟩) := by
      rw [liftV_none (by rintro (h | h | h | h) <;> simp [okOpen, okClose, okClock, okSeg] at h <;> (first | omega | (exfalso; simp_all; done) | (have := h; simp_all; omega)))]
    go_enter Tryz.func32, Tryz.ntmps32
    go_wp2_with fail
    refine (did_yes _ _ q0).mono ?_
    rintro e w2 ⟨rfl, rfl⟩
    go_wp2
    go_ret
    exact ⟨hres, gr_lift _ _ _⟩
  by_cases q5 : 0 ≤ tl ∧ tl ≤ 1000000000
  rotate_left
  · have hres : Ending.returned Value.nilIface = .returned (liftV ⟨1, ⟨id, rows, size, tl, file⟩⟩) := by
      rw [liftV_none (by rintro (h | h | h | h) <;> simp [okOpen, okClose, okClock, okSeg] at h <;> (first | omega | (exfalso; simp_all; done) | (have := h; simp_all; omega)))]
    go_enter Tryz.func32, Tryz.ntmps32
    go_wp2_with fail
    refine (did_yes _ _ q0).mono ?_
    rintro e w2 ⟨rfl, rfl⟩
    go_wp2_with fail
    refine (dun_no _ _ q5).mono ?_
    rintro e w2 ⟨rfl, rfl⟩
    go_wp2
    go_ret
    exact ⟨hres, gr_lift _ _ _⟩
  by_cases q6 : 1 ≤ file.length ∧ file.length ≤ 60
  rotate_left
  · have hres : Ending.returned Value.nilIface = .returned (liftV ⟨1, ⟨id, rows, size, tl, file⟩⟩) := by
      rw [liftV_none (by rintro (h | h | h | h) <;> simp [okOpen, okClose, okClock, okSeg] at h <;> (first | omega | (exfalso; simp_all; done) | (have := h; simp_all; omega)))]
    go_enter Tryz.func32, Tryz.ntmps32
    go_wp2_with fail
    refine (did_yes _ _ q0).mono ?_
    rintro e w2 ⟨rfl, rfl⟩
    go_wp2_with fail
    refine (dun_yes _ _ q5).mono ?_
    rintro e w2 ⟨rfl, rfl⟩
    go_wp2_with fail
    refine (dfl_no _ _ q6).mono ?_
    rintro e w2 ⟨rfl, rfl⟩
    go_wp2
    go_ret
    exact ⟨hres, gr_lift _ _ _⟩
  have hres : Ending.returned (.iface 126 (.agg #[.int .i64 id, .int .i64 rows, .int .i64 size, .int .i64 tl, .string (txt file)])) = .returned (liftV ⟨1, ⟨id, rows, size, tl, file⟩⟩) := by
    unfold liftV
    simp [okOpen, *]
  go_enter Tryz.func32, Tryz.ntmps32
  go_wp2_with fail
  refine (did_yes _ _ q0).mono ?_
  rintro e w2 ⟨rfl, rfl⟩
  go_wp2_with fail
  refine (dun_yes _ _ q5).mono ?_
  rintro e w2 ⟨rfl, rfl⟩
  go_wp2_with fail
  refine (dfl_yes _ _ q6).mono ?_
  rintro e w2 ⟨rfl, rfl⟩
  go_wp2
  go_ret
  exact ⟨hres, gr_lift _ _ _⟩
set_option maxHeartbeats 4000000 in
set_option maxRecDepth 100000 in
theorem lift_2 (kd id rows size tl : Int) (file : List UInt8) (w : World) (hk : kd = 2) : Calls Tryz.prog 32 #[.agg #[.int .i64 kd, .int .i64 id, .int .i64 rows, .int .i64 size, .int .i64 tl, .string (txt file)]] w (LiftPost ⟨kd, ⟨id, rows, size, tl, file⟩⟩ w) := by
  subst hk
  by_cases q0 : 1 ≤ id ∧ id ≤ 1000000
  rotate_left
  · have hres : Ending.returned Value.nilIface = .returned (liftV ⟨2, ⟨id, rows, size, tl, file⟩⟩) := by
      rw [liftV_none (by rintro (h | h | h | h) <;> simp [okOpen, okClose, okClock, okSeg] at h <;> (first | omega | (exfalso; simp_all; done) | (have := h; simp_all; omega)))]
    go_enter Tryz.func32, Tryz.ntmps32
    go_wp2_with fail
    refine (did_no _ _ q0).mono ?_
    rintro e w2 ⟨rfl, rfl⟩
    go_wp2
    go_ret
    exact ⟨hres, gr_lift _ _ _⟩
  by_cases q1 : rows = 0
  rotate_left
  · have hres : Ending.returned Value.nilIface = .returned (liftV ⟨2, ⟨id, rows, size, tl, file⟩⟩) := by
      rw [liftV_none (by rintro (h | h | h | h) <;> simp [okOpen, okClose, okClock, okSeg] at h <;> (first | omega | (exfalso; simp_all; done) | (have := h; simp_all; omega)))]
    have b1 : (rows == 0) = false := eqF q1
    go_enter Tryz.func32, Tryz.ntmps32
    go_wp2_with fail
    refine (did_yes _ _ q0).mono ?_
    rintro e w2 ⟨rfl, rfl⟩
    go_wp2
    go_ret
    exact ⟨hres, gr_lift _ _ _⟩
  subst q1
  by_cases q2 : size = 0
  rotate_left
  · have hres : Ending.returned Value.nilIface = .returned (liftV ⟨2, ⟨id, 0, size, tl, file⟩⟩) := by
      rw [liftV_none (by rintro (h | h | h | h) <;> simp [okOpen, okClose, okClock, okSeg] at h <;> (first | omega | (exfalso; simp_all; done) | (have := h; simp_all; omega)))]
    have b2 : (size == 0) = false := eqF q2
    go_enter Tryz.func32, Tryz.ntmps32
    go_wp2_with fail
    refine (did_yes _ _ q0).mono ?_
    rintro e w2 ⟨rfl, rfl⟩
    go_wp2
    go_ret
    exact ⟨hres, gr_lift _ _ _⟩
  subst q2
  by_cases q3 : tl = 0
  rotate_left
  · have hres : Ending.returned Value.nilIface = .returned (liftV ⟨2, ⟨id, 0, 0, tl, file⟩⟩) := by
      rw [liftV_none (by rintro (h | h | h | h) <;> simp [okOpen, okClose, okClock, okSeg] at h <;> (first | omega | (exfalso; simp_all; done) | (have := h; simp_all; omega)))]
    have b3 : (tl == 0) = false := eqF q3
    go_enter Tryz.func32, Tryz.ntmps32
    go_wp2_with fail
    refine (did_yes _ _ q0).mono ?_
    rintro e w2 ⟨rfl, rfl⟩
    go_wp2
    go_ret
    exact ⟨hres, gr_lift _ _ _⟩
  subst q3
  by_cases q4 : file = []
  rotate_left
  · have hres : Ending.returned Value.nilIface = .returned (liftV ⟨2, ⟨id, 0, 0, 0, file⟩⟩) := by
      rw [liftV_none (by rintro (h | h | h | h) <;> simp [okOpen, okClose, okClock, okSeg] at h <;> (first | omega | (exfalso; simp_all; done) | (have := h; simp_all; omega)))]
    have b4 : (file == []) = false := ne_len q4
    go_enter Tryz.func32, Tryz.ntmps32
    go_wp2_with fail
    refine (did_yes _ _ q0).mono ?_
    rintro e w2 ⟨rfl, rfl⟩
    go_wp2
    go_ret
    exact ⟨hres, gr_lift _ _ _⟩
  subst q4
  have hres : Ending.returned (.iface 133 (.agg #[.int .i64 id])) = .returned (liftV ⟨2, ⟨id, 0, 0, 0, []⟩⟩) := by
    unfold liftV
    simp [okOpen, okClose, *]
  go_enter Tryz.func32, Tryz.ntmps32
  go_wp2_with fail
  refine (did_yes _ _ q0).mono ?_
  rintro e w2 ⟨rfl, rfl⟩
  go_wp2
  go_ret
  exact ⟨hres, gr_lift _ _ _⟩
set_option maxHeartbeats 4000000 in
set_option maxRecDepth 100000 in
theorem lift_3 (kd id rows size tl : Int) (file : List UInt8) (w : World) (hk : kd = 3) : Calls Tryz.prog 32 #[.agg #[.int .i64 kd, .int .i64 id, .int .i64 rows, .int .i64 size, .int .i64 tl, .string (txt file)]] w (LiftPost ⟨kd, ⟨id, rows, size, tl, file⟩⟩ w) := by
  subst hk
  by_cases q0 : 0 ≤ tl ∧ tl ≤ 1000000000
  rotate_left
  · have hres : Ending.returned Value.nilIface = .returned (liftV ⟨3, ⟨id, rows, size, tl, file⟩⟩) := by
      rw [liftV_none (by rintro (h | h | h | h) <;> simp [okOpen, okClose, okClock, okSeg] at h <;> (first | omega | (exfalso; simp_all; done) | (have := h; simp_all; omega)))]
    go_enter Tryz.func32, Tryz.ntmps32
    go_wp2_with fail
    refine (dun_no _ _ q0).mono ?_
    rintro e w2 ⟨rfl, rfl⟩
    go_wp2
    go_ret
    exact ⟨hres, gr_lift _ _ _⟩
  by_cases q1 : id = 0
  rotate_left
  · have hres : Ending.returned Value.nilIface = .returned (liftV ⟨3, ⟨id, rows, size, tl, file⟩⟩) := by
      rw [liftV_none (by rintro (h | h | h | h) <;> simp [okOpen, okClose, okClock, okSeg] at h <;> (first | omega | (exfalso; simp_all; done) | (have := h; simp_all; omega)))]
    have b1 : (id == 0) = false := eqF q1
    go_enter Tryz.func32, Tryz.ntmps32
    go_wp2_with fail
    refine (dun_yes _ _ q0).mono ?_
    rintro e w2 ⟨rfl, rfl⟩
    go_wp2
    go_ret
    exact ⟨hres, gr_lift _ _ _⟩
  subst q1
  by_cases q2 : rows = 0
  rotate_left
  · have hres : Ending.returned Value.nilIface = .returned (liftV ⟨3, ⟨0, rows, size, tl, file⟩⟩) := by
      rw [liftV_none (by rintro (h | h | h | h) <;> simp [okOpen, okClose, okClock, okSeg] at h <;> (first | omega | (exfalso; simp_all; done) | (have := h; simp_all; omega)))]
    have b2 : (rows == 0) = false := eqF q2
    go_enter Tryz.func32, Tryz.ntmps32
    go_wp2_with fail
    refine (dun_yes _ _ q0).mono ?_
    rintro e w2 ⟨rfl, rfl⟩
    go_wp2
    go_ret
    exact ⟨hres, gr_lift _ _ _⟩
  subst q2
  by_cases q3 : size = 0
  rotate_left
  · have hres : Ending.returned Value.nilIface = .returned (liftV ⟨3, ⟨0, 0, size, tl, file⟩⟩) := by
      rw [liftV_none (by rintro (h | h | h | h) <;> simp [okOpen, okClose, okClock, okSeg] at h <;> (first | omega | (exfalso; simp_all; done) | (have := h; simp_all; omega)))]
    have b3 : (size == 0) = false := eqF q3
    go_enter Tryz.func32, Tryz.ntmps32
    go_wp2_with fail
    refine (dun_yes _ _ q0).mono ?_
    rintro e w2 ⟨rfl, rfl⟩
    go_wp2
    go_ret
    exact ⟨hres, gr_lift _ _ _⟩
  subst q3
  by_cases q4 : file = []
  rotate_left
  · have hres : Ending.returned Value.nilIface = .returned (liftV ⟨3, ⟨0, 0, 0, tl, file⟩⟩) := by
      rw [liftV_none (by rintro (h | h | h | h) <;> simp [okOpen, okClose, okClock, okSeg] at h <;> (first | omega | (exfalso; simp_all; done) | (have := h; simp_all; omega)))]
    have b4 : (file == []) = false := ne_len q4
    go_enter Tryz.func32, Tryz.ntmps32
    go_wp2_with fail
    refine (dun_yes _ _ q0).mono ?_
    rintro e w2 ⟨rfl, rfl⟩
    go_wp2
    go_ret
    exact ⟨hres, gr_lift _ _ _⟩
  subst q4
  have hres : Ending.returned (.iface 136 (.agg #[.int .i64 tl])) = .returned (liftV ⟨3, ⟨0, 0, 0, tl, []⟩⟩) := by
    unfold liftV
    simp [okOpen, okClose, okClock, *]
  go_enter Tryz.func32, Tryz.ntmps32
  go_wp2_with fail
  refine (dun_yes _ _ q0).mono ?_
  rintro e w2 ⟨rfl, rfl⟩
  go_wp2
  go_ret
  exact ⟨hres, gr_lift _ _ _⟩
set_option maxHeartbeats 4000000 in
set_option maxRecDepth 100000 in
theorem lift_4 (kd id rows size tl : Int) (file : List UInt8) (w : World) (hk : kd = 4) : Calls Tryz.prog 32 #[.agg #[.int .i64 kd, .int .i64 id, .int .i64 rows, .int .i64 size, .int .i64 tl, .string (txt file)]] w (LiftPost ⟨kd, ⟨id, rows, size, tl, file⟩⟩ w) := by
  subst hk
  by_cases q0 : 0 ≤ rows
  rotate_left
  · have hres : Ending.returned Value.nilIface = .returned (liftV ⟨4, ⟨id, rows, size, tl, file⟩⟩) := by
      rw [liftV_none (by rintro (h | h | h | h) <;> simp [okOpen, okClose, okClock, okSeg] at h <;> (first | omega | (exfalso; simp_all; done) | (have := h; simp_all; omega)))]
    go_enter Tryz.func32, Tryz.ntmps32
    go_wp2
    go_ret
    exact ⟨hres, gr_lift _ _ _⟩
  by_cases q1 : rows ≤ 1000
  rotate_left
  · have hres : Ending.returned Value.nilIface = .returned (liftV ⟨4, ⟨id, rows, size, tl, file⟩⟩) := by
      rw [liftV_none (by rintro (h | h | h | h) <;> simp [okOpen, okClose, okClock, okSeg] at h <;> (first | omega | (exfalso; simp_all; done) | (have := h; simp_all; omega)))]
    go_enter Tryz.func32, Tryz.ntmps32
    go_wp2
    go_ret
    exact ⟨hres, gr_lift _ _ _⟩
  by_cases q2 : 1 ≤ file.length ∧ file.length ≤ 60
  rotate_left
  · have hres : Ending.returned Value.nilIface = .returned (liftV ⟨4, ⟨id, rows, size, tl, file⟩⟩) := by
      rw [liftV_none (by rintro (h | h | h | h) <;> simp [okOpen, okClose, okClock, okSeg] at h <;> (first | omega | (exfalso; simp_all; done) | (have := h; simp_all; omega)))]
    go_enter Tryz.func32, Tryz.ntmps32
    go_wp2_with fail
    refine (dfl_no _ _ q2).mono ?_
    rintro e w2 ⟨rfl, rfl⟩
    go_wp2
    go_ret
    exact ⟨hres, gr_lift _ _ _⟩
  by_cases q3 : id = 0
  rotate_left
  · have hres : Ending.returned Value.nilIface = .returned (liftV ⟨4, ⟨id, rows, size, tl, file⟩⟩) := by
      rw [liftV_none (by rintro (h | h | h | h) <;> simp [okOpen, okClose, okClock, okSeg] at h <;> (first | omega | (exfalso; simp_all; done) | (have := h; simp_all; omega)))]
    have b3 : (id == 0) = false := eqF q3
    go_enter Tryz.func32, Tryz.ntmps32
    go_wp2_with fail
    refine (dfl_yes _ _ q2).mono ?_
    rintro e w2 ⟨rfl, rfl⟩
    go_wp2
    go_ret
    exact ⟨hres, gr_lift _ _ _⟩
  subst q3
  by_cases q4 : size = 0
  rotate_left
  · have hres : Ending.returned Value.nilIface = .returned (liftV ⟨4, ⟨0, rows, size, tl, file⟩⟩) := by
      rw [liftV_none (by rintro (h | h | h | h) <;> simp [okOpen, okClose, okClock, okSeg] at h <;> (first | omega | (exfalso; simp_all; done) | (have := h; simp_all; omega)))]
    have b4 : (size == 0) = false := eqF q4
    go_enter Tryz.func32, Tryz.ntmps32
    go_wp2_with fail
    refine (dfl_yes _ _ q2).mono ?_
    rintro e w2 ⟨rfl, rfl⟩
    go_wp2
    go_ret
    exact ⟨hres, gr_lift _ _ _⟩
  subst q4
  by_cases q5 : tl = 0
  rotate_left
  · have hres : Ending.returned Value.nilIface = .returned (liftV ⟨4, ⟨0, rows, 0, tl, file⟩⟩) := by
      rw [liftV_none (by rintro (h | h | h | h) <;> simp [okOpen, okClose, okClock, okSeg] at h <;> (first | omega | (exfalso; simp_all; done) | (have := h; simp_all; omega)))]
    have b5 : (tl == 0) = false := eqF q5
    go_enter Tryz.func32, Tryz.ntmps32
    go_wp2_with fail
    refine (dfl_yes _ _ q2).mono ?_
    rintro e w2 ⟨rfl, rfl⟩
    go_wp2
    go_ret
    exact ⟨hres, gr_lift _ _ _⟩
  subst q5
  have hres : Ending.returned (.iface 141 (.agg #[.string (txt file), .int .i64 rows])) = .returned (liftV ⟨4, ⟨0, rows, 0, 0, file⟩⟩) := by
    unfold liftV
    simp [okOpen, okClose, okClock, okSeg, *]
  go_enter Tryz.func32, Tryz.ntmps32
  go_wp2_with fail
  refine (dfl_yes _ _ q2).mono ?_
  rintro e w2 ⟨rfl, rfl⟩
  go_wp2
  go_ret
  exact ⟨hres, gr_lift _ _ _⟩
set_option maxRecDepth 100000 in
theorem lift_0 (kd id rows size tl : Int) (file : List UInt8) (w : World) (h1 : ¬ kd = 1) (h2 : ¬ kd = 2) (h3 : ¬ kd = 3) (h4 : ¬ kd = 4) : Calls Tryz.prog 32 #[.agg #[.int .i64 kd, .int .i64 id, .int .i64 rows, .int .i64 size, .int .i64 tl, .string (txt file)]] w (LiftPost ⟨kd, ⟨id, rows, size, tl, file⟩⟩ w) := by
  have b1 : (kd == 1) = false := eqF h1
  have b2 : (kd == 2) = false := eqF h2
  have b3 : (kd == 3) = false := eqF h3
  have b4 : (kd == 4) = false := eqF h4
  have hres : Ending.returned Value.nilIface = .returned (liftV ⟨kd, ⟨id, rows, size, tl, file⟩⟩) := by
    rw [liftV_none (by rintro (h | h | h | h) <;> simp [okOpen, okClose, okClock, okSeg] at h <;> omega)]
  go_enter Tryz.func32, Tryz.ntmps32
  go_wp2
  go_ret
  exact ⟨hres, gr_lift _ _ _⟩
theorem lift_any (x : Nte) (w : World) : Calls Tryz.prog 32 #[nteV x] w (LiftPost x w) := by
  obtain ⟨kd, ⟨id, rows, size, tl, file⟩⟩ := x
  by_cases h1 : kd = 1
  · exact lift_1 kd id rows size tl file w h1
  by_cases h2 : kd = 2
  · exact lift_2 kd id rows size tl file w h2
  by_cases h3 : kd = 3
  · exact lift_3 kd id rows size tl file w h3
  by_cases h4 : kd = 4
  · exact lift_4 kd id rows size tl file w h4
  exact lift_0 kd id rows size tl file w h1 h2 h3 h4
theorem liftV_some {x : Nte} (h : okN x) : ∃ t v, liftV x = .iface t v := by
  unfold liftV
  split
  · exact ⟨_, _, rfl⟩
  · split
    · exact ⟨_, _, rfl⟩
    · split
      · exact ⟨_, _, rfl⟩
      · split
        · exact ⟨_, _, rfl⟩
        · next h1 h2 h3 h4 => rcases h with h | h | h | h <;> contradiction
theorem right_any (x : Nte) (w : World) : Calls Tryz.prog 41 #[nteV x] w fun e w' => e = .returned (.bool (decide (okN x))) ∧ Gr w w' := by
  have cL := fun W => lift_any x W
  unfold LiftPost nteV at cL
  by_cases h : okN x
  · obtain ⟨t, v, hv⟩ := liftV_some h
    rw [hv] at cL
    rw [decide_eq_true h]
    unfold nteV
    clear h hv
    generalize x.kind = kd at *
    generalize x.c.id = id at *
    generalize x.c.rows = rows at *
    generalize x.c.size = size at *
    generalize x.c.tl = tl at *
    generalize x.c.file = file at *
    replace cL := Lib.hid cL
    go_enter Tryz.func41, Tryz.ntmps41
    go_wp2_with fail
    refine (cL.out _).mono ?_
    rintro e w2 ⟨rfl, g⟩
    go_wp2
    go_ret
    exact ⟨rfl, gr_trans (gr_alloc _ _ _) g⟩
  · rw [liftV_none h] at cL
    rw [decide_eq_false h]
    unfold nteV
    clear h
    generalize x.kind = kd at *
    generalize x.c.id = id at *
    generalize x.c.rows = rows at *
    generalize x.c.size = size at *
    generalize x.c.tl = tl at *
    generalize x.c.file = file at *
    replace cL := Lib.hid cL
    go_enter Tryz.func41, Tryz.ntmps41
    go_wp2_with fail
    refine (cL.out _).mono ?_
    rintro e w2 ⟨rfl, g⟩
    go_wp2
    go_ret
    exact ⟨rfl, gr_trans (gr_alloc _ _ _) g⟩
end Go.Proofs.YtmldoeeangekoaaGreatDoor.Dy
/- (soft)
  One note that opens, folded into a state in which nothing is open. No condition but the machine's numbers.
-/
namespace Go.Proofs.YtmldoeeangekoaaGreatDoor.Dy
open Go.RowKit

def stC (nx now : Int) (op : Value) (seg : List UInt8) (pts : Int) : Array Value := #[.int .i64 nx, .int .i64 now, op, .string (txt seg), .int .i64 pts]
def StAt (w : World) (St : Nat) (nx now : Int) (op : Value) (seg : List UInt8) (pts : Int) : Prop := w.heap[St]? = some (.cells (stC nx now op seg pts) 30 (0, 0))
theorem stAt_gr {w w' : World} {St : Nat} {nx now : Int} {op : Value} {seg : List UInt8} {pts : Int} (h : StAt w St nx now op seg pts) (g : Gr w w') : StAt w' St nx now op seg pts := gr_blk g h (by simp)
set_option maxHeartbeats 4000000 in
set_option maxRecDepth 100000 in
theorem dclose0 (St : Nat) (id nx now : Int) (seg : List UInt8) (pts : Int) (w : World) (h : StAt w St nx now (.slice none 0 0) seg pts) (hid : 0 ≤ id ∧ id ≤ 1000000) (hnx : nx ≤ id) :
    Calls Tryz.prog 91 #[.pointer (some ⟨St, 0, none⟩), .int .i64 id] w fun e w' => e = .returned (.tuple #[]) ∧ StAt w' St (id + 1) now (.slice none 0 0) seg pts ∧ w.grownBy w' (some St) := by
  have hlt := lt_of_blk h
  have h1 : StAt (w.alloc (.cells #[.int .i64 id] 3)) St nx now (.slice none 0 0) seg pts := stAt_gr h (gr_alloc _ _ _)
  have c0 : (w.alloc (.cells #[.int .i64 id] 3)).cell? ⟨St, 2, none⟩ = some (.slice none 0 0) := fcell h1 rfl
  have z0 := fzero h1 2
  obtain ⟨W2, hW2⟩ : ∃ W2, W2 = (w.setCell ⟨St, 2, none⟩ (.slice none 0 0)).alloc (.cells #[.int .i64 id] 3) := ⟨_, rfl⟩
  have hs0 : (w.setCell ⟨St, 2, none⟩ (.slice none 0 0)).heap.size = w.heap.size := by simp
  have hb2 : W2.cell? ⟨w.heap.size, 0, none⟩ = some (.int .i64 id) := by rw [hW2, ← hs0]; exact cell0_new _ _ _
  have g2 : w.grownBy W2 (some St) := by rw [hW2]; exact (gr_set w ⟨St, 2, none⟩ _).trans (gr_alloc _ _ _)
  have h2 : StAt W2 St nx now (.slice none 0 0) seg pts := by rw [hW2]; exact stAt_gr (blk_set h 2 (.slice none 0 0)) (gr_alloc _ _ _)
  have d0 : W2.cell? ⟨St, 0, none⟩ = some (.int .i64 nx) := fcell h2 rfl
  have y0 := fzero h2 0
  have hw : IntKind.i64.wrap (id + 1) = id + 1 := IntWalk.i64_in _ (by omega)
  replace h := Lib.hid h
  replace h2 := Lib.hid h2
  replace g2 := Lib.hid g2
  go_enter Tryz.func91, Tryz.ntmps91
  go_wp2_with fail
  refine (ddelete0 _ _).mono ?_
  rintro e w3 ⟨rfl, hw3⟩
  subst hw3
  go_upto_region 2 with fail
  rw [← hW2]
  clear c0 z0 h1 hs0
  replace hW2 := Lib.hid hW2
  go_region
  all_goals
    go_wp2
    all_goals first | (exfalso; omega) | skip
    go_end0
    exact ⟨rfl, stAt_gr (blk_set h2.out 0 (.int .i64 (id + 1))) (gr_drew _ _), (g2.out.trans (gr_set W2 ⟨St, 0, none⟩ _)).trans (gr_drew _ _)⟩
theorem gr_any {w w' : World} (h : Gr w w') (r : Option Nat) : w.grownBy w' r := ⟨h.os, h.tape, h.output, h.size, fun k hk _ => h.block k hk (by simp)⟩
theorem ta_open1 (v : Value) (W : World) : (Instr.typeAssert (.iface 126 v) 20 126 true).run Tryz.prog W = .ok (.tuple #[v, .bool true]) W := by
  simp [Instr.typeAssert, Sem.run_bind, run_underlying Tryz.underlying126, Tryz.zeroValue126, Result.andThen]
theorem ta_open2 (v : Value) (W : World) : (Instr.typeAssert (.iface 126 v) 20 133 true).run Tryz.prog W = .ok (.tuple #[.agg #[.int .i64 0], .bool false]) W := by
  simp [Instr.typeAssert, Sem.run_bind, run_underlying Tryz.underlying133, Tryz.zeroValue133, Result.andThen]
theorem ta_open3 (v : Value) (W : World) : (Instr.typeAssert (.iface 126 v) 20 136 true).run Tryz.prog W = .ok (.tuple #[.agg #[.int .i64 0], .bool false]) W := by
  simp [Instr.typeAssert, Sem.run_bind, run_underlying Tryz.underlying136, Tryz.zeroValue136, Result.andThen]
theorem ta_open4 (v : Value) (W : World) : (Instr.typeAssert (.iface 126 v) 20 141 true).run Tryz.prog W = .ok (.tuple #[.agg #[.string ⟨#[]⟩, .int .i64 0], .bool false]) W := by
  simp [Instr.typeAssert, Sem.run_bind, run_underlying Tryz.underlying141, Tryz.zeroValue141, Result.andThen]
set_option maxHeartbeats 16000000 in
set_option maxRecDepth 100000 in
theorem dfold_open (St : Nat) (x : Cur) (now : Int) (seg : List UInt8) (pts : Int) (w : World) (h : StAt w St 1 now (.slice none 0 0) seg pts) (hid : 1 ≤ x.id ∧ x.id ≤ 1000000) :
    Calls Tryz.prog 31 #[.pointer (some ⟨St, 0, none⟩), .iface 126 (.agg #[.int .i64 x.id, .int .i64 x.rows, .int .i64 x.size, .int .i64 x.tl, .string (txt x.file)])] w fun e w' => e = .returned (.tuple #[]) ∧ (∃ A cap, StAt w' St (x.id + 1) now (.slice A 1 cap) seg pts) ∧ w.grownBy w' (some St) := by
  have hlt := lt_of_blk h
  have ta1 := fun W => ta_open1 (.agg #[.int .i64 x.id, .int .i64 x.rows, .int .i64 x.size, .int .i64 x.tl, .string (txt x.file)]) W
  have ta2 := fun W => ta_open2 (.agg #[.int .i64 x.id, .int .i64 x.rows, .int .i64 x.size, .int .i64 x.tl, .string (txt x.file)]) W
  have ta3 := fun W => ta_open3 (.agg #[.int .i64 x.id, .int .i64 x.rows, .int .i64 x.size, .int .i64 x.tl, .string (txt x.file)]) W
  have ta4 := fun W => ta_open4 (.agg #[.int .i64 x.id, .int .i64 x.rows, .int .i64 x.size, .int .i64 x.tl, .string (txt x.file)]) W
  have cC := fun W hW => dclose0 St x.id 1 now seg pts W hW (by omega) hid.1
  replace cC := Lib.hid cC
  replace h := Lib.hid h
  go_enter Tryz.func31, Tryz.ntmps31
  go_wp2_with fail
  obtain ⟨W1, hW1⟩ : ∃ W1, W1 = (w.alloc (.cells #[.pointer (some ⟨St, 0, none⟩)] 124)).alloc (.cells #[.int .i64 x.id, .int .i64 x.rows, .int .i64 x.size, .int .i64 x.tl, .string (txt x.file)] 126) := ⟨_, rfl⟩
  rw [← hW1]
  have hz1 : (w.alloc (.cells #[.pointer (some ⟨St, 0, none⟩)] 124)).heap.size = w.heap.size + 1 := by simp
  have g1 : Gr w W1 := by rw [hW1]; exact gr_trans (gr_alloc _ _ _) (gr_alloc _ _ _)
  have p1 : W1.cell? ⟨w.heap.size, 0, none⟩ = some (.pointer (some ⟨St, 0, none⟩)) := by rw [hW1]; exact gr_cell (gr_alloc _ _ none) (cell0_new _ _ _)
  have q1 : ∀ j v, (#[.int .i64 x.id, .int .i64 x.rows, .int .i64 x.size, .int .i64 x.tl, .string (txt x.file)] : Array Value)[j]? = some v → W1.cell? ⟨w.heap.size + 1, j, none⟩ = some v := fun j v hj => by rw [hW1, ← hz1, World.cell?_alloc_new]; exact hj
  have st : ∀ w', W1.grownBy w' (some St) → (w'.cell? ⟨w.heap.size, 0, none⟩ = some (.pointer (some ⟨St, 0, none⟩)) ∧ w'.cell? ⟨w.heap.size + 1, 0, none⟩ = some (.int .i64 x.id) ∧ w'.cell? ⟨w.heap.size + 1, 1, none⟩ = some (.int .i64 x.rows) ∧ w'.cell? ⟨w.heap.size + 1, 2, none⟩ = some (.int .i64 x.size) ∧ w'.cell? ⟨w.heap.size + 1, 3, none⟩ = some (.int .i64 x.tl) ∧ w'.cell? ⟨w.heap.size + 1, 4, none⟩ = some (.string (txt x.file))) := fun w' g => ⟨g.cell p1 (by simp; omega), g.cell (q1 0 _ rfl) (by simp; omega), g.cell (q1 1 _ rfl) (by simp; omega), g.cell (q1 2 _ rfl) (by simp; omega), g.cell (q1 3 _ rfl) (by simp; omega), g.cell (q1 4 _ rfl) (by simp; omega)⟩
  have hS1 := stAt_gr h.out g1
  replace st := Lib.hid st
  replace g1 := Lib.hid g1
  clear hW1 hz1 p1 q1
  refine (cC.out _ hS1).mono ?_
  rintro e W2 ⟨rfl, hS2, g2⟩
  clear hS1
  obtain ⟨p2, q20, q21, q22, q23, q24⟩ := st.out _ g2
  have o2 : W2.cell? ⟨St, 2, none⟩ = some (.slice none 0 0) := fcell hS2 rfl
  replace hS2 := Lib.hid hS2
  replace g2 := Lib.hid g2
  go_wp2_with fail
  go_quiet ((go_at_call 92; exact Calls.quiet_of_same ((dsearch0 _ _ _).mono fun _ _ ⟨a, b⟩ => ⟨a, b.symm⟩)))
  obtain ⟨W3, hW3⟩ : ∃ W3, W3 = W2.drewN nq := ⟨_, rfl⟩
  rw [← hW3]
  have g23 : Gr W2 W3 := by rw [hW3]; exact gr_drewN _ _ _
  have g3 : W1.grownBy W3 (some St) := g2.out.trans (gr_any g23 _)
  have hS3 := stAt_gr hS2.out g23
  clear hW3 p2 q20 q21 q22 q23 q24 o2 g23
  go_upto_region 5 with fail
  refine wp_region_held_drew (S := (fun w' => w'.cell? ⟨w.heap.size, 0, none⟩ = some (.pointer (some ⟨St, 0, none⟩)) ∧ w'.cell? ⟨w.heap.size + 1, 0, none⟩ = some (.int .i64 x.id) ∧ w'.cell? ⟨w.heap.size + 1, 1, none⟩ = some (.int .i64 x.rows) ∧ w'.cell? ⟨w.heap.size + 1, 2, none⟩ = some (.int .i64 x.size) ∧ w'.cell? ⟨w.heap.size + 1, 3, none⟩ = some (.int .i64 x.tl) ∧ w'.cell? ⟨w.heap.size + 1, 4, none⟩ = some (.string (txt x.file)))) (by kernel_rfl) (st.out _ (g3.trans (gr_drew _ _))) (fun hHeld => ?_)
  have gd : W1.grownBy W3.drew (some St) := g3.trans (gr_drew _ _)
  have hS4 : StAt W3.drew St (x.id + 1) now (.slice none 0 0) seg pts := stAt_gr hS3 (gr_drew _ _)
  clear g3 hS3
  generalize W3.drew = wd at *
  have o3 : wd.cell? ⟨St, 2, none⟩ = some (.slice none 0 0) := fcell hS4 rfl
  refine wpAnyH_take (i := 0) (oi := ⟨some 36, _, _, _, _, _⟩) (v := ?_) rfl (by kernel_rfl) (by kernel_rfl) (by kernel_rfl) (fun _ _ _ h => h) (Or.inl ⟨by rfl, ?_⟩) hHeld ?_
  rotate_left
  · intro w hSw
    try dsimp only at hSw
    go_simp
    first | done | with_reducible rfl
  try simp only [Act.put, List.setIfInBounds_toArray, List.set_cons_zero, List.set_cons_succ]
  refine wpAnyH_take (i := 1) (oi := ⟨some 37, _, _, _, _, _⟩) (v := ?_) rfl (by kernel_rfl) (by kernel_rfl) (by kernel_rfl) (fun _ _ _ h => h) (Or.inl ⟨by rfl, ?_⟩) hHeld ?_
  rotate_left
  · intro w hSw
    try dsimp only at hSw
    go_simp
    first | done | with_reducible rfl
  try simp only [Act.put, List.setIfInBounds_toArray, List.set_cons_zero, List.set_cons_succ]
  refine wpAnyH_take (i := 2) (oi := ⟨some 38, _, _, _, _, _⟩) (v := ?_) rfl (by kernel_rfl) (by kernel_rfl) (by kernel_rfl) (fun _ _ _ h => h) (Or.inl ⟨by rfl, ?_⟩) hHeld ?_
  rotate_left
  · intro w hSw
    try dsimp only at hSw
    go_simp
    first | done | with_reducible rfl
  try simp only [Act.put, List.setIfInBounds_toArray, List.set_cons_zero, List.set_cons_succ]
  refine wpAnyH_take (i := 3) (oi := ⟨some 39, _, _, _, _, _⟩) (v := ?_) rfl (by kernel_rfl) (by kernel_rfl) (by kernel_rfl) (fun _ _ _ h => h) (Or.inl ⟨by rfl, ?_⟩) hHeld ?_
  rotate_left
  · intro w hSw
    try dsimp only at hSw
    go_simp
    first | done | with_reducible rfl
  try simp only [Act.put, List.setIfInBounds_toArray, List.set_cons_zero, List.set_cons_succ]
  refine wpAnyH_take (i := 5) (oi := ⟨some 41, _, _, _, _, _⟩) (v := ?_) rfl (by kernel_rfl) (by kernel_rfl) (by kernel_rfl) (fun _ _ _ h => h) (Or.inl ⟨by rfl, ?_⟩) hHeld ?_
  rotate_left
  · intro w hSw
    try dsimp only at hSw
    go_simp
    first | done | with_reducible rfl
  try simp only [Act.put, List.setIfInBounds_toArray, List.set_cons_zero, List.set_cons_succ]
  refine wpAnyH_take (i := 6) (oi := ⟨some 42, _, _, _, _, _⟩) (v := ?_) rfl (by kernel_rfl) (by kernel_rfl) (by kernel_rfl) (fun _ _ _ h => h) (Or.inl ⟨by rfl, ?_⟩) hHeld ?_
  rotate_left
  · intro w hSw
    try dsimp only at hSw
    go_simp
    first | done | with_reducible rfl
  try simp only [Act.put, List.setIfInBounds_toArray, List.set_cons_zero, List.set_cons_succ]
  refine wpAnyH_take (i := 7) (oi := ⟨some 43, _, _, _, _, _⟩) (v := ?_) rfl (by kernel_rfl) (by kernel_rfl) (by kernel_rfl) (fun _ _ _ h => h) (Or.inl ⟨by rfl, ?_⟩) hHeld ?_
  rotate_left
  · intro w hSw
    try dsimp only at hSw
    go_simp
    first | done | with_reducible rfl
  try simp only [Act.put, List.setIfInBounds_toArray, List.set_cons_zero, List.set_cons_succ]
  refine wpAnyH_ready (rs := [4, 8]) (by kernel_rfl) (by simp) (AllReadyH.cons (o := ⟨some 40, _, _, _, _, _⟩) rfl (fun K hK => ?_) (AllReadyH.cons (o := ⟨some 44, _, _, _, _, _⟩) rfl (fun K hK => ?_) AllReadyH.nil))
  · skip
    go_simp
    refine hK.out _ _ ?_ (fun hHeld => ?_)
    · exact hHeld
    clear hK K
    try simp only [Act.put, List.setIfInBounds_toArray, List.set_cons_zero, List.set_cons_succ]
    refine wpAnyH_ready (rs := [8]) (by kernel_rfl) (by simp) (AllReadyH.cons (o := ⟨some 44, _, _, _, _, _⟩) rfl (fun K hK => ?_) AllReadyH.nil)
    go_simp
    refine hK.out _ _ ?_ (fun hHeld => ?_)
    · exact st.out _ (gd.trans (gr_alloc _ _ _))
    clear hK K
    try simp only [Act.put, List.setIfInBounds_toArray, List.set_cons_zero, List.set_cons_succ]
    have o4 := gr_cell (gr_alloc wd (.cells #[.int .i64 x.id, .int .i64 x.rows, .int .i64 x.size, .int .i64 x.tl, .string (txt x.file)] 52) none) o3
    refine wpAnyH_ready (rs := [9]) (by kernel_rfl) (by simp) (AllReadyH.cons (o := ⟨some 45, _, _, _, _, _⟩) rfl (fun K hK => ?_) AllReadyH.nil)
    go_simp
    refine (dinsert0 _ x _ (fun j hj => by rw [World.cell?_alloc_new]; show (curC x).toArray[j]? = _; rw [List.getElem?_toArray])).mono ?_
    rintro e wI ⟨A, cap, rfl, hoI, gI⟩
    try (go_wp2_with fail)
    have gI2 := (gd.trans (gr_alloc wd (.cells #[.int .i64 x.id, .int .i64 x.rows, .int .i64 x.size, .int .i64 x.tl, .string (txt x.file)] 52) (some St))).trans (gr_any gI (some St))
    have hSI := stAt_gr (stAt_gr hS4 (gr_alloc wd (.cells #[.int .i64 x.id, .int .i64 x.rows, .int .i64 x.size, .int .i64 x.tl, .string (txt x.file)] 52) none)) gI
    refine hK.out _ _ ?_ (fun hHeld => ?_)
    · exact st.out _ gI2
    clear hK K hoI
    try simp only [Act.put, List.setIfInBounds_toArray, List.set_cons_zero, List.set_cons_succ]
    refine wpAnyH_take (i := 10) (oi := ⟨some 46, _, _, _, _, _⟩) (v := ?_) rfl (by kernel_rfl) (by kernel_rfl) (by kernel_rfl) (fun _ _ _ h => h) (Or.inl ⟨by rfl, ?_⟩) hHeld ?_
    rotate_left
    · intro w hSw
      try dsimp only at hSw
      go_simp
      first | done | with_reducible rfl
    try simp only [Act.put, List.setIfInBounds_toArray, List.set_cons_zero, List.set_cons_succ]
    refine wpAnyH_take (i := 11) (oi := ⟨some 47, _, _, _, _, _⟩) (v := ?_) rfl (by kernel_rfl) (by kernel_rfl) (by kernel_rfl) (fun _ _ _ h => h) (Or.inl ⟨by rfl, ?_⟩) hHeld ?_
    rotate_left
    · intro w hSw
      try dsimp only at hSw
      go_simp
      first | done | with_reducible rfl
    try simp only [Act.put, List.setIfInBounds_toArray, List.set_cons_zero, List.set_cons_succ]
    have o5 : wI.cell? ⟨St, 2, none⟩ = some (.slice none 0 0) := fcell hSI rfl
    have z5 := fzero hSI 2
    refine wpAnyH_ready (rs := [12]) (by kernel_rfl) (by simp) (AllReadyH.cons (o := ⟨none, _, _, _, _, _⟩) rfl (fun K hK => ?_) AllReadyH.nil)
    go_simp
    refine hK.out _ _ ?_ (fun hHeld => ?_)
    · exact st.out _ (gI2.trans (gr_set wI ⟨St, 2, none⟩ _))
    clear hK K
    try simp only [Act.put, List.setIfInBounds_toArray, List.set_cons_zero, List.set_cons_succ]
    refine wpAnyH_done (by kernel_rfl) ?_ _
    have hSF : StAt (wI.setCell ⟨St, 2, none⟩ (.slice A 1 cap)) St (x.id + 1) now (.slice A 1 cap) seg pts := blk_set hSI 2 (.slice A 1 cap)
    have gF := gI2.trans (gr_set wI ⟨St, 2, none⟩ (.slice A 1 cap))
    generalize wI.setCell ⟨St, 2, none⟩ (.slice A 1 cap) = WF at *
    clear o3 o4 o5 z5 hHeld hSI gI gI2 hS4 gd
    replace hSF := Lib.hid hSF
    replace gF := Lib.hid gF
    go_wp2
    go_end0
    exact ⟨rfl, ⟨A, cap, stAt_gr (stAt_gr (stAt_gr hSF.out (gr_alloc _ _ _)) (gr_alloc _ _ _)) (gr_alloc _ _ _)⟩, ((((gr_any g1.out (some St)).trans gF.out).trans (gr_alloc _ _ _)).trans (gr_alloc _ _ _)).trans (gr_alloc _ _ _)⟩
  · skip
    go_simp
    refine hK.out _ _ ?_ (fun hHeld => ?_)
    · exact st.out _ (gd.trans (gr_alloc _ _ _))
    clear hK K
    try simp only [Act.put, List.setIfInBounds_toArray, List.set_cons_zero, List.set_cons_succ]
    have o4 := gr_cell (gr_alloc wd (.cells #[.int .i64 x.id, .int .i64 x.rows, .int .i64 x.size, .int .i64 x.tl, .string (txt x.file)] 52) none) o3
    refine wpAnyH_ready (rs := [4]) (by kernel_rfl) (by simp) (AllReadyH.cons (o := ⟨some 40, _, _, _, _, _⟩) rfl (fun K hK => ?_) AllReadyH.nil)
    go_simp
    refine hK.out _ _ ?_ (fun hHeld => ?_)
    · exact hHeld
    clear hK K
    try simp only [Act.put, List.setIfInBounds_toArray, List.set_cons_zero, List.set_cons_succ]
    refine wpAnyH_ready (rs := [9]) (by kernel_rfl) (by simp) (AllReadyH.cons (o := ⟨some 45, _, _, _, _, _⟩) rfl (fun K hK => ?_) AllReadyH.nil)
    go_simp
    refine (dinsert0 _ x _ (fun j hj => by rw [World.cell?_alloc_new]; show (curC x).toArray[j]? = _; rw [List.getElem?_toArray])).mono ?_
    rintro e wI ⟨A, cap, rfl, hoI, gI⟩
    try (go_wp2_with fail)
    have gI2 := (gd.trans (gr_alloc wd (.cells #[.int .i64 x.id, .int .i64 x.rows, .int .i64 x.size, .int .i64 x.tl, .string (txt x.file)] 52) (some St))).trans (gr_any gI (some St))
    have hSI := stAt_gr (stAt_gr hS4 (gr_alloc wd (.cells #[.int .i64 x.id, .int .i64 x.rows, .int .i64 x.size, .int .i64 x.tl, .string (txt x.file)] 52) none)) gI
    refine hK.out _ _ ?_ (fun hHeld => ?_)
    · exact st.out _ gI2
    clear hK K hoI
    try simp only [Act.put, List.setIfInBounds_toArray, List.set_cons_zero, List.set_cons_succ]
    refine wpAnyH_take (i := 10) (oi := ⟨some 46, _, _, _, _, _⟩) (v := ?_) rfl (by kernel_rfl) (by kernel_rfl) (by kernel_rfl) (fun _ _ _ h => h) (Or.inl ⟨by rfl, ?_⟩) hHeld ?_
    rotate_left
    · intro w hSw
      try dsimp only at hSw
      go_simp
      first | done | with_reducible rfl
    try simp only [Act.put, List.setIfInBounds_toArray, List.set_cons_zero, List.set_cons_succ]
    refine wpAnyH_take (i := 11) (oi := ⟨some 47, _, _, _, _, _⟩) (v := ?_) rfl (by kernel_rfl) (by kernel_rfl) (by kernel_rfl) (fun _ _ _ h => h) (Or.inl ⟨by rfl, ?_⟩) hHeld ?_
    rotate_left
    · intro w hSw
      try dsimp only at hSw
      go_simp
      first | done | with_reducible rfl
    try simp only [Act.put, List.setIfInBounds_toArray, List.set_cons_zero, List.set_cons_succ]
    have o5 : wI.cell? ⟨St, 2, none⟩ = some (.slice none 0 0) := fcell hSI rfl
    have z5 := fzero hSI 2
    refine wpAnyH_ready (rs := [12]) (by kernel_rfl) (by simp) (AllReadyH.cons (o := ⟨none, _, _, _, _, _⟩) rfl (fun K hK => ?_) AllReadyH.nil)
    go_simp
    refine hK.out _ _ ?_ (fun hHeld => ?_)
    · exact st.out _ (gI2.trans (gr_set wI ⟨St, 2, none⟩ _))
    clear hK K
    try simp only [Act.put, List.setIfInBounds_toArray, List.set_cons_zero, List.set_cons_succ]
    refine wpAnyH_done (by kernel_rfl) ?_ _
    have hSF : StAt (wI.setCell ⟨St, 2, none⟩ (.slice A 1 cap)) St (x.id + 1) now (.slice A 1 cap) seg pts := blk_set hSI 2 (.slice A 1 cap)
    have gF := gI2.trans (gr_set wI ⟨St, 2, none⟩ (.slice A 1 cap))
    generalize wI.setCell ⟨St, 2, none⟩ (.slice A 1 cap) = WF at *
    clear o3 o4 o5 z5 hHeld hSI gI gI2 hS4 gd
    replace hSF := Lib.hid hSF
    replace gF := Lib.hid gF
    go_wp2
    go_end0
    exact ⟨rfl, ⟨A, cap, stAt_gr (stAt_gr (stAt_gr hSF.out (gr_alloc _ _ _)) (gr_alloc _ _ _)) (gr_alloc _ _ _)⟩, ((((gr_any g1.out (some St)).trans gF.out).trans (gr_alloc _ _ _)).trans (gr_alloc _ _ _)).trans (gr_alloc _ _ _)⟩
end Go.Proofs.YtmldoeeangekoaaGreatDoor.Dy
/- (soft)
  slices.IndexFunc, ContainsFunc, DeleteFunc of cursors, at the program's own tests. No condition but the row's own.
-/
namespace Go.Proofs.YtmldoeeangekoaaGreatDoor.Dy
open Go.RowKit

def curV (x : Cur) : Value := .agg #[.int .i64 x.id, .int .i64 x.rows, .int .i64 x.size, .int .i64 x.tl, .string (txt x.file)]
/-- Where the first of them is. -/
def IdxP (p : Cur → Bool) (zs : List Cur) (r : Int) : Prop := (r = -1 ∧ ∀ y ∈ zs, p y = false) ∨ ∃ (k : Nat) (x : Cur), r = k ∧ zs[k]? = some x ∧ p x = true ∧ ∀ y ∈ zs.take k, p y = false
theorem take_step {α : Type} {zs : List α} {k : Nat} {x : α} (h : zs[k]? = some x) : zs.take (k + 1) = zs.take k ++ [x] := by
  obtain ⟨h1, h2⟩ := List.getElem?_eq_some_iff.1 h
  rw [List.take_succ_eq_append_getElem h1, h2]
theorem all_step {α : Type} {p : α → Bool} {zs : List α} {k : Nat} {x : α} (h : zs[k]? = some x) (ha : ∀ y ∈ zs.take k, p y = false) (hx : p x = false) : ∀ y ∈ zs.take (k + 1), p y = false := by
  rw [take_step h]
  intro y hy
  rcases List.mem_append.1 hy with hy | hy
  · exact ha y hy
  · rw [List.mem_singleton.1 hy]; exact hx
theorem keep_all {p : Cur → Bool} {zs : List Cur} (h : ∀ y ∈ zs, p y = false) : zs.filter (fun y => !p y) = zs := List.filter_eq_self.2 fun y hy => by rw [h y hy]; rfl
theorem keep_not {p : Cur → Bool} {zs : List Cur} {j : Nat} {x : Cur} (h : zs[j]? = some x) (hp : p x = true) : (zs.take (j + 1)).filter (fun y => !p y) = (zs.take j).filter (fun y => !p y) := by
  rw [take_step h, List.filter_append]; simp [hp]
theorem keep_yes {p : Cur → Bool} {zs : List Cur} {j : Nat} {x : Cur} (h : zs[j]? = some x) (hp : p x = false) : (zs.take (j + 1)).filter (fun y => !p y) = (zs.take j).filter (fun y => !p y) ++ [x] := by
  rw [take_step h, List.filter_append]; simp [hp]
theorem at_drop {α : Type} {ws zs : List α} {j : Nat} (h : ws.drop j = zs.drop j) : ws[j]? = zs[j]? := by
  have := congrArg (fun l => l[0]?) h
  simpa [List.getElem?_drop] using this
theorem set_takes {α : Type} {ws : List α} {i : Nat} (x : α) (hi : i < ws.length) : (ws.set i x).take (i + 1) = ws.take i ++ [x] := by
  rw [take_step (x := x) (by rw [List.getElem?_set_self hi]), List.take_set_of_le (Nat.le_refl i)]
theorem set_drops {α : Type} {ws : List α} {i j : Nat} (x : α) (hi : i < j) : (ws.set i x).drop j = ws.drop j := List.drop_set_of_lt hi
theorem drop_step {α : Type} {ws zs : List α} {j : Nat} (h : ws.drop j = zs.drop j) : ws.drop (j + 1) = zs.drop (j + 1) := by
  rw [← List.drop_drop, h, List.drop_drop]
theorem infoCurS : (Tryz.prog.info? 52).map (·.size) = some 5 := by kernel_rfl
set_option maxHeartbeats 4000000 in
set_option maxRecDepth 100000 in
theorem didx_close (H : World → Prop) (p : Cur → Bool) (cv : Value) (hp : ∀ x W, H W → Calls Tryz.prog 126 #[curV x, cv] W fun e W' => e = .returned (.bool (p x)) ∧ Gr W W') (hH : ∀ W W', H W → Gr W W' → H W')
    (A : Option Addr) (n c : Nat) (zs : List Cur) (w : World) (hr : Row w A n 5 (sR curC zs)) (hn : n ≤ 9223372036854775807) (hw : H w) :
    Calls Tryz.prog 101 #[.slice A n c, .func (.func 126) #[] #[cv]] w fun e w' => (∃ r, e = .returned (.int .i64 r) ∧ IdxP p zs r) ∧ Gr w w' := by
  have hl : zs.length = n := by have := hr.1; rw [sR_len curC 5 curC_len] at this; omega
  unfold curV at hp
  replace hr := Lib.hid hr
  replace hw := Lib.hid hw
  replace hp := Lib.hid hp
  replace hH := Lib.hid hH
  replace hl := Lib.hid hl
  go_enter Tryz.func101, Tryz.ntmps101
  go_wp2
  go_loopw [8] (fun i wr => ∃ k : Nat, k ≤ n ∧ i = .int .i64 k ∧ Hid (∀ y ∈ zs.take k, p y = false) ∧ Hid (Gr w wr)) (fun i _ => n - (intOf i).toNat)
  case atStart => exact ⟨0, Nat.zero_le _, rfl, by show ∀ y ∈ zs.take 0, _; simp, gr_refl _ _⟩
  case round =>
    obtain ⟨k, hk, rfl, hno, hg⟩ := hrel
    by_cases hlt : k < n
    · obtain ⟨x, B, o, hx, rfl, _, hc⟩ := rowS_elem curC_len (row_gr hr.out hg.out) (by decide) hlt
      have hki : (k : Int) < (n : Int) := by omega
      have hk0 : (0 : Int) ≤ (k : Int) := by omega
      have d0 : wr.cell? ⟨B, o + k * 5, none⟩ = some (.int .i64 x.id) := hc 0 (by decide)
      have d1 : wr.cell? ⟨B, o + k * 5 + 1, none⟩ = some (.int .i64 x.rows) := hc 1 (by decide)
      have d2 : wr.cell? ⟨B, o + k * 5 + 2, none⟩ = some (.int .i64 x.size) := hc 2 (by decide)
      have d3 : wr.cell? ⟨B, o + k * 5 + 3, none⟩ = some (.int .i64 x.tl) := hc 3 (by decide)
      have d4 : wr.cell? ⟨B, o + k * 5 + 4, none⟩ = some (.string (txt x.file)) := hc 4 (by decide)
      clear hc
      go_wp2_with fail
      refine (hp.out x _ (hH.out _ _ hw.out hg.out)).mono ?_
      rintro e W2 ⟨rfl, g2⟩
      replace g2 := Lib.hid g2
      replace hx := Lib.hid hx
      cases hpx : p x with
      | true =>
        go_wp2
        go_ret
        exact ⟨⟨_, rfl, .inr ⟨k, x, rfl, hx.out, hpx, hno.out⟩⟩, gr_trans hg.out g2.out⟩
      | false =>
        go_wp2
        go_roundw
        case rel => exact ⟨k + 1, by omega, by go_num, all_step hx.out hno.out hpx, gr_trans hg.out g2.out⟩
        case measure => simp [intOf]; omega
    · obtain rfl : k = n := by omega
      go_wp2
      go_ret
      exact ⟨⟨_, rfl, .inl ⟨rfl, by have := hno.out; rwa [← hl.out, List.take_length] at this⟩⟩, hg.out⟩
set_option maxHeartbeats 8000000 in
set_option maxRecDepth 100000 in
theorem ddel_close (H : World → Prop) (p : Cur → Bool) (cv : Value) (hp : ∀ x W, H W → Calls Tryz.prog 126 #[curV x, cv] W fun e W' => e = .returned (.bool (p x)) ∧ Gr W W')
    (A : Option Addr) (n c : Nat) (base : Nat) (hH : ∀ W W', H W → W.grownBy W' (Value.slice A n c).ownBlock → H W') (zs : List Cur) (w : World) (hr : w.ownsRow base 52 5 (.slice A n c) n (sR curC zs)) (hn : n ≤ 9223372036854775807) (hw : H w) :
    Calls Tryz.prog 95 #[.slice A n c, .func (.func 126) #[] #[cv]] w fun e w' => ∃ k, e = .returned (.slice A k c) ∧ w'.ownsRow base 52 5 (.slice A k c) k (sR curC (zs.filter fun y => !p y)) ∧ w.grownBy w' (Value.slice A n c).ownBlock := by
  have hl : zs.length = n := by have := hr.1; rw [sR_len curC 5 curC_len] at this; omega
  have cI := didx_close H p cv hp (fun W W' h g => hH W W' h (gr_any g _)) A n c zs w (row_own hr) hn hw
  unfold curV at hp
  replace hr := Lib.hid hr
  replace hw := Lib.hid hw
  replace hp := Lib.hid hp
  replace hH := Lib.hid hH
  replace hl := Lib.hid hl
  go_enter Tryz.func95, Tryz.ntmps95
  go_wp2_with fail
  refine cI.mono ?_
  rintro e w1 ⟨⟨r, rfl, hix⟩, g1⟩
  clear cI
  rcases hix with ⟨rfl, hall⟩ | ⟨k, x0, rfl, hx0, hpx0, hno⟩
  · replace g1 := Lib.hid g1
    replace hall := Lib.hid hall
    go_wp2
    go_ret
    exact ⟨n, rfl, by rw [keep_all hall.out]; exact hr.out.kept g1.out (Classical.em _), gr_any g1.out _⟩
  · have hkn : k < n := by have := (List.getElem?_eq_some_iff.1 hx0).1; have := hl.out; omega
    have hr1 := hr.out.kept g1 (Classical.em _)
    obtain ⟨g, cap, hv, hbg, hgl⟩ := hr1.form (by omega)
    injection hv with h1 h2 h3
    subst h1 h3
    have hcn : n ≤ c ∧ c ≤ 9223372036854775807 := by obtain ⟨A', c', hv', h4, h5⟩ := own_openS hr1; injection hv' with _ _ h6; subst h6; unfold maxLen at h5; exact ⟨h4, by omega⟩
    have hkne : ((k : Int) == -1) = false := eqF (by omega)
    have hkw : IntKind.i64.wrap ((k : Int) + 1) = ((k + 1 : Nat) : Int) := by rw [IntWalk.i64_in _ (by omega)]; omega
    replace hr1 := Lib.hid hr1
    replace g1 := Lib.hid g1
    replace hx0 := Lib.hid hx0
    replace hpx0 := Lib.hid hpx0
    replace hno := Lib.hid hno
    clear hbg
    go_wp2
    go_loopw [5, 6] (fun iv jv wr => ∃ (i j : Nat) (ws : List Cur), i < j ∧ j ≤ n ∧ iv = .int .i64 i ∧ jv = .int .i64 j ∧ Hid (wr.ownsRow base 52 5 (.slice (some ⟨g, 0, none⟩) n c) n (sR curC ws)) ∧ Hid (ws.length = n ∧ ws.take i = (zs.take j).filter (fun y => !p y) ∧ ws.drop j = zs.drop j) ∧ Hid (w.grownBy wr (some g))) (fun _ jv _ => n - (intOf jv).toNat)
    case atStart =>
      refine ⟨k, k + 1, zs, Nat.lt_succ_self _, hkn, rfl, by first | rfl | rw [hkw], hr1.out, ⟨hl.out, ?_, rfl⟩, gr_any g1.out _⟩
      rw [keep_not hx0.out hpx0.out]
      exact (keep_all hno.out).symm
    case round =>
      clear hr1 hx0 hpx0 hno hkw hkne hkn
      obtain ⟨i, j, ws, hij, hjn, rfl, rfl, hro, hws, hg⟩ := hrel
      by_cases hlt : j < n
      · obtain ⟨x, hxz⟩ : ∃ x, zs[j]? = some x := ⟨_, List.getElem?_eq_getElem (by have := hl.out; omega)⟩
        have hxw : ws[j]? = some x := by rw [at_drop hws.out.2.2]; exact hxz
        have hjle : j * 5 + 5 ≤ n * 5 := by omega
        have hcl := fun (q : Nat) (hq : q < 5) => (hro.out.cellAt (j * 5 + q) (by omega)).trans (sR_at curC 5 curC_len hxw hq)
        have hji : (j : Int) < (n : Int) := by omega
        have hj0 : (0 : Int) ≤ (j : Int) := by omega
        have hii : (i : Int) < (n : Int) := by omega
        have hi0 : (0 : Int) ≤ (i : Int) := by omega
        have d0 : wr.cell? ⟨g, j * 5, none⟩ = some (.int .i64 x.id) := hcl 0 (by decide)
        have d1 : wr.cell? ⟨g, j * 5 + 1, none⟩ = some (.int .i64 x.rows) := hcl 1 (by decide)
        have d2 : wr.cell? ⟨g, j * 5 + 2, none⟩ = some (.int .i64 x.size) := hcl 2 (by decide)
        have d3 : wr.cell? ⟨g, j * 5 + 3, none⟩ = some (.int .i64 x.tl) := hcl 3 (by decide)
        have d4 : wr.cell? ⟨g, j * 5 + 4, none⟩ = some (.string (txt x.file)) := hcl 4 (by decide)
        obtain ⟨W2, hW2⟩ : ∃ W2, W2 = wr.alloc (.cells #[.int .i64 x.id, .int .i64 x.rows, .int .i64 x.size, .int .i64 x.tl, .string (txt x.file)] 52) := ⟨_, rfl⟩
        have g2 : Gr wr W2 := by rw [hW2]; exact gr_alloc _ _ _
        have q2 : ∀ q v, (#[.int .i64 x.id, .int .i64 x.rows, .int .i64 x.size, .int .i64 x.tl, .string (txt x.file)] : Array Value)[q]? = some v → W2.cell? ⟨wr.heap.size, q, none⟩ = some v := fun q v hq => by rw [hW2, World.cell?_alloc_new]; exact hq
        have e0 := q2 0 _ rfl
        have e1 := q2 1 _ rfl
        have e2 := q2 2 _ rfl
        have e3 := q2 3 _ rfl
        have e4 := q2 4 _ rfl
        have hH2 := hH.out _ _ hw.out (hg.out.trans (gr_any g2 (some g)))
        have hro2 := hro.out.kept g2 (Classical.em _)
        replace hW2 := Lib.hid hW2
        replace hro2 := Lib.hid hro2
        replace g2 := Lib.hid g2
        replace q2 := Lib.hid q2
        replace hxz := Lib.hid hxz
        replace hxw := Lib.hid hxw
        clear hcl
        go_wp2_with (rw [← hW2.out])
        refine (hp.out x _ hH2).mono ?_
        rintro e W3 ⟨rfl, g3⟩
        have hro3 := hro2.out.kept g3 (Classical.em _)
        have f0 := gr_cell g3 (q2.out 0 _ rfl)
        have f1 := gr_cell g3 (q2.out 1 _ rfl)
        have f2 := gr_cell g3 (q2.out 2 _ rfl)
        have f3 := gr_cell g3 (q2.out 3 _ rfl)
        have f4 := gr_cell g3 (q2.out 4 _ rfl)
        have hg3 : w.grownBy W3 (some g) := (hg.out.trans (gr_any g2.out _)).trans (gr_any g3 _)
        have hfx := own_setB curC_len hro3 (by decide) (show i < n by omega) x
        have hgs3 := gr_setCells W3 g (i * 5) (curC x)
        replace hro3 := Lib.hid hro3
        replace hg3 := Lib.hid hg3
        replace hgs3 := Lib.hid hgs3
        clear g3 hro2 hH2 e0 e1 e2 e3 e4 d0 d1 d2 d3 d4
        cases hpx : p x with
        | true =>
          clear hfx
          go_wp2
          go_roundw
          case rel => exact ⟨i, j + 1, ws, by omega, by omega, rfl, by go_num, hro3.out, ⟨hws.out.1, by rw [keep_not hxz.out hpx]; exact hws.out.2.1, drop_step hws.out.2.2⟩, hg3.out⟩
          case measure => simp [intOf]; omega
        | false =>
          obtain ⟨hfz, hso, hset⟩ := hfx
          have hth : W3.there g (i * 5) 5 := fun q hq => ⟨hso q hq, hfz _⟩
          replace hset := Lib.hid hset
          clear hfz hso
          go_wp2_with (refine wpList_store_mid (op := ⟨none, _, _, _, _, _⟩) rfl 52 _ _ rfl g (i * 5) #[.int .i64 x.id, .int .i64 x.rows, .int .i64 x.size, .int .i64 x.tl, .string (txt x.file)] rfl rfl hth infoCurS (by simp [Value.oneCell']) ?_)
          go_wp2
          go_roundw
          case rel => exact ⟨i + 1, j + 1, ws.set i x, by omega, by omega, by go_num, by go_num, hset.out, ⟨by rw [List.length_set]; exact hws.out.1, by rw [set_takes x (by rw [hws.out.1]; omega), keep_yes hxz.out hpx, hws.out.2.1], by rw [set_drops x (by omega)]; exact drop_step hws.out.2.2⟩, hg3.out.trans hgs3.out⟩
          case measure => simp [intOf]; omega
      · obtain rfl : j = n := by omega
        have hsome : ∀ q, q < (j - i) * 5 → (wr.cell? ⟨g, i * 5 + q, none⟩).isSome = true := fun q hq => own_some hro.out (by omega)
        obtain ⟨vs, hvl, hcl⟩ := run_clearK (P := Tryz.prog) wr 28 52 0 (.agg #[.int .i64 0, .int .i64 0, .int .i64 0, .int .i64 0, .string ⟨#[]⟩]) 5 Tryz.underlying28 (fun w => Tryz.zeroValue52 w) rfl (by simp [Value.cells, Value.oneCell']) (by decide) g (i * 5) (j - i) (c - i) (by omega) hsome (fun q hq => hro.out.frozenAt _)
        have hci : (c = i) = False := eq_false (by omega)
        have hii : (i : Int) ≤ (j : Int) := by omega
        have hi0 : (0 : Int) ≤ (i : Int) := by omega
        have hic : (i : Int) ≤ (c : Int) := by omega
        have hst := stored_all hro.out (i * 5) vs
        replace hst := Lib.hid hst
        replace hvl := Lib.hid hvl
        clear hsome
        go_wp2_with (at_builtin; refine wpList_clear_run _ rfl _ _ rfl _ rfl hcl ?_)
        all_goals
          go_ret
          refine ⟨i, rfl, ?_, hg.out.trans hst.out.2⟩
          have h9 := own_short hst.out.1 (show i ≤ j by omega)
          rw [setAll_take, ← sR_take curC 5 curC_len, hws.out.2.1] at h9
          have h8 : zs.take j = zs := by rw [← hl.out, List.take_length]
          rwa [h8] at h9
set_option maxHeartbeats 4000000 in
set_option maxRecDepth 100000 in
theorem didx_fold (H : World → Prop) (p : Cur → Bool) (cv : Value) (hp : ∀ x W, H W → Calls Tryz.prog 96 #[curV x, cv] W fun e W' => e = .returned (.bool (p x)) ∧ Gr W W') (hH : ∀ W W', H W → Gr W W' → H W')
    (A : Option Addr) (n c : Nat) (zs : List Cur) (w : World) (hr : Row w A n 5 (sR curC zs)) (hn : n ≤ 9223372036854775807) (hw : H w) :
    Calls Tryz.prog 101 #[.slice A n c, .func (.func 96) #[] #[cv]] w fun e w' => (∃ r, e = .returned (.int .i64 r) ∧ IdxP p zs r) ∧ Gr w w' := by
  have hl : zs.length = n := by have := hr.1; rw [sR_len curC 5 curC_len] at this; omega
  unfold curV at hp
  replace hr := Lib.hid hr
  replace hw := Lib.hid hw
  replace hp := Lib.hid hp
  replace hH := Lib.hid hH
  replace hl := Lib.hid hl
  go_enter Tryz.func101, Tryz.ntmps101
  go_wp2
  go_loopw [8] (fun i wr => ∃ k : Nat, k ≤ n ∧ i = .int .i64 k ∧ Hid (∀ y ∈ zs.take k, p y = false) ∧ Hid (Gr w wr)) (fun i _ => n - (intOf i).toNat)
  case atStart => exact ⟨0, Nat.zero_le _, rfl, by show ∀ y ∈ zs.take 0, _; simp, gr_refl _ _⟩
  case round =>
    obtain ⟨k, hk, rfl, hno, hg⟩ := hrel
    by_cases hlt : k < n
    · obtain ⟨x, B, o, hx, rfl, _, hc⟩ := rowS_elem curC_len (row_gr hr.out hg.out) (by decide) hlt
      have hki : (k : Int) < (n : Int) := by omega
      have hk0 : (0 : Int) ≤ (k : Int) := by omega
      have d0 : wr.cell? ⟨B, o + k * 5, none⟩ = some (.int .i64 x.id) := hc 0 (by decide)
      have d1 : wr.cell? ⟨B, o + k * 5 + 1, none⟩ = some (.int .i64 x.rows) := hc 1 (by decide)
      have d2 : wr.cell? ⟨B, o + k * 5 + 2, none⟩ = some (.int .i64 x.size) := hc 2 (by decide)
      have d3 : wr.cell? ⟨B, o + k * 5 + 3, none⟩ = some (.int .i64 x.tl) := hc 3 (by decide)
      have d4 : wr.cell? ⟨B, o + k * 5 + 4, none⟩ = some (.string (txt x.file)) := hc 4 (by decide)
      clear hc
      go_wp2_with fail
      refine (hp.out x _ (hH.out _ _ hw.out hg.out)).mono ?_
      rintro e W2 ⟨rfl, g2⟩
      replace g2 := Lib.hid g2
      replace hx := Lib.hid hx
      cases hpx : p x with
      | true =>
        go_wp2
        go_ret
        exact ⟨⟨_, rfl, .inr ⟨k, x, rfl, hx.out, hpx, hno.out⟩⟩, gr_trans hg.out g2.out⟩
      | false =>
        go_wp2
        go_roundw
        case rel => exact ⟨k + 1, by omega, by go_num, all_step hx.out hno.out hpx, gr_trans hg.out g2.out⟩
        case measure => simp [intOf]; omega
    · obtain rfl : k = n := by omega
      go_wp2
      go_ret
      exact ⟨⟨_, rfl, .inl ⟨rfl, by have := hno.out; rwa [← hl.out, List.take_length] at this⟩⟩, hg.out⟩
set_option maxHeartbeats 8000000 in
set_option maxRecDepth 100000 in
theorem ddel_fold (H : World → Prop) (p : Cur → Bool) (cv : Value) (hp : ∀ x W, H W → Calls Tryz.prog 96 #[curV x, cv] W fun e W' => e = .returned (.bool (p x)) ∧ Gr W W')
    (A : Option Addr) (n c : Nat) (base : Nat) (hH : ∀ W W', H W → W.grownBy W' (Value.slice A n c).ownBlock → H W') (zs : List Cur) (w : World) (hr : w.ownsRow base 52 5 (.slice A n c) n (sR curC zs)) (hn : n ≤ 9223372036854775807) (hw : H w) :
    Calls Tryz.prog 95 #[.slice A n c, .func (.func 96) #[] #[cv]] w fun e w' => ∃ k, e = .returned (.slice A k c) ∧ w'.ownsRow base 52 5 (.slice A k c) k (sR curC (zs.filter fun y => !p y)) ∧ w.grownBy w' (Value.slice A n c).ownBlock := by
  have hl : zs.length = n := by have := hr.1; rw [sR_len curC 5 curC_len] at this; omega
  have cI := didx_fold H p cv hp (fun W W' h g => hH W W' h (gr_any g _)) A n c zs w (row_own hr) hn hw
  unfold curV at hp
  replace hr := Lib.hid hr
  replace hw := Lib.hid hw
  replace hp := Lib.hid hp
  replace hH := Lib.hid hH
  replace hl := Lib.hid hl
  go_enter Tryz.func95, Tryz.ntmps95
  go_wp2_with fail
  refine cI.mono ?_
  rintro e w1 ⟨⟨r, rfl, hix⟩, g1⟩
  clear cI
  rcases hix with ⟨rfl, hall⟩ | ⟨k, x0, rfl, hx0, hpx0, hno⟩
  · replace g1 := Lib.hid g1
    replace hall := Lib.hid hall
    go_wp2
    go_ret
    exact ⟨n, rfl, by rw [keep_all hall.out]; exact hr.out.kept g1.out (Classical.em _), gr_any g1.out _⟩
  · have hkn : k < n := by have := (List.getElem?_eq_some_iff.1 hx0).1; have := hl.out; omega
    have hr1 := hr.out.kept g1 (Classical.em _)
    obtain ⟨g, cap, hv, hbg, hgl⟩ := hr1.form (by omega)
    injection hv with h1 h2 h3
    subst h1 h3
    have hcn : n ≤ c ∧ c ≤ 9223372036854775807 := by obtain ⟨A', c', hv', h4, h5⟩ := own_openS hr1; injection hv' with _ _ h6; subst h6; unfold maxLen at h5; exact ⟨h4, by omega⟩
    have hkne : ((k : Int) == -1) = false := eqF (by omega)
    have hkw : IntKind.i64.wrap ((k : Int) + 1) = ((k + 1 : Nat) : Int) := by rw [IntWalk.i64_in _ (by omega)]; omega
    replace hr1 := Lib.hid hr1
    replace g1 := Lib.hid g1
    replace hx0 := Lib.hid hx0
    replace hpx0 := Lib.hid hpx0
    replace hno := Lib.hid hno
    clear hbg
    go_wp2
    go_loopw [5, 6] (fun iv jv wr => ∃ (i j : Nat) (ws : List Cur), i < j ∧ j ≤ n ∧ iv = .int .i64 i ∧ jv = .int .i64 j ∧ Hid (wr.ownsRow base 52 5 (.slice (some ⟨g, 0, none⟩) n c) n (sR curC ws)) ∧ Hid (ws.length = n ∧ ws.take i = (zs.take j).filter (fun y => !p y) ∧ ws.drop j = zs.drop j) ∧ Hid (w.grownBy wr (some g))) (fun _ jv _ => n - (intOf jv).toNat)
    case atStart =>
      refine ⟨k, k + 1, zs, Nat.lt_succ_self _, hkn, rfl, by first | rfl | rw [hkw], hr1.out, ⟨hl.out, ?_, rfl⟩, gr_any g1.out _⟩
      rw [keep_not hx0.out hpx0.out]
      exact (keep_all hno.out).symm
    case round =>
      clear hr1 hx0 hpx0 hno hkw hkne hkn
      obtain ⟨i, j, ws, hij, hjn, rfl, rfl, hro, hws, hg⟩ := hrel
      by_cases hlt : j < n
      · obtain ⟨x, hxz⟩ : ∃ x, zs[j]? = some x := ⟨_, List.getElem?_eq_getElem (by have := hl.out; omega)⟩
        have hxw : ws[j]? = some x := by rw [at_drop hws.out.2.2]; exact hxz
        have hjle : j * 5 + 5 ≤ n * 5 := by omega
        have hcl := fun (q : Nat) (hq : q < 5) => (hro.out.cellAt (j * 5 + q) (by omega)).trans (sR_at curC 5 curC_len hxw hq)
        have hji : (j : Int) < (n : Int) := by omega
        have hj0 : (0 : Int) ≤ (j : Int) := by omega
        have hii : (i : Int) < (n : Int) := by omega
        have hi0 : (0 : Int) ≤ (i : Int) := by omega
        have d0 : wr.cell? ⟨g, j * 5, none⟩ = some (.int .i64 x.id) := hcl 0 (by decide)
        have d1 : wr.cell? ⟨g, j * 5 + 1, none⟩ = some (.int .i64 x.rows) := hcl 1 (by decide)
        have d2 : wr.cell? ⟨g, j * 5 + 2, none⟩ = some (.int .i64 x.size) := hcl 2 (by decide)
        have d3 : wr.cell? ⟨g, j * 5 + 3, none⟩ = some (.int .i64 x.tl) := hcl 3 (by decide)
        have d4 : wr.cell? ⟨g, j * 5 + 4, none⟩ = some (.string (txt x.file)) := hcl 4 (by decide)
        obtain ⟨W2, hW2⟩ : ∃ W2, W2 = wr.alloc (.cells #[.int .i64 x.id, .int .i64 x.rows, .int .i64 x.size, .int .i64 x.tl, .string (txt x.file)] 52) := ⟨_, rfl⟩
        have g2 : Gr wr W2 := by rw [hW2]; exact gr_alloc _ _ _
        have q2 : ∀ q v, (#[.int .i64 x.id, .int .i64 x.rows, .int .i64 x.size, .int .i64 x.tl, .string (txt x.file)] : Array Value)[q]? = some v → W2.cell? ⟨wr.heap.size, q, none⟩ = some v := fun q v hq => by rw [hW2, World.cell?_alloc_new]; exact hq
        have e0 := q2 0 _ rfl
        have e1 := q2 1 _ rfl
        have e2 := q2 2 _ rfl
        have e3 := q2 3 _ rfl
        have e4 := q2 4 _ rfl
        have hH2 := hH.out _ _ hw.out (hg.out.trans (gr_any g2 (some g)))
        have hro2 := hro.out.kept g2 (Classical.em _)
        replace hW2 := Lib.hid hW2
        replace hro2 := Lib.hid hro2
        replace g2 := Lib.hid g2
        replace q2 := Lib.hid q2
        replace hxz := Lib.hid hxz
        replace hxw := Lib.hid hxw
        clear hcl
        go_wp2_with (rw [← hW2.out])
        refine (hp.out x _ hH2).mono ?_
        rintro e W3 ⟨rfl, g3⟩
        have hro3 := hro2.out.kept g3 (Classical.em _)
        have f0 := gr_cell g3 (q2.out 0 _ rfl)
        have f1 := gr_cell g3 (q2.out 1 _ rfl)
        have f2 := gr_cell g3 (q2.out 2 _ rfl)
        have f3 := gr_cell g3 (q2.out 3 _ rfl)
        have f4 := gr_cell g3 (q2.out 4 _ rfl)
        have hg3 : w.grownBy W3 (some g) := (hg.out.trans (gr_any g2.out _)).trans (gr_any g3 _)
        have hfx := own_setB curC_len hro3 (by decide) (show i < n by omega) x
        have hgs3 := gr_setCells W3 g (i * 5) (curC x)
        replace hro3 := Lib.hid hro3
        replace hg3 := Lib.hid hg3
        replace hgs3 := Lib.hid hgs3
        clear g3 hro2 hH2 e0 e1 e2 e3 e4 d0 d1 d2 d3 d4
        cases hpx : p x with
        | true =>
          clear hfx
          go_wp2
          go_roundw
          case rel => exact ⟨i, j + 1, ws, by omega, by omega, rfl, by go_num, hro3.out, ⟨hws.out.1, by rw [keep_not hxz.out hpx]; exact hws.out.2.1, drop_step hws.out.2.2⟩, hg3.out⟩
          case measure => simp [intOf]; omega
        | false =>
          obtain ⟨hfz, hso, hset⟩ := hfx
          have hth : W3.there g (i * 5) 5 := fun q hq => ⟨hso q hq, hfz _⟩
          replace hset := Lib.hid hset
          clear hfz hso
          go_wp2_with (refine wpList_store_mid (op := ⟨none, _, _, _, _, _⟩) rfl 52 _ _ rfl g (i * 5) #[.int .i64 x.id, .int .i64 x.rows, .int .i64 x.size, .int .i64 x.tl, .string (txt x.file)] rfl rfl hth infoCurS (by simp [Value.oneCell']) ?_)
          go_wp2
          go_roundw
          case rel => exact ⟨i + 1, j + 1, ws.set i x, by omega, by omega, by go_num, by go_num, hset.out, ⟨by rw [List.length_set]; exact hws.out.1, by rw [set_takes x (by rw [hws.out.1]; omega), keep_yes hxz.out hpx, hws.out.2.1], by rw [set_drops x (by omega)]; exact drop_step hws.out.2.2⟩, hg3.out.trans hgs3.out⟩
          case measure => simp [intOf]; omega
      · obtain rfl : j = n := by omega
        have hsome : ∀ q, q < (j - i) * 5 → (wr.cell? ⟨g, i * 5 + q, none⟩).isSome = true := fun q hq => own_some hro.out (by omega)
        obtain ⟨vs, hvl, hcl⟩ := run_clearK (P := Tryz.prog) wr 28 52 0 (.agg #[.int .i64 0, .int .i64 0, .int .i64 0, .int .i64 0, .string ⟨#[]⟩]) 5 Tryz.underlying28 (fun w => Tryz.zeroValue52 w) rfl (by simp [Value.cells, Value.oneCell']) (by decide) g (i * 5) (j - i) (c - i) (by omega) hsome (fun q hq => hro.out.frozenAt _)
        have hci : (c = i) = False := eq_false (by omega)
        have hii : (i : Int) ≤ (j : Int) := by omega
        have hi0 : (0 : Int) ≤ (i : Int) := by omega
        have hic : (i : Int) ≤ (c : Int) := by omega
        have hst := stored_all hro.out (i * 5) vs
        replace hst := Lib.hid hst
        replace hvl := Lib.hid hvl
        clear hsome
        go_wp2_with (at_builtin; refine wpList_clear_run _ rfl _ _ rfl _ rfl hcl ?_)
        all_goals
          go_ret
          refine ⟨i, rfl, ?_, hg.out.trans hst.out.2⟩
          have h9 := own_short hst.out.1 (show i ≤ j by omega)
          rw [setAll_take, ← sR_take curC 5 curC_len, hws.out.2.1] at h9
          have h8 : zs.take j = zs := by rw [← hl.out, List.take_length]
          rwa [h8] at h9
set_option maxRecDepth 100000 in
theorem pclose_any (x : Cur) (b : Nat) (v : Int) (W : World) (h : W.cell? ⟨b, 0, none⟩ = some (.int .i64 v)) : Calls Tryz.prog 126 #[curV x, .pointer (some ⟨b, 0, none⟩)] W fun e W' => e = .returned (.bool (x.id == v)) ∧ Gr W W' := by
  unfold curV
  have h2 := gr_cell (gr_alloc W (.cells #[.int .i64 x.id, .int .i64 x.rows, .int .i64 x.size, .int .i64 x.tl, .string (txt x.file)] 52) none) h
  go_enter Tryz.func126, Tryz.ntmps126
  go_wp2
  go_ret
  exact ⟨rfl, gr_alloc _ _ _⟩
set_option maxRecDepth 100000 in
theorem pfold_any (x : Cur) (b St : Nat) (v : Int) (W : World) (h : W.cell? ⟨b, 0, none⟩ = some (.pointer (some ⟨St, 0, none⟩))) (hs : W.cell? ⟨St, 1, none⟩ = some (.int .i64 v)) : Calls Tryz.prog 96 #[curV x, .pointer (some ⟨b, 0, none⟩)] W fun e W' => e = .returned (.bool (decide (x.tl < v))) ∧ Gr W W' := by
  unfold curV
  have gA := gr_alloc W (.cells #[.int .i64 x.id, .int .i64 x.rows, .int .i64 x.size, .int .i64 x.tl, .string (txt x.file)] 52) none
  have h2 := gr_cell gA h
  have h3 := gr_cell gA hs
  have h4 := World.cell?_alloc_new W #[.int .i64 x.id, .int .i64 x.rows, .int .i64 x.size, .int .i64 x.tl, .string (txt x.file)] 52 3
  have h5 : (W.alloc (.cells #[.int .i64 x.id, .int .i64 x.rows, .int .i64 x.size, .int .i64 x.tl, .string (txt x.file)] 52)).cell? ⟨W.heap.size, 3, none⟩ = some (.int .i64 x.tl) := h4
  clear h4
  go_enter Tryz.func96, Tryz.ntmps96
  go_wp2_with fail
  go_quiet (fail)
  go_wp2
  go_ret
  exact ⟨rfl, gr_trans (gr_alloc _ _ _) (gr_drewN _ _ _)⟩
end Go.Proofs.YtmldoeeangekoaaGreatDoor.Dy
/- (soft)
  slices.BinarySearchFunc of cursors that stand by their ids. No condition but that ids are small enough for the machine's difference.
-/
namespace Go.Proofs.YtmldoeeangekoaaGreatDoor.Dy
open Go.RowKit

def Sorted (zs : List Cur) : Prop := zs.Pairwise (fun a b => a.id < b.id)
def Ids (zs : List Cur) : Prop := ∀ y ∈ zs, 1 ≤ y.id ∧ y.id ≤ 1000000
/-- So many are below. -/
def Place (zs : List Cur) (t : Int) (k : Nat) : Prop := k ≤ zs.length ∧ (∀ y ∈ zs.take k, y.id < t) ∧ ∀ y ∈ zs.drop k, t ≤ y.id
theorem sorted_at {zs : List Cur} (h : Sorted zs) {i j : Nat} {x y : Cur} (hx : zs[i]? = some x) (hy : zs[j]? = some y) (hij : i < j) : x.id < y.id := by
  obtain ⟨h1, rfl⟩ := List.getElem?_eq_some_iff.1 hx
  obtain ⟨h2, rfl⟩ := List.getElem?_eq_some_iff.1 hy
  exact List.pairwise_iff_getElem.1 h i j h1 h2 hij
theorem below_up {zs : List Cur} (h : Sorted zs) {k : Nat} {x : Cur} (hx : zs[k]? = some x) {t : Int} (ht : x.id < t) : ∀ y ∈ zs.take (k + 1), y.id < t := by
  intro y hy
  obtain ⟨i, hi⟩ := List.getElem?_of_mem hy
  rw [List.getElem?_take] at hi
  split at hi
  · rcases Nat.lt_or_ge i k with hik | hik
    · have := sorted_at h hi hx hik
      omega
    · have : i = k := by omega
      subst this
      rw [hx] at hi
      rw [← Option.some.inj hi]
      exact ht
  · cases hi
theorem above_down {zs : List Cur} (h : Sorted zs) {k : Nat} {x : Cur} (hx : zs[k]? = some x) {t : Int} (ht : t ≤ x.id) : ∀ y ∈ zs.drop k, t ≤ y.id := by
  intro y hy
  obtain ⟨i, hi⟩ := List.getElem?_of_mem hy
  rw [List.getElem?_drop] at hi
  rcases Nat.eq_zero_or_pos i with rfl | hik
  · rw [Nat.add_zero, hx] at hi
    rw [← Option.some.inj hi]
    exact ht
  · have := sorted_at h hx hi (by omega)
    omega
set_option maxRecDepth 100000 in
theorem order_any (x : Cur) (t : Int) (W : World) (hx : 1 ≤ x.id ∧ x.id ≤ 1000000) (ht : 1 ≤ t ∧ t ≤ 1000000) : Calls Tryz.prog 93 #[curV x, .int .i64 t] W fun e W' => e = .returned (.int .i64 (x.id - t)) ∧ Gr W W' := by
  unfold curV
  have hw : IntKind.i64.wrap (x.id - t) = x.id - t := IntWalk.i64_in _ (by omega)
  go_enter Tryz.func93, Tryz.ntmps93
  go_wp2
  go_ret
  exact ⟨rfl, gr_alloc _ _ _⟩
set_option maxHeartbeats 8000000 in
set_option maxRecDepth 100000 in
theorem dsearch (A : Option Addr) (n c : Nat) (zs : List Cur) (t : Int) (w : World) (hr : Row w A n 5 (sR curC zs)) (hn : n ≤ 100000) (hs : Sorted zs) (hi : Ids zs) (ht : 1 ≤ t ∧ t ≤ 1000000) :
    Calls Tryz.prog 92 #[.slice A n c, .int .i64 t, .func (.func 93) #[] #[]] w fun e w' => (∃ (k : Nat) (b : Bool), e = .returned (.tuple #[.int .i64 k, .bool b]) ∧ Place zs t k) ∧ Gr w w' := by
  have hl : zs.length = n := by have := hr.1; rw [sR_len curC 5 curC_len] at this; omega
  have cO := fun (x : Cur) W hx => order_any x t W hx ht
  unfold curV at cO
  replace hr := Lib.hid hr
  replace hl := Lib.hid hl
  replace hs := Lib.hid hs
  replace hi := Lib.hid hi
  replace cO := Lib.hid cO
  replace ht := Lib.hid ht
  go_enter Tryz.func92, Tryz.ntmps92
  go_wp2
  go_loopw [9, 10] (fun iv jv wr => ∃ i j : Nat, i ≤ j ∧ j ≤ n ∧ iv = .int .i64 i ∧ jv = .int .i64 j ∧ Hid (∀ y ∈ zs.take i, y.id < t) ∧ Hid (∀ y ∈ zs.drop j, t ≤ y.id) ∧ Hid (Gr w wr)) (fun iv jv _ => (intOf jv).toNat - (intOf iv).toNat)
  case atStart => exact ⟨0, n, Nat.zero_le _, Nat.le_refl _, rfl, rfl, by show Hid (∀ y ∈ zs.take 0, _); exact Lib.hid (by simp), by rw [← hl.out, List.drop_length]; exact Lib.hid (by simp), gr_refl _ _⟩
  case round =>
    obtain ⟨i, j, hij, hjn, rfl, rfl, hlo, hhi, hg⟩ := hrel
    by_cases hlt : i < j
    · obtain ⟨h, hh⟩ : ∃ h, h = (i + j) / 2 := ⟨_, rfl⟩
      have hhj : h < n := by omega
      obtain ⟨x, B, o, hx, rfl, _, hc⟩ := rowS_elem curC_len (row_gr hr.out hg.out) (by decide) hhj
      have hxi := hi.out x (List.mem_of_getElem? hx)
      have hiji : (i : Int) < (j : Int) := by omega
      have hw1 : IntKind.i64.wrap ((i : Int) + (j : Int)) = (i : Int) + (j : Int) := IntWalk.i64_in _ (by omega)
      have hw2 : IntKind.u64.wrap ((i : Int) + (j : Int)) = (i : Int) + (j : Int) := by rw [IntKind.wrap_u64]; omega
      have hhI : (h : Int) < (n : Int) := by omega
      have hh0 : (0 : Int) ≤ (h : Int) := by omega
      have d0 : wr.cell? ⟨B, o + h * 5, none⟩ = some (.int .i64 x.id) := hc 0 (by decide)
      have d1 : wr.cell? ⟨B, o + h * 5 + 1, none⟩ = some (.int .i64 x.rows) := hc 1 (by decide)
      have d2 : wr.cell? ⟨B, o + h * 5 + 2, none⟩ = some (.int .i64 x.size) := hc 2 (by decide)
      have d3 : wr.cell? ⟨B, o + h * 5 + 3, none⟩ = some (.int .i64 x.tl) := hc 3 (by decide)
      have d4 : wr.cell? ⟨B, o + h * 5 + 4, none⟩ = some (.string (txt x.file)) := hc 4 (by decide)
      clear hc
      go_upto_region 5 with fail
      have hhe : ((i : Int) + (j : Int)) / 2 = (h : Int) := by omega
      simp only [hhe]
      have hxb : x.id < t ∨ t ≤ x.id := by omega
      replace hxi := Lib.hid hxi
      replace hx := Lib.hid hx
      replace hh := Lib.hid hh
      clear hhe hw1 hw2
      go_wp2_with fail
      refine (cO.out x _ hxi.out).mono ?_
      rintro e W2 ⟨rfl, g2⟩
      replace g2 := Lib.hid g2
      rcases hxb with hxb | hxb
      · have hneg : x.id - t < 0 := by omega
        have hw3 : IntKind.i64.wrap ((h : Int) + 1) = (h : Int) + 1 := IntWalk.i64_in _ (by omega)
        go_wp2
        go_roundw
        case rel => exact ⟨h + 1, j, by have := hh.out; omega, hjn, by go_num, rfl, below_up hs.out hx.out hxb, hhi.out, gr_trans hg.out g2.out⟩
        case measure => simp [intOf]; have := hh.out; omega
      · have hneg : (x.id - t < 0) = False := eq_false (by omega)
        go_wp2
        go_roundw
        case rel => exact ⟨i, h, by have := hh.out; omega, by omega, rfl, rfl, hlo.out, above_down hs.out hx.out hxb, gr_trans hg.out g2.out⟩
        case measure => simp [intOf]; have := hh.out; omega
    · obtain rfl : i = j := by omega
      have hpl : Place zs t i := ⟨by rw [hl.out]; exact hjn, hlo.out, hhi.out⟩
      replace hpl := Lib.hid hpl
      by_cases hin : i < n
      · obtain ⟨x, B, o, hx, rfl, _, hc⟩ := rowS_elem curC_len (row_gr hr.out hg.out) (by decide) hin
        have hxi := hi.out x (List.mem_of_getElem? hx)
        have hhI : (i : Int) < (n : Int) := by omega
        have hh0 : (0 : Int) ≤ (i : Int) := by omega
        have d0 : wr.cell? ⟨B, o + i * 5, none⟩ = some (.int .i64 x.id) := hc 0 (by decide)
        have d1 : wr.cell? ⟨B, o + i * 5 + 1, none⟩ = some (.int .i64 x.rows) := hc 1 (by decide)
        have d2 : wr.cell? ⟨B, o + i * 5 + 2, none⟩ = some (.int .i64 x.size) := hc 2 (by decide)
        have d3 : wr.cell? ⟨B, o + i * 5 + 3, none⟩ = some (.int .i64 x.tl) := hc 3 (by decide)
        have d4 : wr.cell? ⟨B, o + i * 5 + 4, none⟩ = some (.string (txt x.file)) := hc 4 (by decide)
        replace hxi := Lib.hid hxi
        clear hc hx
        go_wp2_with fail
        refine (cO.out x _ hxi.out).mono ?_
        rintro e W2 ⟨rfl, g2⟩
        go_wp2
        go_ret2
        exact ⟨⟨i, _, rfl, hpl.out⟩, gr_trans hg.out g2⟩
      · have hhI : ((i : Int) < (n : Int)) = False := eq_false (by omega)
        go_wp2
        go_ret2
        exact ⟨⟨i, _, rfl, hpl.out⟩, hg.out⟩
end Go.Proofs.YtmldoeeangekoaaGreatDoor.Dy
/- (soft)
  slices.Insert of one cursor, in all its ways. No condition but the row's own.
-/
namespace Go.Proofs.YtmldoeeangekoaaGreatDoor.Dy
open Go.RowKit

theorem sizeCur (w : World) : (Go.sizeOf 52).run Tryz.prog w = .ok 5 w := by
  obtain ⟨ii, hi, hz0, hz1, hz2⟩ := info_parts infoCur
  simp [Go.sizeOf, typeInfo, hi, hz1]
theorem curC_one (x : Cur) : ∀ v ∈ curC x, v.oneCell' = true := by
  intro u hu
  simp only [curC, List.mem_cons, List.not_mem_nil, or_false] at hu
  rcases hu with rfl | rfl | rfl | rfl | rfl <;> rfl
theorem sRc_one (zs : List Cur) : ∀ v ∈ sR curC zs, v.oneCell' = true := by
  intro u hu
  obtain ⟨x, _, hx⟩ := List.mem_flatMap.1 hu
  exact curC_one x u hx
/-- The rest first, then the one. -/
theorem ins_late (X a x b : List Value) (hX : X.take a.length = a) (hl : X.length = a.length + x.length + b.length) : setAll (setAll X (a.length + x.length) b) a.length x = a ++ (x ++ b) := by
  have h1 := setAll_mid (X.take (a.length + x.length)) (X.drop (a.length + x.length)) b (by rw [List.length_drop]; omega)
  rw [List.take_append_drop, List.length_take, Nat.min_eq_left (by omega), List.drop_drop, List.drop_eq_nil_of_le (show X.length ≤ a.length + x.length + b.length by omega), List.append_nil] at h1
  rw [h1, List.take_add, hX, List.append_assoc]
  have h2 := setAll_mid a ((X.drop a.length).take x.length ++ b) x (by rw [List.length_append, List.length_take, List.length_drop]; omega)
  rw [h2, List.drop_left' (by rw [List.length_take, List.length_drop]; omega)]
/-- The one first, then the rest. -/
theorem ins_soon (X a x b : List Value) (hX : X.take a.length = a) (hl : X.length = a.length + x.length + b.length) : setAll (setAll X a.length x) (a.length + x.length) b = a ++ (x ++ b) := by
  have h1 := setAll_mid a (X.drop a.length) x (by rw [List.length_drop]; omega)
  have h0 : a ++ X.drop a.length = X := by conv => rhs; rw [← List.take_append_drop a.length X, hX]
  rw [h0, List.drop_drop, ← List.append_assoc] at h1
  have h2 := setAll_mid (a ++ x) (X.drop (a.length + x.length)) b (by rw [List.length_drop]; omega)
  rw [List.length_append, List.drop_drop, List.drop_eq_nil_of_le (show X.length ≤ a.length + x.length + b.length by omega), List.append_nil] at h2
  rw [h1, h2, List.append_assoc]
theorem gr_then_new {w w1 w2 : World} {r : Option Nat} {k : Nat} (h : w.grownBy w1 r) (g : w1.grownBy w2 (some k)) (hk : w.heap.size ≤ k) : w.grownBy w2 r :=
  ⟨g.os.trans h.os, g.tape.trans h.tape, g.output.trans h.output, Nat.le_trans h.size g.size, fun i hi hr => (g.block i (Nat.lt_of_lt_of_le hi h.size) (fun e => by have := Option.some.inj e; omega)).trans (h.block i hi hr)⟩
/-- What is inserted, and where it lies. -/
def InsAt (w w' : World) (base n : Nat) (ob : Option Nat) (out : List Cur) (e : Ending) : Prop :=
  ∃ A' c', e = .returned (.slice A' (n + 1) c') ∧ w'.ownsRow base 52 5 (.slice A' (n + 1) c') (n + 1) (sR curC out) ∧ w.grownBy w' ob
set_option maxHeartbeats 8000000 in
set_option maxRecDepth 100000 in
theorem dins_end (A : Option Addr) (n c base B : Nat) (zs : List Cur) (x : Cur) (w : World) (hbase : base ≤ w.heap.size) (h : w.ownsRow base 52 5 (.slice A n c) n (sR curC zs)) (hn : n ≤ 100000) (hc : n ≤ c ∧ c ≤ 9223372036854775807)
    (hx : ∀ j, j < 5 → w.cell? ⟨B, j, none⟩ = (curC x)[j]?) :
    Calls Tryz.prog 94 #[.slice A n c, .int .i64 n, .slice (some ⟨B, 0, none⟩) 1 1] w fun e w' => InsAt w w' base n (Value.slice A n c).ownBlock (zs ++ [x]) e := by
  obtain ⟨ii, hi, hz0, hz1, hz2⟩ := info_parts infoCur
  have hnn : (n : Int) ≤ (n : Int) := Int.le_refl _
  have hn0 : (0 : Int) ≤ (n : Int) := by omega
  replace hx := Lib.hid hx
  replace h := Lib.hid h
  go_enter Tryz.func94, Tryz.ntmps94
  cases A with
  | none =>
    have hz : n = 0 ∧ c = 0 := by
      rcases h.out.2 with ⟨hv, h0⟩ | ⟨g, cap, cur, hv, _⟩
      · injection hv with _ _ h3; exact ⟨h0, h3⟩
      · injection hv with h1; cases h1
    obtain ⟨rfl, rfl⟩ := hz
    go_wp2_with (at_builtin; refine wpList_append_own _ rfl _ _ 28 rfl base 52 ii (.agg #[.int .i64 0, .int .i64 0, .int .i64 0, .int .i64 0, .string ⟨#[]⟩]) 5 48 Tryz.underlying28 hi hz0 hz1 hz2 rfl (by decide) (.slice none 0 0) 0 (sR curC zs) rfl h.out ⟨B, 0, none⟩ 1 1 (curC x) rfl rfl ?c1 ?c2 ?c3 ?c4 ?c5 ?_; rotate_right; intro v' W5 hown5 hgrow _nl; clear _nl; replace hown5 := Lib.hid hown5; replace hgrow := Lib.hid hgrow)
    case c1 => exact fun j u hj => by rw [add_plain, Nat.zero_add, hx.out j (List.getElem?_eq_some_iff.1 hj).1]; exact hj
    case c2 => exact curC_one x
    case c3 => unfold maxLen; omega
    case c4 => omega
    case c5 => exact hbase
    obtain ⟨A', cap, rfl, _, _⟩ := own_openS hown5.out
    go_ret
    exact ⟨A', cap, rfl, by rw [sR_append, sR_one]; exact hown5.out, hgrow.out⟩
  | some a =>
    obtain ⟨g, rfl⟩ : ∃ g, a = ⟨g, 0, none⟩ := by
      rcases h.out.2 with ⟨hv, _⟩ | ⟨g, cap, cur, hv, _⟩
      · injection hv with h1; cases h1
      · injection hv with h1; exact ⟨g, Option.some.inj h1⟩
    have hnc := hc.1
    by_cases hnc2 : c = n
    · subst hnc2
      go_wp2_with (at_builtin; refine wpList_append_own _ rfl _ _ 28 rfl base 52 ii (.agg #[.int .i64 0, .int .i64 0, .int .i64 0, .int .i64 0, .string ⟨#[]⟩]) 5 48 Tryz.underlying28 hi hz0 hz1 hz2 rfl (by decide) (.slice (some ⟨g, 0, none⟩) c c) c (sR curC zs) rfl h.out ⟨B, 0, none⟩ 1 1 (curC x) rfl rfl ?d1 ?d2 ?d3 ?d4 ?d5 ?_; rotate_right; intro v' W5 hown5 hgrow _nl; clear _nl; replace hown5 := Lib.hid hown5; replace hgrow := Lib.hid hgrow)
      case d1 => exact fun j u hj => by rw [add_plain, Nat.zero_add, hx.out j (List.getElem?_eq_some_iff.1 hj).1]; exact hj
      case d2 => exact curC_one x
      case d3 => unfold maxLen; omega
      case d4 => omega
      case d5 => exact hbase
      obtain ⟨A', cap, rfl, _, _⟩ := own_openS hown5.out
      go_ret
      exact ⟨A', cap, rfl, by rw [sR_append, sR_one]; exact hown5.out, hgrow.out⟩
    · have hcf : (c = n) = False := eq_false hnc2
      replace hnc2 := Lib.hid hnc2
      go_wp2_with (at_builtin; refine wpList_append_own _ rfl _ _ 28 rfl base 52 ii (.agg #[.int .i64 0, .int .i64 0, .int .i64 0, .int .i64 0, .string ⟨#[]⟩]) 5 48 Tryz.underlying28 hi hz0 hz1 hz2 rfl (by decide) (.slice (some ⟨g, 0, none⟩) n c) n (sR curC zs) rfl h.out ⟨B, 0, none⟩ 1 1 (curC x) rfl rfl ?e1 ?e2 ?e3 ?e4 ?e5 ?_; rotate_right; intro v' W5 hown5 hgrow _nl; clear _nl; replace hown5 := Lib.hid hown5; replace hgrow := Lib.hid hgrow)
      case e1 => exact fun j u hj => by rw [add_plain, Nat.zero_add, hx.out j (List.getElem?_eq_some_iff.1 hj).1]; exact hj
      case e2 => exact curC_one x
      case e3 => unfold maxLen; omega
      case e4 => omega
      case e5 => exact hbase
      obtain ⟨A', cap, rfl, _, _⟩ := own_openS hown5.out
      go_ret
      exact ⟨A', cap, rfl, by rw [sR_append, sR_one]; exact hown5.out, hgrow.out⟩
set_option maxHeartbeats 8000000 in
set_option maxRecDepth 100000 in
theorem dins_shift (g n c base B k : Nat) (zs : List Cur) (x : Cur) (w : World) (h : w.ownsRow base 52 5 (.slice (some ⟨g, 0, none⟩) n c) n (sR curC zs)) (hn : n ≤ 100000) (hk : k < n) (hroom : n + 1 ≤ c) (hcm : c ≤ 9223372036854775807)
    (hx : w.heap[B]? = some (.cells (curC x).toArray 52 (0, 0))) (hBg : B ≠ g) :
    Calls Tryz.prog 94 #[.slice (some ⟨g, 0, none⟩) n c, .int .i64 k, .slice (some ⟨B, 0, none⟩) 1 1] w fun e w' => InsAt w w' base n (some g) (zs.take k ++ x :: zs.drop k) e := by
  have hl : zs.length = n := by have := h.1; rw [sR_len curC 5 curC_len] at this; omega
  obtain ⟨ys, hys, hwide⟩ := own_wide h hroom
  have hsh1 : w.shape? B = some (52, 5) := by simp [World.shape?, hx, curC]
  obtain ⟨kg, hsh2, hkg⟩ : ∃ kg, w.shape? g = some (52, kg) ∧ kg ≠ 0 := by
    rcases h.2 with ⟨hv, _⟩ | ⟨g', cap, cur, hv, _, hg, _, _, hcs, _⟩
    · injection hv with h1; cases h1
    · injection hv with h1 h2 h3
      injection Option.some.inj h1 with h4
      subst h4 h3
      exact ⟨cur.size, by simp [World.shape?, hg], by omega⟩
  have hfB : ∀ j, w.frozen? ⟨B, j, none⟩ = false := fun j => frozen_of_row w B j _ _ hx
  have hov : ∀ lb cb, (callFunc 127 #[.slice (some ⟨B, 0, none⟩) 1 1, .slice (some ⟨g, (k + 1) * 5, none⟩) lb cb]).run Tryz.prog w = .ok (.value (.bool false)) w := fun lb cb => by
    rw [run_callFunc_extern Tryz.func127 (by kernel_rfl) (by kernel_rfl) (by kernel_rfl) (e := Extern.SlicesOverlaps.overlaps #[28, 28] #[4]) (by kernel_rfl),
      Lib.run_overlaps_apart w 28 4 52 Tryz.underlying28 5 sizeCur ⟨B, 0, none⟩ ⟨g, (k + 1) * 5, none⟩ 1 1 lb cb hBg _ _ 5 kg hsh1 hsh2 hkg (hfB 0) (hfB 5)]
    rfl
  have hdl : (sR curC (zs.drop k)).length = (n - k) * 5 := by rw [sR_len curC 5 curC_len, List.length_drop, hl]
  have hsrc1 : ∀ j v, (sR curC (zs.drop k))[j]? = some v → w.cell? ((⟨g, k * 5, none⟩ : Addr).add j) = some v := fun j v hj => by
    rw [sR_drop curC 5 curC_len, List.getElem?_drop] at hj
    have hlt := (List.getElem?_eq_some_iff.1 hj).1
    rw [h.1] at hlt
    rw [add_plain, h.cellAt _ (by omega)]
    exact hj
  have hsome : ∀ (W : World), W.ownsRow base 52 5 (.slice (some ⟨g, 0, none⟩) (n + 1) c) (n + 1) (sR curC zs ++ ys) → True := fun _ _ => trivial
  have hcp1 : ∀ ty dc sc, (Builtin.copy_ #[28, 28] ty #[.slice (some ⟨g, (k + 1) * 5, none⟩) (n - k) dc, .slice (some ⟨g, k * 5, none⟩) (n + 1 - k) sc]).run Tryz.prog w.drew = .ok (goInt (Nat.min (n + 1 - k) (n - k))) (w.drew.setCells g ((k + 1) * 5) (sR curC (zs.drop k))) := fun ty dc sc =>
    run_copyK w.drew _ _ ty 52 5 g ((k + 1) * 5) (n - k) dc ⟨g, k * 5, none⟩ (n + 1 - k) sc (sR curC (zs.drop k)) Tryz.underlying28 infoCurS (by rw [hdl]; show _ = min (n + 1 - k) (n - k) * 5; omega)
      hsrc1 (fun j hj => own_some hwide (by rw [hdl] at hj; omega)) (fun j _ => hwide.frozenAt _) (sRc_one _)
  have hown0 : w.drew.ownsRow base 52 5 (.slice (some ⟨g, 0, none⟩) (n + 1) c) (n + 1) (sR curC zs ++ ys) := hwide
  obtain ⟨hown1, hg1⟩ := stored_all hown0 ((k + 1) * 5) (sR curC (zs.drop k))
  obtain ⟨W1, hW1⟩ : ∃ W1, W1 = w.drew.setCells g ((k + 1) * 5) (sR curC (zs.drop k)) := ⟨_, rfl⟩
  rw [← hW1] at hown1 hg1 hcp1
  have hxc : ∀ j v, (curC x)[j]? = some v → W1.cell? ((⟨B, 0, none⟩ : Addr).add j) = some v := fun j v hj => by
    rw [add_plain, Nat.zero_add]
    refine hg1.cell (show w.drew.cell? _ = _ from ?_) (by simp; exact hBg)
    show w.cell? _ = _
    rw [cell_of_row w B j _ _ _ hx, List.getElem?_toArray]
    exact hj
  have hcp2 : ∀ ty dc, (Builtin.copy_ #[28, 28] ty #[.slice (some ⟨g, k * 5, none⟩) (n + 1 - k) dc, .slice (some ⟨B, 0, none⟩) 1 1]).run Tryz.prog W1 = .ok (goInt (Nat.min 1 (n + 1 - k))) (W1.setCells g (k * 5) (curC x)) := fun ty dc =>
    run_copyK W1 _ _ ty 52 5 g (k * 5) (n + 1 - k) dc ⟨B, 0, none⟩ 1 1 (curC x) Tryz.underlying28 infoCurS (by rw [curC_len]; show _ = min 1 (n + 1 - k) * 5; omega)
      hxc (fun j hj => own_some hown1 (by rw [curC_len] at hj; omega)) (fun j _ => hown1.frozenAt _) (curC_one x)
  obtain ⟨hown2, hg2⟩ := stored_all hown1 (k * 5) (curC x)
  have hta : (sR curC (zs.take k)).length = k * 5 := by rw [sR_len curC 5 curC_len, List.length_take, hl, Nat.min_eq_left (by omega)]
  have hfin : setAll (setAll (sR curC zs ++ ys) ((k + 1) * 5) (sR curC (zs.drop k))) (k * 5) (curC x) = sR curC (zs.take k ++ x :: zs.drop k) := by
    have h9 := ins_late (sR curC zs ++ ys) (sR curC (zs.take k)) (curC x) (sR curC (zs.drop k)) (by rw [hta, List.take_append_of_le_length (by rw [sR_len curC 5 curC_len]; omega), ← sR_take curC 5 curC_len]) (by rw [List.length_append, sR_len curC 5 curC_len, hta, hdl, hys, curC_len]; omega)
    rw [hta, curC_len, show k * 5 + 5 = (k + 1) * 5 by omega] at h9
    rw [h9, sR_append, sR_cons]
  rw [hfin] at hown2
  have hgf : w.grownBy (W1.setCells g (k * 5) (curC x)) (some g) := ((gr_drew w (some g)).trans hg1).trans hg2
  have hw1 : IntKind.i64.wrap ((n : Int) + 1) = (n : Int) + 1 := IntWalk.i64_in _ (by omega)
  have hw2 : IntKind.i64.wrap ((k : Int) + 1) = (k : Int) + 1 := IntWalk.i64_in _ (by omega)
  have hkn : ((k : Int) == (n : Int)) = false := eqF (by omega)
  have hgt : ((c : Int) < (n : Int) + 1) = False := eq_false (by omega)
  have hk0 : (0 : Int) ≤ (k : Int) := by omega
  have hk1 : (0 : Int) ≤ (k : Int) + 1 := by omega
  have hk2 : (k : Int) ≤ (n : Int) := by omega
  have hk3 : (k : Int) ≤ (n : Int) + 1 := by omega
  have hk4 : (k : Int) + 1 ≤ (n : Int) + 1 := by omega
  have hk5 : (c = k) = False := eq_false (by omega)
  have hk6 : (c = k + 1) = False := eq_false (by omega)
  have hk7 : ((k : Int) + 1).toNat = k + 1 := by omega
  have hk8 : ((n : Int) + 1).toNat = n + 1 := by omega
  have hk9 : (n : Int) + 1 ≤ (c : Int) := by omega
  have hk10 : (0 : Int) ≤ (n : Int) + 1 := by omega
  replace hown2 := Lib.hid hown2
  replace hgf := Lib.hid hgf
  replace hW1 := Lib.hid hW1
  clear hfin hg2 hg1 hown1 hown0 hsome hsrc1 hxc hta hdl hwide h hys hl hsh1 hsh2 hfB hx
  go_enter Tryz.func94, Tryz.ntmps94
  go_wp2_with (simp only [hov])
  go_region_law (refine step_copy_runK rfl _ _ 28 28 rfl _ _ (by simp [Act.eval, Act.put]) (by simp [Act.eval, Act.put]) (hcp1 _ _ _) ?_)
  go_wp2_with (at_builtin; refine wpList_copy_runK _ rfl _ _ 28 28 rfl _ _ rfl rfl (hcp2 _ _) ?_)
  go_ret
  exact ⟨_, _, rfl, hown2.out, hgf.out⟩
set_option maxHeartbeats 8000000 in
set_option maxRecDepth 100000 in
theorem dins_grow (g n base B k : Nat) (zs : List Cur) (x : Cur) (w : World) (hbase : base ≤ w.heap.size) (h : w.ownsRow base 52 5 (.slice (some ⟨g, 0, none⟩) n n) n (sR curC zs)) (hn : n ≤ 100000) (hk : k < n)
    (hx : w.heap[B]? = some (.cells (curC x).toArray 52 (0, 0))) :
    Calls Tryz.prog 94 #[.slice (some ⟨g, 0, none⟩) n n, .int .i64 k, .slice (some ⟨B, 0, none⟩) 1 1] w fun e w' => InsAt w w' base n (some g) (zs.take k ++ x :: zs.drop k) e := by
  obtain ⟨ii, hi, hz0, hz1, hz2⟩ := info_parts infoCur
  have hl : zs.length = n := by have := h.1; rw [sR_len curC 5 curC_len] at this; omega
  have hgw : g < w.heap.size := (h.lt g rfl).2
  have hBw : B < w.heap.size := lt_of_blk hx
  have hta : (sR curC (zs.take k)).length = k * 5 := by rw [sR_len curC 5 curC_len, List.length_take, hl, Nat.min_eq_left (by omega)]
  have hdl : (sR curC (zs.drop k)).length = (n - k) * 5 := by rw [sR_len curC 5 curC_len, List.length_drop, hl]
  have hold : (Builtin.firstCells ii.size k (.slice (some ⟨g, 0, none⟩) k n)).run Tryz.prog w.drew = .ok (sR curC (zs.take k)).toArray w.drew := by
    rw [hz1]
    refine run_firstCells_some w.drew 5 k ⟨g, 0, none⟩ k n (sR curC (zs.take k)) hta (fun j v hj => ?_)
    rw [add_plain, Nat.zero_add]
    rw [sR_take curC 5 curC_len, List.getElem?_take] at hj
    split at hj
    · show w.cell? _ = _
      rw [h.cellAt _ (by omega)]
      exact hj
    · cases hj
  have hrz : ∀ ty, (Builtin.append_ #[28, 3] ty #[.slice (some ⟨g, 0, none⟩) k n, .int .i64 (((n + 1 - k : Nat)) : Int)]).run Tryz.prog w = _ := fun ty =>
    Lib.run_append_grow_zeros w 28 3 ty 52 ii _ .i64 .i64 Tryz.underlying28 Tryz.underlying3 hi hz0 (some ⟨g, 0, none⟩) k n (sR curC (zs.take k)) hold (n + 1 - k) (by omega) (by omega) (by omega) (by omega) (by rw [hz2]; omega) (by rw [hz2]; exact growslice_fits (by omega) (by omega))
  rw [show k + (n + 1 - k) = n + 1 by omega] at hrz
  have hGn : n + 1 ≤ grownCap w (n + 1) n 52 := grownCap_ge w _ _ _
  have hGm : grownCap w (n + 1) n 52 ≤ maxLen := grownCap_le_maxLen w (n + 1) n 52 (by unfold maxLen; omega)
  have hzc : ∀ m, (Builtin.zeroCells (Value.agg #[.int .i64 0, .int .i64 0, .int .i64 0, .int .i64 0, .string ⟨#[]⟩]).cells m).size = m * 5 := fun m => by simp [Builtin.zeroCells, Value.cells]
  generalize grownCap w (n + 1) n 52 = G at *
  obtain ⟨ROW, hROW⟩ : ∃ ROW : Array Value, ROW = (sR curC (zs.take k)).toArray ++ Builtin.zeroCells (Value.agg #[.int .i64 0, .int .i64 0, .int .i64 0, .int .i64 0, .string ⟨#[]⟩]).cells (n + 1 - k) ++ Builtin.zeroCells (Value.agg #[.int .i64 0, .int .i64 0, .int .i64 0, .int .i64 0, .string ⟨#[]⟩]).cells (G - (n + 1)) := ⟨_, rfl⟩
  rw [← hROW] at hrz
  have hRs : ROW.size = G * 5 := by rw [hROW]; simp [hzc, hta]; omega
  have hRt : ROW.toList.take (k * 5) = sR curC (zs.take k) := by
    rw [hROW, Array.toList_append, Array.toList_append, List.append_assoc, List.take_left' (by rw [List.toList_toArray]; exact hta), List.toList_toArray]
  have hle : (n + 1) * 5 ≤ G * 5 := by omega
  obtain ⟨W0, hW0⟩ : ∃ W0, W0 = w.drew.alloc (.cells ROW 52) := ⟨_, rfl⟩
  have hown0 : W0.ownsRow base 52 5 (.slice (some ⟨w.heap.size, 0, none⟩) (n + 1) G) (n + 1) (ROW.toList.take ((n + 1) * 5)) := by
    rw [hW0]
    refine ⟨by rw [List.length_take, Array.length_toList, hRs]; omega, .inr ⟨w.heap.size, G, ROW, rfl, hbase, ?_, hGn, hGm, hRs, rfl⟩⟩
    exact heap_alloc_new w.drew _
  have hg0 : w.grownBy W0 (some g) := by rw [hW0]; exact (gr_drew w _).trans (gr_alloc _ _ _)
  rw [← hW0] at hrz
  have hxc : ∀ (W : World), Gr w W → ∀ j v, (curC x)[j]? = some v → W.cell? ((⟨B, 0, none⟩ : Addr).add j) = some v := fun W gW j v hj => by
    rw [add_plain, Nat.zero_add]
    refine gr_cell gW ?_
    rw [cell_of_row w B j _ _ _ hx, List.getElem?_toArray]
    exact hj
  have hGr0 : Gr w W0 := by rw [hW0]; exact gr_trans (gr_drew w _) (gr_alloc _ _ _)
  have hcp1 : ∀ ty dc, (Builtin.copy_ #[28, 28] ty #[.slice (some ⟨w.heap.size, k * 5, none⟩) (n + 1 - k) dc, .slice (some ⟨B, 0, none⟩) 1 1]).run Tryz.prog W0 = .ok (goInt (Nat.min 1 (n + 1 - k))) (W0.setCells w.heap.size (k * 5) (curC x)) := fun ty dc =>
    run_copyK W0 _ _ ty 52 5 w.heap.size (k * 5) (n + 1 - k) dc ⟨B, 0, none⟩ 1 1 (curC x) Tryz.underlying28 infoCurS (by rw [curC_len]; show _ = min 1 (n + 1 - k) * 5; omega)
      (hxc W0 hGr0) (fun j hj => own_some hown0 (by rw [curC_len] at hj; omega)) (fun j _ => hown0.frozenAt _) (curC_one x)
  obtain ⟨hown1, hg1⟩ := stored_all hown0 (k * 5) (curC x)
  obtain ⟨W1, hW1⟩ : ∃ W1, W1 = W0.setCells w.heap.size (k * 5) (curC x) := ⟨_, rfl⟩
  rw [← hW1] at hown1 hg1 hcp1
  have hGrow1 : w.grownBy W1 (some g) := gr_then_new hg0 hg1 (Nat.le_refl _)
  have hgne : g ≠ w.heap.size := by omega
  have hcells : ∀ j v, (sR curC zs)[j]? = some v → W1.drew.cell? ⟨g, j, none⟩ = some v := fun j v hj => by
    have hlt := (List.getElem?_eq_some_iff.1 hj).1
    rw [h.1] at hlt
    have h0 : w.cell? ⟨g, j, none⟩ = some v := by rw [h.cellAt _ hlt]; exact hj
    exact hg1.cell (gr_cell hGr0 h0) (by simp; exact hgne)
  have hsrc2 : ∀ j v, (sR curC (zs.drop k))[j]? = some v → W1.drew.cell? ((⟨g, k * 5, none⟩ : Addr).add j) = some v := fun j v hj => by
    rw [sR_drop curC 5 curC_len, List.getElem?_drop] at hj
    rw [add_plain]
    exact hcells _ _ hj
  have hown1d : W1.drew.ownsRow base 52 5 (.slice (some ⟨w.heap.size, 0, none⟩) (n + 1) G) (n + 1) (setAll (ROW.toList.take ((n + 1) * 5)) (k * 5) (curC x)) := hown1
  have hcp2 : ∀ ty dc sc, (Builtin.copy_ #[28, 28] ty #[.slice (some ⟨w.heap.size, (k + 1) * 5, none⟩) (n - k) dc, .slice (some ⟨g, k * 5, none⟩) (n - k) sc]).run Tryz.prog W1.drew = .ok (goInt (Nat.min (n - k) (n - k))) (W1.drew.setCells w.heap.size ((k + 1) * 5) (sR curC (zs.drop k))) := fun ty dc sc =>
    run_copyK W1.drew _ _ ty 52 5 w.heap.size ((k + 1) * 5) (n - k) dc ⟨g, k * 5, none⟩ (n - k) sc (sR curC (zs.drop k)) Tryz.underlying28 infoCurS (by rw [hdl]; show _ = min (n - k) (n - k) * 5; omega)
      hsrc2 (fun j hj => own_some hown1d (by rw [hdl] at hj; omega)) (fun j _ => hown1d.frozenAt _) (sRc_one _)
  obtain ⟨hown2, hg2⟩ := stored_all hown1d ((k + 1) * 5) (sR curC (zs.drop k))
  have hfin : setAll (setAll (ROW.toList.take ((n + 1) * 5)) (k * 5) (curC x)) ((k + 1) * 5) (sR curC (zs.drop k)) = sR curC (zs.take k ++ x :: zs.drop k) := by
    have h9 := ins_soon (ROW.toList.take ((n + 1) * 5)) (sR curC (zs.take k)) (curC x) (sR curC (zs.drop k)) (by rw [hta, List.take_take, Nat.min_eq_left (by omega), hRt]) (by rw [List.length_take, Array.length_toList, hRs, hta, hdl, curC_len]; omega)
    rw [hta, curC_len, show k * 5 + 5 = (k + 1) * 5 by omega] at h9
    rw [h9, sR_append, sR_cons]
  rw [hfin] at hown2
  have hgf : w.grownBy (W1.drew.setCells w.heap.size ((k + 1) * 5) (sR curC (zs.drop k))) (some g) := gr_then_new (hGrow1.trans (gr_drew W1 (some g))) hg2 (Nat.le_refl _)
  have hw1 : IntKind.i64.wrap ((n : Int) + 1) = (n : Int) + 1 := IntWalk.i64_in _ (by omega)
  have hw2 : IntKind.i64.wrap ((k : Int) + 1) = (k : Int) + 1 := IntWalk.i64_in _ (by omega)
  have hw3 : IntKind.i64.wrap ((n : Int) + 1 - (k : Int)) = ((n + 1 - k : Nat) : Int) := by rw [IntWalk.i64_in _ (by omega)]; omega
  have hkn : ((k : Int) == (n : Int)) = false := eqF (by omega)
  have hgt : (n : Int) < (n : Int) + 1 := by omega
  have hk0 : (0 : Int) ≤ (k : Int) := by omega
  have hk1 : (0 : Int) ≤ (k : Int) + 1 := by omega
  have hk2 : (k : Int) ≤ (n : Int) := by omega
  have hk3 : (k : Int) ≤ (n : Int) + 1 := by omega
  have hk4 : (k : Int) + 1 ≤ (n : Int) + 1 := by omega
  have hk5 : (n = k) = False := eq_false (by omega)
  have hk6 : (G = k + 1) = False := eq_false (by omega)
  have hk6' : (G = k) = False := eq_false (by omega)
  have hk7 : ((k : Int) + 1).toNat = k + 1 := by omega
  have hE0 : w.drew.alloc (.cells ROW 52) = W0 := hW0.symm
  have hE1 : W0.setCells w.heap.size (k * 5) (curC x) = W1 := hW1.symm
  replace hown2 := Lib.hid hown2
  replace hgf := Lib.hid hgf
  replace hW0 := Lib.hid hW0
  replace hW1 := Lib.hid hW1
  clear hfin hg2 hg1 hg0 hown1 hown1d hown0 hsrc2 hxc hta hdl h hl hx hcells hRs hRt hROW hzc hold hGr0 hGrow1 hE0 hE1 hle hi hz0 hz1 hz2
  go_enter Tryz.func94, Tryz.ntmps94
  go_wp2_with (first
    | (at_builtin; refine wpList_append_runK _ rfl _ _ 28 3 rfl _ _ rfl rfl (hrz _) ?_)
    | (at_builtin; refine wpList_copy_runK _ rfl _ _ 28 28 rfl _ _ rfl rfl (hcp1 _ _) ?_))
  go_region_law (refine step_copy_runK rfl _ _ 28 28 rfl _ _ (by simp [Act.eval, Act.put]) (by simp [Act.eval, Act.put]) (hcp2 _ _ _) ?_)
  go_wp2
  go_ret
  exact ⟨_, _, rfl, hown2.out, hgf.out⟩
theorem dinsert (A : Option Addr) (n c base B k : Nat) (zs : List Cur) (x : Cur) (w : World) (hbase : base ≤ w.heap.size) (h : w.ownsRow base 52 5 (.slice A n c) n (sR curC zs)) (hn : n ≤ 100000) (hk : k ≤ n)
    (hx : w.heap[B]? = some (.cells (curC x).toArray 52 (0, 0))) (hB : ∀ a, A = some a → a.block ≠ B) :
    Calls Tryz.prog 94 #[.slice A n c, .int .i64 k, .slice (some ⟨B, 0, none⟩) 1 1] w fun e w' => InsAt w w' base n (Value.slice A n c).ownBlock (zs.take k ++ x :: zs.drop k) e := by
  have hl : zs.length = n := by have := h.1; rw [sR_len curC 5 curC_len] at this; omega
  have hc : n ≤ c ∧ c ≤ 9223372036854775807 := by obtain ⟨A', c', hv', h4, h5⟩ := own_openS h; injection hv' with _ _ h6; subst h6; unfold maxLen at h5; exact ⟨h4, by omega⟩
  by_cases hkn : k = n
  · subst hkn
    rw [List.take_of_length_le (by omega), List.drop_eq_nil_of_le (by omega)]
    exact dins_end A k c base B zs x w hbase h hn hc (fun j hj => by rw [cell_of_row w B j _ _ _ hx, List.getElem?_toArray])
  · obtain ⟨g, cap, hv, _, _⟩ := h.form (by omega)
    injection hv with h1 h2 h3
    subst h1 h3
    by_cases hroom : n + 1 ≤ c
    · exact dins_shift g n c base B k zs x w h hn (by omega) hroom hc.2 hx (fun e => hB _ rfl e.symm)
    · have : c = n := by omega
      subst this
      exact dins_grow g c base B k zs x w hbase h hn (by omega) hx
end Go.Proofs.YtmldoeeangekoaaGreatDoor.Dy
/- (soft)
  A diary's state: its model, and close of any state. No condition but the machine's numbers.
-/
namespace Go.Proofs.YtmldoeeangekoaaGreatDoor.Dy
open Go.RowKit

structure StM where
  next : Int
  now : Int
  op : List Cur
  seg : List UInt8
  pts : Int
/-- The model of what a note does. -/
def closeM (s : StM) (id : Int) : StM := { s with next := max s.next (id + 1), op := s.op.filter (fun y => !(y.id == id)) }
def insM (x : Cur) (zs : List Cur) : List Cur := zs.filter (fun y => decide (y.id < x.id)) ++ x :: zs.filter (fun y => !decide (y.id < x.id))
def foldM (s : StM) (x : Nte) : StM :=
  if okOpen x then { closeM s x.c.id with op := insM x.c (closeM s x.c.id).op }
  else if okClose x then closeM s x.c.id
  else if okClock x then { s with now := max s.now x.c.tl, op := s.op.filter (fun y => !decide (y.tl < max s.now x.c.tl)) }
  else if okSeg x then { s with seg := x.c.file, pts := x.c.rows }
  else s
theorem place_split {zs : List Cur} {t : Int} {k : Nat} (h : Place zs t k) : zs.take k = zs.filter (fun y => decide (y.id < t)) ∧ zs.drop k = zs.filter (fun y => !decide (y.id < t)) := by
  obtain ⟨_, h1, h2⟩ := h
  have e := List.take_append_drop k zs
  constructor
  · conv => rhs; rw [← e, List.filter_append]
    rw [List.filter_eq_self.2 (fun y hy => by simpa using h1 y hy), List.filter_eq_nil_iff.2 (fun y hy => by have := h2 y hy; simp; omega), List.append_nil]
  · conv => rhs; rw [← e, List.filter_append]
    rw [List.filter_eq_nil_iff.2 (fun y hy => by have := h1 y hy; simp; omega), List.filter_eq_self.2 (fun y hy => by have := h2 y hy; simp; omega), List.nil_append]
/-- What may turn: the state's block and the list's own. -/
def Tn (St : Nat) (ob : Option Nat) (k : Nat) : Prop := k = St ∨ ob = some k
theorem tn_gr {St : Nat} {ob : Option Nat} {w w' : World} (h : Gr w w') : GrS (Tn St ob) w w' := grs_gr _ h
theorem tn_st {St : Nat} {ob : Option Nat} {w w' : World} (h : w.grownBy w' (some St)) : GrS (Tn St ob) w w' := grs_of h fun k hk _ => .inl (Option.some.inj hk).symm
theorem tn_ob {St : Nat} {ob : Option Nat} {w w' : World} (h : w.grownBy w' ob) : GrS (Tn St ob) w w' := grs_of h fun k hk _ => .inr hk
def StIs (w : World) (St base : Nat) (s : StM) (A : Option Addr) (n c : Nat) : Prop := StAt w St s.next s.now (.slice A n c) s.seg s.pts ∧ w.ownsRow base 52 5 (.slice A n c) n (sR curC s.op)
theorem stIs_gr {w w' : World} {St base : Nat} {s : StM} {A : Option Addr} {n c : Nat} (h : StIs w St base s A n c) (g : Gr w w') : StIs w' St base s A n c := ⟨stAt_gr h.1 g, h.2.kept g (Classical.em _)⟩
/-- The state's block is not the list's own. -/
theorem st_apart {w : World} {St base n c : Nat} {A : Option Addr} {nx now pts : Int} {op : Value} {seg : List UInt8} {xs : List Value} (h : StAt w St nx now op seg pts) (ho : w.ownsRow base 52 5 (.slice A n c) n xs) : (Value.slice A n c).ownBlock ≠ some St := by
  intro e
  rcases ho.2 with ⟨hv, _⟩ | ⟨g, cap, cur, hv, _, hg, _⟩
  · rw [hv] at e; cases e
  · rw [hv] at e
    have : g = St := by simpa [Value.ownBlock] using e
    subst this
    unfold StAt at h
    rw [hg] at h
    injection h with h1
    injection h1 with _ h2
    exact absurd h2 (by decide)
theorem st_after {w w' : World} {St : Nat} {nx now pts : Int} {op : Value} {seg : List UInt8} {r : Option Nat} (h : StAt w St nx now op seg pts) (g : w.grownBy w' r) (hr : r ≠ some St) : StAt w' St nx now op seg pts := gr_blk g h (fun e => hr e.symm)
theorem own_after {w w' : World} {St base n c : Nat} {A : Option Addr} {xs : List Value} (h : w.ownsRow base 52 5 (.slice A n c) n xs) (g : w.grownBy w' (some St)) (hr : (Value.slice A n c).ownBlock ≠ some St) : w'.ownsRow base 52 5 (.slice A n c) n xs := h.kept g (.inr hr)
set_option maxHeartbeats 8000000 in
set_option maxRecDepth 100000 in
theorem dclose (St base : Nat) (s : StM) (A : Option Addr) (n c : Nat) (id : Int) (w : World) (h : StIs w St base s A n c) (hid : 1 ≤ id ∧ id ≤ 1000000) (hn : n ≤ 9223372036854775807) :
    Calls Tryz.prog 91 #[.pointer (some ⟨St, 0, none⟩), .int .i64 id] w fun e w' => e = .returned (.tuple #[]) ∧ (∃ k, StIs w' St base (closeM s id) A k c) ∧ GrS (Tn St (Value.slice A n c).ownBlock) w w' := by
  obtain ⟨nx, now, op, seg, pts⟩ := s
  obtain ⟨h, ho⟩ := h
  simp only at h ho
  have hlt := lt_of_blk h
  have hap := st_apart h ho
  have hobl : ∀ k, (Value.slice A n c).ownBlock = some k → k < w.heap.size := fun k hk => (ho.lt k hk).2
  obtain ⟨W0, hW0⟩ : ∃ W0, W0 = w.alloc (.cells #[.int .i64 id] 3) := ⟨_, rfl⟩
  have g0 : Gr w W0 := by rw [hW0]; exact gr_alloc _ _ _
  have hb0 : W0.cell? ⟨w.heap.size, 0, none⟩ = some (.int .i64 id) := by rw [hW0]; exact cell0_new _ _ _
  have h0 := stAt_gr h g0
  have ho0 := ho.kept g0 (Classical.em _)
  have c0 : W0.cell? ⟨St, 2, none⟩ = some (.slice A n c) := fcell h0 rfl
  have cD := ddel_close (fun W => W.cell? ⟨w.heap.size, 0, none⟩ = some (.int .i64 id)) (fun y => y.id == id) (.pointer (some ⟨w.heap.size, 0, none⟩)) (fun x W hW => pclose_any x w.heap.size id W hW) A n c base (fun W W' hW g => g.cell hW (by simp; intro e; have := hobl _ e.symm; omega)) op W0 ho0 hn hb0
  replace h := Lib.hid h
  replace h0 := Lib.hid h0
  replace g0 := Lib.hid g0
  replace hW0 := Lib.hid hW0
  replace hobl := Lib.hid hobl
  replace hap := Lib.hid hap
  clear ho
  go_enter Tryz.func91, Tryz.ntmps91
  go_wp2_with (rw [← hW0.out])
  refine cD.mono ?_
  rintro e W1 ⟨k, rfl, ho1, g1⟩
  have h1 := st_after h0.out g1 hap.out
  have hb1 : W1.cell? ⟨w.heap.size, 0, none⟩ = some (.int .i64 id) := g1.cell hb0 (by simp; intro e; have := hobl.out _ e.symm; omega)
  have ob1 : (Value.slice A k c).ownBlock = (Value.slice A n c).ownBlock := by cases A <;> rfl
  have c1 : W1.cell? ⟨St, 2, none⟩ = some (.slice A n c) := fcell h1 rfl
  have z1 := fzero h1 2
  obtain ⟨W2, hW2⟩ : ∃ W2, W2 = W1.setCell ⟨St, 2, none⟩ (.slice A k c) := ⟨_, rfl⟩
  have g2 : W1.grownBy W2 (some St) := by rw [hW2]; exact gr_set W1 ⟨St, 2, none⟩ _
  have h2 : StAt W2 St nx now (.slice A k c) seg pts := by rw [hW2]; exact blk_set h1 2 (.slice A k c)
  have ho2 := own_after ho1 g2 (by rw [ob1]; exact hap.out)
  have hb2 : W2.cell? ⟨w.heap.size, 0, none⟩ = some (.int .i64 id) := g2.cell hb1 (by simp; omega)
  have d0 : W2.cell? ⟨St, 0, none⟩ = some (.int .i64 nx) := fcell h2 rfl
  have y0 := fzero h2 0
  have gall : GrS (Tn St (Value.slice A n c).ownBlock) w W2 := grs_trans (grs_trans (tn_gr g0.out) (tn_ob g1)) (tn_st g2)
  have hw : IntKind.i64.wrap (id + 1) = id + 1 := IntWalk.i64_in _ (by omega)
  replace h1 := Lib.hid h1
  replace h2 := Lib.hid h2
  replace ho2 := Lib.hid ho2
  replace gall := Lib.hid gall
  replace hW2 := Lib.hid hW2
  clear ho1 ho0 g1 g2 c0 hb0 cD
  go_upto_region 2 with fail
  rw [← hW2.out]
  clear c1 z1 hb1
  have hap2 : (Value.slice A k c).ownBlock ≠ some St := by rw [ob1]; exact hap.out
  replace hap2 := Lib.hid hap2
  by_cases hm : nx < id + 1
  · go_region
    all_goals
      go_wp2
      all_goals first | (exfalso; omega) | skip
      go_end0
      have hs3 := gr_set W2 ⟨St, 0, none⟩ (.int .i64 (id + 1))
      refine ⟨rfl, ⟨k, ?_, ?_⟩, grs_trans (grs_trans gall.out (tn_st hs3)) (tn_gr (gr_drew _ _))⟩
      · have h9 := blk_set h2.out 0 (.int .i64 (id + 1))
        show StAt _ St (max nx (id + 1)) now _ seg pts
        rw [Int.max_eq_right (by omega)]
        exact stAt_gr h9 (gr_drew _ _)
      · exact (own_after ho2.out hs3 hap2.out).kept (gr_drew _ none) (Classical.em _)
  · go_region
    all_goals
      go_wp2
      all_goals first | (exfalso; omega) | skip
      go_end0
      have hs3 := gr_set W2 ⟨St, 0, none⟩ (.int .i64 nx)
      refine ⟨rfl, ⟨k, ?_, ?_⟩, grs_trans (grs_trans gall.out (tn_st hs3)) (tn_gr (gr_drew _ _))⟩
      · have h9 := blk_set h2.out 0 (.int .i64 nx)
        show StAt _ St (max nx (id + 1)) now _ seg pts
        rw [Int.max_eq_left (by omega)]
        exact stAt_gr h9 (gr_drew _ _)
      · exact (own_after ho2.out hs3 hap2.out).kept (gr_drew _ none) (Classical.em _)
end Go.Proofs.YtmldoeeangekoaaGreatDoor.Dy
/- (soft)
  diary's fold of any note into any state. No condition but the machine's numbers.
-/
namespace Go.Proofs.YtmldoeeangekoaaGreatDoor.Dy
open Go.RowKit

theorem ta_opened_opened (v : Value) (W : World) : (Instr.typeAssert (.iface 126 v) 20 126 true).run Tryz.prog W = .ok (.tuple #[v, .bool true]) W := by
  simp [Instr.typeAssert, Sem.run_bind, run_underlying Tryz.underlying126, Tryz.zeroValue126, Result.andThen]
theorem ta_opened_closed (v : Value) (W : World) : (Instr.typeAssert (.iface 126 v) 20 133 true).run Tryz.prog W = .ok (.tuple #[.agg #[.int .i64 0], .bool false]) W := by
  simp [Instr.typeAssert, Sem.run_bind, run_underlying Tryz.underlying133, Tryz.zeroValue133, Result.andThen]
theorem ta_opened_clock (v : Value) (W : World) : (Instr.typeAssert (.iface 126 v) 20 136 true).run Tryz.prog W = .ok (.tuple #[.agg #[.int .i64 0], .bool false]) W := by
  simp [Instr.typeAssert, Sem.run_bind, run_underlying Tryz.underlying136, Tryz.zeroValue136, Result.andThen]
theorem ta_opened_segment (v : Value) (W : World) : (Instr.typeAssert (.iface 126 v) 20 141 true).run Tryz.prog W = .ok (.tuple #[.agg #[.string ⟨#[]⟩, .int .i64 0], .bool false]) W := by
  simp [Instr.typeAssert, Sem.run_bind, run_underlying Tryz.underlying141, Tryz.zeroValue141, Result.andThen]
theorem ta_closed_opened (v : Value) (W : World) : (Instr.typeAssert (.iface 133 v) 20 126 true).run Tryz.prog W = .ok (.tuple #[.agg #[.int .i64 0, .int .i64 0, .int .i64 0, .int .i64 0, .string ⟨#[]⟩], .bool false]) W := by
  simp [Instr.typeAssert, Sem.run_bind, run_underlying Tryz.underlying126, Tryz.zeroValue126, Result.andThen]
theorem ta_closed_closed (v : Value) (W : World) : (Instr.typeAssert (.iface 133 v) 20 133 true).run Tryz.prog W = .ok (.tuple #[v, .bool true]) W := by
  simp [Instr.typeAssert, Sem.run_bind, run_underlying Tryz.underlying133, Tryz.zeroValue133, Result.andThen]
theorem ta_closed_clock (v : Value) (W : World) : (Instr.typeAssert (.iface 133 v) 20 136 true).run Tryz.prog W = .ok (.tuple #[.agg #[.int .i64 0], .bool false]) W := by
  simp [Instr.typeAssert, Sem.run_bind, run_underlying Tryz.underlying136, Tryz.zeroValue136, Result.andThen]
theorem ta_closed_segment (v : Value) (W : World) : (Instr.typeAssert (.iface 133 v) 20 141 true).run Tryz.prog W = .ok (.tuple #[.agg #[.string ⟨#[]⟩, .int .i64 0], .bool false]) W := by
  simp [Instr.typeAssert, Sem.run_bind, run_underlying Tryz.underlying141, Tryz.zeroValue141, Result.andThen]
theorem ta_clock_opened (v : Value) (W : World) : (Instr.typeAssert (.iface 136 v) 20 126 true).run Tryz.prog W = .ok (.tuple #[.agg #[.int .i64 0, .int .i64 0, .int .i64 0, .int .i64 0, .string ⟨#[]⟩], .bool false]) W := by
  simp [Instr.typeAssert, Sem.run_bind, run_underlying Tryz.underlying126, Tryz.zeroValue126, Result.andThen]
theorem ta_clock_closed (v : Value) (W : World) : (Instr.typeAssert (.iface 136 v) 20 133 true).run Tryz.prog W = .ok (.tuple #[.agg #[.int .i64 0], .bool false]) W := by
  simp [Instr.typeAssert, Sem.run_bind, run_underlying Tryz.underlying133, Tryz.zeroValue133, Result.andThen]
theorem ta_clock_clock (v : Value) (W : World) : (Instr.typeAssert (.iface 136 v) 20 136 true).run Tryz.prog W = .ok (.tuple #[v, .bool true]) W := by
  simp [Instr.typeAssert, Sem.run_bind, run_underlying Tryz.underlying136, Tryz.zeroValue136, Result.andThen]
theorem ta_clock_segment (v : Value) (W : World) : (Instr.typeAssert (.iface 136 v) 20 141 true).run Tryz.prog W = .ok (.tuple #[.agg #[.string ⟨#[]⟩, .int .i64 0], .bool false]) W := by
  simp [Instr.typeAssert, Sem.run_bind, run_underlying Tryz.underlying141, Tryz.zeroValue141, Result.andThen]
theorem ta_segment_opened (v : Value) (W : World) : (Instr.typeAssert (.iface 141 v) 20 126 true).run Tryz.prog W = .ok (.tuple #[.agg #[.int .i64 0, .int .i64 0, .int .i64 0, .int .i64 0, .string ⟨#[]⟩], .bool false]) W := by
  simp [Instr.typeAssert, Sem.run_bind, run_underlying Tryz.underlying126, Tryz.zeroValue126, Result.andThen]
theorem ta_segment_closed (v : Value) (W : World) : (Instr.typeAssert (.iface 141 v) 20 133 true).run Tryz.prog W = .ok (.tuple #[.agg #[.int .i64 0], .bool false]) W := by
  simp [Instr.typeAssert, Sem.run_bind, run_underlying Tryz.underlying133, Tryz.zeroValue133, Result.andThen]
theorem ta_segment_clock (v : Value) (W : World) : (Instr.typeAssert (.iface 141 v) 20 136 true).run Tryz.prog W = .ok (.tuple #[.agg #[.int .i64 0], .bool false]) W := by
  simp [Instr.typeAssert, Sem.run_bind, run_underlying Tryz.underlying136, Tryz.zeroValue136, Result.andThen]
theorem ta_segment_segment (v : Value) (W : World) : (Instr.typeAssert (.iface 141 v) 20 141 true).run Tryz.prog W = .ok (.tuple #[v, .bool true]) W := by
  simp [Instr.typeAssert, Sem.run_bind, run_underlying Tryz.underlying141, Tryz.zeroValue141, Result.andThen]
theorem ta_nil_opened (W : World) : (Instr.typeAssert .nilIface 20 126 true).run Tryz.prog W = .ok (.tuple #[.agg #[.int .i64 0, .int .i64 0, .int .i64 0, .int .i64 0, .string ⟨#[]⟩], .bool false]) W := by
  simp [Instr.typeAssert, Sem.run_bind, run_underlying Tryz.underlying126, Tryz.zeroValue126, Result.andThen]
theorem ta_nil_closed (W : World) : (Instr.typeAssert .nilIface 20 133 true).run Tryz.prog W = .ok (.tuple #[.agg #[.int .i64 0], .bool false]) W := by
  simp [Instr.typeAssert, Sem.run_bind, run_underlying Tryz.underlying133, Tryz.zeroValue133, Result.andThen]
theorem ta_nil_clock (W : World) : (Instr.typeAssert .nilIface 20 136 true).run Tryz.prog W = .ok (.tuple #[.agg #[.int .i64 0], .bool false]) W := by
  simp [Instr.typeAssert, Sem.run_bind, run_underlying Tryz.underlying136, Tryz.zeroValue136, Result.andThen]
theorem ta_nil_segment (W : World) : (Instr.typeAssert .nilIface 20 141 true).run Tryz.prog W = .ok (.tuple #[.agg #[.string ⟨#[]⟩, .int .i64 0], .bool false]) W := by
  simp [Instr.typeAssert, Sem.run_bind, run_underlying Tryz.underlying141, Tryz.zeroValue141, Result.andThen]
theorem fr_keep {w w' : World} {St : Nat} {ob : Option Nat} (h : GrS (Tn St ob) w w') (hob : ∀ k, ob = some k → k < w.heap.size) (W : World) (hW : w.heap.size ≤ W.heap.size) : True := trivial
set_option maxHeartbeats 32000000 in
set_option maxRecDepth 100000 in
theorem dfold_opened (St base : Nat) (s : StM) (A : Option Addr) (n c : Nat) (x : Cur) (w : World) (h : StIs w St base s A n c) (hbase : base ≤ w.heap.size) (hid : 1 ≤ x.id ∧ x.id ≤ 1000000) (hn : n ≤ 100000) (hso : Sorted s.op) (hids : Ids s.op) :
    Calls Tryz.prog 31 #[.pointer (some ⟨St, 0, none⟩), .iface 126 (.agg #[.int .i64 x.id, .int .i64 x.rows, .int .i64 x.size, .int .i64 x.tl, .string (txt x.file)])] w fun e w' => e = .returned (.tuple #[]) ∧ (∃ A' n' c', StIs w' St base { closeM s x.id with op := insM x (closeM s x.id).op } A' n' c') ∧ GrS (Tn St (Value.slice A n c).ownBlock) w w' := by
  have hlt := lt_of_blk h.1
  have hobl : ∀ k, (Value.slice A n c).ownBlock = some k → k < w.heap.size := fun k hk => (h.2.lt k hk).2
  have hlen : s.op.length = n := by have := h.2.1; rw [sR_len curC 5 curC_len] at this; omega
  have ta1 := fun W => ta_opened_opened (.agg #[.int .i64 x.id, .int .i64 x.rows, .int .i64 x.size, .int .i64 x.tl, .string (txt x.file)]) W
  have ta2 := fun W => ta_opened_closed (.agg #[.int .i64 x.id, .int .i64 x.rows, .int .i64 x.size, .int .i64 x.tl, .string (txt x.file)]) W
  have ta3 := fun W => ta_opened_clock (.agg #[.int .i64 x.id, .int .i64 x.rows, .int .i64 x.size, .int .i64 x.tl, .string (txt x.file)]) W
  have ta4 := fun W => ta_opened_segment (.agg #[.int .i64 x.id, .int .i64 x.rows, .int .i64 x.size, .int .i64 x.tl, .string (txt x.file)]) W
  have cC := fun W hW => dclose St base s A n c x.id W hW hid (by omega)
  have hso2 : Sorted (closeM s x.id).op := List.Pairwise.filter _ hso
  have hids2 : Ids (closeM s x.id).op := fun y hy => hids y (List.mem_filter.1 hy).1
  have hne2 : ∀ y ∈ (closeM s x.id).op, y.id ≠ x.id := fun y hy => by have := (List.mem_filter.1 hy).2; simpa using this
  replace cC := Lib.hid cC
  replace h := Lib.hid h
  replace hobl := Lib.hid hobl
  replace hso2 := Lib.hid hso2
  replace hids2 := Lib.hid hids2
  clear hne2 hso hids
  go_enter Tryz.func31, Tryz.ntmps31
  go_wp2_with fail
  obtain ⟨W1, hW1⟩ : ∃ W1, W1 = (w.alloc (.cells #[.pointer (some ⟨St, 0, none⟩)] 124)).alloc (.cells #[.int .i64 x.id, .int .i64 x.rows, .int .i64 x.size, .int .i64 x.tl, .string (txt x.file)] 126) := ⟨_, rfl⟩
  rw [← hW1]
  have hz1 : (w.alloc (.cells #[.pointer (some ⟨St, 0, none⟩)] 124)).heap.size = w.heap.size + 1 := by simp
  have hz2 : W1.heap.size = w.heap.size + 2 := by rw [hW1]; simp
  have g1 : Gr w W1 := by rw [hW1]; exact gr_trans (gr_alloc _ _ _) (gr_alloc _ _ _)
  have p1 : W1.cell? ⟨w.heap.size, 0, none⟩ = some (.pointer (some ⟨St, 0, none⟩)) := by rw [hW1]; exact gr_cell (gr_alloc _ _ none) (cell0_new _ _ _)
  have q1 : ∀ j v, (#[.int .i64 x.id, .int .i64 x.rows, .int .i64 x.size, .int .i64 x.tl, .string (txt x.file)] : Array Value)[j]? = some v → W1.cell? ⟨w.heap.size + 1, j, none⟩ = some v := fun j v hj => by rw [hW1, ← hz1, World.cell?_alloc_new]; exact hj
  have hno : ∀ j, ¬ Tn St (Value.slice A n c).ownBlock (w.heap.size + j) := fun j ht => by
    rcases ht with ht | ht
    · omega
    · have := hobl.out _ ht; omega
  have st : ∀ w', GrS (Tn St (Value.slice A n c).ownBlock) W1 w' → (w'.cell? ⟨w.heap.size, 0, none⟩ = some (.pointer (some ⟨St, 0, none⟩)) ∧ w'.cell? ⟨w.heap.size + 1, 0, none⟩ = some (.int .i64 x.id) ∧ w'.cell? ⟨w.heap.size + 1, 1, none⟩ = some (.int .i64 x.rows) ∧ w'.cell? ⟨w.heap.size + 1, 2, none⟩ = some (.int .i64 x.size) ∧ w'.cell? ⟨w.heap.size + 1, 3, none⟩ = some (.int .i64 x.tl) ∧ w'.cell? ⟨w.heap.size + 1, 4, none⟩ = some (.string (txt x.file))) := fun w' g => ⟨cell_grs g p1 (hno 0), cell_grs g (q1 0 _ rfl) (hno 1), cell_grs g (q1 1 _ rfl) (hno 1), cell_grs g (q1 2 _ rfl) (hno 1), cell_grs g (q1 3 _ rfl) (hno 1), cell_grs g (q1 4 _ rfl) (hno 1)⟩
  have hS1 := stIs_gr h.out g1
  replace st := Lib.hid st
  replace g1 := Lib.hid g1
  clear hW1 hz1 p1 q1 hno
  refine (cC.out _ hS1).mono ?_
  rintro e W2 ⟨rfl, ⟨k, hS2⟩, g2⟩
  clear hS1 cC
  have hkn : (closeM s x.id).op.length = k := by have := hS2.2.1; rw [sR_len curC 5 curC_len] at this; omega
  have hk5 : k ≤ 100000 := by rw [← hkn]; refine Nat.le_trans (List.length_filter_le _ _) ?_; rw [hlen]; exact hn
  have ob2 : (Value.slice A k c).ownBlock = (Value.slice A n c).ownBlock := by cases A <;> rfl
  obtain ⟨p2, q20, q21, q22, q23, q24⟩ := st.out _ g2
  generalize hs2 : closeM s x.id = s2 at *
  replace hs2 := Lib.hid hs2
  have o2 : W2.cell? ⟨St, 2, none⟩ = some (.slice A k c) := fcell hS2.1 rfl
  have cB := fun W (gW : Gr W2 W) => dsearch A k c s2.op x.id W (row_gr (row_own hS2.2) gW) hk5 hso2.out hids2.out hid
  replace cB := Lib.hid cB
  replace hS2 := Lib.hid hS2
  replace g2 := Lib.hid g2
  go_wp2_with fail
  have p2h := Lib.hid p2
  have q20h := Lib.hid q20
  have o2h := Lib.hid o2
  clear q21 q22 q23 q24
  go_region_held3 (fun w' => w'.cell? ⟨w.heap.size, 0, none⟩ = some (.pointer (some ⟨St, 0, none⟩)) ∧ w'.cell? ⟨w.heap.size + 1, 0, none⟩ = some (.int .i64 x.id) ∧ w'.cell? ⟨St, 2, none⟩ = some (.slice A k c)) (first | exact ⟨p2, q20, o2⟩ | exact ⟨gr_cell gB p2h.out, gr_cell gB q20h.out, gr_cell gB o2h.out⟩) (first | (go_at_call 92; refine (cB.out _ (gr_drew _ _)).mono ?_; rintro e wB ⟨⟨kk, bb, rfl, hpl⟩, gB0⟩; have gB := gr_trans (gr_drew W2 none) gB0))
  have g23 : Gr W2 wB := gB
  have g3 : GrS (Tn St (Value.slice A n c).ownBlock) W1 wB := grs_trans g2.out (tn_gr g23)
  have hS3 := stIs_gr hS2.out g23
  have hsz3 : w.heap.size + 2 ≤ wB.heap.size := by rw [← hz2]; exact g3.size
  replace hpl := Lib.hid hpl
  clear p2 q20 o2 g23 p2h q20h o2h gB cB
  go_upto_region 5 with fail
  refine wp_region_held_drew (S := (fun w' => (w'.cell? ⟨w.heap.size, 0, none⟩ = some (.pointer (some ⟨St, 0, none⟩)) ∧ w'.cell? ⟨w.heap.size + 1, 0, none⟩ = some (.int .i64 x.id) ∧ w'.cell? ⟨w.heap.size + 1, 1, none⟩ = some (.int .i64 x.rows) ∧ w'.cell? ⟨w.heap.size + 1, 2, none⟩ = some (.int .i64 x.size) ∧ w'.cell? ⟨w.heap.size + 1, 3, none⟩ = some (.int .i64 x.tl) ∧ w'.cell? ⟨w.heap.size + 1, 4, none⟩ = some (.string (txt x.file))))) (by kernel_rfl) (st.out _ (grs_trans g3 (tn_gr (gr_drew _ _)))) (fun hHeld => ?_)
  have gd : GrS (Tn St (Value.slice A n c).ownBlock) W1 wB.drew := grs_trans g3 (tn_gr (gr_drew _ _))
  have hS4 : StIs wB.drew St base s2 A k c := stIs_gr hS3 (gr_drew _ _)
  have hsz4 : w.heap.size + 2 ≤ wB.drew.heap.size := hsz3
  clear g3 hS3 hsz3
  generalize wB.drew = wd at *
  have o3 : wd.cell? ⟨St, 2, none⟩ = some (.slice A k c) := fcell hS4.1 rfl
  refine wpAnyH_take (i := 0) (oi := ⟨some 36, _, _, _, _, _⟩) (v := ?_) rfl (by kernel_rfl) (by kernel_rfl) (by kernel_rfl) (fun _ _ _ h => h) (Or.inl ⟨by rfl, ?_⟩) hHeld ?_
  rotate_left
  · intro w hSw
    try dsimp only at hSw
    go_simp
    first | done | with_reducible rfl
  try simp only [Act.put, List.setIfInBounds_toArray, List.set_cons_zero, List.set_cons_succ]
  refine wpAnyH_take (i := 1) (oi := ⟨some 37, _, _, _, _, _⟩) (v := ?_) rfl (by kernel_rfl) (by kernel_rfl) (by kernel_rfl) (fun _ _ _ h => h) (Or.inl ⟨by rfl, ?_⟩) hHeld ?_
  rotate_left
  · intro w hSw
    try dsimp only at hSw
    go_simp
    first | done | with_reducible rfl
  try simp only [Act.put, List.setIfInBounds_toArray, List.set_cons_zero, List.set_cons_succ]
  refine wpAnyH_take (i := 2) (oi := ⟨some 38, _, _, _, _, _⟩) (v := ?_) rfl (by kernel_rfl) (by kernel_rfl) (by kernel_rfl) (fun _ _ _ h => h) (Or.inl ⟨by rfl, ?_⟩) hHeld ?_
  rotate_left
  · intro w hSw
    try dsimp only at hSw
    go_simp
    first | done | with_reducible rfl
  try simp only [Act.put, List.setIfInBounds_toArray, List.set_cons_zero, List.set_cons_succ]
  refine wpAnyH_take (i := 3) (oi := ⟨some 39, _, _, _, _, _⟩) (v := ?_) rfl (by kernel_rfl) (by kernel_rfl) (by kernel_rfl) (fun _ _ _ h => h) (Or.inl ⟨by rfl, ?_⟩) hHeld ?_
  rotate_left
  · intro w hSw
    try dsimp only at hSw
    go_simp
    first | done | with_reducible rfl
  try simp only [Act.put, List.setIfInBounds_toArray, List.set_cons_zero, List.set_cons_succ]
  refine wpAnyH_take (i := 5) (oi := ⟨some 41, _, _, _, _, _⟩) (v := ?_) rfl (by kernel_rfl) (by kernel_rfl) (by kernel_rfl) (fun _ _ _ h => h) (Or.inl ⟨by rfl, ?_⟩) hHeld ?_
  rotate_left
  · intro w hSw
    try dsimp only at hSw
    go_simp
    first | done | with_reducible rfl
  try simp only [Act.put, List.setIfInBounds_toArray, List.set_cons_zero, List.set_cons_succ]
  refine wpAnyH_take (i := 6) (oi := ⟨some 42, _, _, _, _, _⟩) (v := ?_) rfl (by kernel_rfl) (by kernel_rfl) (by kernel_rfl) (fun _ _ _ h => h) (Or.inl ⟨by rfl, ?_⟩) hHeld ?_
  rotate_left
  · intro w hSw
    try dsimp only at hSw
    go_simp
    first | done | with_reducible rfl
  try simp only [Act.put, List.setIfInBounds_toArray, List.set_cons_zero, List.set_cons_succ]
  refine wpAnyH_take (i := 7) (oi := ⟨some 43, _, _, _, _, _⟩) (v := ?_) rfl (by kernel_rfl) (by kernel_rfl) (by kernel_rfl) (fun _ _ _ h => h) (Or.inl ⟨by rfl, ?_⟩) hHeld ?_
  rotate_left
  · intro w hSw
    try dsimp only at hSw
    go_simp
    first | done | with_reducible rfl
  try simp only [Act.put, List.setIfInBounds_toArray, List.set_cons_zero, List.set_cons_succ]
  refine wpAnyH_ready (rs := [4, 8]) (by kernel_rfl) (by simp) (AllReadyH.cons (o := ⟨some 40, _, _, _, _, _⟩) rfl (fun K hK => ?_) (AllReadyH.cons (o := ⟨some 44, _, _, _, _, _⟩) rfl (fun K hK => ?_) AllReadyH.nil))
  · skip
    go_simp
    refine hK.out _ _ ?_ (fun hHeld => ?_)
    · exact hHeld
    clear hK K
    try simp only [Act.put, List.setIfInBounds_toArray, List.set_cons_zero, List.set_cons_succ]
    refine wpAnyH_ready (rs := [8]) (by kernel_rfl) (by simp) (AllReadyH.cons (o := ⟨some 44, _, _, _, _, _⟩) rfl (fun K hK => ?_) AllReadyH.nil)
    go_simp
    refine hK.out _ _ ?_ (fun hHeld => ?_)
    · exact st.out _ (grs_trans gd (tn_gr (gr_alloc _ _ _)))
    clear hK K
    try simp only [Act.put, List.setIfInBounds_toArray, List.set_cons_zero, List.set_cons_succ]
    have o4 := gr_cell (gr_alloc wd (.cells #[.int .i64 x.id, .int .i64 x.rows, .int .i64 x.size, .int .i64 x.tl, .string (txt x.file)] 52) none) o3
    refine wpAnyH_ready (rs := [9]) (by kernel_rfl) (by simp) (AllReadyH.cons (o := ⟨some 45, _, _, _, _, _⟩) rfl (fun K hK => ?_) AllReadyH.nil)
    go_simp
    refine (dinsert A k c base wd.heap.size kk s2.op x _ ?_ (hS4.2.kept (gr_alloc wd (.cells #[.int .i64 x.id, .int .i64 x.rows, .int .i64 x.size, .int .i64 x.tl, .string (txt x.file)] 52) none) (Classical.em _)) hk5 (by rw [← hkn]; exact hpl.out.1) (blk_new wd _) ?_).mono ?_
    · exact Nat.le_trans hbase (Nat.le_trans g1.out.size (Nat.le_trans gd.size (gr_alloc wd (.cells #[.int .i64 x.id, .int .i64 x.rows, .int .i64 x.size, .int .i64 x.tl, .string (txt x.file)] 52) none).size))
    · intro a ha e
      have h7 := (hS4.2.lt a.block (by rw [ha]; rfl)).2
      omega
    rintro e wI ⟨A', c', rfl, hoI, gI⟩
    try (go_wp2_with fail)
    have hap4 := st_apart hS4.1 hS4.2
    have gI2 : GrS (Tn St (Value.slice A n c).ownBlock) W1 wI := grs_trans (grs_trans gd (tn_gr (gr_alloc wd (.cells #[.int .i64 x.id, .int .i64 x.rows, .int .i64 x.size, .int .i64 x.tl, .string (txt x.file)] 52) none))) (by rw [← ob2]; exact tn_ob gI)
    have hSI := st_after (stAt_gr hS4.1 (gr_alloc wd (.cells #[.int .i64 x.id, .int .i64 x.rows, .int .i64 x.size, .int .i64 x.tl, .string (txt x.file)] 52) none)) gI hap4
    have hapI := st_apart hSI hoI
    refine hK.out _ _ ?_ (fun hHeld => ?_)
    · exact st.out _ gI2
    clear hK K
    try simp only [Act.put, List.setIfInBounds_toArray, List.set_cons_zero, List.set_cons_succ]
    refine wpAnyH_take (i := 10) (oi := ⟨some 46, _, _, _, _, _⟩) (v := ?_) rfl (by kernel_rfl) (by kernel_rfl) (by kernel_rfl) (fun _ _ _ h => h) (Or.inl ⟨by rfl, ?_⟩) hHeld ?_
    rotate_left
    · intro w hSw
      try dsimp only at hSw
      go_simp
      first | done | with_reducible rfl
    try simp only [Act.put, List.setIfInBounds_toArray, List.set_cons_zero, List.set_cons_succ]
    refine wpAnyH_take (i := 11) (oi := ⟨some 47, _, _, _, _, _⟩) (v := ?_) rfl (by kernel_rfl) (by kernel_rfl) (by kernel_rfl) (fun _ _ _ h => h) (Or.inl ⟨by rfl, ?_⟩) hHeld ?_
    rotate_left
    · intro w hSw
      try dsimp only at hSw
      go_simp
      first | done | with_reducible rfl
    try simp only [Act.put, List.setIfInBounds_toArray, List.set_cons_zero, List.set_cons_succ]
    have o5 : wI.cell? ⟨St, 2, none⟩ = some (.slice A k c) := fcell hSI rfl
    have z5 := fzero hSI 2
    refine wpAnyH_ready (rs := [12]) (by kernel_rfl) (by simp) (AllReadyH.cons (o := ⟨none, _, _, _, _, _⟩) rfl (fun K hK => ?_) AllReadyH.nil)
    go_simp
    refine hK.out _ _ ?_ (fun hHeld => ?_)
    · exact st.out _ (grs_trans gI2 (tn_st (gr_set wI ⟨St, 2, none⟩ _)))
    clear hK K
    try simp only [Act.put, List.setIfInBounds_toArray, List.set_cons_zero, List.set_cons_succ]
    refine wpAnyH_done (by kernel_rfl) ?_ _
    have hSF : StAt (wI.setCell ⟨St, 2, none⟩ (.slice A' (k + 1) c')) St s2.next s2.now (.slice A' (k + 1) c') s2.seg s2.pts := blk_set hSI 2 (.slice A' (k + 1) c')
    have hoF := own_after hoI (gr_set wI ⟨St, 2, none⟩ (.slice A' (k + 1) c')) hapI
    have gF := grs_trans gI2 (tn_st (gr_set wI ⟨St, 2, none⟩ (.slice A' (k + 1) c')))
    rw [show s2.op.take kk ++ x :: s2.op.drop kk = insM x s2.op from by rw [(place_split hpl.out).1, (place_split hpl.out).2]; rfl] at hoF
    have hFin : StIs (wI.setCell ⟨St, 2, none⟩ (.slice A' (k + 1) c')) St base { s2 with op := insM x s2.op } A' (k + 1) c' := ⟨hSF, hoF⟩
    generalize wI.setCell ⟨St, 2, none⟩ (.slice A' (k + 1) c') = WF at *
    clear o3 o4 o5 z5 hHeld hSI gI gI2 hS4 gd hoI hapI hap4 hSF hoF
    replace hFin := Lib.hid hFin
    replace gF := Lib.hid gF
    go_wp2
    go_end0
    have e2 := hs2.out
    subst e2
    exact ⟨rfl, ⟨A', k + 1, c', stIs_gr (stIs_gr (stIs_gr hFin.out (gr_alloc _ _ _)) (gr_alloc _ _ _)) (gr_alloc _ _ _)⟩, grs_trans (grs_trans (grs_trans (grs_trans (tn_gr g1.out) gF.out) (tn_gr (gr_alloc _ _ _))) (tn_gr (gr_alloc _ _ _))) (tn_gr (gr_alloc _ _ _))⟩
  · skip
    go_simp
    refine hK.out _ _ ?_ (fun hHeld => ?_)
    · exact st.out _ (grs_trans gd (tn_gr (gr_alloc _ _ _)))
    clear hK K
    try simp only [Act.put, List.setIfInBounds_toArray, List.set_cons_zero, List.set_cons_succ]
    have o4 := gr_cell (gr_alloc wd (.cells #[.int .i64 x.id, .int .i64 x.rows, .int .i64 x.size, .int .i64 x.tl, .string (txt x.file)] 52) none) o3
    refine wpAnyH_ready (rs := [4]) (by kernel_rfl) (by simp) (AllReadyH.cons (o := ⟨some 40, _, _, _, _, _⟩) rfl (fun K hK => ?_) AllReadyH.nil)
    go_simp
    refine hK.out _ _ ?_ (fun hHeld => ?_)
    · exact hHeld
    clear hK K
    try simp only [Act.put, List.setIfInBounds_toArray, List.set_cons_zero, List.set_cons_succ]
    refine wpAnyH_ready (rs := [9]) (by kernel_rfl) (by simp) (AllReadyH.cons (o := ⟨some 45, _, _, _, _, _⟩) rfl (fun K hK => ?_) AllReadyH.nil)
    go_simp
    refine (dinsert A k c base wd.heap.size kk s2.op x _ ?_ (hS4.2.kept (gr_alloc wd (.cells #[.int .i64 x.id, .int .i64 x.rows, .int .i64 x.size, .int .i64 x.tl, .string (txt x.file)] 52) none) (Classical.em _)) hk5 (by rw [← hkn]; exact hpl.out.1) (blk_new wd _) ?_).mono ?_
    · exact Nat.le_trans hbase (Nat.le_trans g1.out.size (Nat.le_trans gd.size (gr_alloc wd (.cells #[.int .i64 x.id, .int .i64 x.rows, .int .i64 x.size, .int .i64 x.tl, .string (txt x.file)] 52) none).size))
    · intro a ha e
      have h7 := (hS4.2.lt a.block (by rw [ha]; rfl)).2
      omega
    rintro e wI ⟨A', c', rfl, hoI, gI⟩
    try (go_wp2_with fail)
    have hap4 := st_apart hS4.1 hS4.2
    have gI2 : GrS (Tn St (Value.slice A n c).ownBlock) W1 wI := grs_trans (grs_trans gd (tn_gr (gr_alloc wd (.cells #[.int .i64 x.id, .int .i64 x.rows, .int .i64 x.size, .int .i64 x.tl, .string (txt x.file)] 52) none))) (by rw [← ob2]; exact tn_ob gI)
    have hSI := st_after (stAt_gr hS4.1 (gr_alloc wd (.cells #[.int .i64 x.id, .int .i64 x.rows, .int .i64 x.size, .int .i64 x.tl, .string (txt x.file)] 52) none)) gI hap4
    have hapI := st_apart hSI hoI
    refine hK.out _ _ ?_ (fun hHeld => ?_)
    · exact st.out _ gI2
    clear hK K
    try simp only [Act.put, List.setIfInBounds_toArray, List.set_cons_zero, List.set_cons_succ]
    refine wpAnyH_take (i := 10) (oi := ⟨some 46, _, _, _, _, _⟩) (v := ?_) rfl (by kernel_rfl) (by kernel_rfl) (by kernel_rfl) (fun _ _ _ h => h) (Or.inl ⟨by rfl, ?_⟩) hHeld ?_
    rotate_left
    · intro w hSw
      try dsimp only at hSw
      go_simp
      first | done | with_reducible rfl
    try simp only [Act.put, List.setIfInBounds_toArray, List.set_cons_zero, List.set_cons_succ]
    refine wpAnyH_take (i := 11) (oi := ⟨some 47, _, _, _, _, _⟩) (v := ?_) rfl (by kernel_rfl) (by kernel_rfl) (by kernel_rfl) (fun _ _ _ h => h) (Or.inl ⟨by rfl, ?_⟩) hHeld ?_
    rotate_left
    · intro w hSw
      try dsimp only at hSw
      go_simp
      first | done | with_reducible rfl
    try simp only [Act.put, List.setIfInBounds_toArray, List.set_cons_zero, List.set_cons_succ]
    have o5 : wI.cell? ⟨St, 2, none⟩ = some (.slice A k c) := fcell hSI rfl
    have z5 := fzero hSI 2
    refine wpAnyH_ready (rs := [12]) (by kernel_rfl) (by simp) (AllReadyH.cons (o := ⟨none, _, _, _, _, _⟩) rfl (fun K hK => ?_) AllReadyH.nil)
    go_simp
    refine hK.out _ _ ?_ (fun hHeld => ?_)
    · exact st.out _ (grs_trans gI2 (tn_st (gr_set wI ⟨St, 2, none⟩ _)))
    clear hK K
    try simp only [Act.put, List.setIfInBounds_toArray, List.set_cons_zero, List.set_cons_succ]
    refine wpAnyH_done (by kernel_rfl) ?_ _
    have hSF : StAt (wI.setCell ⟨St, 2, none⟩ (.slice A' (k + 1) c')) St s2.next s2.now (.slice A' (k + 1) c') s2.seg s2.pts := blk_set hSI 2 (.slice A' (k + 1) c')
    have hoF := own_after hoI (gr_set wI ⟨St, 2, none⟩ (.slice A' (k + 1) c')) hapI
    have gF := grs_trans gI2 (tn_st (gr_set wI ⟨St, 2, none⟩ (.slice A' (k + 1) c')))
    rw [show s2.op.take kk ++ x :: s2.op.drop kk = insM x s2.op from by rw [(place_split hpl.out).1, (place_split hpl.out).2]; rfl] at hoF
    have hFin : StIs (wI.setCell ⟨St, 2, none⟩ (.slice A' (k + 1) c')) St base { s2 with op := insM x s2.op } A' (k + 1) c' := ⟨hSF, hoF⟩
    generalize wI.setCell ⟨St, 2, none⟩ (.slice A' (k + 1) c') = WF at *
    clear o3 o4 o5 z5 hHeld hSI gI gI2 hS4 gd hoI hapI hap4 hSF hoF
    replace hFin := Lib.hid hFin
    replace gF := Lib.hid gF
    go_wp2
    go_end0
    have e2 := hs2.out
    subst e2
    exact ⟨rfl, ⟨A', k + 1, c', stIs_gr (stIs_gr (stIs_gr hFin.out (gr_alloc _ _ _)) (gr_alloc _ _ _)) (gr_alloc _ _ _)⟩, grs_trans (grs_trans (grs_trans (grs_trans (tn_gr g1.out) gF.out) (tn_gr (gr_alloc _ _ _))) (tn_gr (gr_alloc _ _ _))) (tn_gr (gr_alloc _ _ _))⟩

end Go.Proofs.YtmldoeeangekoaaGreatDoor.Dy
/- (soft)
  diary's fold of a note that closes, of a clock's, of a segment's, and of none. No condition but the machine's numbers.
-/
namespace Go.Proofs.YtmldoeeangekoaaGreatDoor.Dy
open Go.RowKit

set_option maxHeartbeats 16000000 in
set_option maxRecDepth 100000 in
theorem dfold_closed (St base : Nat) (s : StM) (A : Option Addr) (n c : Nat) (id : Int) (w : World) (h : StIs w St base s A n c) (hid : 1 ≤ id ∧ id ≤ 1000000) (hn : n ≤ 100000) :
    Calls Tryz.prog 31 #[.pointer (some ⟨St, 0, none⟩), .iface 133 (.agg #[.int .i64 id])] w fun e w' => e = .returned (.tuple #[]) ∧ (∃ A' n' c', StIs w' St base (closeM s id) A' n' c') ∧ GrS (Tn St (Value.slice A n c).ownBlock) w w' := by
  have ta1 := fun W => ta_closed_opened (.agg #[.int .i64 id]) W
  have ta2 := fun W => ta_closed_closed (.agg #[.int .i64 id]) W
  have ta3 := fun W => ta_closed_clock (.agg #[.int .i64 id]) W
  have ta4 := fun W => ta_closed_segment (.agg #[.int .i64 id]) W
  have cC := fun W hW => dclose St base s A n c id W hW hid (by omega)
  replace cC := Lib.hid cC
  replace h := Lib.hid h
  go_enter Tryz.func31, Tryz.ntmps31
  go_wp2_with fail
  refine (cC.out _ (stIs_gr h.out (gr_trans (gr_trans (gr_alloc _ _ _) (gr_alloc _ _ _)) (gr_alloc _ _ _)))).mono ?_
  rintro e W2 ⟨rfl, ⟨k, hS2⟩, g2⟩
  have gw : GrS (Tn St (Value.slice A n c).ownBlock) w W2 := grs_trans (tn_gr (gr_trans (gr_trans (gr_alloc _ _ _) (gr_alloc _ _ _)) (gr_alloc _ _ _))) g2
  clear g2 cC h
  replace hS2 := Lib.hid hS2
  replace gw := Lib.hid gw
  go_wp2
  go_end0
  exact ⟨rfl, ⟨A, k, c, stIs_gr (stIs_gr hS2.out (gr_alloc _ _ _)) (gr_alloc _ _ _)⟩, grs_trans (grs_trans gw.out (tn_gr (gr_alloc _ _ _))) (tn_gr (gr_alloc _ _ _))⟩

set_option maxHeartbeats 8000000 in
set_option maxRecDepth 100000 in
theorem dfold_nil (St base : Nat) (s : StM) (A : Option Addr) (n c : Nat) (w : World) (h : StIs w St base s A n c) :
    Calls Tryz.prog 31 #[.pointer (some ⟨St, 0, none⟩), .nilIface] w fun e w' => e = .returned (.tuple #[]) ∧ (∃ A' n' c', StIs w' St base s A' n' c') ∧ GrS (Tn St (Value.slice A n c).ownBlock) w w' := by
  have ta1 := fun W => ta_nil_opened W
  have ta2 := fun W => ta_nil_closed W
  have ta3 := fun W => ta_nil_clock W
  have ta4 := fun W => ta_nil_segment W
  replace h := Lib.hid h
  go_enter Tryz.func31, Tryz.ntmps31
  go_wp2
  go_end0
  refine ⟨rfl, ⟨A, n, c, stIs_gr h.out ?_⟩, tn_gr ?_⟩
  · exact gr_trans (gr_trans (gr_trans (gr_trans (gr_alloc _ _ _) (gr_alloc _ _ _)) (gr_alloc _ _ _)) (gr_alloc _ _ _)) (gr_alloc _ _ _)
  · exact gr_trans (gr_trans (gr_trans (gr_trans (gr_alloc _ _ _) (gr_alloc _ _ _)) (gr_alloc _ _ _)) (gr_alloc _ _ _)) (gr_alloc _ _ _)

set_option maxHeartbeats 16000000 in
set_option maxRecDepth 100000 in
theorem dfold_seg (St base : Nat) (s : StM) (A : Option Addr) (n c : Nat) (file : List UInt8) (pts : Int) (w : World) (h : StIs w St base s A n c) :
    Calls Tryz.prog 31 #[.pointer (some ⟨St, 0, none⟩), .iface 141 (.agg #[.string (txt file), .int .i64 pts])] w fun e w' => e = .returned (.tuple #[]) ∧ (∃ A' n' c', StIs w' St base { s with seg := file, pts := pts } A' n' c') ∧ GrS (Tn St (Value.slice A n c).ownBlock) w w' := by
  have ta1 := fun W => ta_segment_opened (.agg #[.string (txt file), .int .i64 pts]) W
  have ta2 := fun W => ta_segment_closed (.agg #[.string (txt file), .int .i64 pts]) W
  have ta3 := fun W => ta_segment_clock (.agg #[.string (txt file), .int .i64 pts]) W
  have ta4 := fun W => ta_segment_segment (.agg #[.string (txt file), .int .i64 pts]) W
  replace h := Lib.hid h
  go_enter Tryz.func31, Tryz.ntmps31
  go_upto_region 15 with fail
  obtain ⟨W1, hW1⟩ : ∃ W1, W1 = ((((w.alloc (.cells #[.pointer (some ⟨St, 0, none⟩)] 124)).alloc (.cells #[.int .i64 0, .int .i64 0, .int .i64 0, .int .i64 0, .string ⟨#[]⟩] 126)).alloc (.cells #[.int .i64 0] 133)).alloc (.cells #[.int .i64 0] 136)).alloc (.cells #[.string (txt file), .int .i64 pts] 141) := ⟨_, rfl⟩
  rw [← hW1]
  have g1 : Gr w W1 := by rw [hW1]; exact gr_trans (gr_trans (gr_trans (gr_trans (gr_alloc _ _ _) (gr_alloc _ _ _)) (gr_alloc _ _ _)) (gr_alloc _ _ _)) (gr_alloc _ _ _)
  have p1 : W1.cell? ⟨w.heap.size, 0, none⟩ = some (.pointer (some ⟨St, 0, none⟩)) := by rw [hW1]; exact gr_cell (gr_alloc _ _ none) (gr_cell (gr_alloc _ _ none) (gr_cell (gr_alloc _ _ none) (gr_cell (gr_alloc _ _ none) (cell0_new _ _ _))))
  have hz1 : ((((w.alloc (.cells #[.pointer (some ⟨St, 0, none⟩)] 124)).alloc (.cells #[.int .i64 0, .int .i64 0, .int .i64 0, .int .i64 0, .string ⟨#[]⟩] 126)).alloc (.cells #[.int .i64 0] 133)).alloc (.cells #[.int .i64 0] 136)).heap.size = w.heap.size + 4 := by simp
  have q0 : W1.cell? ⟨w.heap.size + 4, 0, none⟩ = some (.string (txt file)) := by rw [hW1, ← hz1, World.cell?_alloc_new]; rfl
  have q1 : W1.cell? ⟨w.heap.size + 4, 1, none⟩ = some (.int .i64 pts) := by rw [hW1, ← hz1, World.cell?_alloc_new]; rfl
  have hS1 := stIs_gr h.out g1
  have d3 : W1.cell? ⟨St, 3, none⟩ = some (.string (txt s.seg)) := fcell hS1.1 rfl
  have d4 : W1.cell? ⟨St, 4, none⟩ = some (.int .i64 s.pts) := fcell hS1.1 rfl
  have y3 := fzero hS1.1 3
  have y4 := fzero hS1.1 4
  have hlt := lt_of_blk h.out.1
  have hap := st_apart hS1.1 hS1.2
  replace hS1 := Lib.hid hS1
  replace g1 := Lib.hid g1
  replace h := Lib.hid h
  replace hap := Lib.hid hap
  clear hW1 hz1
  go_region
  all_goals
    go_wp2
    go_end0
    have hs3 := gr_set W1 ⟨St, 3, none⟩ (.string (txt file))
    have hs4 := gr_set (W1.setCell ⟨St, 3, none⟩ (.string (txt file))) ⟨St, 4, none⟩ (.int .i64 pts)
    refine ⟨rfl, ⟨A, n, c, ?_, ?_⟩, grs_trans (grs_trans (grs_trans (tn_gr g1.out) (tn_st hs3)) (tn_st hs4)) (tn_gr (gr_drew _ _))⟩
    · have h9 := blk_set hS1.out.1 3 (.string (txt file))
      have h10 := blk_set h9 4 (.int .i64 pts)
      exact stAt_gr h10 (gr_drew _ _)
    · exact (own_after (own_after hS1.out.2 hs3 hap.out) hs4 hap.out).kept (gr_drew _ none) (Classical.em _)
set_option maxHeartbeats 32000000 in
set_option maxRecDepth 100000 in
theorem dfold_clock (St base : Nat) (s : StM) (A : Option Addr) (n c : Nat) (tl : Int) (w : World) (h : StIs w St base s A n c) (hn : n ≤ 100000) :
    Calls Tryz.prog 31 #[.pointer (some ⟨St, 0, none⟩), .iface 136 (.agg #[.int .i64 tl])] w fun e w' => e = .returned (.tuple #[]) ∧ (∃ A' n' c', StIs w' St base { s with now := max s.now tl, op := s.op.filter (fun y => !decide (y.tl < max s.now tl)) } A' n' c') ∧ GrS (Tn St (Value.slice A n c).ownBlock) w w' := by
  have ta1 := fun W => ta_clock_opened (.agg #[.int .i64 tl]) W
  have ta2 := fun W => ta_clock_closed (.agg #[.int .i64 tl]) W
  have ta3 := fun W => ta_clock_clock (.agg #[.int .i64 tl]) W
  have ta4 := fun W => ta_clock_segment (.agg #[.int .i64 tl]) W
  have hob : ∀ k, (Value.slice A n c).ownBlock = some k → k < w.heap.size := fun k hk => (h.2.lt k hk).2
  replace h := Lib.hid h
  replace hob := Lib.hid hob
  go_enter Tryz.func31, Tryz.ntmps31
  go_upto_region 11 with fail
  obtain ⟨W1, hW1⟩ : ∃ W1, W1 = (((w.alloc (.cells #[.pointer (some ⟨St, 0, none⟩)] 124)).alloc (.cells #[.int .i64 0, .int .i64 0, .int .i64 0, .int .i64 0, .string ⟨#[]⟩] 126)).alloc (.cells #[.int .i64 0] 133)).alloc (.cells #[.int .i64 tl] 136) := ⟨_, rfl⟩
  rw [← hW1]
  have g1 : Gr w W1 := by rw [hW1]; exact gr_trans (gr_trans (gr_trans (gr_alloc _ _ _) (gr_alloc _ _ _)) (gr_alloc _ _ _)) (gr_alloc _ _ _)
  have p1 : W1.cell? ⟨w.heap.size, 0, none⟩ = some (.pointer (some ⟨St, 0, none⟩)) := by rw [hW1]; exact gr_cell (gr_alloc _ _ none) (gr_cell (gr_alloc _ _ none) (gr_cell (gr_alloc _ _ none) (cell0_new _ _ _)))
  have hz1 : (((w.alloc (.cells #[.pointer (some ⟨St, 0, none⟩)] 124)).alloc (.cells #[.int .i64 0, .int .i64 0, .int .i64 0, .int .i64 0, .string ⟨#[]⟩] 126)).alloc (.cells #[.int .i64 0] 133)).heap.size = w.heap.size + 3 := by simp
  have q0 : W1.cell? ⟨w.heap.size + 3, 0, none⟩ = some (.int .i64 tl) := by rw [hW1, ← hz1, World.cell?_alloc_new]; rfl
  have hS1 := stIs_gr h.out g1
  have d1 : W1.cell? ⟨St, 1, none⟩ = some (.int .i64 s.now) := fcell hS1.1 rfl
  have y1 := fzero hS1.1 1
  have hlt := lt_of_blk h.out.1
  have hap := st_apart hS1.1 hS1.2
  have hz9 := g1.size
  replace hS1 := Lib.hid hS1
  replace g1 := Lib.hid g1
  replace h := Lib.hid h
  replace hap := Lib.hid hap
  clear hW1 hz1
  go_cut [] (fun wx => wx = (W1.setCell ⟨St, 1, none⟩ (.int .i64 (max s.now tl))).drew)
  case first =>
    by_cases hm : s.now < tl
    · go_region
      all_goals
        go_wp2_with fail
        go_meet
        rw [show max s.now tl = tl by omega]
    · go_region
      all_goals
        go_wp2_with fail
        go_meet
        rw [show max s.now tl = s.now by omega]
  case rest =>
  subst hcut
  obtain ⟨wc, hwc⟩ : ∃ wc, wc = (W1.setCell ⟨St, 1, none⟩ (.int .i64 (max s.now tl))).drew := ⟨_, rfl⟩
  rw [← hwc]
  have hs1 := gr_set W1 ⟨St, 1, none⟩ (.int .i64 (max s.now tl))
  have gc : GrS (Tn St (Value.slice A n c).ownBlock) w wc := by rw [hwc]; exact grs_trans (grs_trans (tn_gr g1.out) (tn_st hs1)) (tn_gr (gr_drew _ _))
  have pc : wc.cell? ⟨w.heap.size, 0, none⟩ = some (.pointer (some ⟨St, 0, none⟩)) := by rw [hwc]; exact gr_cell (gr_drew _ none) (hs1.cell p1 (by simp; omega))
  have hSc : StIs wc St base { s with now := max s.now tl } A n c := by
    rw [hwc]
    exact ⟨stAt_gr (blk_set hS1.out.1 1 (.int .i64 (max s.now tl))) (gr_drew _ _), (own_after hS1.out.2 hs1 hap.out).kept (gr_drew _ none) (Classical.em _)⟩
  have hzc := gc.size
  replace hSc := Lib.hid hSc
  replace gc := Lib.hid gc
  clear hs1 p1 q0 d1 y1 hS1 g1 hz9 hwc W1
  generalize hmx : max s.now tl = mx at *
  go_upto_region 12 with fail
  refine wp_region_held_drew (S := (fun w' => w'.cell? ⟨w.heap.size, 0, none⟩ = some (.pointer (some ⟨St, 0, none⟩)))) (by kernel_rfl) (gr_cell (gr_drew wc none) pc) (fun hHeld => ?_)
  have gd : GrS (Tn St (Value.slice A n c).ownBlock) w wc.drew := grs_trans gc.out (tn_gr (gr_drew _ _))
  have pd : wc.drew.cell? ⟨w.heap.size, 0, none⟩ = some (.pointer (some ⟨St, 0, none⟩)) := gr_cell (gr_drew wc none) pc
  have hSd : StIs wc.drew St base { s with now := mx } A n c := stIs_gr hSc.out (gr_drew _ _)
  clear gc pc hSc hzc
  generalize wc.drew = wd at *
  have hzd := gd.size
  have d1 : wd.cell? ⟨St, 1, none⟩ = some (.int .i64 mx) := fcell hSd.1 rfl
  have d2 : wd.cell? ⟨St, 2, none⟩ = some (.slice A n c) := fcell hSd.1 rfl
  have y2 := fzero hSd.1 2
  have cD := ddel_fold (fun W => W.cell? ⟨w.heap.size, 0, none⟩ = some (.pointer (some ⟨St, 0, none⟩)) ∧ W.cell? ⟨St, 1, none⟩ = some (.int .i64 mx)) (fun y => decide (y.tl < mx)) (.pointer (some ⟨w.heap.size, 0, none⟩)) (fun x W hW => pfold_any x w.heap.size St mx W hW.1 hW.2) A n c base (fun W W' hW g => ⟨g.cell hW.1 (by simp; intro e; have := hob.out _ e.symm; omega), g.cell hW.2 (fun e => hap.out e.symm)⟩) s.op wd hSd.2 (by omega) ⟨pd, d1⟩
  replace cD := Lib.hid cD
  replace hSd := Lib.hid hSd
  replace gd := Lib.hid gd
  replace hmx := Lib.hid hmx
  refine wpAnyH_take (i := 0) (oi := ⟨some 74, _, _, _, _, _⟩) (v := ?_) rfl (by kernel_rfl) (by kernel_rfl) (by kernel_rfl) (fun _ _ _ h => h) (Or.inl ⟨by rfl, ?_⟩) hHeld ?_
  rotate_left
  · intro w hSw
    try dsimp only at hSw
    go_simp
    first | done | with_reducible rfl
  try simp only [Act.put, List.setIfInBounds_toArray, List.set_cons_zero, List.set_cons_succ]
  refine wpAnyH_take (i := 1) (oi := ⟨some 75, _, _, _, _, _⟩) (v := ?_) rfl (by kernel_rfl) (by kernel_rfl) (by kernel_rfl) (fun _ _ _ h => h) (Or.inl ⟨by rfl, ?_⟩) hHeld ?_
  rotate_left
  · intro w hSw
    try dsimp only at hSw
    go_simp
    first | done | with_reducible rfl
  try simp only [Act.put, List.setIfInBounds_toArray, List.set_cons_zero, List.set_cons_succ]
  refine wpAnyH_take (i := 2) (oi := ⟨some 76, _, _, _, _, _⟩) (v := ?_) rfl (by kernel_rfl) (by kernel_rfl) (by kernel_rfl) (fun _ _ _ h => h) (Or.inl ⟨by rfl, ?_⟩) hHeld ?_
  rotate_left
  · intro w hSw
    try dsimp only at hSw
    go_simp
    first | done | with_reducible rfl
  try simp only [Act.put, List.setIfInBounds_toArray, List.set_cons_zero, List.set_cons_succ]
  refine wpAnyH_take (i := 3) (oi := ⟨some 77, _, _, _, _, _⟩) (v := ?_) rfl (by kernel_rfl) (by kernel_rfl) (by kernel_rfl) (fun _ _ _ h => h) (Or.inl ⟨by rfl, ?_⟩) hHeld ?_
  rotate_left
  · intro w hSw
    try dsimp only at hSw
    go_simp
    first | done | with_reducible rfl
  try simp only [Act.put, List.setIfInBounds_toArray, List.set_cons_zero, List.set_cons_succ]
  refine wpAnyH_take (i := 5) (oi := ⟨some 79, _, _, _, _, _⟩) (v := ?_) rfl (by kernel_rfl) (by kernel_rfl) (by kernel_rfl) (fun _ _ _ h => h) (Or.inl ⟨by rfl, ?_⟩) hHeld ?_
  rotate_left
  · intro w hSw
    try dsimp only at hSw
    go_simp
    first | done | with_reducible rfl
  try simp only [Act.put, List.setIfInBounds_toArray, List.set_cons_zero, List.set_cons_succ]
  refine wpAnyH_ready (rs := [4]) (by kernel_rfl) (by simp) (AllReadyH.cons (o := ⟨some 78, _, _, _, _, _⟩) rfl (fun K hK => ?_) AllReadyH.nil)
  go_simp
  refine hK.out _ _ ?_ (fun hHeld => ?_)
  · exact hHeld
  clear hK K
  try simp only [Act.put, List.setIfInBounds_toArray, List.set_cons_zero, List.set_cons_succ]
  refine wpAnyH_ready (rs := [6]) (by kernel_rfl) (by simp) (AllReadyH.cons (o := ⟨some 80, _, _, _, _, _⟩) rfl (fun K hK => ?_) AllReadyH.nil)
  go_simp
  refine (cD.out).mono ?_
  rintro e W3 ⟨k, rfl, ho3, g3⟩
  try (go_wp2_with fail)
  have p3 : W3.cell? ⟨w.heap.size, 0, none⟩ = some (.pointer (some ⟨St, 0, none⟩)) := g3.cell pd (by simp; intro e; have := hob.out _ e.symm; omega)
  have hS3 := st_after hSd.out.1 g3 hap.out
  have ob3 : (Value.slice A k c).ownBlock = (Value.slice A n c).ownBlock := by cases A <;> rfl
  have hap3 : (Value.slice A k c).ownBlock ≠ some St := by rw [ob3]; exact hap.out
  have g4 : GrS (Tn St (Value.slice A n c).ownBlock) w W3 := grs_trans gd.out (tn_ob g3)
  refine hK.out _ _ ?_ (fun hHeld => ?_)
  · exact p3
  clear hK K
  try simp only [Act.put, List.setIfInBounds_toArray, List.set_cons_zero, List.set_cons_succ]
  refine wpAnyH_take (i := 7) (oi := ⟨some 81, _, _, _, _, _⟩) (v := ?_) rfl (by kernel_rfl) (by kernel_rfl) (by kernel_rfl) (fun _ _ _ h => h) (Or.inl ⟨by rfl, ?_⟩) hHeld ?_
  rotate_left
  · intro w hSw
    try dsimp only at hSw
    go_simp
    first | done | with_reducible rfl
  try simp only [Act.put, List.setIfInBounds_toArray, List.set_cons_zero, List.set_cons_succ]
  refine wpAnyH_take (i := 8) (oi := ⟨some 82, _, _, _, _, _⟩) (v := ?_) rfl (by kernel_rfl) (by kernel_rfl) (by kernel_rfl) (fun _ _ _ h => h) (Or.inl ⟨by rfl, ?_⟩) hHeld ?_
  rotate_left
  · intro w hSw
    try dsimp only at hSw
    go_simp
    first | done | with_reducible rfl
  try simp only [Act.put, List.setIfInBounds_toArray, List.set_cons_zero, List.set_cons_succ]
  have o5 : W3.cell? ⟨St, 2, none⟩ = some (.slice A n c) := fcell hS3 rfl
  have z5 := fzero hS3 2
  refine wpAnyH_ready (rs := [9]) (by kernel_rfl) (by simp) (AllReadyH.cons (o := ⟨none, _, _, _, _, _⟩) rfl (fun K hK => ?_) AllReadyH.nil)
  go_simp
  have hs5 := gr_set W3 ⟨St, 2, none⟩ (.slice A k c)
  refine hK.out _ _ ?_ (fun hHeld => ?_)
  · exact hs5.cell p3 (by simp; have := hzd; omega)
  clear hK K
  try simp only [Act.put, List.setIfInBounds_toArray, List.set_cons_zero, List.set_cons_succ]
  refine wpAnyH_done (by kernel_rfl) ?_ _
  have hFin : StIs (W3.setCell ⟨St, 2, none⟩ (.slice A k c)) St base { s with now := mx, op := s.op.filter (fun y => !decide (y.tl < mx)) } A k c := ⟨blk_set hS3 2 (.slice A k c), own_after ho3 hs5 hap3⟩
  have gF := grs_trans g4 (tn_st hs5)
  generalize W3.setCell ⟨St, 2, none⟩ (.slice A k c) = WF at *
  clear o5 z5 hHeld hs5 g4 hS3 p3 g3 ho3 hSd cD d1 d2 y2 pd gd
  replace hFin := Lib.hid hFin
  replace gF := Lib.hid gF
  go_wp2
  go_end0
  have e9 := hmx.out
  subst e9
  exact ⟨rfl, ⟨A, k, c, stIs_gr hFin.out (gr_alloc _ _ _)⟩, grs_trans gF.out (tn_gr (gr_alloc _ _ _))⟩
/-- fold of any note into any state. -/
theorem dfold_any (St base : Nat) (s : StM) (A : Option Addr) (n c : Nat) (x : Nte) (w : World) (h : StIs w St base s A n c) (hbase : base ≤ w.heap.size) (hn : n ≤ 100000) (hso : Sorted s.op) (hids : Ids s.op) :
    Calls Tryz.prog 31 #[.pointer (some ⟨St, 0, none⟩), liftV x] w fun e w' => e = .returned (.tuple #[]) ∧ (∃ A' n' c', StIs w' St base (foldM s x) A' n' c') ∧ GrS (Tn St (Value.slice A n c).ownBlock) w w' := by
  unfold liftV foldM
  by_cases h1 : okOpen x
  · rw [if_pos h1, if_pos h1]
    exact dfold_opened St base s A n c x.c w h hbase h1.2.1 hn hso hids
  · rw [if_neg h1, if_neg h1]
    by_cases h2 : okClose x
    · rw [if_pos h2, if_pos h2]
      exact dfold_closed St base s A n c x.c.id w h h2.2.1 hn
    · rw [if_neg h2, if_neg h2]
      by_cases h3 : okClock x
      · rw [if_pos h3, if_pos h3]
        exact dfold_clock St base s A n c x.c.tl w h hn
      · rw [if_neg h3, if_neg h3]
        by_cases h4 : okSeg x
        · rw [if_pos h4, if_pos h4]
          exact dfold_seg St base s A n c x.c.file x.c.rows w h
        · rw [if_neg h4, if_neg h4]
          exact dfold_nil St base s A n c w h
end Go.Proofs.YtmldoeeangekoaaGreatDoor.Dy
/- (soft)
  diary.Fold of one note that opens. No condition but that it may be.
-/
namespace Go.Proofs.YtmldoeeangekoaaGreatDoor.Dy
open Go.RowKit

theorem infoSt : (Tryz.prog.info? 30).map (·.size) = some 5 := by kernel_rfl
theorem liftV_open {x : Nte} (h : okOpen x) : liftV x = .iface 126 (.agg #[.int .i64 x.c.id, .int .i64 x.c.rows, .int .i64 x.c.size, .int .i64 x.c.tl, .string (txt x.c.file)]) := by unfold liftV; rw [if_pos h]
theorem stAt_keep {w w' : World} {St b : Nat} {nx now : Int} {op : Value} {seg : List UInt8} {pts : Int} (h : StAt w St nx now op seg pts) (g : w.grownBy w' (some b)) (hne : b ≠ St) : StAt w' St nx now op seg pts := gr_blk g h (fun e => hne (Option.some.inj e).symm)
set_option maxHeartbeats 16000000 in
set_option maxRecDepth 100000 in
theorem dFold1 (B : Nat) (x : Nte) (w : World) (h : okOpen x) (_hB : B < w.heap.size) (hx : ∀ j, j < 6 → w.cell? ⟨B, j, none⟩ = (nteC x)[j]?) :
    Calls Tryz.prog 7 #[.slice (some ⟨B, 0, none⟩) 1 1] w fun e w' => (∃ A cap, e = .returned (.agg #[.int .i64 (x.c.id + 1), .int .i64 0, .slice A 1 cap, .string ⟨#[]⟩, .int .i64 0])) ∧ Gr w w' := by
  have cL := fun W => lift_any x W
  unfold LiftPost nteV at cL
  rw [liftV_open h] at cL
  have hid : 1 ≤ x.c.id ∧ x.c.id ≤ 1000000 := h.2.1
  have cF := fun St W hS => dfold_open St x.c 0 [] 0 W hS hid
  have c0 : w.cell? ⟨B, 0, none⟩ = some (.int .i64 x.kind) := hx 0 (by decide)
  have c1 : w.cell? ⟨B, 1, none⟩ = some (.int .i64 x.c.id) := hx 1 (by decide)
  have c2 : w.cell? ⟨B, 2, none⟩ = some (.int .i64 x.c.rows) := hx 2 (by decide)
  have c3 : w.cell? ⟨B, 3, none⟩ = some (.int .i64 x.c.size) := hx 3 (by decide)
  have c4 : w.cell? ⟨B, 4, none⟩ = some (.int .i64 x.c.tl) := hx 4 (by decide)
  have c5 : w.cell? ⟨B, 5, none⟩ = some (.string (txt x.c.file)) := hx 5 (by decide)
  clear hx h
  obtain ⟨kd, ⟨id, rows, size, tl, file⟩⟩ := x
  simp only at cL cF hid c0 c1 c2 c3 c4 c5 ⊢
  replace cL := Lib.hid cL
  replace cF := Lib.hid cF
  go_enter Tryz.func7, Tryz.ntmps7
  go_wp2
  go_loopw [9] (fun iv wr => ∃ (k : Nat) (nx : Int) (op : Value), k ≤ 1 ∧ iv = .int .i64 k ∧ Hid ((k = 0 ∧ nx = 1 ∧ op = .slice none 0 0) ∨ (k = 1 ∧ nx = id + 1 ∧ ∃ A cap, op = .slice A 1 cap)) ∧ Hid (StAt wr (w.heap.size + 1) nx 0 op [] 0) ∧ Hid (StAt wr w.heap.size 0 0 (.slice none 0 0) [] 0) ∧ Hid (Below w.heap.size w wr)) (fun iv _ => 1 - (intOf iv).toNat)
  case atStart =>
    have hz : (w.alloc (.cells (stC 0 0 (.slice none 0 0) [] 0) 30)).heap.size = w.heap.size + 1 := by simp
    have hn1 := blk_new (w.alloc (.cells (stC 0 0 (.slice none 0 0) [] 0) 30)) (.cells (stC 1 0 (.slice none 0 0) [] 0) 30)
    rw [hz] at hn1
    exact ⟨0, 1, .slice none 0 0, by decide, rfl, .inl ⟨rfl, rfl, rfl⟩, hn1, gr_blk (gr_alloc _ _ none) (blk_new w _) (by simp), gr_below (gr_trans (gr_alloc _ _ _) (gr_alloc _ _ _))⟩
  case round =>
    obtain ⟨k, nx, op, hk, rfl, hor, hS, hR, hbel⟩ := hrel
    have hs := hbel.out.size
    rcases hor.out with ⟨rfl, rfl, rfl⟩ | ⟨rfl, rfl, A, cap, rfl⟩
    · have gB : ∀ (j : Nat) (v : Value), w.cell? ⟨B, j, none⟩ = some v → wr.cell? ⟨B, j, none⟩ = some v := fun j v hv => gr_cell (gr_of_below hbel.out (Nat.le_refl _)) hv
      have d0 := gB _ _ c0
      have d1 := gB _ _ c1
      have d2 := gB _ _ c2
      have d3 := gB _ _ c3
      have d4 := gB _ _ c4
      have d5 := gB _ _ c5
      have hlt := lt_of_blk hS.out
      clear c0 c1 c2 c3 c4 c5 gB
      go_wp2_with fail
      refine (cL.out _).mono ?_
      rintro e W2 ⟨rfl, g2⟩
      have gA : Gr wr W2 := gr_trans (gr_alloc _ _ _) g2
      have hS2 := stAt_gr hS.out gA
      have hR2 := stAt_gr hR.out gA
      have hbel2 := below_gr hbel.out gA hs (by simp)
      clear g2
      go_wp2_with fail
      refine (cF.out _ _ hS2).mono ?_
      rintro e W3 ⟨rfl, ⟨A, cap, hS3⟩, g3⟩
      have hR3 := stAt_keep hR2 g3 (by omega)
      have hbel3 : Below w.heap.size w W3 := hbel2.trans ((Below.refl _ _).grown g3 hbel2.size (by intro k hk; cases hk; exact Nat.le_succ _))
      replace hS3 := Lib.hid hS3
      replace hR3 := Lib.hid hR3
      replace hbel3 := Lib.hid hbel3
      clear hS2 hR2 hbel2 gA g3
      go_wp2
      go_roundw
      case rel => exact ⟨1, _, _, by decide, by rfl, .inr ⟨rfl, rfl, A, cap, rfl⟩, hS3.out, hR3.out, hbel3.out⟩
      case measure => simp [intOf]
    · have s0 : wr.cell? ⟨w.heap.size + 1, 0, none⟩ = some (.int .i64 (id + 1)) := fcell hS.out rfl
      have s1 : wr.cell? ⟨w.heap.size + 1, 1, none⟩ = some (.int .i64 0) := fcell hS.out rfl
      have s2 : wr.cell? ⟨w.heap.size + 1, 2, none⟩ = some (.slice A 1 cap) := fcell hS.out rfl
      have s3 : wr.cell? ⟨w.heap.size + 1, 3, none⟩ = some (.string (txt [])) := fcell hS.out rfl
      have s4 : wr.cell? ⟨w.heap.size + 1, 4, none⟩ = some (.int .i64 0) := fcell hS.out rfl
      have hth : wr.there w.heap.size 0 5 := fun j hj => ⟨by
        match j, hj with
        | 0, _ => rw [fcell hR.out rfl]; rfl
        | 1, _ => rw [fcell hR.out rfl]; rfl
        | 2, _ => rw [fcell hR.out rfl]; rfl
        | 3, _ => rw [fcell hR.out rfl]; rfl
        | 4, _ => rw [fcell hR.out rfl]; rfl
        | j + 5, hj => omega, fzero hR.out _⟩
      have hsame := World.rangeAt_setCells_same wr w.heap.size 0 [.int .i64 (id + 1), .int .i64 0, .slice A 1 cap, .string (txt []), .int .i64 0] hth
      have hgs := gr_setCells wr w.heap.size 0 [.int .i64 (id + 1), .int .i64 0, .slice A 1 cap, .string (txt []), .int .i64 0]
      have r0 := hsame 0 _ rfl
      have r1 := hsame 1 _ rfl
      have r2 := hsame 2 _ rfl
      have r3 := hsame 3 _ rfl
      have r4 := hsame 4 _ rfl
      simp only [Nat.zero_add] at r0 r1 r2 r3 r4
      replace hgs := Lib.hid hgs
      clear hsame c0 c1 c2 c3 c4 c5
      go_upto_region 7 with fail
      go_wp2_with (refine wpList_store_mid (op := ⟨none, _, _, _, _, _⟩) rfl 30 _ _ rfl w.heap.size 0 #[.int .i64 (id + 1), .int .i64 0, .slice A 1 cap, .string (txt []), .int .i64 0] rfl rfl hth infoSt (by simp [Value.oneCell']) ?_)
      (try simp only [Exit.inBlock, Exit.then])
      refine bodyPost_ret (by simp [results, Tryz.results7, go_sem, r0, r1, r2, r3, r4]; try rfl) rfl ?_
      exact ⟨⟨A, cap, rfl⟩, gr_of_below (hbel.out.grown hgs.out hs (fun k hk => by cases hk; exact Nat.le_refl _)) (Nat.le_refl _)⟩
end Go.Proofs.YtmldoeeangekoaaGreatDoor.Dy
/- (soft)
  What notes come to, and the fewest that do. No condition.
-/
namespace Go.Proofs.YtmldoeeangekoaaGreatDoor.Dy
open Go.RowKit

def s0M : StM := ⟨1, 0, [], [], 0⟩
/-- A note that opens. -/
def opN (c : Cur) : Nte := ⟨1, c⟩
/-- The fewest notes. -/
def fewM (s : StM) : List Nte :=
  (if 0 < s.next - 1 ∧ (s.op.any (fun y => y.id == s.next - 1)) = false then [⟨2, ⟨s.next - 1, 0, 0, 0, []⟩⟩] else []) ++ (if 0 < s.now then [⟨3, ⟨0, 0, 0, s.now, []⟩⟩] else []) ++ (if s.seg = [] then [] else [⟨4, ⟨0, s.pts, 0, 0, s.seg⟩⟩]) ++ s.op.map opN
/-- What holds of each state that notes come to. -/
structure InvM (s : StM) : Prop where
  nx : 1 ≤ s.next ∧ s.next ≤ 1000001
  nw : 0 ≤ s.now ∧ s.now ≤ 1000000000
  so : Sorted s.op
  ok : ∀ y ∈ s.op, okOpen (opN y) ∧ y.id < s.next
  sg : (s.seg = [] ∧ s.pts = 0) ∨ ((0 ≤ s.pts ∧ s.pts ≤ 1000) ∧ (1 ≤ s.seg.length ∧ s.seg.length ≤ 60))
theorem inv0 : InvM s0M := ⟨⟨by decide, by decide⟩, ⟨by decide, by decide⟩, List.Pairwise.nil, fun y hy => (List.not_mem_nil hy).elim, .inl ⟨rfl, rfl⟩⟩
theorem inv_ids {s : StM} (h : InvM s) : Ids s.op := fun y hy => (h.ok y hy).1.2.1
theorem inv_close {s : StM} (h : InvM s) {id : Int} (hid : 1 ≤ id ∧ id ≤ 1000000) : InvM (closeM s id) := by
  refine ⟨?_, h.nw, List.Pairwise.filter _ h.so, fun y hy => ?_, h.sg⟩
  · have := h.nx
    simp only [closeM]
    omega
  · obtain ⟨h1, h2⟩ := h.ok y (List.mem_filter.1 hy).1
    refine ⟨h1, ?_⟩
    simp only [closeM]
    omega
theorem insM_mem {x y : Cur} {zs : List Cur} (h : y ∈ insM x zs) : y = x ∨ y ∈ zs := by
  unfold insM at h
  rcases List.mem_append.1 h with h | h
  · exact .inr (List.mem_filter.1 h).1
  · rcases List.mem_cons.1 h with h | h
    · exact .inl h
    · exact .inr (List.mem_filter.1 h).1
theorem insM_sorted {x : Cur} {zs : List Cur} (h : Sorted zs) (hne : ∀ y ∈ zs, y.id ≠ x.id) : Sorted (insM x zs) := by
  unfold insM Sorted
  rw [List.pairwise_append]
  refine ⟨List.Pairwise.filter _ h, List.pairwise_cons.2 ⟨fun y hy => ?_, List.Pairwise.filter _ h⟩, fun a ha b hb => ?_⟩
  · obtain ⟨h1, h2⟩ := List.mem_filter.1 hy
    have := hne y h1
    simp at h2
    omega
  · have ha2 := (List.mem_filter.1 ha).2
    simp at ha2
    rcases List.mem_cons.1 hb with rfl | hb
    · exact ha2
    · have hb2 := (List.mem_filter.1 hb).2
      simp at hb2
      omega
theorem close_ne {s : StM} {id : Int} : ∀ y ∈ (closeM s id).op, y.id ≠ id := fun y hy => by
  have := (List.mem_filter.1 hy).2
  simpa using this
theorem inv_fold {s : StM} (h : InvM s) (x : Nte) : InvM (foldM s x) := by
  unfold foldM
  split
  · next ho =>
    have hc := inv_close h ho.2.1
    refine ⟨hc.nx, hc.nw, insM_sorted hc.so close_ne, fun y hy => ?_, hc.sg⟩
    rcases insM_mem hy with rfl | hy
    · refine ⟨⟨rfl, ho.2⟩, ?_⟩
      show x.c.id < max s.next (x.c.id + 1)
      omega
    · exact hc.ok y hy
  · split
    · next ho => exact inv_close h ho.2.1
    · split
      · next ho =>
        refine ⟨h.nx, ?_, List.Pairwise.filter _ h.so, fun y hy => h.ok y (List.mem_filter.1 hy).1, h.sg⟩
        have h1 := h.nw
        have h2 := ho.2.1
        show 0 ≤ max s.now x.c.tl ∧ max s.now x.c.tl ≤ 1000000000
        omega
      · split
        · next ho => exact ⟨h.nx, h.nw, h.so, h.ok, .inr ⟨ho.2.1, ho.2.2.1⟩⟩
        · exact h
theorem inv_folds : ∀ (l : List Nte) (s : StM), InvM s → InvM (l.foldl foldM s)
  | [], _, h => h
  | x :: l, s, h => inv_folds l _ (inv_fold h x)
theorem fold_up (s : StM) (x : Nte) : s.next ≤ (foldM s x).next ∧ s.now ≤ (foldM s x).now := by
  unfold foldM
  split
  · exact ⟨by simp only [closeM]; omega, Int.le_refl _⟩
  · split
    · exact ⟨by simp only [closeM]; omega, Int.le_refl _⟩
    · split
      · exact ⟨Int.le_refl _, by show s.now ≤ max _ _; omega⟩
      · split
        · exact ⟨Int.le_refl _, Int.le_refl _⟩
        · exact ⟨Int.le_refl _, Int.le_refl _⟩
theorem folds_up : ∀ (l : List Nte) (s : StM), s.next ≤ (l.foldl foldM s).next ∧ s.now ≤ (l.foldl foldM s).now
  | [], _ => ⟨Int.le_refl _, Int.le_refl _⟩
  | x :: l, s => by
    have h1 := fold_up s x
    have h2 := folds_up l (foldM s x)
    rw [List.foldl_cons]
    omega
theorem fold_len (s : StM) (x : Nte) : (foldM s x).op.length ≤ s.op.length + 1 := by
  have hf : ∀ p : Cur → Bool, (s.op.filter p).length ≤ s.op.length := fun p => List.length_filter_le _ _
  unfold foldM
  split
  · show (insM x.c (s.op.filter _)).length ≤ _
    unfold insM
    rw [List.length_append, List.length_cons]
    have h1 := hf (fun y => !(y.id == x.c.id))
    generalize s.op.filter (fun y => !(y.id == x.c.id)) = zs at *
    have h2 : (zs.filter (fun y => decide (y.id < x.c.id))).length + (zs.filter (fun y => !decide (y.id < x.c.id))).length = zs.length := by
      induction zs with
      | nil => rfl
      | cons a zs ih =>
        by_cases ha : a.id < x.c.id
        · simp only [List.filter_cons, ha, decide_true, Bool.not_true, if_true, List.length_cons]
          have := ih (by simp at h1; omega)
          simp only [Bool.false_eq_true, if_false]
          omega
        · simp only [List.filter_cons, ha, decide_false, Bool.not_false, if_true, List.length_cons]
          have := ih (by simp at h1; omega)
          simp only [Bool.false_eq_true, if_false]
          omega
    omega
  · split
    · exact Nat.le_succ_of_le (hf _)
    · split
      · exact Nat.le_succ_of_le (hf _)
      · split
        · exact Nat.le_succ _
        · exact Nat.le_succ _
theorem folds_len : ∀ (l : List Nte) (s : StM), (l.foldl foldM s).op.length ≤ s.op.length + l.length
  | [], _ => Nat.le_refl _
  | x :: l, s => by
    have h1 := fold_len s x
    have h2 := folds_len l (foldM s x)
    rw [List.foldl_cons, List.length_cons]
    omega
theorem fold_open {s : StM} {c : Cur} (h : okOpen (opN c)) (hb : ∀ y ∈ s.op, y.id < c.id) : foldM s (opN c) = { s with next := max s.next (c.id + 1), op := s.op ++ [c] } := by
  unfold foldM
  rw [if_pos h]
  have e1 : s.op.filter (fun y => !(y.id == c.id)) = s.op := List.filter_eq_self.2 fun y hy => by have := hb y hy; simp; omega
  have e2 : s.op.filter (fun y => decide (y.id < c.id)) = s.op := List.filter_eq_self.2 fun y hy => by simpa using hb y hy
  have e3 : s.op.filter (fun y => !decide (y.id < c.id)) = [] := List.filter_eq_nil_iff.2 fun y hy => by have := hb y hy; simp; omega
  show StM.mk (max s.next (c.id + 1)) s.now (insM c (s.op.filter (fun y => !(y.id == c.id)))) s.seg s.pts = _
  unfold insM
  rw [e1, e2, e3]
/-- The notes that open, one behind the other. -/
theorem fold_opens : ∀ (zs : List Cur) (s : StM), Sorted (s.op ++ zs) → (∀ y ∈ zs, okOpen (opN y)) → (zs.map opN).foldl foldM s = { s with next := zs.foldl (fun m y => max m (y.id + 1)) s.next, op := s.op ++ zs }
  | [], s, _, _ => by simp
  | c :: zs, s, h1, h2 => by
    have hb : ∀ y ∈ s.op, y.id < c.id := fun y hy => (List.pairwise_append.1 h1).2.2 y hy c (by simp)
    rw [List.map_cons, List.foldl_cons, fold_open (h2 c (by simp)) hb, fold_opens zs _ (by simpa using h1) (fun y hy => h2 y (by simp [hy]))]
    simp
theorem maxs_le : ∀ (zs : List Cur) (m n : Int), m ≤ n → (∀ y ∈ zs, y.id < n) → zs.foldl (fun m y => max m (y.id + 1)) m ≤ n
  | [], _, _, h, _ => h
  | y :: zs, m, n, h, h2 => maxs_le zs _ n (by have := h2 y (by simp); show max m (y.id + 1) ≤ n; omega) (fun z hz => h2 z (by simp [hz]))
theorem maxs_ge : ∀ (zs : List Cur) (m : Int), m ≤ zs.foldl (fun m y => max m (y.id + 1)) m
  | [], _ => Int.le_refl _
  | y :: zs, m => Int.le_trans (by omega) (maxs_ge zs (max m (y.id + 1)))
theorem maxs_mem : ∀ (zs : List Cur) (m : Int) (y : Cur), y ∈ zs → y.id + 1 ≤ zs.foldl (fun m y => max m (y.id + 1)) m
  | z :: zs, m, y, h => by
    rcases List.mem_cons.1 h with rfl | h
    · exact Int.le_trans (by omega) (maxs_ge zs (max m (y.id + 1)))
    · exact maxs_mem zs _ y h
theorem fold_few {s : StM} (h : InvM s) : (fewM s).foldl foldM s0M = s := by
  have hnx := h.nx
  have hnw := h.nw
  unfold fewM
  rw [List.foldl_append, List.foldl_append, List.foldl_append]
  -- the last number
  obtain ⟨m, hm, e1⟩ : ∃ m : Int, (m = s.next ∨ m = 1 ∧ (s.next = 1 ∨ ∃ y ∈ s.op, y.id = s.next - 1)) ∧ (if 0 < s.next - 1 ∧ (s.op.any (fun y => y.id == s.next - 1)) = false then [(⟨2, ⟨s.next - 1, 0, 0, 0, []⟩⟩ : Nte)] else []).foldl foldM s0M = ⟨m, 0, [], [], 0⟩ := by
    split
    · next hc =>
      refine ⟨s.next, .inl rfl, ?_⟩
      rw [List.foldl_cons, List.foldl_nil]
      unfold foldM
      have n1 : ¬ okOpen (⟨2, ⟨s.next - 1, 0, 0, 0, []⟩⟩ : Nte) := fun h => absurd h.1 (show ¬ (2 : Int) = 1 by decide)
      have n2 : okClose (⟨2, ⟨s.next - 1, 0, 0, 0, []⟩⟩ : Nte) := ⟨rfl, ⟨by show (1 : Int) ≤ s.next - 1; omega, by show s.next - 1 ≤ 1000000; omega⟩, rfl, rfl, rfl, rfl⟩
      rw [if_neg n1, if_pos n2]
      show StM.mk (max 1 (s.next - 1 + 1)) 0 [] [] 0 = _
      rw [show max (1 : Int) (s.next - 1 + 1) = s.next by omega]
    · next hc =>
      refine ⟨1, .inr ⟨rfl, ?_⟩, rfl⟩
      by_cases h1 : 0 < s.next - 1
      · right
        have h2 : ¬ (s.op.any (fun y => y.id == s.next - 1)) = false := fun h => hc ⟨h1, h⟩
        rw [Bool.not_eq_false, List.any_eq_true] at h2
        obtain ⟨y, hy, h3⟩ := h2
        exact ⟨y, hy, by simpa using h3⟩
      · left; omega
  rw [e1]
  have e2 : (if 0 < s.now then [(⟨3, ⟨0, 0, 0, s.now, []⟩⟩ : Nte)] else []).foldl foldM ⟨m, 0, [], [], 0⟩ = ⟨m, s.now, [], [], 0⟩ := by
    split
    · next hc =>
      rw [List.foldl_cons, List.foldl_nil]
      unfold foldM
      have n1 : ¬ okOpen (⟨3, ⟨0, 0, 0, s.now, []⟩⟩ : Nte) := fun h => absurd h.1 (show ¬ (3 : Int) = 1 by decide)
      have n2 : ¬ okClose (⟨3, ⟨0, 0, 0, s.now, []⟩⟩ : Nte) := fun h => absurd h.1 (show ¬ (3 : Int) = 2 by decide)
      have n3 : okClock (⟨3, ⟨0, 0, 0, s.now, []⟩⟩ : Nte) := ⟨rfl, hnw, rfl, rfl, rfl, rfl⟩
      rw [if_neg n1, if_neg n2, if_pos n3]
      show StM.mk m (max 0 s.now) [] [] 0 = _
      rw [show max (0 : Int) s.now = s.now by omega]
    · next hc =>
      show StM.mk m 0 [] [] 0 = _
      rw [show s.now = 0 by omega]
  rw [e2]
  have e3 : (if s.seg = [] then [] else [(⟨4, ⟨0, s.pts, 0, 0, s.seg⟩⟩ : Nte)]).foldl foldM ⟨m, s.now, [], [], 0⟩ = ⟨m, s.now, [], s.seg, s.pts⟩ := by
    split
    · next hc =>
      rcases h.sg with ⟨h1, h2⟩ | h1
      · show StM.mk m s.now [] [] 0 = _
        rw [h1, h2]
      · rw [hc] at h1
        simp at h1
    · next hc =>
      rcases h.sg with ⟨h1, h2⟩ | h1
      · exact absurd h1 hc
      · rw [List.foldl_cons, List.foldl_nil]
        unfold foldM
        have n1 : ¬ okOpen (⟨4, ⟨0, s.pts, 0, 0, s.seg⟩⟩ : Nte) := fun h => absurd h.1 (show ¬ (4 : Int) = 1 by decide)
        have n2 : ¬ okClose (⟨4, ⟨0, s.pts, 0, 0, s.seg⟩⟩ : Nte) := fun h => absurd h.1 (show ¬ (4 : Int) = 2 by decide)
        have n3 : ¬ okClock (⟨4, ⟨0, s.pts, 0, 0, s.seg⟩⟩ : Nte) := fun h => absurd h.1 (show ¬ (4 : Int) = 3 by decide)
        have n4 : okSeg (⟨4, ⟨0, s.pts, 0, 0, s.seg⟩⟩ : Nte) := ⟨rfl, h1.1, h1.2, rfl, rfl, rfl⟩
        rw [if_neg n1, if_neg n2, if_neg n3, if_pos n4]
  rw [e3, fold_opens s.op ⟨m, s.now, [], s.seg, s.pts⟩ (by simpa using h.so) (fun y hy => (h.ok y hy).1)]
  show StM.mk (s.op.foldl (fun m y => max m (y.id + 1)) m) s.now ([] ++ s.op) s.seg s.pts = s
  have e4 : s.op.foldl (fun m y => max m (y.id + 1)) m = s.next := by
    refine Int.le_antisymm (maxs_le _ _ _ ?_ (fun y hy => (h.ok y hy).2)) ?_
    · omega
    · rcases hm with rfl | ⟨rfl, h1 | ⟨y, hy, h1⟩⟩
      · exact maxs_ge _ _
      · rw [h1]; exact maxs_ge _ _
      · have := maxs_mem s.op 1 y hy
        omega
  rw [e4, List.nil_append]
end Go.Proofs.YtmldoeeangekoaaGreatDoor.Dy
/- (soft)
  diary.Fold of any notes. No condition but the machine's numbers and a bound on how many.
-/
namespace Go.Proofs.YtmldoeeangekoaaGreatDoor.Dy
open Go.RowKit

/-- What notes come to. -/
def foldN (zs : List Nte) : StM := zs.foldl foldM s0M
theorem foldN_inv (zs : List Nte) : InvM (foldN zs) := inv_folds zs s0M inv0
theorem foldN_len (zs : List Nte) : (foldN zs).op.length ≤ zs.length := by have := folds_len zs s0M; simpa [foldN, s0M] using this
theorem foldN_snoc (zs : List Nte) (x : Nte) : foldN (zs ++ [x]) = foldM (foldN zs) x := by unfold foldN; rw [List.foldl_append]; rfl
set_option maxHeartbeats 32000000 in
set_option maxRecDepth 100000 in
theorem dFold_any (A0 : Option Addr) (len cap : Nat) (zs : List Nte) (w : World) (hr : Row w A0 len 6 (sR nteC zs)) (hlen : len ≤ 100000) :
    Calls Tryz.prog 7 #[.slice A0 len cap] w fun e w' => (∃ A n c, e = .returned (.agg #[.int .i64 (foldN zs).next, .int .i64 (foldN zs).now, .slice A n c, .string (txt (foldN zs).seg), .int .i64 (foldN zs).pts]) ∧ w'.ownsRow w.heap.size 52 5 (.slice A n c) n (sR curC (foldN zs).op)) ∧ Gr w w' := by
  have hl : zs.length = len := by have := hr.1; rw [sR_len nteC 6 nteC_len] at this; omega
  have cL := fun x W => lift_any x W
  unfold LiftPost nteV at cL
  have cF := fun s A n c x W h hb hn h1 h2 => dfold_any (w.heap.size + 1) w.heap.size s A n c x W h hb hn h1 h2
  generalize liftV = lv at cL cF
  replace cL := Lib.hid cL
  replace cF := Lib.hid cF
  replace hr := Lib.hid hr
  replace hl := Lib.hid hl
  go_enter Tryz.func7, Tryz.ntmps7
  go_wp2
  go_loopw [9] (fun iv wr => ∃ (k : Nat) (A : Option Addr) (n c : Nat), k ≤ len ∧ iv = .int .i64 k ∧ Hid (StIs wr (w.heap.size + 1) w.heap.size (foldN (zs.take k)) A n c) ∧ Hid (StAt wr w.heap.size 0 0 (.slice none 0 0) [] 0) ∧ Hid (Below w.heap.size w wr)) (fun iv _ => len - (intOf iv).toNat)
  case atStart =>
    have hz : (w.alloc (.cells (stC 0 0 (.slice none 0 0) [] 0) 30)).heap.size = w.heap.size + 1 := by simp
    have hn1 := blk_new (w.alloc (.cells (stC 0 0 (.slice none 0 0) [] 0) 30)) (.cells (stC 1 0 (.slice none 0 0) [] 0) 30)
    rw [hz] at hn1
    exact ⟨0, none, 0, 0, Nat.zero_le _, rfl, ⟨hn1, World.ownsRow_nil _ _ _ _⟩, gr_blk (gr_alloc _ _ none) (blk_new w _) (by simp), gr_below (gr_trans (gr_alloc _ _ _) (gr_alloc _ _ _))⟩
  case round =>
    obtain ⟨k, A, n, c, hk, rfl, hS, hR, hbel⟩ := hrel
    have hs := hbel.out.size
    by_cases hlt : k < len
    · obtain ⟨x, B, o, hx, rfl, _, hc⟩ := rowS_elem nteC_len (row_gr hr.out (gr_of_below hbel.out (Nat.le_refl _))) (by decide) hlt
      have hki : (k : Int) < (len : Int) := by omega
      have hk0 : (0 : Int) ≤ (k : Int) := by omega
      have d0 : wr.cell? ⟨B, o + k * 6, none⟩ = some (.int .i64 x.kind) := hc 0 (by decide)
      have d1 : wr.cell? ⟨B, o + k * 6 + 1, none⟩ = some (.int .i64 x.c.id) := hc 1 (by decide)
      have d2 : wr.cell? ⟨B, o + k * 6 + 2, none⟩ = some (.int .i64 x.c.rows) := hc 2 (by decide)
      have d3 : wr.cell? ⟨B, o + k * 6 + 3, none⟩ = some (.int .i64 x.c.size) := hc 3 (by decide)
      have d4 : wr.cell? ⟨B, o + k * 6 + 4, none⟩ = some (.int .i64 x.c.tl) := hc 4 (by decide)
      have d5 : wr.cell? ⟨B, o + k * 6 + 5, none⟩ = some (.string (txt x.c.file)) := hc 5 (by decide)
      have hst : foldN (zs.take (k + 1)) = foldM (foldN (zs.take k)) x := by rw [take_step hx, foldN_snoc]
      have hn5 : n ≤ 100000 := by
        have h1 := hS.out.2.1
        rw [sR_len curC 5 curC_len] at h1
        have h2 := foldN_len (zs.take k)
        rw [List.length_take] at h2
        omega
      have hinv := foldN_inv (zs.take k)
      have cLx := cL.out x
      have cFx := fun W h hb => cF.out (foldN (zs.take k)) A n c x W h hb hn5 hinv.so (inv_ids hinv)
      generalize lv x = lx at cLx cFx
      clear hc hx
      obtain ⟨kd, ⟨id, rows, size, tl, file⟩⟩ := x
      simp only at cLx cFx hst d0 d1 d2 d3 d4 d5
      replace cLx := Lib.hid cLx
      replace cFx := Lib.hid cFx
      replace hst := Lib.hid hst
      replace hinv := Lib.hid hinv
      go_wp2_with fail
      refine (cLx.out _).mono ?_
      rintro e W2 ⟨rfl, g2⟩
      have gA : Gr wr W2 := gr_trans (gr_alloc _ _ _) g2
      have hS2 := stIs_gr hS.out gA
      have hR2 := stAt_gr hR.out gA
      have hbel2 := below_gr hbel.out gA hs (by simp)
      clear g2 gA
      go_wp2_with fail
      refine (cFx.out _ hS2 hbel2.size).mono ?_
      rintro e W3 ⟨rfl, ⟨A', n', c', hS3⟩, g3⟩
      have hapR := st_apart hR2 hS2.2
      have hR3 : StAt W3 w.heap.size 0 0 (.slice none 0 0) [] 0 := grs_blk g3 hR2 (fun ht => by
        rcases ht with ht | ht
        · omega
        · exact hapR ht)
      have hbel3 : Below w.heap.size w W3 := below_grs hbel2 g3 hbel2.size (fun j ht => by
        rcases ht with ht | ht
        · omega
        · exact (hS2.2.lt j ht).1)
      rw [← hst.out] at hS3
      replace hS3 := Lib.hid hS3
      replace hR3 := Lib.hid hR3
      replace hbel3 := Lib.hid hbel3
      clear hS2 hR2 hbel2 g3 hapR
      go_wp2
      go_roundw
      case rel => exact ⟨k + 1, A', n', c', by omega, by go_num, hS3, hR3.out, hbel3.out⟩
      case measure => simp [intOf]; omega
    · obtain rfl : k = len := by omega
      have hzs : zs.take k = zs := by rw [List.take_of_length_le (Nat.le_of_eq hl.out)]
      have hS' := hS.out
      rw [hzs] at hS'
      have s0 : wr.cell? ⟨w.heap.size + 1, 0, none⟩ = some (.int .i64 (foldN zs).next) := fcell hS'.1 rfl
      have s1 : wr.cell? ⟨w.heap.size + 1, 1, none⟩ = some (.int .i64 (foldN zs).now) := fcell hS'.1 rfl
      have s2 : wr.cell? ⟨w.heap.size + 1, 2, none⟩ = some (.slice A n c) := fcell hS'.1 rfl
      have s3 : wr.cell? ⟨w.heap.size + 1, 3, none⟩ = some (.string (txt (foldN zs).seg)) := fcell hS'.1 rfl
      have s4 : wr.cell? ⟨w.heap.size + 1, 4, none⟩ = some (.int .i64 (foldN zs).pts) := fcell hS'.1 rfl
      have hth : wr.there w.heap.size 0 5 := fun j hj => ⟨by
        match j, hj with
        | 0, _ => rw [fcell hR.out rfl]; rfl
        | 1, _ => rw [fcell hR.out rfl]; rfl
        | 2, _ => rw [fcell hR.out rfl]; rfl
        | 3, _ => rw [fcell hR.out rfl]; rfl
        | 4, _ => rw [fcell hR.out rfl]; rfl
        | j + 5, hj => omega, fzero hR.out _⟩
      have hap := st_apart hR.out hS'.2
      have hO := hS'.2
      clear hS'
      generalize hS9 : foldN zs = S at *
      obtain ⟨nx, now, op, seg, pts⟩ := S
      replace hS9 := Lib.hid hS9
      simp only at s0 s1 s2 s3 s4 hO ⊢
      have hsame := World.rangeAt_setCells_same wr w.heap.size 0 [.int .i64 nx, .int .i64 now, .slice A n c, .string (txt seg), .int .i64 pts] hth
      have hgs := gr_setCells wr w.heap.size 0 [.int .i64 nx, .int .i64 now, .slice A n c, .string (txt seg), .int .i64 pts]
      have r0 := hsame 0 _ rfl
      have r1 := hsame 1 _ rfl
      have r2 := hsame 2 _ rfl
      have r3 := hsame 3 _ rfl
      have r4 := hsame 4 _ rfl
      simp only [Nat.zero_add] at r0 r1 r2 r3 r4
      replace hgs := Lib.hid hgs
      replace hO := Lib.hid hO
      replace hap := Lib.hid hap
      clear hsame cL cF
      go_upto_region 7 with fail
      go_wp2_with (refine wpList_store_mid (op := ⟨none, _, _, _, _, _⟩) rfl 30 _ _ rfl w.heap.size 0 #[.int .i64 nx, .int .i64 now, .slice A n c, .string (txt seg), .int .i64 pts] rfl rfl hth infoSt (by simp [Value.oneCell']) ?_)
      (try simp only [Exit.inBlock, Exit.then])
      refine bodyPost_ret (by simp [results, Tryz.results7, go_sem, r0, r1, r2, r3, r4]; try rfl) rfl ?_
      rw [hS9.out]
      exact ⟨⟨A, n, c, rfl, own_after hO.out hgs.out hap.out⟩, gr_of_below (hbel.out.grown hgs.out hs (fun k hk => by cases hk; exact Nat.le_refl _)) (Nat.le_refl _)⟩
end Go.Proofs.YtmldoeeangekoaaGreatDoor.Dy
