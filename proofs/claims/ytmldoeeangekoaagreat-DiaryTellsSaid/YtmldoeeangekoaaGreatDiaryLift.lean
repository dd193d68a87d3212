/-
  What diary.lift and diary.Right answer of every note. No condition but the machine's numbers.
-/
import Derived.Test.YtmldoeeangekoaaGreatDiaryMath
namespace Go.Proofs.YtmldoeeangekoaaGreat
open Go.RowKit

theorem did_yes (n : Int) (w : World) (h : 1 ≤ n ∧ n ≤ 1000000) : Calls Tryz.prog 121 #[.int .i64 n] w fun e w' => e = .returned (.bool true) ∧ w = w' := by
  obtain ⟨h1, h2⟩ := h
  go_enter Tryz.func121, Tryz.ntmps121
  go_wp2
  go_ret
  exact ⟨rfl, rfl⟩
theorem did_no (n : Int) (w : World) (h : ¬ (1 ≤ n ∧ n ≤ 1000000)) : Calls Tryz.prog 121 #[.int .i64 n] w fun e w' => e = .returned (.bool false) ∧ w = w' := by
  by_cases h1 : 1 ≤ n
  · have h2 : ¬ n ≤ 1000000 := fun h3 => h ⟨h1, h3⟩
    go_enter Tryz.func121, Tryz.ntmps121
    go_wp2
    go_ret
    exact ⟨rfl, rfl⟩
  · go_enter Tryz.func121, Tryz.ntmps121
    go_wp2
    go_ret
    exact ⟨rfl, rfl⟩
theorem dun_yes (n : Int) (w : World) (h : 0 ≤ n ∧ n ≤ 1000000000) : Calls Tryz.prog 122 #[.int .i64 n] w fun e w' => e = .returned (.bool true) ∧ w = w' := by
  obtain ⟨h1, h2⟩ := h
  go_enter Tryz.func122, Tryz.ntmps122
  go_wp2
  go_ret
  exact ⟨rfl, rfl⟩
theorem dun_no (n : Int) (w : World) (h : ¬ (0 ≤ n ∧ n ≤ 1000000000)) : Calls Tryz.prog 122 #[.int .i64 n] w fun e w' => e = .returned (.bool false) ∧ w = w' := by
  by_cases h1 : 0 ≤ n
  · have h2 : ¬ n ≤ 1000000000 := fun h3 => h ⟨h1, h3⟩
    go_enter Tryz.func122, Tryz.ntmps122
    go_wp2
    go_ret
    exact ⟨rfl, rfl⟩
  · go_enter Tryz.func122, Tryz.ntmps122
    go_wp2
    go_ret
    exact ⟨rfl, rfl⟩
theorem dfl_yes (s : List UInt8) (w : World) (h : 1 ≤ s.length ∧ s.length ≤ 60) : Calls Tryz.prog 123 #[.string (txt s)] w fun e w' => e = .returned (.bool true) ∧ w = w' := by
  have h1 : (s == []) = false := by rw [beq_eq_false_iff_ne]; rintro rfl; simp at h
  have h2 : (s.length : Int) ≤ 60 := by omega
  go_enter Tryz.func123, Tryz.ntmps123
  go_wp2
  go_ret
  exact ⟨rfl, rfl⟩
theorem dfl_no (s : List UInt8) (w : World) (h : ¬ (1 ≤ s.length ∧ s.length ≤ 60)) : Calls Tryz.prog 123 #[.string (txt s)] w fun e w' => e = .returned (.bool false) ∧ w = w' := by
  by_cases h0 : s = []
  · subst h0
    go_enter Tryz.func123, Tryz.ntmps123
    go_wp2
    go_ret
    exact ⟨rfl, rfl⟩
  · have h1 : (s == []) = false := by rw [beq_eq_false_iff_ne]; exact h0
    have h2 : ¬ (s.length : Int) ≤ 60 := by
      have : s.length ≠ 0 := fun h => h0 (List.eq_nil_of_length_eq_zero h)
      omega
    go_enter Tryz.func123, Tryz.ntmps123
    go_wp2
    go_ret
    exact ⟨rfl, rfl⟩
def liftV (x : Nte) : Value :=
  if okOpen x then .iface 168 (.agg #[.int .i64 x.c.id, .int .i64 x.c.rows, .int .i64 x.c.size, .int .i64 x.c.tl, .string (txt x.c.file)])
  else if okClose x then .iface 170 (.agg #[.int .i64 x.c.id])
  else if okClock x then .iface 172 (.agg #[.int .i64 x.c.tl])
  else if okSeg x then .iface 174 (.agg #[.string (txt x.c.file), .int .i64 x.c.rows])
  else .nilIface
def LiftPost (x : Nte) (w : World) (e : Ending) (w' : World) : Prop := e = .returned (liftV x) ∧ Gr w w'
theorem liftV_none {x : Nte} (h : ¬ okN x) : liftV x = .nilIface := by
  unfold okN at h
  unfold liftV
  rw [if_neg (fun h1 => h (Or.inl h1)), if_neg (fun h1 => h (Or.inr (Or.inl h1))), if_neg (fun h1 => h (Or.inr (Or.inr (Or.inl h1)))), if_neg (fun h1 => h (Or.inr (Or.inr (Or.inr h1))))]
theorem ne_len {s : List UInt8} (h : ¬ s = []) : (s == []) = false := by rw [beq_eq_false_iff_ne]; exact h
theorem gr_lift (w : World) (a b : Obj) : Gr w ((w.alloc a).alloc b) := gr_trans (gr_alloc _ _ _) (gr_alloc _ _ _)
set_option maxHeartbeats 4000000 in
set_option maxRecDepth 100000 in
theorem lift_1 (kd id rows size tl : Int) (file : List UInt8) (w : World) (hk : kd = 1) : Calls Tryz.prog 44 #[.agg #[.int .i64 kd, .int .i64 id, .int .i64 rows, .int .i64 size, .int .i64 tl, .string (txt file)]] w (LiftPost ⟨kd, ⟨id, rows, size, tl, file⟩⟩ w) := by
  subst hk
  by_cases q0 : 1 ≤ id ∧ id ≤ 1000000
  rotate_left
  · have hres : Ending.returned Value.nilIface = .returned (liftV ⟨1, ⟨id, rows, size, tl, file⟩⟩) := by
      rw [liftV_none (by rintro (h | h | h | h) <;> simp [okOpen, okClose, okClock, okSeg] at h <;> (first | omega | (exfalso; simp_all; done) | (have := h; simp_all; omega)))]
    go_enter Tryz.func44, Tryz.ntmps44
    go_wp2_with fail
    refine (did_no _ _ q0).mono ?_
    rintro e w2 ⟨rfl, rfl⟩
    go_wp2
    go_ret
    exact ⟨hres, gr_lift _ _ _⟩
  by_cases q1 : 0 ≤ rows
  rotate_left
  · have hres : Ending.returned Value.nilIface = .returned (liftV ⟨1, ⟨id, rows, size, tl, file⟩⟩) := by
      rw [liftV_none (by rintro (h | h | h | h) <;> simp [okOpen, okClose, okClock, okSeg] at h <;> (first | omega | (exfalso; simp_all; done) | (have := h; simp_all; omega)))]
    go_enter Tryz.func44, Tryz.ntmps44
    go_wp2_with fail
    refine (did_yes _ _ q0).mono ?_
    rintro e w2 ⟨rfl, rfl⟩
    go_wp2
    go_ret
    exact ⟨hres, gr_lift _ _ _⟩
  by_cases q2 : rows ≤ 2000
  rotate_left
  · have hres : Ending.returned Value.nilIface = .returned (liftV ⟨1, ⟨id, rows, size, tl, file⟩⟩) := by
      rw [liftV_none (by rintro (h | h | h | h) <;> simp [okOpen, okClose, okClock, okSeg] at h <;> (first | omega | (exfalso; simp_all; done) | (have := h; simp_all; omega)))]
    go_enter Tryz.func44, Tryz.ntmps44
    go_wp2_with fail
    refine (did_yes _ _ q0).mono ?_
    rintro e w2 ⟨rfl, rfl⟩
    go_wp2
    go_ret
    exact ⟨hres, gr_lift _ _ _⟩
  by_cases q3 : 1 ≤ size
  rotate_left
  · have hres : Ending.returned Value.nilIface = .returned (liftV ⟨1, ⟨id, rows, size, tl, file⟩⟩) := by
      rw [liftV_none (by rintro (h | h | h | h) <;> simp [okOpen, okClose, okClock, okSeg] at h <;> (first | omega | (exfalso; simp_all; done) | (have := h; simp_all; omega)))]
    go_enter Tryz.func44, Tryz.ntmps44
    go_wp2_with fail
    refine (did_yes _ _ q0).mono ?_
    rintro e w2 ⟨rfl, rfl⟩
    go_wp2
    go_ret
    exact ⟨hres, gr_lift _ _ _⟩
  by_cases q4 : size ≤ 100
  rotate_left
  · have hres : Ending.returned Value.nilIface = .returned (liftV ⟨1, ⟨id, rows, size, tl, file⟩⟩) := by
      rw [liftV_none (by rintro (h | h | h | h) <;> simp [okOpen, okClose, okClock, okSeg] at h <;> (first | omega | (exfalso; simp_all; done) | (have := h; simp_all; omega)))]
    go_enter Tryz.func44, Tryz.ntmps44
    go_wp2_with fail
    refine (did_yes _ _ q0).mono ?_
    rintro e w2 ⟨rfl, rfl⟩
    go_wp2
    go_ret
    exact ⟨hres, gr_lift _ _ _⟩
  by_cases q5 : 0 ≤ tl ∧ tl ≤ 1000000000
  rotate_left
  · have hres : Ending.returned Value.nilIface = .returned (liftV ⟨1, ⟨id, rows, size, tl, file⟩⟩) := by
      rw [liftV_none (by rintro (h | h | h | h) <;> simp [okOpen, okClose, okClock, okSeg] at h <;> (first | omega | (exfalso; simp_all; done) | (have := h; simp_all; omega)))]
    go_enter Tryz.func44, Tryz.ntmps44
    go_wp2_with fail
    refine (did_yes _ _ q0).mono ?_
    rintro e w2 ⟨rfl, rfl⟩
    go_wp2_with fail
    refine (dun_no _ _ q5).mono ?_
    rintro e w2 ⟨rfl, rfl⟩
    go_wp2
    go_ret
    exact ⟨hres, gr_lift _ _ _⟩
  by_cases q6 : 1 ≤ file.length ∧ file.length ≤ 60
  rotate_left
  · have hres : Ending.returned Value.nilIface = .returned (liftV ⟨1, ⟨id, rows, size, tl, file⟩⟩) := by
      rw [liftV_none (by rintro (h | h | h | h) <;> simp [okOpen, okClose, okClock, okSeg] at h <;> (first | omega | (exfalso; simp_all; done) | (have := h; simp_all; omega)))]
    go_enter Tryz.func44, Tryz.ntmps44
    go_wp2_with fail
    refine (did_yes _ _ q0).mono ?_
    rintro e w2 ⟨rfl, rfl⟩
    go_wp2_with fail
    refine (dun_yes _ _ q5).mono ?_
    rintro e w2 ⟨rfl, rfl⟩
    go_wp2_with fail
    refine (dfl_no _ _ q6).mono ?_
    rintro e w2 ⟨rfl, rfl⟩
    go_wp2
    go_ret
    exact ⟨hres, gr_lift _ _ _⟩
  have hres : Ending.returned (.iface 168 (.agg #[.int .i64 id, .int .i64 rows, .int .i64 size, .int .i64 tl, .string (txt file)])) = .returned (liftV ⟨1, ⟨id, rows, size, tl, file⟩⟩) := by
    unfold liftV
    simp [okOpen, *]
  go_enter Tryz.func44, Tryz.ntmps44
  go_wp2_with fail
  refine (did_yes _ _ q0).mono ?_
  rintro e w2 ⟨rfl, rfl⟩
  go_wp2_with fail
  refine (dun_yes _ _ q5).mono ?_
  rintro e w2 ⟨rfl, rfl⟩
  go_wp2_with fail
  refine (dfl_yes _ _ q6).mono ?_
  rintro e w2 ⟨rfl, rfl⟩
  go_wp2
  go_ret
  exact ⟨hres, gr_lift _ _ _⟩
set_option maxHeartbeats 4000000 in
set_option maxRecDepth 100000 in
theorem lift_2 (kd id rows size tl : Int) (file : List UInt8) (w : World) (hk : kd = 2) : Calls Tryz.prog 44 #[.agg #[.int .i64 kd, .int .i64 id, .int .i64 rows, .int .i64 size, .int .i64 tl, .string (txt file)]] w (LiftPost ⟨kd, ⟨id, rows, size, tl, file⟩⟩ w) := by
  subst hk
  by_cases q0 : 1 ≤ id ∧ id ≤ 1000000
  rotate_left
  · have hres : Ending.returned Value.nilIface = .returned (liftV ⟨2, ⟨id, rows, size, tl, file⟩⟩) := by
      rw [liftV_none (by rintro (h | h | h | h) <;> simp [okOpen, okClose, okClock, okSeg] at h <;> (first | omega | (exfalso; simp_all; done) | (have := h; simp_all; omega)))]
    go_enter Tryz.func44, Tryz.ntmps44
    go_wp2_with fail
    refine (did_no _ _ q0).mono ?_
    rintro e w2 ⟨rfl, rfl⟩
    go_wp2
    go_ret
    exact ⟨hres, gr_lift _ _ _⟩
  by_cases q1 : rows = 0
  rotate_left
  · have hres : Ending.returned Value.nilIface = .returned (liftV ⟨2, ⟨id, rows, size, tl, file⟩⟩) := by
      rw [liftV_none (by rintro (h | h | h | h) <;> simp [okOpen, okClose, okClock, okSeg] at h <;> (first | omega | (exfalso; simp_all; done) | (have := h; simp_all; omega)))]
    have b1 : (rows == 0) = false := eqF q1
    go_enter Tryz.func44, Tryz.ntmps44
    go_wp2_with fail
    refine (did_yes _ _ q0).mono ?_
    rintro e w2 ⟨rfl, rfl⟩
    go_wp2
    go_ret
    exact ⟨hres, gr_lift _ _ _⟩
  subst q1
  by_cases q2 : size = 0
  rotate_left
  · have hres : Ending.returned Value.nilIface = .returned (liftV ⟨2, ⟨id, 0, size, tl, file⟩⟩) := by
      rw [liftV_none (by rintro (h | h | h | h) <;> simp [okOpen, okClose, okClock, okSeg] at h <;> (first | omega | (exfalso; simp_all; done) | (have := h; simp_all; omega)))]
    have b2 : (size == 0) = false := eqF q2
    go_enter Tryz.func44, Tryz.ntmps44
    go_wp2_with fail
    refine (did_yes _ _ q0).mono ?_
    rintro e w2 ⟨rfl, rfl⟩
    go_wp2
    go_ret
    exact ⟨hres, gr_lift _ _ _⟩
  subst q2
  by_cases q3 : tl = 0
  rotate_left
  · have hres : Ending.returned Value.nilIface = .returned (liftV ⟨2, ⟨id, 0, 0, tl, file⟩⟩) := by
      rw [liftV_none (by rintro (h | h | h | h) <;> simp [okOpen, okClose, okClock, okSeg] at h <;> (first | omega | (exfalso; simp_all; done) | (have := h; simp_all; omega)))]
    have b3 : (tl == 0) = false := eqF q3
    go_enter Tryz.func44, Tryz.ntmps44
    go_wp2_with fail
    refine (did_yes _ _ q0).mono ?_
    rintro e w2 ⟨rfl, rfl⟩
    go_wp2
    go_ret
    exact ⟨hres, gr_lift _ _ _⟩
  subst q3
  by_cases q4 : file = []
  rotate_left
  · have hres : Ending.returned Value.nilIface = .returned (liftV ⟨2, ⟨id, 0, 0, 0, file⟩⟩) := by
      rw [liftV_none (by rintro (h | h | h | h) <;> simp [okOpen, okClose, okClock, okSeg] at h <;> (first | omega | (exfalso; simp_all; done) | (have := h; simp_all; omega)))]
    have b4 : (file == []) = false := ne_len q4
    go_enter Tryz.func44, Tryz.ntmps44
    go_wp2_with fail
    refine (did_yes _ _ q0).mono ?_
    rintro e w2 ⟨rfl, rfl⟩
    go_wp2
    go_ret
    exact ⟨hres, gr_lift _ _ _⟩
  subst q4
  have hres : Ending.returned (.iface 170 (.agg #[.int .i64 id])) = .returned (liftV ⟨2, ⟨id, 0, 0, 0, []⟩⟩) := by
    unfold liftV
    simp [okOpen, okClose, *]
  go_enter Tryz.func44, Tryz.ntmps44
  go_wp2_with fail
  refine (did_yes _ _ q0).mono ?_
  rintro e w2 ⟨rfl, rfl⟩
  go_wp2
  go_ret
  exact ⟨hres, gr_lift _ _ _⟩
set_option maxHeartbeats 4000000 in
set_option maxRecDepth 100000 in
theorem lift_3 (kd id rows size tl : Int) (file : List UInt8) (w : World) (hk : kd = 3) : Calls Tryz.prog 44 #[.agg #[.int .i64 kd, .int .i64 id, .int .i64 rows, .int .i64 size, .int .i64 tl, .string (txt file)]] w (LiftPost ⟨kd, ⟨id, rows, size, tl, file⟩⟩ w) := by
  subst hk
  by_cases q0 : 0 ≤ tl ∧ tl ≤ 1000000000
  rotate_left
  · have hres : Ending.returned Value.nilIface = .returned (liftV ⟨3, ⟨id, rows, size, tl, file⟩⟩) := by
      rw [liftV_none (by rintro (h | h | h | h) <;> simp [okOpen, okClose, okClock, okSeg] at h <;> (first | omega | (exfalso; simp_all; done) | (have := h; simp_all; omega)))]
    go_enter Tryz.func44, Tryz.ntmps44
    go_wp2_with fail
    refine (dun_no _ _ q0).mono ?_
    rintro e w2 ⟨rfl, rfl⟩
    go_wp2
    go_ret
    exact ⟨hres, gr_lift _ _ _⟩
  by_cases q1 : id = 0
  rotate_left
  · have hres : Ending.returned Value.nilIface = .returned (liftV ⟨3, ⟨id, rows, size, tl, file⟩⟩) := by
      rw [liftV_none (by rintro (h | h | h | h) <;> simp [okOpen, okClose, okClock, okSeg] at h <;> (first | omega | (exfalso; simp_all; done) | (have := h; simp_all; omega)))]
    have b1 : (id == 0) = false := eqF q1
    go_enter Tryz.func44, Tryz.ntmps44
    go_wp2_with fail
    refine (dun_yes _ _ q0).mono ?_
    rintro e w2 ⟨rfl, rfl⟩
    go_wp2
    go_ret
    exact ⟨hres, gr_lift _ _ _⟩
  subst q1
  by_cases q2 : rows = 0
  rotate_left
  · have hres : Ending.returned Value.nilIface = .returned (liftV ⟨3, ⟨0, rows, size, tl, file⟩⟩) := by
      rw [liftV_none (by rintro (h | h | h | h) <;> simp [okOpen, okClose, okClock, okSeg] at h <;> (first | omega | (exfalso; simp_all; done) | (have := h; simp_all; omega)))]
    have b2 : (rows == 0) = false := eqF q2
    go_enter Tryz.func44, Tryz.ntmps44
    go_wp2_with fail
    refine (dun_yes _ _ q0).mono ?_
    rintro e w2 ⟨rfl, rfl⟩
    go_wp2
    go_ret
    exact ⟨hres, gr_lift _ _ _⟩
  subst q2
  by_cases q3 : size = 0
  rotate_left
  · have hres : Ending.returned Value.nilIface = .returned (liftV ⟨3, ⟨0, 0, size, tl, file⟩⟩) := by
      rw [liftV_none (by rintro (h | h | h | h) <;> simp [okOpen, okClose, okClock, okSeg] at h <;> (first | omega | (exfalso; simp_all; done) | (have := h; simp_all; omega)))]
    have b3 : (size == 0) = false := eqF q3
    go_enter Tryz.func44, Tryz.ntmps44
    go_wp2_with fail
    refine (dun_yes _ _ q0).mono ?_
    rintro e w2 ⟨rfl, rfl⟩
    go_wp2
    go_ret
    exact ⟨hres, gr_lift _ _ _⟩
  subst q3
  by_cases q4 : file = []
  rotate_left
  · have hres : Ending.returned Value.nilIface = .returned (liftV ⟨3, ⟨0, 0, 0, tl, file⟩⟩) := by
      rw [liftV_none (by rintro (h | h | h | h) <;> simp [okOpen, okClose, okClock, okSeg] at h <;> (first | omega | (exfalso; simp_all; done) | (have := h; simp_all; omega)))]
    have b4 : (file == []) = false := ne_len q4
    go_enter Tryz.func44, Tryz.ntmps44
    go_wp2_with fail
    refine (dun_yes _ _ q0).mono ?_
    rintro e w2 ⟨rfl, rfl⟩
    go_wp2
    go_ret
    exact ⟨hres, gr_lift _ _ _⟩
  subst q4
  have hres : Ending.returned (.iface 172 (.agg #[.int .i64 tl])) = .returned (liftV ⟨3, ⟨0, 0, 0, tl, []⟩⟩) := by
    unfold liftV
    simp [okOpen, okClose, okClock, *]
  go_enter Tryz.func44, Tryz.ntmps44
  go_wp2_with fail
  refine (dun_yes _ _ q0).mono ?_
  rintro e w2 ⟨rfl, rfl⟩
  go_wp2
  go_ret
  exact ⟨hres, gr_lift _ _ _⟩
set_option maxHeartbeats 4000000 in
set_option maxRecDepth 100000 in
theorem lift_4 (kd id rows size tl : Int) (file : List UInt8) (w : World) (hk : kd = 4) : Calls Tryz.prog 44 #[.agg #[.int .i64 kd, .int .i64 id, .int .i64 rows, .int .i64 size, .int .i64 tl, .string (txt file)]] w (LiftPost ⟨kd, ⟨id, rows, size, tl, file⟩⟩ w) := by
  subst hk
  by_cases q0 : 0 ≤ rows
  rotate_left
  · have hres : Ending.returned Value.nilIface = .returned (liftV ⟨4, ⟨id, rows, size, tl, file⟩⟩) := by
      rw [liftV_none (by rintro (h | h | h | h) <;> simp [okOpen, okClose, okClock, okSeg] at h <;> (first | omega | (exfalso; simp_all; done) | (have := h; simp_all; omega)))]
    go_enter Tryz.func44, Tryz.ntmps44
    go_wp2
    go_ret
    exact ⟨hres, gr_lift _ _ _⟩
  by_cases q1 : rows ≤ 1000
  rotate_left
  · have hres : Ending.returned Value.nilIface = .returned (liftV ⟨4, ⟨id, rows, size, tl, file⟩⟩) := by
      rw [liftV_none (by rintro (h | h | h | h) <;> simp [okOpen, okClose, okClock, okSeg] at h <;> (first | omega | (exfalso; simp_all; done) | (have := h; simp_all; omega)))]
    go_enter Tryz.func44, Tryz.ntmps44
    go_wp2
    go_ret
    exact ⟨hres, gr_lift _ _ _⟩
  by_cases q2 : 1 ≤ file.length ∧ file.length ≤ 60
  rotate_left
  · have hres : Ending.returned Value.nilIface = .returned (liftV ⟨4, ⟨id, rows, size, tl, file⟩⟩) := by
      rw [liftV_none (by rintro (h | h | h | h) <;> simp [okOpen, okClose, okClock, okSeg] at h <;> (first | omega | (exfalso; simp_all; done) | (have := h; simp_all; omega)))]
    go_enter Tryz.func44, Tryz.ntmps44
    go_wp2_with fail
    refine (dfl_no _ _ q2).mono ?_
    rintro e w2 ⟨rfl, rfl⟩
    go_wp2
    go_ret
    exact ⟨hres, gr_lift _ _ _⟩
  by_cases q3 : id = 0
  rotate_left
  · have hres : Ending.returned Value.nilIface = .returned (liftV ⟨4, ⟨id, rows, size, tl, file⟩⟩) := by
      rw [liftV_none (by rintro (h | h | h | h) <;> simp [okOpen, okClose, okClock, okSeg] at h <;> (first | omega | (exfalso; simp_all; done) | (have := h; simp_all; omega)))]
    have b3 : (id == 0) = false := eqF q3
    go_enter Tryz.func44, Tryz.ntmps44
    go_wp2_with fail
    refine (dfl_yes _ _ q2).mono ?_
    rintro e w2 ⟨rfl, rfl⟩
    go_wp2
    go_ret
    exact ⟨hres, gr_lift _ _ _⟩
  subst q3
  by_cases q4 : size = 0
  rotate_left
  · have hres : Ending.returned Value.nilIface = .returned (liftV ⟨4, ⟨0, rows, size, tl, file⟩⟩) := by
      rw [liftV_none (by rintro (h | h | h | h) <;> simp [okOpen, okClose, okClock, okSeg] at h <;> (first | omega | (exfalso; simp_all; done) | (have := h; simp_all; omega)))]
    have b4 : (size == 0) = false := eqF q4
    go_enter Tryz.func44, Tryz.ntmps44
    go_wp2_with fail
    refine (dfl_yes _ _ q2).mono ?_
    rintro e w2 ⟨rfl, rfl⟩
    go_wp2
    go_ret
    exact ⟨hres, gr_lift _ _ _⟩
  subst q4
  by_cases q5 : tl = 0
  rotate_left
  · have hres : Ending.returned Value.nilIface = .returned (liftV ⟨4, ⟨0, rows, 0, tl, file⟩⟩) := by
      rw [liftV_none (by rintro (h | h | h | h) <;> simp [okOpen, okClose, okClock, okSeg] at h <;> (first | omega | (exfalso; simp_all; done) | (have := h; simp_all; omega)))]
    have b5 : (tl == 0) = false := eqF q5
    go_enter Tryz.func44, Tryz.ntmps44
    go_wp2_with fail
    refine (dfl_yes _ _ q2).mono ?_
    rintro e w2 ⟨rfl, rfl⟩
    go_wp2
    go_ret
    exact ⟨hres, gr_lift _ _ _⟩
  subst q5
  have hres : Ending.returned (.iface 174 (.agg #[.string (txt file), .int .i64 rows])) = .returned (liftV ⟨4, ⟨0, rows, 0, 0, file⟩⟩) := by
    unfold liftV
    simp [okOpen, okClose, okClock, okSeg, *]
  go_enter Tryz.func44, Tryz.ntmps44
  go_wp2_with fail
  refine (dfl_yes _ _ q2).mono ?_
  rintro e w2 ⟨rfl, rfl⟩
  go_wp2
  go_ret
  exact ⟨hres, gr_lift _ _ _⟩
set_option maxRecDepth 100000 in
theorem lift_0 (kd id rows size tl : Int) (file : List UInt8) (w : World) (h1 : ¬ kd = 1) (h2 : ¬ kd = 2) (h3 : ¬ kd = 3) (h4 : ¬ kd = 4) : Calls Tryz.prog 44 #[.agg #[.int .i64 kd, .int .i64 id, .int .i64 rows, .int .i64 size, .int .i64 tl, .string (txt file)]] w (LiftPost ⟨kd, ⟨id, rows, size, tl, file⟩⟩ w) := by
  have b1 : (kd == 1) = false := eqF h1
  have b2 : (kd == 2) = false := eqF h2
  have b3 : (kd == 3) = false := eqF h3
  have b4 : (kd == 4) = false := eqF h4
  have hres : Ending.returned Value.nilIface = .returned (liftV ⟨kd, ⟨id, rows, size, tl, file⟩⟩) := by
    rw [liftV_none (by rintro (h | h | h | h) <;> simp [okOpen, okClose, okClock, okSeg] at h <;> omega)]
  go_enter Tryz.func44, Tryz.ntmps44
  go_wp2
  go_ret
  exact ⟨hres, gr_lift _ _ _⟩
theorem lift_any (x : Nte) (w : World) : Calls Tryz.prog 44 #[nteV x] w (LiftPost x w) := by
  obtain ⟨kd, ⟨id, rows, size, tl, file⟩⟩ := x
  by_cases h1 : kd = 1
  · exact lift_1 kd id rows size tl file w h1
  by_cases h2 : kd = 2
  · exact lift_2 kd id rows size tl file w h2
  by_cases h3 : kd = 3
  · exact lift_3 kd id rows size tl file w h3
  by_cases h4 : kd = 4
  · exact lift_4 kd id rows size tl file w h4
  exact lift_0 kd id rows size tl file w h1 h2 h3 h4
theorem liftV_some {x : Nte} (h : okN x) : ∃ t v, liftV x = .iface t v := by
  unfold liftV
  split
  · exact ⟨_, _, rfl⟩
  · split
    · exact ⟨_, _, rfl⟩
    · split
      · exact ⟨_, _, rfl⟩
      · split
        · exact ⟨_, _, rfl⟩
        · next h1 h2 h3 h4 => rcases h with h | h | h | h <;> contradiction
theorem right_any (x : Nte) (w : World) : Calls Tryz.prog 10 #[nteV x] w fun e w' => e = .returned (.bool (decide (okN x))) ∧ Gr w w' := by
  have cL := fun W => lift_any x W
  unfold LiftPost nteV at cL
  by_cases h : okN x
  · obtain ⟨t, v, hv⟩ := liftV_some h
    rw [hv] at cL
    rw [decide_eq_true h]
    unfold nteV
    clear h hv
    generalize x.kind = kd at *
    generalize x.c.id = id at *
    generalize x.c.rows = rows at *
    generalize x.c.size = size at *
    generalize x.c.tl = tl at *
    generalize x.c.file = file at *
    replace cL := Lib.hid cL
    go_enter Tryz.func10, Tryz.ntmps10
    go_wp2_with fail
    refine (cL.out _).mono ?_
    rintro e w2 ⟨rfl, g⟩
    go_wp2
    go_ret
    exact ⟨rfl, gr_trans (gr_alloc _ _ _) g⟩
  · rw [liftV_none h] at cL
    rw [decide_eq_false h]
    unfold nteV
    clear h
    generalize x.kind = kd at *
    generalize x.c.id = id at *
    generalize x.c.rows = rows at *
    generalize x.c.size = size at *
    generalize x.c.tl = tl at *
    generalize x.c.file = file at *
    replace cL := Lib.hid cL
    go_enter Tryz.func10, Tryz.ntmps10
    go_wp2_with fail
    refine (cL.out _).mono ?_
    rintro e w2 ⟨rfl, g⟩
    go_wp2
    go_ret
    exact ⟨rfl, gr_trans (gr_alloc _ _ _) g⟩
end Go.Proofs.YtmldoeeangekoaaGreat
