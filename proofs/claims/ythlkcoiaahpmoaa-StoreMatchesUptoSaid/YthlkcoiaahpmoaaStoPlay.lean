/-
  Points put one by one, and how a store lasts: plain, and of worlds. No condition.
-/
import Derived.Test.YthlkcoiaahpmoaaOpOpen
namespace Go.Proofs.Ythlkcoiaahpmoaa
open Go.RowKit

def pl (os : List Opx) (ss : List Ser) : List Ser := os.foldl (fun s o => (putS s o.l o.t o.v).2) ss
theorem pl_nil (ss : List Ser) : pl [] ss = ss := rfl
theorem pl_append (a b : List Opx) (ss : List Ser) : pl (a ++ b) ss = pl b (pl a ss) := by unfold pl; rw [List.foldl_append]
theorem pl_take {os : List Opx} {k : Nat} {o : Opx} (h : os[k]? = some o) (ss : List Ser) : pl (os.take (k + 1)) ss = (putS (pl (os.take k) ss) o.l o.t o.v).2 := by
  obtain ⟨h1, h2⟩ := List.getElem?_eq_some_iff.1 h
  rw [List.take_succ_eq_append_getElem h1, h2, pl_append]
  rfl
theorem pl_inv (os : List Opx) {ss : List Ser} (h : InvS ss) : InvS (pl os ss) := by
  induction os generalizing ss with
  | nil => exact h
  | cons o os ih => exact ih (invS_put h o.l o.t o.v)
theorem sumP_append (a b : List Ser) : sumP (a ++ b) = sumP a + sumP b := by unfold sumP; rw [List.map_append, List.sum_append]
theorem sumP_cons (s : Ser) (b : List Ser) : sumP (s :: b) = s.p.length + sumP b := by unfold sumP; rw [List.map_cons, List.sum_cons]
theorem sumP_set {ss : List Ser} {k : Nat} {s : Ser} (h : ss[k]? = some s) (s' : Ser) (hl : s'.p.length = s.p.length + 1) : sumP (ss.set k s') = sumP ss + 1 := by
  obtain ⟨h1, h2⟩ := List.getElem?_eq_some_iff.1 h
  have e : ss = ss.take k ++ s :: ss.drop (k + 1) := by rw [← h2, ← List.drop_eq_getElem_cons h1, List.take_append_drop]
  have e2 : ss.set k s' = ss.take k ++ s' :: ss.drop (k + 1) := by rw [List.set_eq_take_append_cons_drop, if_pos h1]
  rw [e2]
  conv => rhs; rw [e]
  rw [sumP_append, sumP_append, sumP_cons, sumP_cons, hl]
  omega
theorem sumP_ins (ss : List Ser) (k : Nat) (s : Ser) (hl : s.p.length = 1) : sumP (ss.take k ++ s :: ss.drop k) = sumP ss + 1 := by
  conv => rhs; rw [← List.take_append_drop k ss]
  rw [sumP_append, sumP_append, sumP_cons, hl]
  omega
theorem sumP_put (ss : List Ser) (l : List Lb) (t v : Int) : sumP (putS ss l t v).2 = sumP ss + (if (putS ss l t v).1 = 0 then 1 else 0) := by
  unfold putS
  by_cases hb : okSer l ∧ okPt t v
  · rw [if_pos hb]
    generalize placeS ss l = k
    by_cases hex : ∃ s, ss[k]? = some s ∧ s.l = l
    · obtain ⟨s, hs, rfl⟩ := hex
      rw [putAt_yes hs]
      split
      · rfl
      · split
        · rfl
        · simp only
          rw [if_pos True.intro]
          exact sumP_set hs _ (by simp)
    · rw [putAt_no hex]
      split
      · rfl
      · simp only
        rw [if_pos True.intro]
        exact sumP_ins ss k _ rfl
  · rw [if_neg hb]
    rfl
theorem sumP_bound {ss : List Ser} (h : InvS ss) : sumP ss ≤ 1000 := by
  have h1 := sumP_le (ss := ss) (fun s hs => (h.ok s hs).2.2.1) ss.length
  rw [List.take_length] at h1
  have := h.len
  omega
/-! ### Worlds -/
/-- What was young turns beside what may. -/
theorem grs_young {S S' : Nat → Prop} {w w1 w2 : World} (h : GrS S w w1) (k : GrS S' w1 w2) (hs : ∀ i, i < w.heap.size → S' i → S i) : GrS S w w2 :=
  ⟨k.os.trans h.os, k.tape.trans h.tape, k.output.trans h.output, Nat.le_trans h.size k.size, fun i hi hn => (k.block i (Nat.lt_of_lt_of_le hi h.size) (fun e => hn (hs i hi e))).trans (h.block i hi hn)⟩
/-- A list of series is kept where only what is elder than it turns. -/
theorem sersIn_grs {S : Nat → Prop} {w w' : World} {base : Nat} {A : Option Addr} {n c : Nat} {hs : List SHd} {ss : List Ser} (h : SersIn w base A n c hs ss) (g : GrS S w w') (hS : ∀ k, S k → k < base) : SersIn w' base A n c hs ss := by
  refine ⟨h.len, h.hlen, own_grs h.own g (fun k hk hk2 => ?_), fun i x s h1 h2 => ?_, h.prt⟩
  · have := (h.own.lt k hk).1
    have := hS k hk2
    omega
  · obtain ⟨q1, q2⟩ := h.ser i x s h1 h2
    exact ⟨own_grs q1 g (fun k hk hk2 => by have := (q1.lt k hk).1; have := hS k hk2; omega), own_grs q2 g (fun k hk hk2 => by have := (q2.lt k hk).1; have := hS k hk2; omega)⟩
theorem ser_small {ss : List Ser} (h : InvS ss) : ∀ s ∈ ss, s.l.length ≤ 1000000 ∧ s.p.length ≤ 1000000 := fun s hs => by
  obtain ⟨h1, _, h3, _⟩ := h.ok s hs
  have := h1.1.1
  exact ⟨by omega, by omega⟩
/-- A store behind a Put: it is there, behind the same base, and what has turned is the store's. -/
structure Lasts (w0 : World) (K : Nat) (S0 : Nat → Prop) (wr : World) (St : Nat) (ss : List Ser) : Prop where
  ex : ∃ m : StoM, m.St = St ∧ StoHas wr K m ss ∧ ∀ k, BlkS m k → S0 k ∨ w0.heap.size ≤ k
  gr : GrS S0 w0 wr
theorem lasts_start {w0 : World} {K : Nat} {m : StoM} {ss : List Ser} (h : StoHas w0 K m ss) : Lasts w0 K (BlkS m) w0 m.St ss := ⟨⟨m, rfl, h, fun _ q => .inl q⟩, grs_refl _ _⟩
theorem lasts_gr {w0 wr w' : World} {K St : Nat} {S0 : Nat → Prop} {ss : List Ser} (h : Lasts w0 K S0 wr St ss) (g : Gr wr w') : Lasts w0 K S0 w' St ss := by
  obtain ⟨⟨m, h1, h2, h3⟩, h4⟩ := h
  exact ⟨⟨m, h1, stoHas_gr h2 g, h3⟩, grs_then h4 g (by simp)⟩
theorem lasts_put {w0 wr : World} {K St : Nat} {S0 : Nat → Prop} {ss : List Ser} (h : Lasts w0 K S0 wr St ss) {A : Option Addr} {n c : Nat} {zs : List Lb} (t v : Int) (hn : n ≤ 1000000000) (hA : A = none → n = 0 ∧ c = 0) (hz : Row wr A n 2 (sR lblC zs)) (hsh : ShortL zs) :
    Calls Try.prog 12 #[.pointer (some ⟨St, 0, none⟩), .slice A n c, .int .i64 t, .int .i64 v] wr fun e w' => e = .returned (.int .i64 (putS ss zs t v).1) ∧ Lasts w0 K S0 w' St (putS ss zs t v).2 ∧ Below K wr w' := by
  obtain ⟨⟨m, rfl, h2, h3⟩, h4⟩ := h
  refine (put_in t v h2 hn hA hz hsh).mono ?_
  rintro e w' ⟨rfl, ⟨m', e1, k1, k2, k3⟩, B⟩
  refine ⟨rfl, ⟨⟨m', e1, k1, fun k hk => ?_⟩, grs_young h4 k2 fun i hi q => ?_⟩, B⟩
  · rcases k3 k hk with q | q
    · exact h3 k q
    · exact .inr (Nat.le_trans h4.size q)
  · rcases h3 i q with r | r
    · exact r
    · omega
theorem op_args {w : World} {x : OHd} {o : Opx} (h : OpOk w x o) (hl : LightL o.l) : x.n ≤ 1000000000 ∧ (x.A = none → x.n = 0 ∧ x.c = 0) ∧ Row w x.A x.n 2 (sR lblC o.l) ∧ ShortL o.l := by
  obtain ⟨h1, h2, h3, h4, h5⟩ := h.l
  have hlen : o.l.length = x.n := by have := h1.1; rw [sR_len lblC 2 lblC_len] at this; omega
  have := hl.1
  exact ⟨by omega, fun e => by have := h5 e; omega, h1, light_short hl⟩
end Go.Proofs.Ythlkcoiaahpmoaa
