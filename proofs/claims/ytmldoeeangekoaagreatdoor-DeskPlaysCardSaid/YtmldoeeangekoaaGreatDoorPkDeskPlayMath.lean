/-
  What the desk answers and what the document's state answers are the same. No condition.
-/
import Derived.Test.YtmldoeeangekoaaGreatDoorDkB
import Derived.Test.YtmldoeeangekoaaGreatDoorDkA
import Derived.Test.YtmldoeeangekoaaGreatDoorPkRefDesk4
import Derived.Test.YtmldoeeangekoaaGreatDoorPkRefDesk6
import Derived.Test.YtmldoeeangekoaaGreatDoorPkRefDesk7
import Derived.Test.YtmldoeeangekoaaGreatDoorPkDeskAny2
import Derived.Test.YtmldoeeangekoaaGreatDoorDyA
namespace Go.Proofs.YtmldoeeangekoaaGreatDoor
open Go.RowKit

theorem in_pages {R S f : Nat} (hS : 0 < S) : (f : Int) ∈ pagesL S (pagesN R S) ↔ f % S = 0 ∧ (f < R ∨ f = 0) := by
  constructor
  · intro h
    obtain ⟨k, hk, rfl⟩ := mem_pages h
    refine ⟨Nat.mul_mod_left k S, ?_⟩
    rcases Nat.eq_zero_or_pos k with rfl | hk0
    · right; exact Nat.zero_mul S
    · left; exact (pages_more hS hk0).1 hk
  · rintro ⟨h1, h2⟩
    have he : f / S * S = f := Nat.div_mul_cancel (Nat.dvd_of_mod_eq_zero h1)
    rw [← he]
    refine pages_mem ?_
    rcases Nat.eq_zero_or_pos (f / S) with h0 | h0
    · rw [h0]; unfold pagesN; omega
    · refine (pages_more hS h0).2 ?_
      rw [he]
      rcases h2 with h2 | h2
      · exact h2
      · subst h2; rw [Nat.zero_div] at h0; omega
/-- A state as a desk's. -/
def dkS (s : Dy.StM) : DkS := ⟨s.next, s.now, s.op, s.seg, s.pts⟩
theorem erase_eq : ∀ {op : List Cur} {k : Nat} {x : Cur}, Dy.Sorted op → op[k]? = some x → op.eraseIdx k = op.filter fun y => !(y.id == x.id)
  | [], k, x, _, h => by simp at h
  | y :: ys, 0, x, hs, h => by
    obtain rfl : y = x := by simpa using h
    have h2 := List.pairwise_cons.1 hs
    rw [List.eraseIdx_cons_zero, List.filter_cons, if_neg (by simp)]
    exact (List.filter_eq_self.2 fun z hz => by have := h2.1 z hz; simp; omega).symm
  | y :: ys, k + 1, x, hs, h => by
    have h2 := List.pairwise_cons.1 hs
    have h3 : ys[k]? = some x := by simpa using h
    have h4 := h2.1 x (List.mem_of_getElem? h3)
    rw [List.eraseIdx_cons_succ, List.filter_cons, if_pos (by simp; omega), erase_eq h2.2 h3]
theorem ids_eq {op : List Cur} (hs : Dy.Sorted op) {j k : Nat} {x y : Cur} (hx : op[j]? = some x) (hy : op[k]? = some y) (h : x.id = y.id) : j = k := by
  rcases Nat.lt_trichotomy j k with h1 | h1 | h1
  · have := Dy.sorted_at hs hx hy h1; omega
  · exact h1
  · have := Dy.sorted_at hs hy hx h1; omega
theorem findI_none {id : Int} {op : List Cur} (h : findI id op 0 = -1) : ∀ y ∈ op, y.id ≠ id := by
  have key : ∀ (zs : List Cur) (k : Nat), findI id zs k = -1 → ∀ y ∈ zs, y.id ≠ id := by
    intro zs
    induction zs with
    | nil => intro k _ y hy; simp at hy
    | cons z zs ih =>
      intro k hk y hy
      unfold findI at hk
      by_cases hz : z.id = id
      · rw [if_pos hz] at hk; omega
      · rw [if_neg hz] at hk
        rcases List.mem_cons.1 hy with rfl | hy
        · exact hz
        · exact ih (k + 1) hk y hy
  exact key op 0 h
theorem inv_del {s : Dy.StM} (h : Dy.InvM s) (p : Cur → Bool) : Dy.InvM { s with op := s.op.filter p } :=
  ⟨h.nx, h.nw, List.Pairwise.filter _ h.so, fun y hy => h.ok y (List.mem_filter.1 hy).1, h.sg⟩
theorem pg_ok {s : Dy.StM} (h : Dy.InvM s) : ∀ y ∈ s.op, PgOk y := fun y hy => by
  obtain ⟨_, _, ⟨a, b⟩, ⟨c, d⟩, _⟩ := (h.ok y hy).1
  simp only [Dy.opN] at a b c d
  exact ⟨y.rows.toNat, y.size.toNat, by omega, by omega, by omega, by omega, by omega⟩
/-- Of the same text the desk and the document find the same. -/
theorem find_eq {s : Dy.StM} (hi : Dy.InvM s) {l : List UInt8} {x y : Cur} {fr gr e f : Int} (h : FindIs s.next s.op l x fr e) (k : RFindIs s.next s.op l y gr f) : x = y ∧ fr = gr ∧ e = f := by
  rcases h with ⟨h1, rfl, rfl, rfl⟩ | ⟨m, n, hok, rfl, h⟩
  · rcases k with ⟨_, rfl, rfl, rfl⟩ | ⟨m, n, hok, hl, _⟩
    · exact ⟨rfl, rfl, rfl⟩
    · exact absurd hl (h1 m n hok)
  · rcases k with ⟨k1, _⟩ | ⟨m', n', hok', hl, k⟩
    · exact absurd rfl (k1 m n hok)
    · obtain ⟨rfl, rfl⟩ := slip_inj hl
      rcases h with ⟨v, hat, hne, rfl, rfl⟩ | ⟨j, z, hlt, hj, hz, h⟩
      · rcases hat with ⟨hb, _, rfl⟩ | ⟨h1, h2, h3, _, rfl⟩ | ⟨_, _, h0, _⟩
        · rcases k with ⟨_, rfl, rfl, rfl⟩ | ⟨k1, _⟩ | ⟨k1, _⟩
          · exact ⟨rfl, rfl, rfl⟩
          · have := hok.1; omega
          · have := hok.1; omega
        · rcases k with ⟨k1, _⟩ | ⟨k1, k2, rfl, rfl, rfl⟩ | ⟨k1, j, z, k2, k3, k4, _⟩
          · omega
          · exact ⟨rfl, rfl, rfl⟩
          · exact absurd k4 (h3 z (List.mem_of_getElem? k3))
        · exact absurd h0 hne
      · rcases k with ⟨k1, _⟩ | ⟨k1, k2, _⟩ | ⟨k1, j2, z2, k2, k3, k4, k⟩
        · omega
        · exact absurd hz (findI_none k2 z (List.mem_of_getElem? hj))
        · obtain rfl := ids_eq hi.so hj k3 (hz.trans k4.symm)
          obtain rfl : z = z2 := by rw [hj] at k3; exact Option.some.inj k3
          obtain ⟨R, S, hR, hS, r1, r2, r3⟩ := pg_ok hi z (List.mem_of_getElem? hj)
          have hb : (n : Int) ∈ pagesL z.size.toNat (pagesN z.rows.toNat z.size.toNat) ↔ beginM z.rows z.size n := by
            rw [hR, hS, Int.toNat_natCast, Int.toNat_natCast, in_pages r2]
            unfold beginM
            constructor
            · rintro ⟨a, b⟩
              refine ⟨by omega, by omega, by omega, by omega, ?_⟩
              have : ((n % S : Nat) : Int) = 0 := by omega
              simpa using this
            · rintro ⟨_, _, _, a, b⟩
              refine ⟨?_, by omega⟩
              have : ((n % S : Nat) : Int) = 0 := by simpa using b
              omega
          rcases h with ⟨a, rfl, rfl, rfl⟩ | ⟨a, rfl, rfl, rfl⟩
          · rcases k with ⟨b, _⟩ | ⟨b, rfl, rfl, rfl⟩
            · exact absurd (hb.1 a) b
            · exact ⟨rfl, rfl, rfl⟩
          · rcases k with ⟨b, rfl, rfl, rfl⟩ | ⟨b, _⟩
            · exact ⟨rfl, rfl, rfl⟩
            · exact absurd (hb.2 b) a
theorem foldM_tk (s : Dy.StM) (t : Int) (h : 0 ≤ t ∧ t ≤ 1000000000) : Dy.foldM s (tkN t) = ⟨s.next, max s.now t, s.op.filter (fun y => !decide (y.tl < max s.now t)), s.seg, s.pts⟩ := by
  have h1 : ¬ okOpen (tkN t) := fun k => by have := k.1; simp [tkN] at this
  have h2 : ¬ okClose (tkN t) := fun k => by have := k.1; simp [tkN] at this
  have h3 : okClock (tkN t) := ⟨rfl, h, rfl, rfl, rfl, rfl⟩
  unfold Dy.foldM
  rw [if_neg h1, if_neg h2, if_pos h3]
  rfl
theorem foldM_seg (s : Dy.StM) (S : List UInt8) (v : Int) : Dy.foldM s (segN S v) = if okN (segN S v) then { s with seg := S, pts := v } else s := by
  have h1 : ¬ okOpen (segN S v) := fun k => by have := k.1; simp [segN] at this
  have h2 : ¬ okClose (segN S v) := fun k => by have := k.1; simp [segN] at this
  have h3 : ¬ okClock (segN S v) := fun k => by have := k.1; simp [segN] at this
  unfold Dy.foldM
  rw [if_neg h1, if_neg h2, if_neg h3]
  by_cases h : okSeg (segN S v)
  · rw [if_pos h, if_pos (.inr (.inr (.inr h)))]
    rfl
  · rw [if_neg h, if_neg]
    rintro (k | k | k | k) <;> contradiction
theorem foldM_opn {s : Dy.StM} (hi : Dy.InvM s) {c : Cur} (h : okOpen (Dy.opN c)) (hc : c.id = s.next) : Dy.foldM s ⟨1, c⟩ = ⟨c.id + 1, s.now, s.op ++ [c], s.seg, s.pts⟩ := by
  have h1 := Dy.fold_open (s := s) (c := c) h (fun y hy => by have := (hi.ok y hy).2; omega)
  have h2 : max s.next (c.id + 1) = c.id + 1 := by omega
  rw [h2] at h1
  exact h1
end Go.Proofs.YtmldoeeangekoaaGreatDoor
