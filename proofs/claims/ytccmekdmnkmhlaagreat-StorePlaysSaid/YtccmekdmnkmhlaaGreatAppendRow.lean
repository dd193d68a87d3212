/-
  append to a row of the call's own, whatever the shape of what is appended (nil too), in a plain region. No condition.
-/
import Derived.Test.YtccmekdmnkmhlaaGreatAid
import Derived.Laws.OwnMore
namespace Go.Proofs.YtccmekdmnkmhlaaGreat
open Go.RowKit

theorem wpList_append_row {P : Program} {ops : Array Oper} {rest : List Oper} {o : Oper} {a : Act} {w : World} {Q : Exit → Act → World → Prop} (hgd : o.guard = none) (s x : Operand) (t : TypeId)
    (hop : o.op = .call { callee := .builtin .append, args := #[s, x], argTypes := #[t, t] })
    (base : Nat) (e : TypeId) (i : TypeInfo) (z : Value) (size bytes : Nat) (ht : P.underlying t = some (.slice e)) (hi : P.info? e = some i) (hz : i.zero = some z)
    (hsize : i.size = size) (hby : i.bytes = bytes) (hzs : z.cells.size = size) (hsz : 0 < size)
    (v : Value) (n : Nat) (xs : List Value) (hs : a.eval s = v) (hown : w.ownsRow base e size v n xs)
    (ao : Option Addr) (m c : Nat) (news : List Value) (hx : a.eval x = .slice ao m c) (hao : ao = none → c = 0) (hrow : Row w ao m size news) (h1 : ∀ u ∈ news, u.oneCell' = true)
    (N : Nat) (ys : List Value) (hN : n + m = N) (hys : xs ++ news = ys)
    (h63 : N ≤ maxLen) (hbytes : N * bytes ≤ 140737488355328) (hbase : base ≤ w.heap.size)
    (h : ∀ v' w', w'.ownsRow base e size v' N ys → w.grownBy w' v.ownBlock → wpList P ops Q rest (a.put o.dst v') w') : wpList P ops Q (o :: rest) a w := by
  subst hN hys
  cases ao with
  | none =>
    obtain rfl : c = 0 := hao rfl
    have hnews : news = [] := by
      cases news with
      | nil => rfl
      | cons u us => obtain ⟨B, o', e', _⟩ := hrow.2 0 u rfl; cases e'
    subst hnews
    have hm : m * size = 0 := by have := hrow.1; simpa using this.symm
    obtain rfl : m = 0 := by
      rcases Nat.mul_eq_zero.1 hm with h' | h'
      · exact h'
      · omega
    have hrun := run_append_owned_none (P := P) w base t o.type e i size ht (by rw [hi]) v n xs hown
    refine wpList_plain hgd fun K hK => ?_
    unfold Oper.wp
    simp [execOp, hop, resolve, invoke, builtin, hs, hx, hrun, Result.andThen]
    exact hK _ _ (h v w (by simpa using hown) (World.grownBy.refl _ _))
  | some ad =>
    refine wpList_append_own w hgd s x t hop base e i z size bytes ht hi hz hsize hby hzs hsz v n xs hs hown ad m c news hx hrow.1 ?_ h1 h63 hbytes hbase fun v' w' h2 h3 _ => h v' w' h2 h3
    intro j u hu
    obtain ⟨B, o', e', _, hc⟩ := hrow.2 j u hu
    obtain rfl := Option.some.inj e'
    rw [Addr.add_lit]
    exact hc
end Go.Proofs.YtccmekdmnkmhlaaGreat
