/-
  A region that draws its order, whose operations only read and whose callees turn nothing old: walked once, in the order of the text. No condition.
-/
import Derived.Test.YtccmekdmnkmhlaaGreatAid
import Derived.BigQuiet
namespace Go.Proofs.YtccmekdmnkmhlaaGreat
open Go.RowKit

/-- A world in which nothing old has turned. -/
structure Grown (w : World) where
  wd : World
  gr : Gr w wd
instance (w : World) : Inhabited (Grown w) := ⟨⟨w, gr_refl w none⟩⟩
theorem wp_region_quiet_gr {P : Program} {id : Nat} {Q : Exit → Act → World → Prop} {a : Act} {w : World} {l : List Oper} (hm : P.follows .mixedOrders = true) (hB : Region.lexB .any l.toArray = true)
    (h : wpQuiet P l.toArray (fun w' => ∃ p : Grown w, w' = p.wd) (fun a' => ∀ w', (∃ p : Grown w, w' = p.wd) → Q .normal a' w') l a) : (Code.region id l.toArray true).wp P Q a w :=
  wp_region_quiet (C := fun w' => ∃ p : Grown w, w' = p.wd) hm hB ⟨⟨w.drew, gr_drew w none⟩, rfl⟩ (by simpa using h)
/-- A callee that turns nothing old, met in such a world. -/
theorem calls_gr {P : Program} {f : FuncId} {args : Array Value} {w : World} {p : Grown w} {v : Value} (h : Calls P f args p.wd fun e w' => e = .returned v ∧ Gr p.wd w') : Calls P f args p.wd fun e w'' => e = .returned v ∧ ∃ q : Grown w, w'' = q.wd :=
  h.mono fun _ w' ⟨he, hg⟩ => ⟨he, ⟨w', gr_trans p.gr hg⟩, rfl⟩
theorem calls_still {P : Program} {f : FuncId} {args : Array Value} {w : World} {p : Grown w} {v : Value} (h : Calls P f args p.wd fun e w' => e = .returned v ∧ p.wd = w') : Calls P f args p.wd fun e w'' => e = .returned v ∧ ∃ q : Grown w, w'' = q.wd :=
  h.mono fun _ _ ⟨he, hg⟩ => ⟨he, p, hg.symm⟩
theorem calls_still' {P : Program} {f : FuncId} {args : Array Value} {w : World} {p : Grown w} {v : Value} (h : Calls P f args p.wd fun e w' => e = .returned v ∧ w' = p.wd) : Calls P f args p.wd fun e w'' => e = .returned v ∧ ∃ q : Grown w, w'' = q.wd :=
  h.mono fun _ _ ⟨he, hg⟩ => ⟨he, p, hg⟩
theorem cell_to {w : World} {a : Addr} {v : Value} (h : w.cell? a = some v) (p : Grown w) : p.wd.cell? a = some v := gr_cell p.gr h
end Go.Proofs.YtccmekdmnkmhlaaGreat
