/-
  No cell of these rows narrows 'for every input' (looked for: loops, veiled, ifaces, maps, wideKeys, modest, calm, conditions, laid).
  DERIVED. THE GIVEN ROWS OF THIS SEAT. 5 by the template 'for every input the law returns true; each argument reads behind the call as it read before'; 0 by the template 'total and deterministic' (their statements: YtncokhgkojhdfaaTotals.lean).
  GIVEN WITH THE SEED: the statements are not yours to turn. If you find one false, say at which input.
  Laid BY PROGRAM, IN A SANDBOX (cutbox-rows.mjs): the forced cells as the released guide's own fill.sh prints them over the translation fc14826bb438822f… (all of the seat's roots in one cut). By AI agents, Wed Nov 11 2026. No macro, syntax, notation, axiom, sorry.
-/
import Derived.Test.YtncokhgkojhdfaaChecked
import GoSem.Claim
import GoSem.ClaimJoined
import GoSem.ClaimMapViews
import Derived.JoinedTies
import Derived.KernelRfl
namespace Go.Proofs.Ytncokhgkojhdfaa
/- THE CELL 'sum', in the pinned program and in every row, IS THE sha256 OF THE DUMP (.gsa) THAT YtncokhgkojhdfaaProg.lean LOADS. Nothing in Lean hashes anything: it is a label: what it is worth is what the hold of that sum in a sandbox is worth. -/
noncomputable def Try.pinned : Pinned := { name := "ytncokhgkojhdfaa", sum := "fc14826bb438822f69f08db5c305519a585c1a976cb410a3332ded4efed5b11b", checked := Try.checked }
namespace Rows
def none {H : Type} : Left H := { results := [], args := [] }

/-- 'leporellolaw14.GuardBursts': WHATEVER THE INPUT: true; the input reads as it did. -/
def guardBurstsSpec : ChangeSpec := { name := "guardBursts", fn := fun _ => fun
  | [d1, d2, d3, d4] => { results := [.lit (.bool true)], args := [d1, d2, d3, d4] }
  | _ => none }
def guardBurstsRow : OpenClaim := { program := "ytncokhgkojhdfaa", sum := "fc14826bb438822f69f08db5c305519a585c1a976cb410a3332ded4efed5b11b", func := "leporello/leporellolaw14.GuardBursts", spec := "guardBursts", apart := false }
def GuardBurstsSaid : Prop := guardBurstsRow.holds Try.pinned (OpenSpec.ofChange guardBurstsSpec)

/-- ITS FALSE NEIGHBOUR: 'it returns false'. Refute it at one input. -/
def guardBurstsWrong : ChangeSpec := { name := "guardBursts", fn := fun _ => fun
  | [d1, d2, d3, d4] => { results := [.lit (.bool false)], args := [d1, d2, d3, d4] }
  | _ => none }
def GuardBurstsWrongFalsely : Prop := guardBurstsRow.holds Try.pinned (OpenSpec.ofChange guardBurstsWrong)

/-- 'leporellolaw14.GuardBits': WHATEVER THE INPUT: true; the input reads as it did. -/
def guardBitsSpec : ChangeSpec := { name := "guardBits", fn := fun _ => fun
  | [d1, d2] => { results := [.lit (.bool true)], args := [d1, d2] }
  | _ => none }
def guardBitsRow : OpenClaim := { program := "ytncokhgkojhdfaa", sum := "fc14826bb438822f69f08db5c305519a585c1a976cb410a3332ded4efed5b11b", func := "leporello/leporellolaw14.GuardBits", spec := "guardBits", apart := false }
def GuardBitsSaid : Prop := guardBitsRow.holds Try.pinned (OpenSpec.ofChange guardBitsSpec)

/-- ITS FALSE NEIGHBOUR: 'it returns false'. Refute it at one input. -/
def guardBitsWrong : ChangeSpec := { name := "guardBits", fn := fun _ => fun
  | [d1, d2] => { results := [.lit (.bool false)], args := [d1, d2] }
  | _ => none }
def GuardBitsWrongFalsely : Prop := guardBitsRow.holds Try.pinned (OpenSpec.ofChange guardBitsWrong)

/-- 'leporellolaw14.GuardLong': WHATEVER THE INPUT: true; the input reads as it did. -/
def guardLongSpec : ChangeSpec := { name := "guardLong", fn := fun _ => fun
  | [d] => { results := [.lit (.bool true)], args := [d] }
  | _ => none }
def guardLongRow : OpenClaim := { program := "ytncokhgkojhdfaa", sum := "fc14826bb438822f69f08db5c305519a585c1a976cb410a3332ded4efed5b11b", func := "leporello/leporellolaw14.GuardLong", spec := "guardLong", apart := false }
def GuardLongSaid : Prop := guardLongRow.holds Try.pinned (OpenSpec.ofChange guardLongSpec)

/-- ITS FALSE NEIGHBOUR: 'it returns false'. Refute it at one input. -/
def guardLongWrong : ChangeSpec := { name := "guardLong", fn := fun _ => fun
  | [d] => { results := [.lit (.bool false)], args := [d] }
  | _ => none }
def GuardLongWrongFalsely : Prop := guardLongRow.holds Try.pinned (OpenSpec.ofChange guardLongWrong)

/-- 'leporellolaw14.GuardTells': WHATEVER THE INPUT: true; the input reads as it did. -/
def guardTellsSpec : ChangeSpec := { name := "guardTells", fn := fun _ => fun
  | [d1, d2] => { results := [.lit (.bool true)], args := [d1, d2] }
  | _ => none }
def guardTellsRow : OpenClaim := { program := "ytncokhgkojhdfaa", sum := "fc14826bb438822f69f08db5c305519a585c1a976cb410a3332ded4efed5b11b", func := "leporello/leporellolaw14.GuardTells", spec := "guardTells", apart := false }
def GuardTellsSaid : Prop := guardTellsRow.holds Try.pinned (OpenSpec.ofChange guardTellsSpec)

/-- ITS FALSE NEIGHBOUR: 'it returns false'. Refute it at one input. -/
def guardTellsWrong : ChangeSpec := { name := "guardTells", fn := fun _ => fun
  | [d1, d2] => { results := [.lit (.bool false)], args := [d1, d2] }
  | _ => none }
def GuardTellsWrongFalsely : Prop := guardTellsRow.holds Try.pinned (OpenSpec.ofChange guardTellsWrong)

/-- 'leporellolaw14.GuardCuts': WHATEVER THE INPUT: true; the input reads as it did. -/
def guardCutsSpec : ChangeSpec := { name := "guardCuts", fn := fun _ => fun
  | [d1, d2] => { results := [.lit (.bool true)], args := [d1, d2] }
  | _ => none }
def guardCutsRow : OpenClaim := { program := "ytncokhgkojhdfaa", sum := "fc14826bb438822f69f08db5c305519a585c1a976cb410a3332ded4efed5b11b", func := "leporello/leporellolaw14.GuardCuts", spec := "guardCuts", apart := false }
def GuardCutsSaid : Prop := guardCutsRow.holds Try.pinned (OpenSpec.ofChange guardCutsSpec)

/-- ITS FALSE NEIGHBOUR: 'it returns false'. Refute it at one input. -/
def guardCutsWrong : ChangeSpec := { name := "guardCuts", fn := fun _ => fun
  | [d1, d2] => { results := [.lit (.bool false)], args := [d1, d2] }
  | _ => none }
def GuardCutsWrongFalsely : Prop := guardCutsRow.holds Try.pinned (OpenSpec.ofChange guardCutsWrong)

/- THE SECOND FORM. 'bulk': how many values and letters a reading holds, each counted each time it is reached (what is shared counts as often as it is met; a slice's spare places count too). A statement '..UptoSaid' is the law's where the arguments, and the package variables that the reading takes, are together of bulk at most 1048576: NARROWER than '..Said'. Prove '..Said' where nothing that the law and all that it calls make is longer than what came in: it says more and counts as full. Else prove '..UptoSaid'. A law counts once. -/
mutual
def uptoBulk {H : Type} : DataW H → Nat
  | .lit (.string bytes) => bytes.length + 1
  | .lit _ => 1
  | .nil => 1
  | .ptr d => uptoBulk d + 1
  | .slice elems spare => uptoBulkAll elems + uptoBulkAll spare + 1
  | .agg parts => uptoBulkAll parts + 1
  | .iface _ d => uptoBulk d + 1
  | .map entries => uptoBulkEntries entries + 1
  | .held _ => 1
def uptoBulkAll {H : Type} : List (DataW H) → Nat
  | [] => 0
  | d :: r => uptoBulk d + uptoBulkAll r
def uptoBulkEntries {H : Type} : List (Lit × DataW H) → Nat
  | [] => 0
  | x :: r => uptoBulkEntry x + uptoBulkEntries r
def uptoBulkEntry {H : Type} : Lit × DataW H → Nat
  | (.string bytes, d) => bytes.length + uptoBulk d + 1
  | (_, d) => uptoBulk d + 1
 end
def uptoSmall : (H : Type) → List (DataW H) → Bool := fun _ ds => decide (uptoBulkAll ds ≤ 1048576)
def OpenSpec.upto (s : _root_.Go.ChangeSpec) : _root_.Go.OpenSpec := { _root_.Go.OpenSpec.ofChange s with cond := some uptoSmall }

/-- 'leporellolaw14.GuardBursts', WHERE WHAT IT READS IS OF BULK AT MOST 1048576: true; the input reads as it did. -/
def guardBurstsUptoRow : OpenClaim := { program := "ytncokhgkojhdfaa", sum := "fc14826bb438822f69f08db5c305519a585c1a976cb410a3332ded4efed5b11b", func := "leporello/leporellolaw14.GuardBursts", spec := "guardBursts", apart := false, narrowed := true }
def GuardBurstsUptoSaid : Prop := guardBurstsUptoRow.holds Try.pinned (OpenSpec.upto guardBurstsSpec)

/-- 'leporellolaw14.GuardBits', WHERE WHAT IT READS IS OF BULK AT MOST 1048576: true; the input reads as it did. -/
def guardBitsUptoRow : OpenClaim := { program := "ytncokhgkojhdfaa", sum := "fc14826bb438822f69f08db5c305519a585c1a976cb410a3332ded4efed5b11b", func := "leporello/leporellolaw14.GuardBits", spec := "guardBits", apart := false, narrowed := true }
def GuardBitsUptoSaid : Prop := guardBitsUptoRow.holds Try.pinned (OpenSpec.upto guardBitsSpec)

/-- 'leporellolaw14.GuardLong', WHERE WHAT IT READS IS OF BULK AT MOST 1048576: true; the input reads as it did. -/
def guardLongUptoRow : OpenClaim := { program := "ytncokhgkojhdfaa", sum := "fc14826bb438822f69f08db5c305519a585c1a976cb410a3332ded4efed5b11b", func := "leporello/leporellolaw14.GuardLong", spec := "guardLong", apart := false, narrowed := true }
def GuardLongUptoSaid : Prop := guardLongUptoRow.holds Try.pinned (OpenSpec.upto guardLongSpec)

/-- 'leporellolaw14.GuardTells', WHERE WHAT IT READS IS OF BULK AT MOST 1048576: true; the input reads as it did. -/
def guardTellsUptoRow : OpenClaim := { program := "ytncokhgkojhdfaa", sum := "fc14826bb438822f69f08db5c305519a585c1a976cb410a3332ded4efed5b11b", func := "leporello/leporellolaw14.GuardTells", spec := "guardTells", apart := false, narrowed := true }
def GuardTellsUptoSaid : Prop := guardTellsUptoRow.holds Try.pinned (OpenSpec.upto guardTellsSpec)

/-- 'leporellolaw14.GuardCuts', WHERE WHAT IT READS IS OF BULK AT MOST 1048576: true; the input reads as it did. -/
def guardCutsUptoRow : OpenClaim := { program := "ytncokhgkojhdfaa", sum := "fc14826bb438822f69f08db5c305519a585c1a976cb410a3332ded4efed5b11b", func := "leporello/leporellolaw14.GuardCuts", spec := "guardCuts", apart := false, narrowed := true }
def GuardCutsUptoSaid : Prop := guardCutsUptoRow.holds Try.pinned (OpenSpec.upto guardCutsSpec)

end Rows
end Go.Proofs.Ytncokhgkojhdfaa
