/-
  No cell of these rows narrows 'for every input' (looked for: loops, veiled, ifaces, maps, wideKeys, modest, calm, conditions, laid).
  DERIVED. THE GIVEN ROWS OF THIS SEAT. 6 by the template 'for every input the law returns true; each argument reads behind the call as it read before'; 0 by the template 'total and deterministic' (their statements: YtoickcaccielkaaTotals.lean).
  GIVEN WITH THE SEED: the statements are not yours to turn. If you find one false, say at which input.
  Laid BY PROGRAM, IN A SANDBOX (cutbox-rows.mjs): the forced cells as the released guide's own fill.sh prints them over the translation e0ddc28cbab84359… (all of the seat's roots in one cut). By AI agents, Wed Nov 11 2026. No macro, syntax, notation, axiom, sorry.
-/
import Derived.Test.YtoickcaccielkaaChecked
import GoSem.Claim
import GoSem.ClaimJoined
import GoSem.ClaimMapViews
import Derived.JoinedTies
import Derived.KernelRfl
namespace Go.Proofs.Ytoickcaccielkaa
/- THE CELL 'sum', in the pinned program and in every row, IS THE sha256 OF THE DUMP (.gsa) THAT YtoickcaccielkaaProg.lean LOADS. Nothing in Lean hashes anything: it is a label: what it is worth is what the hold of that sum in a sandbox is worth. -/
noncomputable def Try.pinned : Pinned := { name := "ytoickcaccielkaa", sum := "e0ddc28cbab84359b3557fc2fdde1dcc8a9b36996f171b30d858f277b24a420b", checked := Try.checked }
namespace Rows
def none {H : Type} : Left H := { results := [], args := [] }

/-- 'leporellolaw4.FixedTells': WHATEVER THE INPUT: true; the input reads as it did. -/
def fixedTellsSpec : ChangeSpec := { name := "fixedTells", fn := fun _ => fun
  | [d1, d2, d3] => { results := [.lit (.bool true)], args := [d1, d2, d3] }
  | _ => none }
def fixedTellsRow : OpenClaim := { program := "ytoickcaccielkaa", sum := "e0ddc28cbab84359b3557fc2fdde1dcc8a9b36996f171b30d858f277b24a420b", func := "leporello/leporellolaw4.FixedTells", spec := "fixedTells", recurses := true, apart := false }
def FixedTellsSaid : Prop := fixedTellsRow.holds Try.pinned (OpenSpec.ofChange fixedTellsSpec)

/-- ITS FALSE NEIGHBOUR: 'it returns false'. Refute it at one input. -/
def fixedTellsWrong : ChangeSpec := { name := "fixedTells", fn := fun _ => fun
  | [d1, d2, d3] => { results := [.lit (.bool false)], args := [d1, d2, d3] }
  | _ => none }
def FixedTellsWrongFalsely : Prop := fixedTellsRow.holds Try.pinned (OpenSpec.ofChange fixedTellsWrong)

/-- 'leporellolaw4.FixedLaws': WHATEVER THE INPUT: true; the input reads as it did. -/
def fixedLawsSpec : ChangeSpec := { name := "fixedLaws", fn := fun _ => fun
  | [d1, d2] => { results := [.lit (.bool true)], args := [d1, d2] }
  | _ => none }
def fixedLawsRow : OpenClaim := { program := "ytoickcaccielkaa", sum := "e0ddc28cbab84359b3557fc2fdde1dcc8a9b36996f171b30d858f277b24a420b", func := "leporello/leporellolaw4.FixedLaws", spec := "fixedLaws", recurses := true, apart := false }
def FixedLawsSaid : Prop := fixedLawsRow.holds Try.pinned (OpenSpec.ofChange fixedLawsSpec)

/-- ITS FALSE NEIGHBOUR: 'it returns false'. Refute it at one input. -/
def fixedLawsWrong : ChangeSpec := { name := "fixedLaws", fn := fun _ => fun
  | [d1, d2] => { results := [.lit (.bool false)], args := [d1, d2] }
  | _ => none }
def FixedLawsWrongFalsely : Prop := fixedLawsRow.holds Try.pinned (OpenSpec.ofChange fixedLawsWrong)

/-- 'leporellolaw4.FixedRanks': WHATEVER THE INPUT: true; the input reads as it did. -/
def fixedRanksSpec : ChangeSpec := { name := "fixedRanks", fn := fun _ => fun
  | [d1, d2, d3] => { results := [.lit (.bool true)], args := [d1, d2, d3] }
  | _ => none }
def fixedRanksRow : OpenClaim := { program := "ytoickcaccielkaa", sum := "e0ddc28cbab84359b3557fc2fdde1dcc8a9b36996f171b30d858f277b24a420b", func := "leporello/leporellolaw4.FixedRanks", spec := "fixedRanks", recurses := true, apart := false }
def FixedRanksSaid : Prop := fixedRanksRow.holds Try.pinned (OpenSpec.ofChange fixedRanksSpec)

/-- ITS FALSE NEIGHBOUR: 'it returns false'. Refute it at one input. -/
def fixedRanksWrong : ChangeSpec := { name := "fixedRanks", fn := fun _ => fun
  | [d1, d2, d3] => { results := [.lit (.bool false)], args := [d1, d2, d3] }
  | _ => none }
def FixedRanksWrongFalsely : Prop := fixedRanksRow.holds Try.pinned (OpenSpec.ofChange fixedRanksWrong)

/-- 'leporellolaw4.FixedOrder': WHATEVER THE INPUT: true; the input reads as it did. -/
def fixedOrderSpec : ChangeSpec := { name := "fixedOrder", fn := fun _ => fun
  | [d1, d2] => { results := [.lit (.bool true)], args := [d1, d2] }
  | _ => none }
def fixedOrderRow : OpenClaim := { program := "ytoickcaccielkaa", sum := "e0ddc28cbab84359b3557fc2fdde1dcc8a9b36996f171b30d858f277b24a420b", func := "leporello/leporellolaw4.FixedOrder", spec := "fixedOrder", recurses := true, apart := false }
def FixedOrderSaid : Prop := fixedOrderRow.holds Try.pinned (OpenSpec.ofChange fixedOrderSpec)

/-- ITS FALSE NEIGHBOUR: 'it returns false'. Refute it at one input. -/
def fixedOrderWrong : ChangeSpec := { name := "fixedOrder", fn := fun _ => fun
  | [d1, d2] => { results := [.lit (.bool false)], args := [d1, d2] }
  | _ => none }
def FixedOrderWrongFalsely : Prop := fixedOrderRow.holds Try.pinned (OpenSpec.ofChange fixedOrderWrong)

/-- 'leporellolaw4.FixedLists': WHATEVER THE INPUT: true; the input reads as it did. -/
def fixedListsSpec : ChangeSpec := { name := "fixedLists", fn := fun _ => fun
  | [d1, d2] => { results := [.lit (.bool true)], args := [d1, d2] }
  | _ => none }
def fixedListsRow : OpenClaim := { program := "ytoickcaccielkaa", sum := "e0ddc28cbab84359b3557fc2fdde1dcc8a9b36996f171b30d858f277b24a420b", func := "leporello/leporellolaw4.FixedLists", spec := "fixedLists", recurses := true, apart := false }
def FixedListsSaid : Prop := fixedListsRow.holds Try.pinned (OpenSpec.ofChange fixedListsSpec)

/-- ITS FALSE NEIGHBOUR: 'it returns false'. Refute it at one input. -/
def fixedListsWrong : ChangeSpec := { name := "fixedLists", fn := fun _ => fun
  | [d1, d2] => { results := [.lit (.bool false)], args := [d1, d2] }
  | _ => none }
def FixedListsWrongFalsely : Prop := fixedListsRow.holds Try.pinned (OpenSpec.ofChange fixedListsWrong)

/-- 'leporellolaw4.FixedSums': WHATEVER THE INPUT: true; the input reads as it did. -/
def fixedSumsSpec : ChangeSpec := { name := "fixedSums", fn := fun _ => fun
  | [d1, d2] => { results := [.lit (.bool true)], args := [d1, d2] }
  | _ => none }
def fixedSumsRow : OpenClaim := { program := "ytoickcaccielkaa", sum := "e0ddc28cbab84359b3557fc2fdde1dcc8a9b36996f171b30d858f277b24a420b", func := "leporello/leporellolaw4.FixedSums", spec := "fixedSums", recurses := true, apart := false }
def FixedSumsSaid : Prop := fixedSumsRow.holds Try.pinned (OpenSpec.ofChange fixedSumsSpec)

/-- ITS FALSE NEIGHBOUR: 'it returns false'. Refute it at one input. -/
def fixedSumsWrong : ChangeSpec := { name := "fixedSums", fn := fun _ => fun
  | [d1, d2] => { results := [.lit (.bool false)], args := [d1, d2] }
  | _ => none }
def FixedSumsWrongFalsely : Prop := fixedSumsRow.holds Try.pinned (OpenSpec.ofChange fixedSumsWrong)

/- THE SECOND FORM. 'bulk': how many values and letters a reading holds, each counted each time it is reached (what is shared counts as often as it is met; a slice's spare places count too). A statement '..UptoSaid' is the law's where the arguments, and the package variables that the reading takes, are together of bulk at most 1048576: NARROWER than '..Said'. Prove '..Said' where nothing that the law and all that it calls make is longer than what came in: it says more and counts as full. Else prove '..UptoSaid'. A law counts once. -/
mutual
def uptoBulk {H : Type} : DataW H → Nat
  | .lit (.string bytes) => bytes.length + 1
  | .lit _ => 1
  | .nil => 1
  | .ptr d => uptoBulk d + 1
  | .slice elems spare => uptoBulkAll elems + uptoBulkAll spare + 1
  | .agg parts => uptoBulkAll parts + 1
  | .iface _ d => uptoBulk d + 1
  | .map entries => uptoBulkEntries entries + 1
  | .held _ => 1
def uptoBulkAll {H : Type} : List (DataW H) → Nat
  | [] => 0
  | d :: r => uptoBulk d + uptoBulkAll r
def uptoBulkEntries {H : Type} : List (Lit × DataW H) → Nat
  | [] => 0
  | x :: r => uptoBulkEntry x + uptoBulkEntries r
def uptoBulkEntry {H : Type} : Lit × DataW H → Nat
  | (.string bytes, d) => bytes.length + uptoBulk d + 1
  | (_, d) => uptoBulk d + 1
 end
def uptoSmall : (H : Type) → List (DataW H) → Bool := fun _ ds => decide (uptoBulkAll ds ≤ 1048576)
def OpenSpec.upto (s : _root_.Go.ChangeSpec) : _root_.Go.OpenSpec := { _root_.Go.OpenSpec.ofChange s with cond := some uptoSmall }

/-- 'leporellolaw4.FixedTells', WHERE WHAT IT READS IS OF BULK AT MOST 1048576: true; the input reads as it did. -/
def fixedTellsUptoRow : OpenClaim := { program := "ytoickcaccielkaa", sum := "e0ddc28cbab84359b3557fc2fdde1dcc8a9b36996f171b30d858f277b24a420b", func := "leporello/leporellolaw4.FixedTells", spec := "fixedTells", recurses := true, apart := false, narrowed := true }
def FixedTellsUptoSaid : Prop := fixedTellsUptoRow.holds Try.pinned (OpenSpec.upto fixedTellsSpec)

/-- 'leporellolaw4.FixedLaws', WHERE WHAT IT READS IS OF BULK AT MOST 1048576: true; the input reads as it did. -/
def fixedLawsUptoRow : OpenClaim := { program := "ytoickcaccielkaa", sum := "e0ddc28cbab84359b3557fc2fdde1dcc8a9b36996f171b30d858f277b24a420b", func := "leporello/leporellolaw4.FixedLaws", spec := "fixedLaws", recurses := true, apart := false, narrowed := true }
def FixedLawsUptoSaid : Prop := fixedLawsUptoRow.holds Try.pinned (OpenSpec.upto fixedLawsSpec)

/-- 'leporellolaw4.FixedRanks', WHERE WHAT IT READS IS OF BULK AT MOST 1048576: true; the input reads as it did. -/
def fixedRanksUptoRow : OpenClaim := { program := "ytoickcaccielkaa", sum := "e0ddc28cbab84359b3557fc2fdde1dcc8a9b36996f171b30d858f277b24a420b", func := "leporello/leporellolaw4.FixedRanks", spec := "fixedRanks", recurses := true, apart := false, narrowed := true }
def FixedRanksUptoSaid : Prop := fixedRanksUptoRow.holds Try.pinned (OpenSpec.upto fixedRanksSpec)

/-- 'leporellolaw4.FixedOrder', WHERE WHAT IT READS IS OF BULK AT MOST 1048576: true; the input reads as it did. -/
def fixedOrderUptoRow : OpenClaim := { program := "ytoickcaccielkaa", sum := "e0ddc28cbab84359b3557fc2fdde1dcc8a9b36996f171b30d858f277b24a420b", func := "leporello/leporellolaw4.FixedOrder", spec := "fixedOrder", recurses := true, apart := false, narrowed := true }
def FixedOrderUptoSaid : Prop := fixedOrderUptoRow.holds Try.pinned (OpenSpec.upto fixedOrderSpec)

/-- 'leporellolaw4.FixedLists', WHERE WHAT IT READS IS OF BULK AT MOST 1048576: true; the input reads as it did. -/
def fixedListsUptoRow : OpenClaim := { program := "ytoickcaccielkaa", sum := "e0ddc28cbab84359b3557fc2fdde1dcc8a9b36996f171b30d858f277b24a420b", func := "leporello/leporellolaw4.FixedLists", spec := "fixedLists", recurses := true, apart := false, narrowed := true }
def FixedListsUptoSaid : Prop := fixedListsUptoRow.holds Try.pinned (OpenSpec.upto fixedListsSpec)

/-- 'leporellolaw4.FixedSums', WHERE WHAT IT READS IS OF BULK AT MOST 1048576: true; the input reads as it did. -/
def fixedSumsUptoRow : OpenClaim := { program := "ytoickcaccielkaa", sum := "e0ddc28cbab84359b3557fc2fdde1dcc8a9b36996f171b30d858f277b24a420b", func := "leporello/leporellolaw4.FixedSums", spec := "fixedSums", recurses := true, apart := false, narrowed := true }
def FixedSumsUptoSaid : Prop := fixedSumsUptoRow.holds Try.pinned (OpenSpec.upto fixedSumsSpec)

end Rows
end Go.Proofs.Ytoickcaccielkaa
