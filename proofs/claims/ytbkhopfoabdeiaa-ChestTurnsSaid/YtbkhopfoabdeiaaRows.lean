/-
  No cell of these rows narrows 'for every input' (looked for: loops, veiled, ifaces, maps, wideKeys, modest, calm, conditions, laid).
  DERIVED. THE GIVEN ROWS OF THIS SEAT. 4 by the template 'for every input the law returns true; each argument reads behind the call as it read before'; 0 by the template 'total and deterministic' (their statements: YtbkhopfoabdeiaaTotals.lean).
  GIVEN WITH THE SEED: the statements are not yours to turn. If you find one false, say at which input.
  Laid BY PROGRAM, IN A SANDBOX (cutbox-rows.mjs): the forced cells as the released guide's own fill.sh prints them over the translation 17d10e0c2965bcee… (all of the seat's roots in one cut). By AI agents, Wed Nov 11 2026. No macro, syntax, notation, axiom, sorry.
-/
import Derived.Test.YtbkhopfoabdeiaaChecked
import GoSem.Claim
import GoSem.ClaimJoined
import GoSem.ClaimMapViews
import Derived.JoinedTies
import Derived.KernelRfl
namespace Go.Proofs.Ytbkhopfoabdeiaa
/- THE CELL 'sum', in the pinned program and in every row, IS THE sha256 OF THE DUMP (.gsa) THAT YtbkhopfoabdeiaaProg.lean LOADS. Nothing in Lean hashes anything: it is a label: what it is worth is what the hold of that sum in a sandbox is worth. -/
noncomputable def Try.pinned : Pinned := { name := "ytbkhopfoabdeiaa", sum := "17d10e0c2965bceef82c5dfe3284e581abbadc4fd99699de0dcdb834f39ff746", checked := Try.checked }
namespace Rows
def none {H : Type} : Left H := { results := [], args := [] }

/-- 'leporellolaw19.ChestLasts': WHATEVER THE INPUT: true; the input reads as it did. -/
def chestLastsSpec : ChangeSpec := { name := "chestLasts", fn := fun _ => fun
  | [d1, d2, d3] => { results := [.lit (.bool true)], args := [d1, d2, d3] }
  | _ => none }
def chestLastsRow : OpenClaim := { program := "ytbkhopfoabdeiaa", sum := "17d10e0c2965bceef82c5dfe3284e581abbadc4fd99699de0dcdb834f39ff746", func := "leporello/leporellolaw19.ChestLasts", spec := "chestLasts", unfollowed := true, recurses := true, apart := false }
def ChestLastsSaid : Prop := chestLastsRow.holds Try.pinned (OpenSpec.ofChange chestLastsSpec)

/-- ITS FALSE NEIGHBOUR: 'it returns false'. Refute it at one input. -/
def chestLastsWrong : ChangeSpec := { name := "chestLasts", fn := fun _ => fun
  | [d1, d2, d3] => { results := [.lit (.bool false)], args := [d1, d2, d3] }
  | _ => none }
def ChestLastsWrongFalsely : Prop := chestLastsRow.holds Try.pinned (OpenSpec.ofChange chestLastsWrong)

/-- 'leporellolaw19.ChestQuota': WHATEVER THE INPUT: true; the input reads as it did. -/
def chestQuotaSpec : ChangeSpec := { name := "chestQuota", fn := fun _ => fun
  | [d1, d2] => { results := [.lit (.bool true)], args := [d1, d2] }
  | _ => none }
def chestQuotaRow : OpenClaim := { program := "ytbkhopfoabdeiaa", sum := "17d10e0c2965bceef82c5dfe3284e581abbadc4fd99699de0dcdb834f39ff746", func := "leporello/leporellolaw19.ChestQuota", spec := "chestQuota", unfollowed := true, recurses := true, apart := false }
def ChestQuotaSaid : Prop := chestQuotaRow.holds Try.pinned (OpenSpec.ofChange chestQuotaSpec)

/-- ITS FALSE NEIGHBOUR: 'it returns false'. Refute it at one input. -/
def chestQuotaWrong : ChangeSpec := { name := "chestQuota", fn := fun _ => fun
  | [d1, d2] => { results := [.lit (.bool false)], args := [d1, d2] }
  | _ => none }
def ChestQuotaWrongFalsely : Prop := chestQuotaRow.holds Try.pinned (OpenSpec.ofChange chestQuotaWrong)

/-- 'leporellolaw19.ChestNames': WHATEVER THE INPUT: true; the input reads as it did. -/
def chestNamesSpec : ChangeSpec := { name := "chestNames", fn := fun _ => fun
  | [d1, d2, d3, d4, d5] => { results := [.lit (.bool true)], args := [d1, d2, d3, d4, d5] }
  | _ => none }
def chestNamesRow : OpenClaim := { program := "ytbkhopfoabdeiaa", sum := "17d10e0c2965bceef82c5dfe3284e581abbadc4fd99699de0dcdb834f39ff746", func := "leporello/leporellolaw19.ChestNames", spec := "chestNames", unfollowed := true, recurses := true, apart := false }
def ChestNamesSaid : Prop := chestNamesRow.holds Try.pinned (OpenSpec.ofChange chestNamesSpec)

/-- ITS FALSE NEIGHBOUR: 'it returns false'. Refute it at one input. -/
def chestNamesWrong : ChangeSpec := { name := "chestNames", fn := fun _ => fun
  | [d1, d2, d3, d4, d5] => { results := [.lit (.bool false)], args := [d1, d2, d3, d4, d5] }
  | _ => none }
def ChestNamesWrongFalsely : Prop := chestNamesRow.holds Try.pinned (OpenSpec.ofChange chestNamesWrong)

/-- 'leporellolaw19.ChestTurns': WHATEVER THE INPUT: true; the input reads as it did. -/
def chestTurnsSpec : ChangeSpec := { name := "chestTurns", fn := fun _ => fun
  | [d1, d2, d3] => { results := [.lit (.bool true)], args := [d1, d2, d3] }
  | _ => none }
def chestTurnsRow : OpenClaim := { program := "ytbkhopfoabdeiaa", sum := "17d10e0c2965bceef82c5dfe3284e581abbadc4fd99699de0dcdb834f39ff746", func := "leporello/leporellolaw19.ChestTurns", spec := "chestTurns", unfollowed := true, recurses := true, apart := false }
def ChestTurnsSaid : Prop := chestTurnsRow.holds Try.pinned (OpenSpec.ofChange chestTurnsSpec)

/-- ITS FALSE NEIGHBOUR: 'it returns false'. Refute it at one input. -/
def chestTurnsWrong : ChangeSpec := { name := "chestTurns", fn := fun _ => fun
  | [d1, d2, d3] => { results := [.lit (.bool false)], args := [d1, d2, d3] }
  | _ => none }
def ChestTurnsWrongFalsely : Prop := chestTurnsRow.holds Try.pinned (OpenSpec.ofChange chestTurnsWrong)

/- THE SECOND FORM. 'bulk': how many values and letters a reading holds, each counted each time it is reached (what is shared counts as often as it is met; a slice's spare places count too). A statement '..UptoSaid' is the law's where the arguments, and the package variables that the reading takes, are together of bulk at most 1048576: NARROWER than '..Said'. Prove '..Said' where nothing that the law and all that it calls make is longer than what came in: it says more and counts as full. Else prove '..UptoSaid'. A law counts once. -/
mutual
def uptoBulk {H : Type} : DataW H → Nat
  | .lit (.string bytes) => bytes.length + 1
  | .lit _ => 1
  | .nil => 1
  | .ptr d => uptoBulk d + 1
  | .slice elems spare => uptoBulkAll elems + uptoBulkAll spare + 1
  | .agg parts => uptoBulkAll parts + 1
  | .iface _ d => uptoBulk d + 1
  | .map entries => uptoBulkEntries entries + 1
  | .held _ => 1
def uptoBulkAll {H : Type} : List (DataW H) → Nat
  | [] => 0
  | d :: r => uptoBulk d + uptoBulkAll r
def uptoBulkEntries {H : Type} : List (Lit × DataW H) → Nat
  | [] => 0
  | x :: r => uptoBulkEntry x + uptoBulkEntries r
def uptoBulkEntry {H : Type} : Lit × DataW H → Nat
  | (.string bytes, d) => bytes.length + uptoBulk d + 1
  | (_, d) => uptoBulk d + 1
 end
def uptoSmall : (H : Type) → List (DataW H) → Bool := fun _ ds => decide (uptoBulkAll ds ≤ 1048576)
def OpenSpec.upto (s : _root_.Go.ChangeSpec) : _root_.Go.OpenSpec := { _root_.Go.OpenSpec.ofChange s with cond := some uptoSmall }

/-- 'leporellolaw19.ChestLasts', WHERE WHAT IT READS IS OF BULK AT MOST 1048576: true; the input reads as it did. -/
def chestLastsUptoRow : OpenClaim := { program := "ytbkhopfoabdeiaa", sum := "17d10e0c2965bceef82c5dfe3284e581abbadc4fd99699de0dcdb834f39ff746", func := "leporello/leporellolaw19.ChestLasts", spec := "chestLasts", unfollowed := true, recurses := true, apart := false, narrowed := true }
def ChestLastsUptoSaid : Prop := chestLastsUptoRow.holds Try.pinned (OpenSpec.upto chestLastsSpec)

/-- 'leporellolaw19.ChestQuota', WHERE WHAT IT READS IS OF BULK AT MOST 1048576: true; the input reads as it did. -/
def chestQuotaUptoRow : OpenClaim := { program := "ytbkhopfoabdeiaa", sum := "17d10e0c2965bceef82c5dfe3284e581abbadc4fd99699de0dcdb834f39ff746", func := "leporello/leporellolaw19.ChestQuota", spec := "chestQuota", unfollowed := true, recurses := true, apart := false, narrowed := true }
def ChestQuotaUptoSaid : Prop := chestQuotaUptoRow.holds Try.pinned (OpenSpec.upto chestQuotaSpec)

/-- 'leporellolaw19.ChestNames', WHERE WHAT IT READS IS OF BULK AT MOST 1048576: true; the input reads as it did. -/
def chestNamesUptoRow : OpenClaim := { program := "ytbkhopfoabdeiaa", sum := "17d10e0c2965bceef82c5dfe3284e581abbadc4fd99699de0dcdb834f39ff746", func := "leporello/leporellolaw19.ChestNames", spec := "chestNames", unfollowed := true, recurses := true, apart := false, narrowed := true }
def ChestNamesUptoSaid : Prop := chestNamesUptoRow.holds Try.pinned (OpenSpec.upto chestNamesSpec)

/-- 'leporellolaw19.ChestTurns', WHERE WHAT IT READS IS OF BULK AT MOST 1048576: true; the input reads as it did. -/
def chestTurnsUptoRow : OpenClaim := { program := "ytbkhopfoabdeiaa", sum := "17d10e0c2965bceef82c5dfe3284e581abbadc4fd99699de0dcdb834f39ff746", func := "leporello/leporellolaw19.ChestTurns", spec := "chestTurns", unfollowed := true, recurses := true, apart := false, narrowed := true }
def ChestTurnsUptoSaid : Prop := chestTurnsUptoRow.holds Try.pinned (OpenSpec.upto chestTurnsSpec)

end Rows
end Go.Proofs.Ytbkhopfoabdeiaa
