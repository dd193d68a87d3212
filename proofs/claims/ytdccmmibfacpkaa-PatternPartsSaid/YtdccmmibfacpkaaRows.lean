/-
  No cell of these rows narrows 'for every input' (looked for: loops, veiled, ifaces, maps, wideKeys, modest, calm, conditions, laid).
  DERIVED. THE GIVEN ROWS OF THIS SEAT. 6 by the template 'for every input the law returns true; each argument reads behind the call as it read before'; 0 by the template 'total and deterministic' (their statements: YtdccmmibfacpkaaTotals.lean).
  GIVEN WITH THE SEED: the statements are not yours to turn. If you find one false, say at which input.
  Laid BY PROGRAM, IN A SANDBOX (cutbox-rows.mjs): the forced cells as the released guide's own fill.sh prints them over the translation f50c8b623764c216… (all of the seat's roots in one cut). By AI agents, Wed Nov 11 2026. No macro, syntax, notation, axiom, sorry.
-/
import Derived.Test.YtdccmmibfacpkaaChecked
import GoSem.Claim
import GoSem.ClaimJoined
import GoSem.ClaimMapViews
import Derived.JoinedTies
import Derived.KernelRfl
namespace Go.Proofs.Ytdccmmibfacpkaa
/- THE CELL 'sum', in the pinned program and in every row, IS THE sha256 OF THE DUMP (.gsa) THAT YtdccmmibfacpkaaProg.lean LOADS. Nothing in Lean hashes anything: it is a label: what it is worth is what the hold of that sum in a sandbox is worth. -/
noncomputable def Try.pinned : Pinned := { name := "ytdccmmibfacpkaa", sum := "f50c8b623764c216447bd7155a3636bfb619c143b95c699d650d5ea4c05b4b15", checked := Try.checked }
namespace Rows
def none {H : Type} : Left H := { results := [], args := [] }

/-- 'leporellolaw3.PatternPlain': WHATEVER THE INPUT: true; the input reads as it did. -/
def patternPlainSpec : ChangeSpec := { name := "patternPlain", fn := fun _ => fun
  | [d1, d2] => { results := [.lit (.bool true)], args := [d1, d2] }
  | _ => none }
def patternPlainRow : OpenClaim := { program := "ytdccmmibfacpkaa", sum := "f50c8b623764c216447bd7155a3636bfb619c143b95c699d650d5ea4c05b4b15", func := "leporello/leporellolaw3.PatternPlain", spec := "patternPlain", inPlace := ["internal/bytealg.IndexByteString", "internal/bytealg.IndexString"], recurses := true, named := ["internal/bytealg.MaxLen"], apart := false }
def PatternPlainSaid : Prop := patternPlainRow.holds Try.pinned (OpenSpec.ofChange patternPlainSpec)

/-- ITS FALSE NEIGHBOUR: 'it returns false'. Refute it at one input. -/
def patternPlainWrong : ChangeSpec := { name := "patternPlain", fn := fun _ => fun
  | [d1, d2] => { results := [.lit (.bool false)], args := [d1, d2] }
  | _ => none }
def PatternPlainWrongFalsely : Prop := patternPlainRow.holds Try.pinned (OpenSpec.ofChange patternPlainWrong)

/-- 'leporellolaw3.PatternParts': WHATEVER THE INPUT: true; the input reads as it did. -/
def patternPartsSpec : ChangeSpec := { name := "patternParts", fn := fun _ => fun
  | [d1, d2, d3] => { results := [.lit (.bool true)], args := [d1, d2, d3] }
  | _ => none }
def patternPartsRow : OpenClaim := { program := "ytdccmmibfacpkaa", sum := "f50c8b623764c216447bd7155a3636bfb619c143b95c699d650d5ea4c05b4b15", func := "leporello/leporellolaw3.PatternParts", spec := "patternParts", inPlace := ["internal/bytealg.IndexByteString", "internal/bytealg.IndexString"], recurses := true, named := ["internal/bytealg.MaxLen"], apart := false }
def PatternPartsSaid : Prop := patternPartsRow.holds Try.pinned (OpenSpec.ofChange patternPartsSpec)

/-- ITS FALSE NEIGHBOUR: 'it returns false'. Refute it at one input. -/
def patternPartsWrong : ChangeSpec := { name := "patternParts", fn := fun _ => fun
  | [d1, d2, d3] => { results := [.lit (.bool false)], args := [d1, d2, d3] }
  | _ => none }
def PatternPartsWrongFalsely : Prop := patternPartsRow.holds Try.pinned (OpenSpec.ofChange patternPartsWrong)

/-- 'leporellolaw3.PatternAgain': WHATEVER THE INPUT: true; the input reads as it did. -/
def patternAgainSpec : ChangeSpec := { name := "patternAgain", fn := fun _ => fun
  | [d1, d2] => { results := [.lit (.bool true)], args := [d1, d2] }
  | _ => none }
def patternAgainRow : OpenClaim := { program := "ytdccmmibfacpkaa", sum := "f50c8b623764c216447bd7155a3636bfb619c143b95c699d650d5ea4c05b4b15", func := "leporello/leporellolaw3.PatternAgain", spec := "patternAgain", inPlace := ["internal/bytealg.IndexByteString", "internal/bytealg.IndexString"], recurses := true, named := ["internal/bytealg.MaxLen"], apart := false }
def PatternAgainSaid : Prop := patternAgainRow.holds Try.pinned (OpenSpec.ofChange patternAgainSpec)

/-- ITS FALSE NEIGHBOUR: 'it returns false'. Refute it at one input. -/
def patternAgainWrong : ChangeSpec := { name := "patternAgain", fn := fun _ => fun
  | [d1, d2] => { results := [.lit (.bool false)], args := [d1, d2] }
  | _ => none }
def PatternAgainWrongFalsely : Prop := patternAgainRow.holds Try.pinned (OpenSpec.ofChange patternAgainWrong)

/-- 'leporellolaw3.PatternClasses': WHATEVER THE INPUT: true; the input reads as it did. -/
def patternClassesSpec : ChangeSpec := { name := "patternClasses", fn := fun _ => fun
  | [d1, d2, d3, d4] => { results := [.lit (.bool true)], args := [d1, d2, d3, d4] }
  | _ => none }
def patternClassesRow : OpenClaim := { program := "ytdccmmibfacpkaa", sum := "f50c8b623764c216447bd7155a3636bfb619c143b95c699d650d5ea4c05b4b15", func := "leporello/leporellolaw3.PatternClasses", spec := "patternClasses", inPlace := ["internal/bytealg.IndexByteString", "internal/bytealg.IndexString"], recurses := true, named := ["internal/bytealg.MaxLen"], apart := false }
def PatternClassesSaid : Prop := patternClassesRow.holds Try.pinned (OpenSpec.ofChange patternClassesSpec)

/-- ITS FALSE NEIGHBOUR: 'it returns false'. Refute it at one input. -/
def patternClassesWrong : ChangeSpec := { name := "patternClasses", fn := fun _ => fun
  | [d1, d2, d3, d4] => { results := [.lit (.bool false)], args := [d1, d2, d3, d4] }
  | _ => none }
def PatternClassesWrongFalsely : Prop := patternClassesRow.holds Try.pinned (OpenSpec.ofChange patternClassesWrong)

/-- 'leporellolaw3.PatternDots': WHATEVER THE INPUT: true; the input reads as it did. -/
def patternDotsSpec : ChangeSpec := { name := "patternDots", fn := fun _ => fun
  | [d1, d2] => { results := [.lit (.bool true)], args := [d1, d2] }
  | _ => none }
def patternDotsRow : OpenClaim := { program := "ytdccmmibfacpkaa", sum := "f50c8b623764c216447bd7155a3636bfb619c143b95c699d650d5ea4c05b4b15", func := "leporello/leporellolaw3.PatternDots", spec := "patternDots", inPlace := ["internal/bytealg.IndexByteString", "internal/bytealg.IndexString"], recurses := true, named := ["internal/bytealg.MaxLen"], apart := false }
def PatternDotsSaid : Prop := patternDotsRow.holds Try.pinned (OpenSpec.ofChange patternDotsSpec)

/-- ITS FALSE NEIGHBOUR: 'it returns false'. Refute it at one input. -/
def patternDotsWrong : ChangeSpec := { name := "patternDots", fn := fun _ => fun
  | [d1, d2] => { results := [.lit (.bool false)], args := [d1, d2] }
  | _ => none }
def PatternDotsWrongFalsely : Prop := patternDotsRow.holds Try.pinned (OpenSpec.ofChange patternDotsWrong)

/-- 'leporellolaw3.PatternBegins': WHATEVER THE INPUT: true; the input reads as it did. -/
def patternBeginsSpec : ChangeSpec := { name := "patternBegins", fn := fun _ => fun
  | [d1, d2] => { results := [.lit (.bool true)], args := [d1, d2] }
  | _ => none }
def patternBeginsRow : OpenClaim := { program := "ytdccmmibfacpkaa", sum := "f50c8b623764c216447bd7155a3636bfb619c143b95c699d650d5ea4c05b4b15", func := "leporello/leporellolaw3.PatternBegins", spec := "patternBegins", inPlace := ["internal/bytealg.IndexByteString", "internal/bytealg.IndexString"], recurses := true, named := ["internal/bytealg.MaxLen"], apart := false }
def PatternBeginsSaid : Prop := patternBeginsRow.holds Try.pinned (OpenSpec.ofChange patternBeginsSpec)

/-- ITS FALSE NEIGHBOUR: 'it returns false'. Refute it at one input. -/
def patternBeginsWrong : ChangeSpec := { name := "patternBegins", fn := fun _ => fun
  | [d1, d2] => { results := [.lit (.bool false)], args := [d1, d2] }
  | _ => none }
def PatternBeginsWrongFalsely : Prop := patternBeginsRow.holds Try.pinned (OpenSpec.ofChange patternBeginsWrong)

/- THE SECOND FORM. 'bulk': how many values and letters a reading holds, each counted each time it is reached (what is shared counts as often as it is met; a slice's spare places count too). A statement '..UptoSaid' is the law's where the arguments, and the package variables that the reading takes, are together of bulk at most 1048576: NARROWER than '..Said'. Prove '..Said' where nothing that the law and all that it calls make is longer than what came in: it says more and counts as full. Else prove '..UptoSaid'. A law counts once. -/
mutual
def uptoBulk {H : Type} : DataW H → Nat
  | .lit (.string bytes) => bytes.length + 1
  | .lit _ => 1
  | .nil => 1
  | .ptr d => uptoBulk d + 1
  | .slice elems spare => uptoBulkAll elems + uptoBulkAll spare + 1
  | .agg parts => uptoBulkAll parts + 1
  | .iface _ d => uptoBulk d + 1
  | .map entries => uptoBulkEntries entries + 1
  | .held _ => 1
def uptoBulkAll {H : Type} : List (DataW H) → Nat
  | [] => 0
  | d :: r => uptoBulk d + uptoBulkAll r
def uptoBulkEntries {H : Type} : List (Lit × DataW H) → Nat
  | [] => 0
  | x :: r => uptoBulkEntry x + uptoBulkEntries r
def uptoBulkEntry {H : Type} : Lit × DataW H → Nat
  | (.string bytes, d) => bytes.length + uptoBulk d + 1
  | (_, d) => uptoBulk d + 1
 end
def uptoSmall : (H : Type) → List (DataW H) → Bool := fun _ ds => decide (uptoBulkAll ds ≤ 1048576)
def OpenSpec.upto (s : _root_.Go.ChangeSpec) : _root_.Go.OpenSpec := { _root_.Go.OpenSpec.ofChange s with cond := some uptoSmall }

/-- 'leporellolaw3.PatternPlain', WHERE WHAT IT READS IS OF BULK AT MOST 1048576: true; the input reads as it did. -/
def patternPlainUptoRow : OpenClaim := { program := "ytdccmmibfacpkaa", sum := "f50c8b623764c216447bd7155a3636bfb619c143b95c699d650d5ea4c05b4b15", func := "leporello/leporellolaw3.PatternPlain", spec := "patternPlain", inPlace := ["internal/bytealg.IndexByteString", "internal/bytealg.IndexString"], recurses := true, named := ["internal/bytealg.MaxLen"], apart := false, narrowed := true }
def PatternPlainUptoSaid : Prop := patternPlainUptoRow.holds Try.pinned (OpenSpec.upto patternPlainSpec)

/-- 'leporellolaw3.PatternParts', WHERE WHAT IT READS IS OF BULK AT MOST 1048576: true; the input reads as it did. -/
def patternPartsUptoRow : OpenClaim := { program := "ytdccmmibfacpkaa", sum := "f50c8b623764c216447bd7155a3636bfb619c143b95c699d650d5ea4c05b4b15", func := "leporello/leporellolaw3.PatternParts", spec := "patternParts", inPlace := ["internal/bytealg.IndexByteString", "internal/bytealg.IndexString"], recurses := true, named := ["internal/bytealg.MaxLen"], apart := false, narrowed := true }
def PatternPartsUptoSaid : Prop := patternPartsUptoRow.holds Try.pinned (OpenSpec.upto patternPartsSpec)

/-- 'leporellolaw3.PatternAgain', WHERE WHAT IT READS IS OF BULK AT MOST 1048576: true; the input reads as it did. -/
def patternAgainUptoRow : OpenClaim := { program := "ytdccmmibfacpkaa", sum := "f50c8b623764c216447bd7155a3636bfb619c143b95c699d650d5ea4c05b4b15", func := "leporello/leporellolaw3.PatternAgain", spec := "patternAgain", inPlace := ["internal/bytealg.IndexByteString", "internal/bytealg.IndexString"], recurses := true, named := ["internal/bytealg.MaxLen"], apart := false, narrowed := true }
def PatternAgainUptoSaid : Prop := patternAgainUptoRow.holds Try.pinned (OpenSpec.upto patternAgainSpec)

/-- 'leporellolaw3.PatternClasses', WHERE WHAT IT READS IS OF BULK AT MOST 1048576: true; the input reads as it did. -/
def patternClassesUptoRow : OpenClaim := { program := "ytdccmmibfacpkaa", sum := "f50c8b623764c216447bd7155a3636bfb619c143b95c699d650d5ea4c05b4b15", func := "leporello/leporellolaw3.PatternClasses", spec := "patternClasses", inPlace := ["internal/bytealg.IndexByteString", "internal/bytealg.IndexString"], recurses := true, named := ["internal/bytealg.MaxLen"], apart := false, narrowed := true }
def PatternClassesUptoSaid : Prop := patternClassesUptoRow.holds Try.pinned (OpenSpec.upto patternClassesSpec)

/-- 'leporellolaw3.PatternDots', WHERE WHAT IT READS IS OF BULK AT MOST 1048576: true; the input reads as it did. -/
def patternDotsUptoRow : OpenClaim := { program := "ytdccmmibfacpkaa", sum := "f50c8b623764c216447bd7155a3636bfb619c143b95c699d650d5ea4c05b4b15", func := "leporello/leporellolaw3.PatternDots", spec := "patternDots", inPlace := ["internal/bytealg.IndexByteString", "internal/bytealg.IndexString"], recurses := true, named := ["internal/bytealg.MaxLen"], apart := false, narrowed := true }
def PatternDotsUptoSaid : Prop := patternDotsUptoRow.holds Try.pinned (OpenSpec.upto patternDotsSpec)

/-- 'leporellolaw3.PatternBegins', WHERE WHAT IT READS IS OF BULK AT MOST 1048576: true; the input reads as it did. -/
def patternBeginsUptoRow : OpenClaim := { program := "ytdccmmibfacpkaa", sum := "f50c8b623764c216447bd7155a3636bfb619c143b95c699d650d5ea4c05b4b15", func := "leporello/leporellolaw3.PatternBegins", spec := "patternBegins", inPlace := ["internal/bytealg.IndexByteString", "internal/bytealg.IndexString"], recurses := true, named := ["internal/bytealg.MaxLen"], apart := false, narrowed := true }
def PatternBeginsUptoSaid : Prop := patternBeginsUptoRow.holds Try.pinned (OpenSpec.upto patternBeginsSpec)

end Rows
end Go.Proofs.Ytdccmmibfacpkaa
