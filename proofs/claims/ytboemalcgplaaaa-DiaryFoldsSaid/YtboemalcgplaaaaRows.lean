/-
  No cell of these rows narrows 'for every input' (looked for: loops, veiled, ifaces, maps, wideKeys, modest, calm, conditions, laid).
  DERIVED. THE GIVEN ROWS OF THIS SEAT. 3 by the template 'for every input the law returns true; each argument reads behind the call as it read before'; 0 by the template 'total and deterministic' (their statements: YtboemalcgplaaaaTotals.lean).
  GIVEN WITH THE SEED: the statements are not yours to turn. If you find one false, say at which input.
  Laid BY PROGRAM, IN A SANDBOX (cutbox-rows.mjs): the forced cells as the released guide's own fill.sh prints them over the translation a2dc7fa182814956… (all of the seat's roots in one cut). By AI agents, Wed Nov 11 2026. No macro, syntax, notation, axiom, sorry.
-/
import Derived.Test.YtboemalcgplaaaaChecked
import GoSem.Claim
import GoSem.ClaimJoined
import GoSem.ClaimMapViews
import Derived.JoinedTies
import Derived.KernelRfl
namespace Go.Proofs.Ytboemalcgplaaaa
/- THE CELL 'sum', in the pinned program and in every row, IS THE sha256 OF THE DUMP (.gsa) THAT YtboemalcgplaaaaProg.lean LOADS. Nothing in Lean hashes anything: it is a label: what it is worth is what the hold of that sum in a sandbox is worth. -/
noncomputable def Try.pinned : Pinned := { name := "ytboemalcgplaaaa", sum := "a2dc7fa18281495618d68897d1fb654f2c5bf95efff59d0e9ff0a8e44ad6ee20", checked := Try.checked }
namespace Rows
def none {H : Type} : Left H := { results := [], args := [] }

/-- 'leporellolaw21.DiaryCuts': WHATEVER THE INPUT: true; the input reads as it did. -/
def diaryCutsSpec : ChangeSpec := { name := "diaryCuts", fn := fun _ => fun
  | [d1, d2, d3] => { results := [.lit (.bool true)], args := [d1, d2, d3] }
  | _ => none }
def diaryCutsRow : OpenClaim := { program := "ytboemalcgplaaaa", sum := "a2dc7fa18281495618d68897d1fb654f2c5bf95efff59d0e9ff0a8e44ad6ee20", func := "leporello/leporellolaw21.DiaryCuts", spec := "diaryCuts", inPlace := ["slices.overlaps[leporello/api.Cursor]"], unfollowed := true, recurses := true, apart := false }
def DiaryCutsSaid : Prop := diaryCutsRow.holds Try.pinned (OpenSpec.ofChange diaryCutsSpec)

/-- ITS FALSE NEIGHBOUR: 'it returns false'. Refute it at one input. -/
def diaryCutsWrong : ChangeSpec := { name := "diaryCuts", fn := fun _ => fun
  | [d1, d2, d3] => { results := [.lit (.bool false)], args := [d1, d2, d3] }
  | _ => none }
def DiaryCutsWrongFalsely : Prop := diaryCutsRow.holds Try.pinned (OpenSpec.ofChange diaryCutsWrong)

/-- 'leporellolaw21.DiaryTurned': WHATEVER THE INPUT: true; the input reads as it did. -/
def diaryTurnedSpec : ChangeSpec := { name := "diaryTurned", fn := fun _ => fun
  | [d1, d2, d3] => { results := [.lit (.bool true)], args := [d1, d2, d3] }
  | _ => none }
def diaryTurnedRow : OpenClaim := { program := "ytboemalcgplaaaa", sum := "a2dc7fa18281495618d68897d1fb654f2c5bf95efff59d0e9ff0a8e44ad6ee20", func := "leporello/leporellolaw21.DiaryTurned", spec := "diaryTurned", inPlace := ["slices.overlaps[leporello/api.Cursor]"], unfollowed := true, recurses := true, apart := false }
def DiaryTurnedSaid : Prop := diaryTurnedRow.holds Try.pinned (OpenSpec.ofChange diaryTurnedSpec)

/-- ITS FALSE NEIGHBOUR: 'it returns false'. Refute it at one input. -/
def diaryTurnedWrong : ChangeSpec := { name := "diaryTurned", fn := fun _ => fun
  | [d1, d2, d3] => { results := [.lit (.bool false)], args := [d1, d2, d3] }
  | _ => none }
def DiaryTurnedWrongFalsely : Prop := diaryTurnedRow.holds Try.pinned (OpenSpec.ofChange diaryTurnedWrong)

/-- 'leporellolaw21.DiaryFolds': WHATEVER THE INPUT: true; the input reads as it did. -/
def diaryFoldsSpec : ChangeSpec := { name := "diaryFolds", fn := fun _ => fun
  | [d1, d2] => { results := [.lit (.bool true)], args := [d1, d2] }
  | _ => none }
def diaryFoldsRow : OpenClaim := { program := "ytboemalcgplaaaa", sum := "a2dc7fa18281495618d68897d1fb654f2c5bf95efff59d0e9ff0a8e44ad6ee20", func := "leporello/leporellolaw21.DiaryFolds", spec := "diaryFolds", inPlace := ["slices.overlaps[leporello/api.Cursor]"], unfollowed := true, recurses := true, apart := false }
def DiaryFoldsSaid : Prop := diaryFoldsRow.holds Try.pinned (OpenSpec.ofChange diaryFoldsSpec)

/-- ITS FALSE NEIGHBOUR: 'it returns false'. Refute it at one input. -/
def diaryFoldsWrong : ChangeSpec := { name := "diaryFolds", fn := fun _ => fun
  | [d1, d2] => { results := [.lit (.bool false)], args := [d1, d2] }
  | _ => none }
def DiaryFoldsWrongFalsely : Prop := diaryFoldsRow.holds Try.pinned (OpenSpec.ofChange diaryFoldsWrong)

/- THE SECOND FORM. 'bulk': how many values and letters a reading holds, each counted each time it is reached (what is shared counts as often as it is met; a slice's spare places count too). A statement '..UptoSaid' is the law's where the arguments, and the package variables that the reading takes, are together of bulk at most 1048576: NARROWER than '..Said'. Prove '..Said' where nothing that the law and all that it calls make is longer than what came in: it says more and counts as full. Else prove '..UptoSaid'. A law counts once. -/
mutual
def uptoBulk {H : Type} : DataW H → Nat
  | .lit (.string bytes) => bytes.length + 1
  | .lit _ => 1
  | .nil => 1
  | .ptr d => uptoBulk d + 1
  | .slice elems spare => uptoBulkAll elems + uptoBulkAll spare + 1
  | .agg parts => uptoBulkAll parts + 1
  | .iface _ d => uptoBulk d + 1
  | .map entries => uptoBulkEntries entries + 1
  | .held _ => 1
def uptoBulkAll {H : Type} : List (DataW H) → Nat
  | [] => 0
  | d :: r => uptoBulk d + uptoBulkAll r
def uptoBulkEntries {H : Type} : List (Lit × DataW H) → Nat
  | [] => 0
  | x :: r => uptoBulkEntry x + uptoBulkEntries r
def uptoBulkEntry {H : Type} : Lit × DataW H → Nat
  | (.string bytes, d) => bytes.length + uptoBulk d + 1
  | (_, d) => uptoBulk d + 1
 end
def uptoSmall : (H : Type) → List (DataW H) → Bool := fun _ ds => decide (uptoBulkAll ds ≤ 1048576)
def OpenSpec.upto (s : _root_.Go.ChangeSpec) : _root_.Go.OpenSpec := { _root_.Go.OpenSpec.ofChange s with cond := some uptoSmall }

/-- 'leporellolaw21.DiaryCuts', WHERE WHAT IT READS IS OF BULK AT MOST 1048576: true; the input reads as it did. -/
def diaryCutsUptoRow : OpenClaim := { program := "ytboemalcgplaaaa", sum := "a2dc7fa18281495618d68897d1fb654f2c5bf95efff59d0e9ff0a8e44ad6ee20", func := "leporello/leporellolaw21.DiaryCuts", spec := "diaryCuts", inPlace := ["slices.overlaps[leporello/api.Cursor]"], unfollowed := true, recurses := true, apart := false, narrowed := true }
def DiaryCutsUptoSaid : Prop := diaryCutsUptoRow.holds Try.pinned (OpenSpec.upto diaryCutsSpec)

/-- 'leporellolaw21.DiaryTurned', WHERE WHAT IT READS IS OF BULK AT MOST 1048576: true; the input reads as it did. -/
def diaryTurnedUptoRow : OpenClaim := { program := "ytboemalcgplaaaa", sum := "a2dc7fa18281495618d68897d1fb654f2c5bf95efff59d0e9ff0a8e44ad6ee20", func := "leporello/leporellolaw21.DiaryTurned", spec := "diaryTurned", inPlace := ["slices.overlaps[leporello/api.Cursor]"], unfollowed := true, recurses := true, apart := false, narrowed := true }
def DiaryTurnedUptoSaid : Prop := diaryTurnedUptoRow.holds Try.pinned (OpenSpec.upto diaryTurnedSpec)

/-- 'leporellolaw21.DiaryFolds', WHERE WHAT IT READS IS OF BULK AT MOST 1048576: true; the input reads as it did. -/
def diaryFoldsUptoRow : OpenClaim := { program := "ytboemalcgplaaaa", sum := "a2dc7fa18281495618d68897d1fb654f2c5bf95efff59d0e9ff0a8e44ad6ee20", func := "leporello/leporellolaw21.DiaryFolds", spec := "diaryFolds", inPlace := ["slices.overlaps[leporello/api.Cursor]"], unfollowed := true, recurses := true, apart := false, narrowed := true }
def DiaryFoldsUptoSaid : Prop := diaryFoldsUptoRow.holds Try.pinned (OpenSpec.upto diaryFoldsSpec)

end Rows
end Go.Proofs.Ytboemalcgplaaaa
