/-
  No cell of these rows narrows 'for every input' (looked for: loops, veiled, ifaces, maps, wideKeys, modest, calm, conditions, laid).
  DERIVED. THE GIVEN ROWS OF THIS SEAT. 4 by the template 'for every input the law returns true; each argument reads behind the call as it read before'; 0 by the template 'total and deterministic' (their statements: YtoidfoalhkoajaaTotals.lean).
  GIVEN WITH THE SEED: the statements are not yours to turn. If you find one false, say at which input.
  Laid BY PROGRAM, IN A SANDBOX (cutbox-rows.mjs): the forced cells as the released guide's own fill.sh prints them over the translation 6509efaff1752f72… (all of the seat's roots in one cut). By AI agents, Wed Nov 11 2026. No macro, syntax, notation, axiom, sorry.
-/
import Derived.Test.YtoidfoalhkoajaaChecked
import GoSem.Claim
import GoSem.ClaimJoined
import GoSem.ClaimMapViews
import Derived.JoinedTies
import Derived.KernelRfl
namespace Go.Proofs.Ytoidfoalhkoajaa
/- THE CELL 'sum', in the pinned program and in every row, IS THE sha256 OF THE DUMP (.gsa) THAT YtoidfoalhkoajaaProg.lean LOADS. Nothing in Lean hashes anything: it is a label: what it is worth is what the hold of that sum in a sandbox is worth. -/
noncomputable def Try.pinned : Pinned := { name := "ytoidfoalhkoajaa", sum := "6509efaff1752f72802fb040b832772e31df5ce44de8a0965a1034499c05c1cf", checked := Try.checked }
namespace Rows
def none {H : Type} : Left H := { results := [], args := [] }

/-- 'leporellolaw15.RunRaw': WHATEVER THE INPUT: true; the input reads as it did. -/
def runRawSpec : ChangeSpec := { name := "runRaw", fn := fun _ => fun
  | [d1, d2, d3] => { results := [.lit (.bool true)], args := [d1, d2, d3] }
  | _ => none }
def runRawRow : OpenClaim := { program := "ytoidfoalhkoajaa", sum := "6509efaff1752f72802fb040b832772e31df5ce44de8a0965a1034499c05c1cf", func := "leporello/leporellolaw15.RunRaw", spec := "runRaw", inPlace := ["internal/bytealg.abigen_runtime_cmpstring", "internal/abi.NoEscape"], unfollowed := true, recurses := true, apart := false }
def RunRawSaid : Prop := runRawRow.holds Try.pinned (OpenSpec.ofChange runRawSpec)

/-- ITS FALSE NEIGHBOUR: 'it returns false'. Refute it at one input. -/
def runRawWrong : ChangeSpec := { name := "runRaw", fn := fun _ => fun
  | [d1, d2, d3] => { results := [.lit (.bool false)], args := [d1, d2, d3] }
  | _ => none }
def RunRawWrongFalsely : Prop := runRawRow.holds Try.pinned (OpenSpec.ofChange runRawWrong)

/-- 'leporellolaw15.RunPages': WHATEVER THE INPUT: true; the input reads as it did. -/
def runPagesSpec : ChangeSpec := { name := "runPages", fn := fun _ => fun
  | [d1, d2] => { results := [.lit (.bool true)], args := [d1, d2] }
  | _ => none }
def runPagesRow : OpenClaim := { program := "ytoidfoalhkoajaa", sum := "6509efaff1752f72802fb040b832772e31df5ce44de8a0965a1034499c05c1cf", func := "leporello/leporellolaw15.RunPages", spec := "runPages", inPlace := ["internal/bytealg.abigen_runtime_cmpstring", "internal/abi.NoEscape"], unfollowed := true, recurses := true, apart := false }
def RunPagesSaid : Prop := runPagesRow.holds Try.pinned (OpenSpec.ofChange runPagesSpec)

/-- ITS FALSE NEIGHBOUR: 'it returns false'. Refute it at one input. -/
def runPagesWrong : ChangeSpec := { name := "runPages", fn := fun _ => fun
  | [d1, d2] => { results := [.lit (.bool false)], args := [d1, d2] }
  | _ => none }
def RunPagesWrongFalsely : Prop := runPagesRow.holds Try.pinned (OpenSpec.ofChange runPagesWrong)

/-- 'leporellolaw15.RunTurned': WHATEVER THE INPUT: true; the input reads as it did. -/
def runTurnedSpec : ChangeSpec := { name := "runTurned", fn := fun _ => fun
  | [d1, d2, d3, d4] => { results := [.lit (.bool true)], args := [d1, d2, d3, d4] }
  | _ => none }
def runTurnedRow : OpenClaim := { program := "ytoidfoalhkoajaa", sum := "6509efaff1752f72802fb040b832772e31df5ce44de8a0965a1034499c05c1cf", func := "leporello/leporellolaw15.RunTurned", spec := "runTurned", inPlace := ["internal/bytealg.abigen_runtime_cmpstring", "internal/abi.NoEscape"], unfollowed := true, recurses := true, apart := false }
def RunTurnedSaid : Prop := runTurnedRow.holds Try.pinned (OpenSpec.ofChange runTurnedSpec)

/-- ITS FALSE NEIGHBOUR: 'it returns false'. Refute it at one input. -/
def runTurnedWrong : ChangeSpec := { name := "runTurned", fn := fun _ => fun
  | [d1, d2, d3, d4] => { results := [.lit (.bool false)], args := [d1, d2, d3, d4] }
  | _ => none }
def RunTurnedWrongFalsely : Prop := runTurnedRow.holds Try.pinned (OpenSpec.ofChange runTurnedWrong)

/-- 'leporellolaw15.RunUnlike': WHATEVER THE INPUT: true; the input reads as it did. -/
def runUnlikeSpec : ChangeSpec := { name := "runUnlike", fn := fun _ => fun
  | [d1, d2] => { results := [.lit (.bool true)], args := [d1, d2] }
  | _ => none }
def runUnlikeRow : OpenClaim := { program := "ytoidfoalhkoajaa", sum := "6509efaff1752f72802fb040b832772e31df5ce44de8a0965a1034499c05c1cf", func := "leporello/leporellolaw15.RunUnlike", spec := "runUnlike", inPlace := ["internal/bytealg.abigen_runtime_cmpstring", "internal/abi.NoEscape"], unfollowed := true, recurses := true, apart := false }
def RunUnlikeSaid : Prop := runUnlikeRow.holds Try.pinned (OpenSpec.ofChange runUnlikeSpec)

/-- ITS FALSE NEIGHBOUR: 'it returns false'. Refute it at one input. -/
def runUnlikeWrong : ChangeSpec := { name := "runUnlike", fn := fun _ => fun
  | [d1, d2] => { results := [.lit (.bool false)], args := [d1, d2] }
  | _ => none }
def RunUnlikeWrongFalsely : Prop := runUnlikeRow.holds Try.pinned (OpenSpec.ofChange runUnlikeWrong)

/- THE SECOND FORM. 'bulk': how many values and letters a reading holds, each counted each time it is reached (what is shared counts as often as it is met; a slice's spare places count too). A statement '..UptoSaid' is the law's where the arguments, and the package variables that the reading takes, are together of bulk at most 1048576: NARROWER than '..Said'. Prove '..Said' where nothing that the law and all that it calls make is longer than what came in: it says more and counts as full. Else prove '..UptoSaid'. A law counts once. -/
mutual
def uptoBulk {H : Type} : DataW H → Nat
  | .lit (.string bytes) => bytes.length + 1
  | .lit _ => 1
  | .nil => 1
  | .ptr d => uptoBulk d + 1
  | .slice elems spare => uptoBulkAll elems + uptoBulkAll spare + 1
  | .agg parts => uptoBulkAll parts + 1
  | .iface _ d => uptoBulk d + 1
  | .map entries => uptoBulkEntries entries + 1
  | .held _ => 1
def uptoBulkAll {H : Type} : List (DataW H) → Nat
  | [] => 0
  | d :: r => uptoBulk d + uptoBulkAll r
def uptoBulkEntries {H : Type} : List (Lit × DataW H) → Nat
  | [] => 0
  | x :: r => uptoBulkEntry x + uptoBulkEntries r
def uptoBulkEntry {H : Type} : Lit × DataW H → Nat
  | (.string bytes, d) => bytes.length + uptoBulk d + 1
  | (_, d) => uptoBulk d + 1
 end
def uptoSmall : (H : Type) → List (DataW H) → Bool := fun _ ds => decide (uptoBulkAll ds ≤ 1048576)
def OpenSpec.upto (s : _root_.Go.ChangeSpec) : _root_.Go.OpenSpec := { _root_.Go.OpenSpec.ofChange s with cond := some uptoSmall }

/-- 'leporellolaw15.RunRaw', WHERE WHAT IT READS IS OF BULK AT MOST 1048576: true; the input reads as it did. -/
def runRawUptoRow : OpenClaim := { program := "ytoidfoalhkoajaa", sum := "6509efaff1752f72802fb040b832772e31df5ce44de8a0965a1034499c05c1cf", func := "leporello/leporellolaw15.RunRaw", spec := "runRaw", inPlace := ["internal/bytealg.abigen_runtime_cmpstring", "internal/abi.NoEscape"], unfollowed := true, recurses := true, apart := false, narrowed := true }
def RunRawUptoSaid : Prop := runRawUptoRow.holds Try.pinned (OpenSpec.upto runRawSpec)

/-- 'leporellolaw15.RunPages', WHERE WHAT IT READS IS OF BULK AT MOST 1048576: true; the input reads as it did. -/
def runPagesUptoRow : OpenClaim := { program := "ytoidfoalhkoajaa", sum := "6509efaff1752f72802fb040b832772e31df5ce44de8a0965a1034499c05c1cf", func := "leporello/leporellolaw15.RunPages", spec := "runPages", inPlace := ["internal/bytealg.abigen_runtime_cmpstring", "internal/abi.NoEscape"], unfollowed := true, recurses := true, apart := false, narrowed := true }
def RunPagesUptoSaid : Prop := runPagesUptoRow.holds Try.pinned (OpenSpec.upto runPagesSpec)

/-- 'leporellolaw15.RunTurned', WHERE WHAT IT READS IS OF BULK AT MOST 1048576: true; the input reads as it did. -/
def runTurnedUptoRow : OpenClaim := { program := "ytoidfoalhkoajaa", sum := "6509efaff1752f72802fb040b832772e31df5ce44de8a0965a1034499c05c1cf", func := "leporello/leporellolaw15.RunTurned", spec := "runTurned", inPlace := ["internal/bytealg.abigen_runtime_cmpstring", "internal/abi.NoEscape"], unfollowed := true, recurses := true, apart := false, narrowed := true }
def RunTurnedUptoSaid : Prop := runTurnedUptoRow.holds Try.pinned (OpenSpec.upto runTurnedSpec)

/-- 'leporellolaw15.RunUnlike', WHERE WHAT IT READS IS OF BULK AT MOST 1048576: true; the input reads as it did. -/
def runUnlikeUptoRow : OpenClaim := { program := "ytoidfoalhkoajaa", sum := "6509efaff1752f72802fb040b832772e31df5ce44de8a0965a1034499c05c1cf", func := "leporello/leporellolaw15.RunUnlike", spec := "runUnlike", inPlace := ["internal/bytealg.abigen_runtime_cmpstring", "internal/abi.NoEscape"], unfollowed := true, recurses := true, apart := false, narrowed := true }
def RunUnlikeUptoSaid : Prop := runUnlikeUptoRow.holds Try.pinned (OpenSpec.upto runUnlikeSpec)

end Rows
end Go.Proofs.Ytoidfoalhkoajaa
