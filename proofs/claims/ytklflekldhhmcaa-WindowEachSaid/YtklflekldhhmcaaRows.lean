/-
  No cell of these rows narrows 'for every input' (looked for: loops, veiled, ifaces, maps, wideKeys, modest, calm, conditions, laid).
  DERIVED. THE GIVEN ROWS OF THIS SEAT. 5 by the template 'for every input the law returns true; each argument reads behind the call as it read before'; 0 by the template 'total and deterministic' (their statements: YtklflekldhhmcaaTotals.lean).
  GIVEN WITH THE SEED: the statements are not yours to turn. If you find one false, say at which input.
  Laid BY PROGRAM, IN A SANDBOX (cutbox-rows.mjs): the forced cells as the released guide's own fill.sh prints them over the translation 1ff378f2f276f6a8… (all of the seat's roots in one cut). By AI agents, Wed Nov 11 2026. No macro, syntax, notation, axiom, sorry.
-/
import Derived.Test.YtklflekldhhmcaaChecked
import GoSem.Claim
import GoSem.ClaimJoined
import GoSem.ClaimMapViews
import Derived.JoinedTies
import Derived.KernelRfl
namespace Go.Proofs.Ytklflekldhhmcaa
/- THE CELL 'sum', in the pinned program and in every row, IS THE sha256 OF THE DUMP (.gsa) THAT YtklflekldhhmcaaProg.lean LOADS. Nothing in Lean hashes anything: it is a label: what it is worth is what the hold of that sum in a sandbox is worth. -/
noncomputable def Try.pinned : Pinned := { name := "ytklflekldhhmcaa", sum := "1ff378f2f276f6a822f6bf5b2f284198bcb13cabbf5f7507039b4361cf4251e2", checked := Try.checked }
namespace Rows
def none {H : Type} : Left H := { results := [], args := [] }

/-- 'leporellolaw5.WindowEach': WHATEVER THE INPUT: true; the input reads as it did. -/
def windowEachSpec : ChangeSpec := { name := "windowEach", fn := fun _ => fun
  | [d] => { results := [.lit (.bool true)], args := [d] }
  | _ => none }
def windowEachRow : OpenClaim := { program := "ytklflekldhhmcaa", sum := "1ff378f2f276f6a822f6bf5b2f284198bcb13cabbf5f7507039b4361cf4251e2", func := "leporello/leporellolaw5.WindowEach", spec := "windowEach", unfollowed := true, recurses := true, apart := false }
def WindowEachSaid : Prop := windowEachRow.holds Try.pinned (OpenSpec.ofChange windowEachSpec)

/-- ITS FALSE NEIGHBOUR: 'it returns false'. Refute it at one input. -/
def windowEachWrong : ChangeSpec := { name := "windowEach", fn := fun _ => fun
  | [d] => { results := [.lit (.bool false)], args := [d] }
  | _ => none }
def WindowEachWrongFalsely : Prop := windowEachRow.holds Try.pinned (OpenSpec.ofChange windowEachWrong)

/-- 'leporellolaw5.WindowMoves': WHATEVER THE INPUT: true; the input reads as it did. -/
def windowMovesSpec : ChangeSpec := { name := "windowMoves", fn := fun _ => fun
  | [d1, d2, d3, d4] => { results := [.lit (.bool true)], args := [d1, d2, d3, d4] }
  | _ => none }
def windowMovesRow : OpenClaim := { program := "ytklflekldhhmcaa", sum := "1ff378f2f276f6a822f6bf5b2f284198bcb13cabbf5f7507039b4361cf4251e2", func := "leporello/leporellolaw5.WindowMoves", spec := "windowMoves", unfollowed := true, recurses := true, apart := false }
def WindowMovesSaid : Prop := windowMovesRow.holds Try.pinned (OpenSpec.ofChange windowMovesSpec)

/-- ITS FALSE NEIGHBOUR: 'it returns false'. Refute it at one input. -/
def windowMovesWrong : ChangeSpec := { name := "windowMoves", fn := fun _ => fun
  | [d1, d2, d3, d4] => { results := [.lit (.bool false)], args := [d1, d2, d3, d4] }
  | _ => none }
def WindowMovesWrongFalsely : Prop := windowMovesRow.holds Try.pinned (OpenSpec.ofChange windowMovesWrong)

/-- 'leporellolaw5.WindowParts': WHATEVER THE INPUT: true; the input reads as it did. -/
def windowPartsSpec : ChangeSpec := { name := "windowParts", fn := fun _ => fun
  | [d1, d2, d3, d4] => { results := [.lit (.bool true)], args := [d1, d2, d3, d4] }
  | _ => none }
def windowPartsRow : OpenClaim := { program := "ytklflekldhhmcaa", sum := "1ff378f2f276f6a822f6bf5b2f284198bcb13cabbf5f7507039b4361cf4251e2", func := "leporello/leporellolaw5.WindowParts", spec := "windowParts", unfollowed := true, recurses := true, apart := false }
def WindowPartsSaid : Prop := windowPartsRow.holds Try.pinned (OpenSpec.ofChange windowPartsSpec)

/-- ITS FALSE NEIGHBOUR: 'it returns false'. Refute it at one input. -/
def windowPartsWrong : ChangeSpec := { name := "windowParts", fn := fun _ => fun
  | [d1, d2, d3, d4] => { results := [.lit (.bool false)], args := [d1, d2, d3, d4] }
  | _ => none }
def WindowPartsWrongFalsely : Prop := windowPartsRow.holds Try.pinned (OpenSpec.ofChange windowPartsWrong)

/-- 'leporellolaw5.WindowGrows': WHATEVER THE INPUT: true; the input reads as it did. -/
def windowGrowsSpec : ChangeSpec := { name := "windowGrows", fn := fun _ => fun
  | [d1, d2] => { results := [.lit (.bool true)], args := [d1, d2] }
  | _ => none }
def windowGrowsRow : OpenClaim := { program := "ytklflekldhhmcaa", sum := "1ff378f2f276f6a822f6bf5b2f284198bcb13cabbf5f7507039b4361cf4251e2", func := "leporello/leporellolaw5.WindowGrows", spec := "windowGrows", unfollowed := true, recurses := true, apart := false }
def WindowGrowsSaid : Prop := windowGrowsRow.holds Try.pinned (OpenSpec.ofChange windowGrowsSpec)

/-- ITS FALSE NEIGHBOUR: 'it returns false'. Refute it at one input. -/
def windowGrowsWrong : ChangeSpec := { name := "windowGrows", fn := fun _ => fun
  | [d1, d2] => { results := [.lit (.bool false)], args := [d1, d2] }
  | _ => none }
def WindowGrowsWrongFalsely : Prop := windowGrowsRow.holds Try.pinned (OpenSpec.ofChange windowGrowsWrong)

/-- 'leporellolaw5.WindowLasts': WHATEVER THE INPUT: true; the input reads as it did. -/
def windowLastsSpec : ChangeSpec := { name := "windowLasts", fn := fun _ => fun
  | [d1, d2, d3] => { results := [.lit (.bool true)], args := [d1, d2, d3] }
  | _ => none }
def windowLastsRow : OpenClaim := { program := "ytklflekldhhmcaa", sum := "1ff378f2f276f6a822f6bf5b2f284198bcb13cabbf5f7507039b4361cf4251e2", func := "leporello/leporellolaw5.WindowLasts", spec := "windowLasts", unfollowed := true, recurses := true, apart := false }
def WindowLastsSaid : Prop := windowLastsRow.holds Try.pinned (OpenSpec.ofChange windowLastsSpec)

/-- ITS FALSE NEIGHBOUR: 'it returns false'. Refute it at one input. -/
def windowLastsWrong : ChangeSpec := { name := "windowLasts", fn := fun _ => fun
  | [d1, d2, d3] => { results := [.lit (.bool false)], args := [d1, d2, d3] }
  | _ => none }
def WindowLastsWrongFalsely : Prop := windowLastsRow.holds Try.pinned (OpenSpec.ofChange windowLastsWrong)

/- THE SECOND FORM. 'bulk': how many values and letters a reading holds, each counted each time it is reached (what is shared counts as often as it is met; a slice's spare places count too). A statement '..UptoSaid' is the law's where the arguments, and the package variables that the reading takes, are together of bulk at most 1048576: NARROWER than '..Said'. Prove '..Said' where nothing that the law and all that it calls make is longer than what came in: it says more and counts as full. Else prove '..UptoSaid'. A law counts once. -/
mutual
def uptoBulk {H : Type} : DataW H → Nat
  | .lit (.string bytes) => bytes.length + 1
  | .lit _ => 1
  | .nil => 1
  | .ptr d => uptoBulk d + 1
  | .slice elems spare => uptoBulkAll elems + uptoBulkAll spare + 1
  | .agg parts => uptoBulkAll parts + 1
  | .iface _ d => uptoBulk d + 1
  | .map entries => uptoBulkEntries entries + 1
  | .held _ => 1
def uptoBulkAll {H : Type} : List (DataW H) → Nat
  | [] => 0
  | d :: r => uptoBulk d + uptoBulkAll r
def uptoBulkEntries {H : Type} : List (Lit × DataW H) → Nat
  | [] => 0
  | x :: r => uptoBulkEntry x + uptoBulkEntries r
def uptoBulkEntry {H : Type} : Lit × DataW H → Nat
  | (.string bytes, d) => bytes.length + uptoBulk d + 1
  | (_, d) => uptoBulk d + 1
 end
def uptoSmall : (H : Type) → List (DataW H) → Bool := fun _ ds => decide (uptoBulkAll ds ≤ 1048576)
def OpenSpec.upto (s : _root_.Go.ChangeSpec) : _root_.Go.OpenSpec := { _root_.Go.OpenSpec.ofChange s with cond := some uptoSmall }

/-- 'leporellolaw5.WindowEach', WHERE WHAT IT READS IS OF BULK AT MOST 1048576: true; the input reads as it did. -/
def windowEachUptoRow : OpenClaim := { program := "ytklflekldhhmcaa", sum := "1ff378f2f276f6a822f6bf5b2f284198bcb13cabbf5f7507039b4361cf4251e2", func := "leporello/leporellolaw5.WindowEach", spec := "windowEach", unfollowed := true, recurses := true, apart := false, narrowed := true }
def WindowEachUptoSaid : Prop := windowEachUptoRow.holds Try.pinned (OpenSpec.upto windowEachSpec)

/-- 'leporellolaw5.WindowMoves', WHERE WHAT IT READS IS OF BULK AT MOST 1048576: true; the input reads as it did. -/
def windowMovesUptoRow : OpenClaim := { program := "ytklflekldhhmcaa", sum := "1ff378f2f276f6a822f6bf5b2f284198bcb13cabbf5f7507039b4361cf4251e2", func := "leporello/leporellolaw5.WindowMoves", spec := "windowMoves", unfollowed := true, recurses := true, apart := false, narrowed := true }
def WindowMovesUptoSaid : Prop := windowMovesUptoRow.holds Try.pinned (OpenSpec.upto windowMovesSpec)

/-- 'leporellolaw5.WindowParts', WHERE WHAT IT READS IS OF BULK AT MOST 1048576: true; the input reads as it did. -/
def windowPartsUptoRow : OpenClaim := { program := "ytklflekldhhmcaa", sum := "1ff378f2f276f6a822f6bf5b2f284198bcb13cabbf5f7507039b4361cf4251e2", func := "leporello/leporellolaw5.WindowParts", spec := "windowParts", unfollowed := true, recurses := true, apart := false, narrowed := true }
def WindowPartsUptoSaid : Prop := windowPartsUptoRow.holds Try.pinned (OpenSpec.upto windowPartsSpec)

/-- 'leporellolaw5.WindowGrows', WHERE WHAT IT READS IS OF BULK AT MOST 1048576: true; the input reads as it did. -/
def windowGrowsUptoRow : OpenClaim := { program := "ytklflekldhhmcaa", sum := "1ff378f2f276f6a822f6bf5b2f284198bcb13cabbf5f7507039b4361cf4251e2", func := "leporello/leporellolaw5.WindowGrows", spec := "windowGrows", unfollowed := true, recurses := true, apart := false, narrowed := true }
def WindowGrowsUptoSaid : Prop := windowGrowsUptoRow.holds Try.pinned (OpenSpec.upto windowGrowsSpec)

/-- 'leporellolaw5.WindowLasts', WHERE WHAT IT READS IS OF BULK AT MOST 1048576: true; the input reads as it did. -/
def windowLastsUptoRow : OpenClaim := { program := "ytklflekldhhmcaa", sum := "1ff378f2f276f6a822f6bf5b2f284198bcb13cabbf5f7507039b4361cf4251e2", func := "leporello/leporellolaw5.WindowLasts", spec := "windowLasts", unfollowed := true, recurses := true, apart := false, narrowed := true }
def WindowLastsUptoSaid : Prop := windowLastsUptoRow.holds Try.pinned (OpenSpec.upto windowLastsSpec)

end Rows
end Go.Proofs.Ytklflekldhhmcaa
