/-
  No cell of these rows narrows 'for every input' (looked for: loops, veiled, ifaces, maps, wideKeys, modest, calm, conditions, laid).
  DERIVED. THE GIVEN ROWS OF THIS SEAT. 6 by the template 'for every input the law returns true; each argument reads behind the call as it read before'; 0 by the template 'total and deterministic' (their statements: YthlkcoiaahpmoaaTotals.lean).
  GIVEN WITH THE SEED: the statements are not yours to turn. If you find one false, say at which input.
  Laid BY PROGRAM, IN A SANDBOX (cutbox-rows.mjs): the forced cells as the released guide's own fill.sh prints them over the translation a91630933cba3791… (all of the seat's roots in one cut). By AI agents, Wed Nov 11 2026. No macro, syntax, notation, axiom, sorry.
-/
import Derived.Test.YthlkcoiaahpmoaaChecked
import GoSem.Claim
import GoSem.ClaimJoined
import GoSem.ClaimMapViews
import Derived.JoinedTies
import Derived.KernelRfl
namespace Go.Proofs.Ythlkcoiaahpmoaa
/- THE CELL 'sum', in the pinned program and in every row, IS THE sha256 OF THE DUMP (.gsa) THAT YthlkcoiaahpmoaaProg.lean LOADS. Nothing in Lean hashes anything: it is a label: what it is worth is what the hold of that sum in a sandbox is worth. -/
noncomputable def Try.pinned : Pinned := { name := "ythlkcoiaahpmoaa", sum := "a91630933cba3791defacc0309a485c8ec415d6162de65f4fc59f4228e19a2e8", checked := Try.checked }
namespace Rows
def none {H : Type} : Left H := { results := [], args := [] }

/-- 'leporellolaw6.StoreMatches': WHATEVER THE INPUT: true; the input reads as it did. -/
def storeMatchesSpec : ChangeSpec := { name := "storeMatches", fn := fun _ => fun
  | [d1, d2, d3] => { results := [.lit (.bool true)], args := [d1, d2, d3] }
  | _ => none }
def storeMatchesRow : OpenClaim := { program := "ythlkcoiaahpmoaa", sum := "a91630933cba3791defacc0309a485c8ec415d6162de65f4fc59f4228e19a2e8", func := "leporello/leporellolaw6.StoreMatches", spec := "storeMatches", inPlace := ["internal/bytealg.abigen_runtime_cmpstring", "slices.overlaps[leporello/api.Series]", "internal/bytealg.IndexByteString", "internal/bytealg.IndexString"], unfollowed := true, recurses := true, named := ["internal/bytealg.MaxLen"], apart := false }
def StoreMatchesSaid : Prop := storeMatchesRow.holds Try.pinned (OpenSpec.ofChange storeMatchesSpec)

/-- ITS FALSE NEIGHBOUR: 'it returns false'. Refute it at one input. -/
def storeMatchesWrong : ChangeSpec := { name := "storeMatches", fn := fun _ => fun
  | [d1, d2, d3] => { results := [.lit (.bool false)], args := [d1, d2, d3] }
  | _ => none }
def StoreMatchesWrongFalsely : Prop := storeMatchesRow.holds Try.pinned (OpenSpec.ofChange storeMatchesWrong)

/-- 'leporellolaw6.StoreOrder': WHATEVER THE INPUT: true; the input reads as it did. -/
def storeOrderSpec : ChangeSpec := { name := "storeOrder", fn := fun _ => fun
  | [d1, d2] => { results := [.lit (.bool true)], args := [d1, d2] }
  | _ => none }
def storeOrderRow : OpenClaim := { program := "ythlkcoiaahpmoaa", sum := "a91630933cba3791defacc0309a485c8ec415d6162de65f4fc59f4228e19a2e8", func := "leporello/leporellolaw6.StoreOrder", spec := "storeOrder", inPlace := ["internal/bytealg.abigen_runtime_cmpstring", "slices.overlaps[leporello/api.Series]", "internal/bytealg.IndexByteString", "internal/bytealg.IndexString"], unfollowed := true, recurses := true, named := ["internal/bytealg.MaxLen"], apart := false }
def StoreOrderSaid : Prop := storeOrderRow.holds Try.pinned (OpenSpec.ofChange storeOrderSpec)

/-- ITS FALSE NEIGHBOUR: 'it returns false'. Refute it at one input. -/
def storeOrderWrong : ChangeSpec := { name := "storeOrder", fn := fun _ => fun
  | [d1, d2] => { results := [.lit (.bool false)], args := [d1, d2] }
  | _ => none }
def StoreOrderWrongFalsely : Prop := storeOrderRow.holds Try.pinned (OpenSpec.ofChange storeOrderWrong)

/-- 'leporellolaw6.StoreLimits': WHATEVER THE INPUT: true; the input reads as it did. -/
def storeLimitsSpec : ChangeSpec := { name := "storeLimits", fn := fun _ => fun
  | [d1, d2] => { results := [.lit (.bool true)], args := [d1, d2] }
  | _ => none }
def storeLimitsRow : OpenClaim := { program := "ythlkcoiaahpmoaa", sum := "a91630933cba3791defacc0309a485c8ec415d6162de65f4fc59f4228e19a2e8", func := "leporello/leporellolaw6.StoreLimits", spec := "storeLimits", inPlace := ["internal/bytealg.abigen_runtime_cmpstring", "slices.overlaps[leporello/api.Series]", "internal/bytealg.IndexByteString", "internal/bytealg.IndexString"], unfollowed := true, recurses := true, named := ["internal/bytealg.MaxLen"], apart := false }
def StoreLimitsSaid : Prop := storeLimitsRow.holds Try.pinned (OpenSpec.ofChange storeLimitsSpec)

/-- ITS FALSE NEIGHBOUR: 'it returns false'. Refute it at one input. -/
def storeLimitsWrong : ChangeSpec := { name := "storeLimits", fn := fun _ => fun
  | [d1, d2] => { results := [.lit (.bool false)], args := [d1, d2] }
  | _ => none }
def StoreLimitsWrongFalsely : Prop := storeLimitsRow.holds Try.pinned (OpenSpec.ofChange storeLimitsWrong)

/-- 'leporellolaw6.StoreEmpty': WHATEVER THE INPUT: true; the input reads as it did. -/
def storeEmptySpec : ChangeSpec := { name := "storeEmpty", fn := fun _ => fun
  | [d1, d2] => { results := [.lit (.bool true)], args := [d1, d2] }
  | _ => none }
def storeEmptyRow : OpenClaim := { program := "ythlkcoiaahpmoaa", sum := "a91630933cba3791defacc0309a485c8ec415d6162de65f4fc59f4228e19a2e8", func := "leporello/leporellolaw6.StoreEmpty", spec := "storeEmpty", inPlace := ["internal/bytealg.abigen_runtime_cmpstring", "slices.overlaps[leporello/api.Series]", "internal/bytealg.IndexByteString", "internal/bytealg.IndexString"], unfollowed := true, recurses := true, named := ["internal/bytealg.MaxLen"], apart := false }
def StoreEmptySaid : Prop := storeEmptyRow.holds Try.pinned (OpenSpec.ofChange storeEmptySpec)

/-- ITS FALSE NEIGHBOUR: 'it returns false'. Refute it at one input. -/
def storeEmptyWrong : ChangeSpec := { name := "storeEmpty", fn := fun _ => fun
  | [d1, d2] => { results := [.lit (.bool false)], args := [d1, d2] }
  | _ => none }
def StoreEmptyWrongFalsely : Prop := storeEmptyRow.holds Try.pinned (OpenSpec.ofChange storeEmptyWrong)

/-- 'leporellolaw6.StoreCopies': WHATEVER THE INPUT: true; the input reads as it did. -/
def storeCopiesSpec : ChangeSpec := { name := "storeCopies", fn := fun _ => fun
  | [d1, d2] => { results := [.lit (.bool true)], args := [d1, d2] }
  | _ => none }
def storeCopiesRow : OpenClaim := { program := "ythlkcoiaahpmoaa", sum := "a91630933cba3791defacc0309a485c8ec415d6162de65f4fc59f4228e19a2e8", func := "leporello/leporellolaw6.StoreCopies", spec := "storeCopies", inPlace := ["internal/bytealg.abigen_runtime_cmpstring", "slices.overlaps[leporello/api.Series]", "internal/bytealg.IndexByteString", "internal/bytealg.IndexString"], unfollowed := true, recurses := true, named := ["internal/bytealg.MaxLen"], apart := false }
def StoreCopiesSaid : Prop := storeCopiesRow.holds Try.pinned (OpenSpec.ofChange storeCopiesSpec)

/-- ITS FALSE NEIGHBOUR: 'it returns false'. Refute it at one input. -/
def storeCopiesWrong : ChangeSpec := { name := "storeCopies", fn := fun _ => fun
  | [d1, d2] => { results := [.lit (.bool false)], args := [d1, d2] }
  | _ => none }
def StoreCopiesWrongFalsely : Prop := storeCopiesRow.holds Try.pinned (OpenSpec.ofChange storeCopiesWrong)

/-- 'leporellolaw6.StoreOf': WHATEVER THE INPUT: true; the input reads as it did. -/
def storeOfSpec : ChangeSpec := { name := "storeOf", fn := fun _ => fun
  | [d] => { results := [.lit (.bool true)], args := [d] }
  | _ => none }
def storeOfRow : OpenClaim := { program := "ythlkcoiaahpmoaa", sum := "a91630933cba3791defacc0309a485c8ec415d6162de65f4fc59f4228e19a2e8", func := "leporello/leporellolaw6.StoreOf", spec := "storeOf", inPlace := ["internal/bytealg.abigen_runtime_cmpstring", "slices.overlaps[leporello/api.Series]", "internal/bytealg.IndexByteString", "internal/bytealg.IndexString"], unfollowed := true, recurses := true, named := ["internal/bytealg.MaxLen"], apart := false }
def StoreOfSaid : Prop := storeOfRow.holds Try.pinned (OpenSpec.ofChange storeOfSpec)

/-- ITS FALSE NEIGHBOUR: 'it returns false'. Refute it at one input. -/
def storeOfWrong : ChangeSpec := { name := "storeOf", fn := fun _ => fun
  | [d] => { results := [.lit (.bool false)], args := [d] }
  | _ => none }
def StoreOfWrongFalsely : Prop := storeOfRow.holds Try.pinned (OpenSpec.ofChange storeOfWrong)

/- THE SECOND FORM. 'bulk': how many values and letters a reading holds, each counted each time it is reached (what is shared counts as often as it is met; a slice's spare places count too). A statement '..UptoSaid' is the law's where the arguments, and the package variables that the reading takes, are together of bulk at most 1048576: NARROWER than '..Said'. Prove '..Said' where nothing that the law and all that it calls make is longer than what came in: it says more and counts as full. Else prove '..UptoSaid'. A law counts once. -/
mutual
def uptoBulk {H : Type} : DataW H → Nat
  | .lit (.string bytes) => bytes.length + 1
  | .lit _ => 1
  | .nil => 1
  | .ptr d => uptoBulk d + 1
  | .slice elems spare => uptoBulkAll elems + uptoBulkAll spare + 1
  | .agg parts => uptoBulkAll parts + 1
  | .iface _ d => uptoBulk d + 1
  | .map entries => uptoBulkEntries entries + 1
  | .held _ => 1
def uptoBulkAll {H : Type} : List (DataW H) → Nat
  | [] => 0
  | d :: r => uptoBulk d + uptoBulkAll r
def uptoBulkEntries {H : Type} : List (Lit × DataW H) → Nat
  | [] => 0
  | x :: r => uptoBulkEntry x + uptoBulkEntries r
def uptoBulkEntry {H : Type} : Lit × DataW H → Nat
  | (.string bytes, d) => bytes.length + uptoBulk d + 1
  | (_, d) => uptoBulk d + 1
 end
def uptoSmall : (H : Type) → List (DataW H) → Bool := fun _ ds => decide (uptoBulkAll ds ≤ 1048576)
def OpenSpec.upto (s : _root_.Go.ChangeSpec) : _root_.Go.OpenSpec := { _root_.Go.OpenSpec.ofChange s with cond := some uptoSmall }

/-- 'leporellolaw6.StoreMatches', WHERE WHAT IT READS IS OF BULK AT MOST 1048576: true; the input reads as it did. -/
def storeMatchesUptoRow : OpenClaim := { program := "ythlkcoiaahpmoaa", sum := "a91630933cba3791defacc0309a485c8ec415d6162de65f4fc59f4228e19a2e8", func := "leporello/leporellolaw6.StoreMatches", spec := "storeMatches", inPlace := ["internal/bytealg.abigen_runtime_cmpstring", "slices.overlaps[leporello/api.Series]", "internal/bytealg.IndexByteString", "internal/bytealg.IndexString"], unfollowed := true, recurses := true, named := ["internal/bytealg.MaxLen"], apart := false, narrowed := true }
def StoreMatchesUptoSaid : Prop := storeMatchesUptoRow.holds Try.pinned (OpenSpec.upto storeMatchesSpec)

/-- 'leporellolaw6.StoreOrder', WHERE WHAT IT READS IS OF BULK AT MOST 1048576: true; the input reads as it did. -/
def storeOrderUptoRow : OpenClaim := { program := "ythlkcoiaahpmoaa", sum := "a91630933cba3791defacc0309a485c8ec415d6162de65f4fc59f4228e19a2e8", func := "leporello/leporellolaw6.StoreOrder", spec := "storeOrder", inPlace := ["internal/bytealg.abigen_runtime_cmpstring", "slices.overlaps[leporello/api.Series]", "internal/bytealg.IndexByteString", "internal/bytealg.IndexString"], unfollowed := true, recurses := true, named := ["internal/bytealg.MaxLen"], apart := false, narrowed := true }
def StoreOrderUptoSaid : Prop := storeOrderUptoRow.holds Try.pinned (OpenSpec.upto storeOrderSpec)

/-- 'leporellolaw6.StoreLimits', WHERE WHAT IT READS IS OF BULK AT MOST 1048576: true; the input reads as it did. -/
def storeLimitsUptoRow : OpenClaim := { program := "ythlkcoiaahpmoaa", sum := "a91630933cba3791defacc0309a485c8ec415d6162de65f4fc59f4228e19a2e8", func := "leporello/leporellolaw6.StoreLimits", spec := "storeLimits", inPlace := ["internal/bytealg.abigen_runtime_cmpstring", "slices.overlaps[leporello/api.Series]", "internal/bytealg.IndexByteString", "internal/bytealg.IndexString"], unfollowed := true, recurses := true, named := ["internal/bytealg.MaxLen"], apart := false, narrowed := true }
def StoreLimitsUptoSaid : Prop := storeLimitsUptoRow.holds Try.pinned (OpenSpec.upto storeLimitsSpec)

/-- 'leporellolaw6.StoreEmpty', WHERE WHAT IT READS IS OF BULK AT MOST 1048576: true; the input reads as it did. -/
def storeEmptyUptoRow : OpenClaim := { program := "ythlkcoiaahpmoaa", sum := "a91630933cba3791defacc0309a485c8ec415d6162de65f4fc59f4228e19a2e8", func := "leporello/leporellolaw6.StoreEmpty", spec := "storeEmpty", inPlace := ["internal/bytealg.abigen_runtime_cmpstring", "slices.overlaps[leporello/api.Series]", "internal/bytealg.IndexByteString", "internal/bytealg.IndexString"], unfollowed := true, recurses := true, named := ["internal/bytealg.MaxLen"], apart := false, narrowed := true }
def StoreEmptyUptoSaid : Prop := storeEmptyUptoRow.holds Try.pinned (OpenSpec.upto storeEmptySpec)

/-- 'leporellolaw6.StoreCopies', WHERE WHAT IT READS IS OF BULK AT MOST 1048576: true; the input reads as it did. -/
def storeCopiesUptoRow : OpenClaim := { program := "ythlkcoiaahpmoaa", sum := "a91630933cba3791defacc0309a485c8ec415d6162de65f4fc59f4228e19a2e8", func := "leporello/leporellolaw6.StoreCopies", spec := "storeCopies", inPlace := ["internal/bytealg.abigen_runtime_cmpstring", "slices.overlaps[leporello/api.Series]", "internal/bytealg.IndexByteString", "internal/bytealg.IndexString"], unfollowed := true, recurses := true, named := ["internal/bytealg.MaxLen"], apart := false, narrowed := true }
def StoreCopiesUptoSaid : Prop := storeCopiesUptoRow.holds Try.pinned (OpenSpec.upto storeCopiesSpec)

/-- 'leporellolaw6.StoreOf', WHERE WHAT IT READS IS OF BULK AT MOST 1048576: true; the input reads as it did. -/
def storeOfUptoRow : OpenClaim := { program := "ythlkcoiaahpmoaa", sum := "a91630933cba3791defacc0309a485c8ec415d6162de65f4fc59f4228e19a2e8", func := "leporello/leporellolaw6.StoreOf", spec := "storeOf", inPlace := ["internal/bytealg.abigen_runtime_cmpstring", "slices.overlaps[leporello/api.Series]", "internal/bytealg.IndexByteString", "internal/bytealg.IndexString"], unfollowed := true, recurses := true, named := ["internal/bytealg.MaxLen"], apart := false, narrowed := true }
def StoreOfUptoSaid : Prop := storeOfUptoRow.holds Try.pinned (OpenSpec.upto storeOfSpec)

end Rows
end Go.Proofs.Ythlkcoiaahpmoaa
