/-
  DERIVED. GIVEN WITH THE SEED: THE CARDS: each row of YthilgkfloonbjaaGreatDoorRows.lean that lists a variable, with what it lists TIED to the program's text (the seventh form; the later family's looks); each row that meets fmt, with fmt's text TOLD by the authors' own Lean function (tested against real Go, not proved from fmt's source: count such statements apart). THE CARD IS WHAT COUNTS. Prove the row's statement (the work); the ties are given (YthilgkfloonbjaaGreatDoorTie.lean); close each card by the builder's one call (the guide's Derived/Test/ToyasCard.lean, 'card_holds'). Laid BY PROGRAM, IN A SANDBOX (cutbox-door.mjs). By AI agents, Wed Nov 11 2026. No macro, syntax, notation, axiom, sorry.
-/
import Derived.Test.YthilgkfloonbjaaGreatDoorRows
import GoSem.ClaimSeven
namespace Go.Proofs.YthilgkfloonbjaaGreatDoor
namespace Rows

/-- THE TIED CARD OF 'leporellolaw20.SlipTells'. -/
def slipTellsCard : Claim7 := { stood := { row := slipTellsRow, standIns := [], harness := (true, "ffa2083d3b2920718f92d5424b80f4fc8f23fc57f373ac803344213b22cdc247"), looks := true }, kinds := [], alts := [], laidByText := true, laidKinds := [.data, .data, .data, .sentinel, .sentinel], laidTests := true, laidLooks := .later }
def SlipTellsCardSaid : Prop := Claim7.holds Tryz.pinned (.plain (OpenSpec.ofChange slipTellsSpec)) slipTellsCard

/-- THE SECOND FORM's CARD OF 'leporellolaw20.SlipTells'. -/
def slipTellsUptoCard : Claim7 := { stood := { row := slipTellsUptoRow, standIns := [], harness := (true, "ffa2083d3b2920718f92d5424b80f4fc8f23fc57f373ac803344213b22cdc247"), looks := true }, kinds := [], alts := [], laidByText := true, laidKinds := [.data, .data, .data, .sentinel, .sentinel], laidTests := true, laidLooks := .later }
def SlipTellsUptoCardSaid : Prop := Claim7.holds Tryz.pinned (.plain (OpenSpec.upto slipTellsSpec)) slipTellsUptoCard
end Rows
end Go.Proofs.YthilgkfloonbjaaGreatDoor
