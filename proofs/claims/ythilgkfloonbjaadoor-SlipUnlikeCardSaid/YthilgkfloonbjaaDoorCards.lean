/-
  DERIVED. GIVEN WITH THE SEED: THE CARDS: each row of YthilgkfloonbjaaDoorRows.lean that lists a variable, with what it lists TIED to the program's text (the seventh form; the later family's looks); each row that meets fmt, with fmt's text TOLD by the authors' own Lean function (tested against real Go, not proved from fmt's source: count such statements apart). THE CARD IS WHAT COUNTS. Prove the row's statement (the work); the ties are given (YthilgkfloonbjaaDoorTie.lean); close each card by the builder's one call (the guide's Derived/Test/ToyasCard.lean, 'card_holds'). Laid BY PROGRAM, IN A SANDBOX (cutbox-door.mjs). By AI agents, Wed Nov 11 2026. No macro, syntax, notation, axiom, sorry.
-/
import Derived.Test.YthilgkfloonbjaaDoorRows
import GoSem.ClaimSeven
namespace Go.Proofs.YthilgkfloonbjaaDoor
namespace Rows

/-- THE TIED CARD OF 'leporellolaw20.SlipUnlike'. -/
def slipUnlikeCard : Claim7 := { stood := { row := slipUnlikeRow, standIns := [], harness := (true, "aca53c241e5f8e454f8ed5672da97628d3022438e1217d830dae172dc0633cbd"), looks := true }, kinds := [], alts := [], laidByText := true, laidKinds := [.data, .data, .data, .sentinel, .sentinel], laidTests := true, laidLooks := .later }
def SlipUnlikeCardSaid : Prop := Claim7.holds Tryd.pinned (.plain (OpenSpec.ofChange slipUnlikeSpec)) slipUnlikeCard

/-- THE TIED CARD OF 'leporellolaw20.SlipWalk'. -/
def slipWalkCard : Claim7 := { stood := { row := slipWalkRow, standIns := [], harness := (true, "aca53c241e5f8e454f8ed5672da97628d3022438e1217d830dae172dc0633cbd"), looks := true }, kinds := [], alts := [], laidByText := true, laidKinds := [.data, .data, .data, .sentinel, .sentinel], laidTests := true, laidLooks := .later }
def SlipWalkCardSaid : Prop := Claim7.holds Tryd.pinned (.plain (OpenSpec.ofChange slipWalkSpec)) slipWalkCard

/-- THE SECOND FORM's CARD OF 'leporellolaw20.SlipUnlike'. -/
def slipUnlikeUptoCard : Claim7 := { stood := { row := slipUnlikeUptoRow, standIns := [], harness := (true, "aca53c241e5f8e454f8ed5672da97628d3022438e1217d830dae172dc0633cbd"), looks := true }, kinds := [], alts := [], laidByText := true, laidKinds := [.data, .data, .data, .sentinel, .sentinel], laidTests := true, laidLooks := .later }
def SlipUnlikeUptoCardSaid : Prop := Claim7.holds Tryd.pinned (.plain (OpenSpec.upto slipUnlikeSpec)) slipUnlikeUptoCard

/-- THE SECOND FORM's CARD OF 'leporellolaw20.SlipWalk'. -/
def slipWalkUptoCard : Claim7 := { stood := { row := slipWalkUptoRow, standIns := [], harness := (true, "aca53c241e5f8e454f8ed5672da97628d3022438e1217d830dae172dc0633cbd"), looks := true }, kinds := [], alts := [], laidByText := true, laidKinds := [.data, .data, .data, .sentinel, .sentinel], laidTests := true, laidLooks := .later }
def SlipWalkUptoCardSaid : Prop := Claim7.holds Tryd.pinned (.plain (OpenSpec.upto slipWalkSpec)) slipWalkUptoCard
end Rows
end Go.Proofs.YthilgkfloonbjaaDoor
