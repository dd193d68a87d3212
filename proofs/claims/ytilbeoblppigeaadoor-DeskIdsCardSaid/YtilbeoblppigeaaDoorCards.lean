/-
  DERIVED. GIVEN WITH THE SEED: THE CARDS: each row of YtilbeoblppigeaaDoorRows.lean that lists a variable, with what it lists TIED to the program's text (the seventh form; the later family's looks); each row that meets fmt, with fmt's text TOLD by the authors' own Lean function (tested against real Go, not proved from fmt's source: count such statements apart). THE CARD IS WHAT COUNTS. Prove the row's statement (the work); the ties are given (YtilbeoblppigeaaDoorTie.lean); close each card by the builder's one call (the guide's Derived/Test/ToyasCard.lean, 'card_holds'). Laid BY PROGRAM, IN A SANDBOX (cutbox-door.mjs). By AI agents, Wed Nov 11 2026. No macro, syntax, notation, axiom, sorry.
-/
import Derived.Test.YtilbeoblppigeaaDoorRows
import GoSem.ClaimSeven
namespace Go.Proofs.YtilbeoblppigeaaDoor
namespace Rows

/-- THE TIED CARD OF 'leporellolaw22.DeskWalks'. -/
def deskWalksCard : Claim7 := { stood := { row := deskWalksRow, standIns := [], harness := (true, "66b0c359d6fb581784c11cb2420c86fad2346afcea5ac5b99d7e23e4d7398def"), looks := true }, kinds := [], alts := [], laidByText := true, laidKinds := [.data, .data, .data, .sentinel, .sentinel], laidTests := true, laidLooks := .later }
def DeskWalksCardSaid : Prop := Claim7.holds Tryd.pinned (.plain (OpenSpec.ofChange deskWalksSpec)) deskWalksCard

/-- THE TIED CARD OF 'leporellolaw22.DeskTicks'. -/
def deskTicksCard : Claim7 := { stood := { row := deskTicksRow, standIns := [], harness := (true, "66b0c359d6fb581784c11cb2420c86fad2346afcea5ac5b99d7e23e4d7398def"), looks := true }, kinds := [], alts := [], laidByText := true, laidKinds := [.data, .data, .data, .sentinel, .sentinel], laidTests := true, laidLooks := .later }
def DeskTicksCardSaid : Prop := Claim7.holds Tryd.pinned (.plain (OpenSpec.ofChange deskTicksSpec)) deskTicksCard

/-- THE TIED CARD OF 'leporellolaw22.DeskIds'. -/
def deskIdsCard : Claim7 := { stood := { row := deskIdsRow, standIns := [], harness := (true, "66b0c359d6fb581784c11cb2420c86fad2346afcea5ac5b99d7e23e4d7398def"), looks := true }, kinds := [], alts := [], laidByText := true, laidKinds := [.data, .data, .data, .sentinel, .sentinel], laidTests := true, laidLooks := .later }
def DeskIdsCardSaid : Prop := Claim7.holds Tryd.pinned (.plain (OpenSpec.ofChange deskIdsSpec)) deskIdsCard

/-- THE TIED CARD OF 'leporellolaw22.DeskSlips'. -/
def deskSlipsCard : Claim7 := { stood := { row := deskSlipsRow, standIns := [], harness := (true, "66b0c359d6fb581784c11cb2420c86fad2346afcea5ac5b99d7e23e4d7398def"), looks := true }, kinds := [], alts := [], laidByText := true, laidKinds := [.data, .data, .data, .sentinel, .sentinel], laidTests := true, laidLooks := .later }
def DeskSlipsCardSaid : Prop := Claim7.holds Tryd.pinned (.plain (OpenSpec.ofChange deskSlipsSpec)) deskSlipsCard

/-- THE SECOND FORM's CARD OF 'leporellolaw22.DeskWalks'. -/
def deskWalksUptoCard : Claim7 := { stood := { row := deskWalksUptoRow, standIns := [], harness := (true, "66b0c359d6fb581784c11cb2420c86fad2346afcea5ac5b99d7e23e4d7398def"), looks := true }, kinds := [], alts := [], laidByText := true, laidKinds := [.data, .data, .data, .sentinel, .sentinel], laidTests := true, laidLooks := .later }
def DeskWalksUptoCardSaid : Prop := Claim7.holds Tryd.pinned (.plain (OpenSpec.upto deskWalksSpec)) deskWalksUptoCard

/-- THE SECOND FORM's CARD OF 'leporellolaw22.DeskTicks'. -/
def deskTicksUptoCard : Claim7 := { stood := { row := deskTicksUptoRow, standIns := [], harness := (true, "66b0c359d6fb581784c11cb2420c86fad2346afcea5ac5b99d7e23e4d7398def"), looks := true }, kinds := [], alts := [], laidByText := true, laidKinds := [.data, .data, .data, .sentinel, .sentinel], laidTests := true, laidLooks := .later }
def DeskTicksUptoCardSaid : Prop := Claim7.holds Tryd.pinned (.plain (OpenSpec.upto deskTicksSpec)) deskTicksUptoCard

/-- THE SECOND FORM's CARD OF 'leporellolaw22.DeskIds'. -/
def deskIdsUptoCard : Claim7 := { stood := { row := deskIdsUptoRow, standIns := [], harness := (true, "66b0c359d6fb581784c11cb2420c86fad2346afcea5ac5b99d7e23e4d7398def"), looks := true }, kinds := [], alts := [], laidByText := true, laidKinds := [.data, .data, .data, .sentinel, .sentinel], laidTests := true, laidLooks := .later }
def DeskIdsUptoCardSaid : Prop := Claim7.holds Tryd.pinned (.plain (OpenSpec.upto deskIdsSpec)) deskIdsUptoCard

/-- THE SECOND FORM's CARD OF 'leporellolaw22.DeskSlips'. -/
def deskSlipsUptoCard : Claim7 := { stood := { row := deskSlipsUptoRow, standIns := [], harness := (true, "66b0c359d6fb581784c11cb2420c86fad2346afcea5ac5b99d7e23e4d7398def"), looks := true }, kinds := [], alts := [], laidByText := true, laidKinds := [.data, .data, .data, .sentinel, .sentinel], laidTests := true, laidLooks := .later }
def DeskSlipsUptoCardSaid : Prop := Claim7.holds Tryd.pinned (.plain (OpenSpec.upto deskSlipsSpec)) deskSlipsUptoCard
end Rows
end Go.Proofs.YtilbeoblppigeaaDoor
