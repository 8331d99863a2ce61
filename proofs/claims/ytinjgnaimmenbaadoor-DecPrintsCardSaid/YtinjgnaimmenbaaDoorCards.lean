/-
  DERIVED. GIVEN WITH THE SEED: THE CARDS: each row of YtinjgnaimmenbaaDoorRows.lean that lists a variable, with what it lists TIED to the program's text (the seventh form; the later family's looks); each row that meets fmt, with fmt's text TOLD by the authors' own Lean function (tested against real Go, not proved from fmt's source: count such statements apart). THE CARD IS WHAT COUNTS. Prove the row's statement (the work); the ties are given (YtinjgnaimmenbaaDoorTie.lean); close each card by the builder's one call (the guide's Derived/Test/ToyasCard.lean, 'card_holds'). Laid BY PROGRAM, IN A SANDBOX (cutbox-door.mjs). By AI agents, Wed Nov 11 2026. No macro, syntax, notation, axiom, sorry.
-/
import Derived.Test.YtinjgnaimmenbaaDoorRows
import GoSem.ClaimSeven
namespace Go.Proofs.YtinjgnaimmenbaaDoor
namespace Rows

/-- THE TIED CARD OF 'pointillistlaw04.DecParses'. -/
def decParsesCard : Claim7 := { stood := { row := decParsesRow, standIns := [], harness := (true, "cd995c49221542b99c31f4e2b3d1862a9d7bf5634d51a6a5628469daae5e8e8c"), looks := false }, kinds := [], alts := [], laidByText := true, laidKinds := [.data, .data], laidTests := true, laidLooks := .later }
def DecParsesCardSaid : Prop := Claim7.holds Tryd.pinned (.plain (OpenSpec.ofChange decParsesSpec)) decParsesCard

/-- THE TIED CARD OF 'pointillistlaw04.DecNoughts'. -/
def decNoughtsCard : Claim7 := { stood := { row := decNoughtsRow, standIns := [], harness := (true, "cd995c49221542b99c31f4e2b3d1862a9d7bf5634d51a6a5628469daae5e8e8c"), looks := false }, kinds := [], alts := [], laidByText := true, laidKinds := [.data, .data], laidTests := true, laidLooks := .later }
def DecNoughtsCardSaid : Prop := Claim7.holds Tryd.pinned (.plain (OpenSpec.ofChange decNoughtsSpec)) decNoughtsCard

/-- THE TIED CARD OF 'pointillistlaw04.DecRises'. -/
def decRisesCard : Claim7 := { stood := { row := decRisesRow, standIns := [], harness := (true, "cd995c49221542b99c31f4e2b3d1862a9d7bf5634d51a6a5628469daae5e8e8c"), looks := false }, kinds := [], alts := [], laidByText := true, laidKinds := [.data, .data], laidTests := true, laidLooks := .later }
def DecRisesCardSaid : Prop := Claim7.holds Tryd.pinned (.plain (OpenSpec.ofChange decRisesSpec)) decRisesCard

/-- THE TIED CARD OF 'pointillistlaw04.DecPrints'. -/
def decPrintsCard : Claim7 := { stood := { row := decPrintsRow, standIns := [], harness := (true, "cd995c49221542b99c31f4e2b3d1862a9d7bf5634d51a6a5628469daae5e8e8c"), looks := false }, kinds := [], alts := [], laidByText := true, laidKinds := [.data, .data, .data, .data, .data], laidTests := true, laidLooks := .later }
def DecPrintsCardSaid : Prop := Claim7.holds Tryd.pinned (.plain (OpenSpec.ofChange decPrintsSpec)) decPrintsCard

/-- THE SECOND FORM's CARD OF 'pointillistlaw04.DecParses'. -/
def decParsesUptoCard : Claim7 := { stood := { row := decParsesUptoRow, standIns := [], harness := (true, "cd995c49221542b99c31f4e2b3d1862a9d7bf5634d51a6a5628469daae5e8e8c"), looks := false }, kinds := [], alts := [], laidByText := true, laidKinds := [.data, .data], laidTests := true, laidLooks := .later }
def DecParsesUptoCardSaid : Prop := Claim7.holds Tryd.pinned (.plain (OpenSpec.upto decParsesSpec)) decParsesUptoCard

/-- THE SECOND FORM's CARD OF 'pointillistlaw04.DecNoughts'. -/
def decNoughtsUptoCard : Claim7 := { stood := { row := decNoughtsUptoRow, standIns := [], harness := (true, "cd995c49221542b99c31f4e2b3d1862a9d7bf5634d51a6a5628469daae5e8e8c"), looks := false }, kinds := [], alts := [], laidByText := true, laidKinds := [.data, .data], laidTests := true, laidLooks := .later }
def DecNoughtsUptoCardSaid : Prop := Claim7.holds Tryd.pinned (.plain (OpenSpec.upto decNoughtsSpec)) decNoughtsUptoCard

/-- THE SECOND FORM's CARD OF 'pointillistlaw04.DecRises'. -/
def decRisesUptoCard : Claim7 := { stood := { row := decRisesUptoRow, standIns := [], harness := (true, "cd995c49221542b99c31f4e2b3d1862a9d7bf5634d51a6a5628469daae5e8e8c"), looks := false }, kinds := [], alts := [], laidByText := true, laidKinds := [.data, .data], laidTests := true, laidLooks := .later }
def DecRisesUptoCardSaid : Prop := Claim7.holds Tryd.pinned (.plain (OpenSpec.upto decRisesSpec)) decRisesUptoCard

/-- THE SECOND FORM's CARD OF 'pointillistlaw04.DecPrints'. -/
def decPrintsUptoCard : Claim7 := { stood := { row := decPrintsUptoRow, standIns := [], harness := (true, "cd995c49221542b99c31f4e2b3d1862a9d7bf5634d51a6a5628469daae5e8e8c"), looks := false }, kinds := [], alts := [], laidByText := true, laidKinds := [.data, .data, .data, .data, .data], laidTests := true, laidLooks := .later }
def DecPrintsUptoCardSaid : Prop := Claim7.holds Tryd.pinned (.plain (OpenSpec.upto decPrintsSpec)) decPrintsUptoCard
end Rows
end Go.Proofs.YtinjgnaimmenbaaDoor
