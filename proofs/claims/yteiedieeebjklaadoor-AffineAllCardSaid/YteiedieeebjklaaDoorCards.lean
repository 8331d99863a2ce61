/-
  DERIVED. GIVEN WITH THE SEED: THE CARDS: each row of YteiedieeebjklaaDoorRows.lean that lists a variable, with what it lists TIED to the program's text (the seventh form; the later family's looks); each row that meets fmt, with fmt's text TOLD by the authors' own Lean function (tested against real Go, not proved from fmt's source: count such statements apart). THE CARD IS WHAT COUNTS. Prove the row's statement (the work); the ties are given (YteiedieeebjklaaDoorTie.lean); close each card by the builder's one call (the guide's Derived/Test/ToyasCard.lean, 'card_holds'). Laid BY PROGRAM, IN A SANDBOX (cutbox-door.mjs). By AI agents, Wed Nov 11 2026. No macro, syntax, notation, axiom, sorry.
-/
import Derived.Test.YteiedieeebjklaaDoorRows
import GoSem.ClaimSeven
namespace Go.Proofs.YteiedieeebjklaaDoor
namespace Rows

/-- THE TIED CARD OF 'pointillistlaw08.AffineApplies'. -/
def affineAppliesCard : Claim7 := { stood := { row := affineAppliesRow, standIns := [], harness := (true, "0fa006a278c56c431f774ead5f5f82fabf10850824c98a1f5a14cd52982934ae"), looks := true }, kinds := [], alts := [], laidByText := true, laidKinds := [.data], laidTests := true, laidLooks := .later }
def AffineAppliesCardSaid : Prop := Claim7.holds Tryd.pinned (.plain (OpenSpec.ofChange affineAppliesSpec)) affineAppliesCard

/-- THE TIED CARD OF 'pointillistlaw08.AffineMoves'. -/
def affineMovesCard : Claim7 := { stood := { row := affineMovesRow, standIns := [], harness := (true, "0fa006a278c56c431f774ead5f5f82fabf10850824c98a1f5a14cd52982934ae"), looks := true }, kinds := [], alts := [], laidByText := true, laidKinds := [.data], laidTests := true, laidLooks := .later }
def AffineMovesCardSaid : Prop := Claim7.holds Tryd.pinned (.plain (OpenSpec.ofChange affineMovesSpec)) affineMovesCard

/-- THE TIED CARD OF 'pointillistlaw08.AffineAll'. -/
def affineAllCard : Claim7 := { stood := { row := affineAllRow, standIns := [], harness := (true, "0fa006a278c56c431f774ead5f5f82fabf10850824c98a1f5a14cd52982934ae"), looks := true }, kinds := [], alts := [], laidByText := true, laidKinds := [.data], laidTests := true, laidLooks := .later }
def AffineAllCardSaid : Prop := Claim7.holds Tryd.pinned (.plain (OpenSpec.ofChange affineAllSpec)) affineAllCard

/-- THE TIED CARD OF 'pointillistlaw08.AffineThen'. -/
def affineThenCard : Claim7 := { stood := { row := affineThenRow, standIns := [], harness := (true, "0fa006a278c56c431f774ead5f5f82fabf10850824c98a1f5a14cd52982934ae"), looks := true }, kinds := [], alts := [], laidByText := true, laidKinds := [.data], laidTests := true, laidLooks := .later }
def AffineThenCardSaid : Prop := Claim7.holds Tryd.pinned (.plain (OpenSpec.ofChange affineThenSpec)) affineThenCard

/-- THE TIED CARD OF 'pointillistlaw08.AffineTurns'. -/
def affineTurnsCard : Claim7 := { stood := { row := affineTurnsRow, standIns := [], harness := (true, "0fa006a278c56c431f774ead5f5f82fabf10850824c98a1f5a14cd52982934ae"), looks := true }, kinds := [], alts := [], laidByText := true, laidKinds := [.data], laidTests := true, laidLooks := .later }
def AffineTurnsCardSaid : Prop := Claim7.holds Tryd.pinned (.plain (OpenSpec.ofChange affineTurnsSpec)) affineTurnsCard

/-- THE SECOND FORM's CARD OF 'pointillistlaw08.AffineApplies'. -/
def affineAppliesUptoCard : Claim7 := { stood := { row := affineAppliesUptoRow, standIns := [], harness := (true, "0fa006a278c56c431f774ead5f5f82fabf10850824c98a1f5a14cd52982934ae"), looks := true }, kinds := [], alts := [], laidByText := true, laidKinds := [.data], laidTests := true, laidLooks := .later }
def AffineAppliesUptoCardSaid : Prop := Claim7.holds Tryd.pinned (.plain (OpenSpec.upto affineAppliesSpec)) affineAppliesUptoCard

/-- THE SECOND FORM's CARD OF 'pointillistlaw08.AffineMoves'. -/
def affineMovesUptoCard : Claim7 := { stood := { row := affineMovesUptoRow, standIns := [], harness := (true, "0fa006a278c56c431f774ead5f5f82fabf10850824c98a1f5a14cd52982934ae"), looks := true }, kinds := [], alts := [], laidByText := true, laidKinds := [.data], laidTests := true, laidLooks := .later }
def AffineMovesUptoCardSaid : Prop := Claim7.holds Tryd.pinned (.plain (OpenSpec.upto affineMovesSpec)) affineMovesUptoCard

/-- THE SECOND FORM's CARD OF 'pointillistlaw08.AffineAll'. -/
def affineAllUptoCard : Claim7 := { stood := { row := affineAllUptoRow, standIns := [], harness := (true, "0fa006a278c56c431f774ead5f5f82fabf10850824c98a1f5a14cd52982934ae"), looks := true }, kinds := [], alts := [], laidByText := true, laidKinds := [.data], laidTests := true, laidLooks := .later }
def AffineAllUptoCardSaid : Prop := Claim7.holds Tryd.pinned (.plain (OpenSpec.upto affineAllSpec)) affineAllUptoCard

/-- THE SECOND FORM's CARD OF 'pointillistlaw08.AffineThen'. -/
def affineThenUptoCard : Claim7 := { stood := { row := affineThenUptoRow, standIns := [], harness := (true, "0fa006a278c56c431f774ead5f5f82fabf10850824c98a1f5a14cd52982934ae"), looks := true }, kinds := [], alts := [], laidByText := true, laidKinds := [.data], laidTests := true, laidLooks := .later }
def AffineThenUptoCardSaid : Prop := Claim7.holds Tryd.pinned (.plain (OpenSpec.upto affineThenSpec)) affineThenUptoCard

/-- THE SECOND FORM's CARD OF 'pointillistlaw08.AffineTurns'. -/
def affineTurnsUptoCard : Claim7 := { stood := { row := affineTurnsUptoRow, standIns := [], harness := (true, "0fa006a278c56c431f774ead5f5f82fabf10850824c98a1f5a14cd52982934ae"), looks := true }, kinds := [], alts := [], laidByText := true, laidKinds := [.data], laidTests := true, laidLooks := .later }
def AffineTurnsUptoCardSaid : Prop := Claim7.holds Tryd.pinned (.plain (OpenSpec.upto affineTurnsSpec)) affineTurnsUptoCard
end Rows
end Go.Proofs.YteiedieeebjklaaDoor
