/-
  DERIVED. GIVEN WITH THE SEED: THE CARDS: each row of YteicdddheaajlaaDoorRows.lean that lists a variable, with what it lists TIED to the program's text (the seventh form; the later family's looks); each row that meets fmt, with fmt's text TOLD by the authors' own Lean function (tested against real Go, not proved from fmt's source: count such statements apart). THE CARD IS WHAT COUNTS. Prove the row's statement (the work); the ties are given (YteicdddheaajlaaDoorTie.lean); close each card by the builder's one call (the guide's Derived/Test/ToyasCard.lean, 'card_holds'). Laid BY PROGRAM, IN A SANDBOX (cutbox-door.mjs). By AI agents, Wed Nov 11 2026. No macro, syntax, notation, axiom, sorry.
-/
import Derived.Test.YteicdddheaajlaaDoorRows
import GoSem.ClaimSeven
namespace Go.Proofs.YteicdddheaajlaaDoor
namespace Rows

/-- THE TIED CARD OF 'pointillistlaw07.NormParses'. -/
def normParsesCard : Claim7 := { stood := { row := normParsesRow, standIns := [], harness := (true, "96dd74cbf0e643213d94c47221d46c3efcb6bb2bf767cce3eef5bc2ece51b198"), looks := false }, kinds := [], alts := [], laidByText := true, laidKinds := [.data, .data, .data, .widerDeep], laidTests := true, laidLooks := .later }
def NormParsesCardSaid : Prop := Claim7.holds Tryd.pinned (.plain (OpenSpec.ofChange normParsesSpec)) normParsesCard

/-- THE TIED CARD OF 'pointillistlaw07.NormMoves'. -/
def normMovesCard : Claim7 := { stood := { row := normMovesRow, standIns := [], harness := (true, "96dd74cbf0e643213d94c47221d46c3efcb6bb2bf767cce3eef5bc2ece51b198"), looks := false }, kinds := [], alts := [], laidByText := true, laidKinds := [.data, .data, .data, .widerDeep], laidTests := true, laidLooks := .later }
def NormMovesCardSaid : Prop := Claim7.holds Tryd.pinned (.plain (OpenSpec.ofChange normMovesSpec)) normMovesCard

/-- THE TIED CARD OF 'pointillistlaw07.NormSplits'. -/
def normSplitsCard : Claim7 := { stood := { row := normSplitsRow, standIns := [], harness := (true, "96dd74cbf0e643213d94c47221d46c3efcb6bb2bf767cce3eef5bc2ece51b198"), looks := false }, kinds := [], alts := [], laidByText := true, laidKinds := [.data, .data, .data, .widerDeep], laidTests := true, laidLooks := .later }
def NormSplitsCardSaid : Prop := Claim7.holds Tryd.pinned (.plain (OpenSpec.ofChange normSplitsSpec)) normSplitsCard

/-- THE TIED CARD OF 'pointillistlaw07.NormRights'. -/
def normRightsCard : Claim7 := { stood := { row := normRightsRow, standIns := [], harness := (true, "96dd74cbf0e643213d94c47221d46c3efcb6bb2bf767cce3eef5bc2ece51b198"), looks := false }, kinds := [], alts := [], laidByText := true, laidKinds := [.data, .data, .data, .widerDeep], laidTests := true, laidLooks := .later }
def NormRightsCardSaid : Prop := Claim7.holds Tryd.pinned (.plain (OpenSpec.ofChange normRightsSpec)) normRightsCard

/-- THE SECOND FORM's CARD OF 'pointillistlaw07.NormParses'. -/
def normParsesUptoCard : Claim7 := { stood := { row := normParsesUptoRow, standIns := [], harness := (true, "96dd74cbf0e643213d94c47221d46c3efcb6bb2bf767cce3eef5bc2ece51b198"), looks := false }, kinds := [], alts := [], laidByText := true, laidKinds := [.data, .data, .data, .widerDeep], laidTests := true, laidLooks := .later }
def NormParsesUptoCardSaid : Prop := Claim7.holds Tryd.pinned (.plain (OpenSpec.upto normParsesSpec)) normParsesUptoCard

/-- THE SECOND FORM's CARD OF 'pointillistlaw07.NormMoves'. -/
def normMovesUptoCard : Claim7 := { stood := { row := normMovesUptoRow, standIns := [], harness := (true, "96dd74cbf0e643213d94c47221d46c3efcb6bb2bf767cce3eef5bc2ece51b198"), looks := false }, kinds := [], alts := [], laidByText := true, laidKinds := [.data, .data, .data, .widerDeep], laidTests := true, laidLooks := .later }
def NormMovesUptoCardSaid : Prop := Claim7.holds Tryd.pinned (.plain (OpenSpec.upto normMovesSpec)) normMovesUptoCard

/-- THE SECOND FORM's CARD OF 'pointillistlaw07.NormSplits'. -/
def normSplitsUptoCard : Claim7 := { stood := { row := normSplitsUptoRow, standIns := [], harness := (true, "96dd74cbf0e643213d94c47221d46c3efcb6bb2bf767cce3eef5bc2ece51b198"), looks := false }, kinds := [], alts := [], laidByText := true, laidKinds := [.data, .data, .data, .widerDeep], laidTests := true, laidLooks := .later }
def NormSplitsUptoCardSaid : Prop := Claim7.holds Tryd.pinned (.plain (OpenSpec.upto normSplitsSpec)) normSplitsUptoCard

/-- THE SECOND FORM's CARD OF 'pointillistlaw07.NormRights'. -/
def normRightsUptoCard : Claim7 := { stood := { row := normRightsUptoRow, standIns := [], harness := (true, "96dd74cbf0e643213d94c47221d46c3efcb6bb2bf767cce3eef5bc2ece51b198"), looks := false }, kinds := [], alts := [], laidByText := true, laidKinds := [.data, .data, .data, .widerDeep], laidTests := true, laidLooks := .later }
def NormRightsUptoCardSaid : Prop := Claim7.holds Tryd.pinned (.plain (OpenSpec.upto normRightsSpec)) normRightsUptoCard
end Rows
end Go.Proofs.YteicdddheaajlaaDoor
