/-
  DERIVED. GIVEN WITH THE SEED: THE CARDS: each row of YtjpaapkdbohgeaaDoorRows.lean that lists a variable, with what it lists TIED to the program's text (the seventh form; the later family's looks); each row that meets fmt, with fmt's text TOLD by the authors' own Lean function (tested against real Go, not proved from fmt's source: count such statements apart). THE CARD IS WHAT COUNTS. Prove the row's statement (the work); the ties are given (YtjpaapkdbohgeaaDoorTie.lean); close each card by the builder's one call (the guide's Derived/Test/ToyasCard.lean, 'card_holds'). Laid BY PROGRAM, IN A SANDBOX (cutbox-door.mjs). By AI agents, Wed Nov 11 2026. No macro, syntax, notation, axiom, sorry.
-/
import Derived.Test.YtjpaapkdbohgeaaDoorRows
import GoSem.ClaimSeven
namespace Go.Proofs.YtjpaapkdbohgeaaDoor
namespace Rows

/-- THE TIED CARD OF 'pointillistlaw06.PathParses'. -/
def pathParsesCard : Claim7 := { stood := { row := pathParsesRow, standIns := [], harness := (true, "1294b80429f1b28c4762efa009cb69da7cf611f31a9049b469ca0e3064ecbf6d"), looks := false }, kinds := [], alts := [], laidByText := true, laidKinds := [.data, .data, .data, .widerDeep], laidTests := true, laidLooks := .later }
def PathParsesCardSaid : Prop := Claim7.holds Tryd.pinned (.plain (OpenSpec.ofChange pathParsesSpec)) pathParsesCard

/-- THE TIED CARD OF 'pointillistlaw06.PathCuts'. -/
def pathCutsCard : Claim7 := { stood := { row := pathCutsRow, standIns := [], harness := (true, "1294b80429f1b28c4762efa009cb69da7cf611f31a9049b469ca0e3064ecbf6d"), looks := false }, kinds := [], alts := [], laidByText := true, laidKinds := [.data, .data, .data, .widerDeep], laidTests := true, laidLooks := .later }
def PathCutsCardSaid : Prop := Claim7.holds Tryd.pinned (.plain (OpenSpec.ofChange pathCutsSpec)) pathCutsCard

/-- THE TIED CARD OF 'pointillistlaw06.PathAll'. -/
def pathAllCard : Claim7 := { stood := { row := pathAllRow, standIns := [], harness := (true, "1294b80429f1b28c4762efa009cb69da7cf611f31a9049b469ca0e3064ecbf6d"), looks := false }, kinds := [], alts := [], laidByText := true, laidKinds := [.data, .data, .data, .widerDeep], laidTests := true, laidLooks := .later }
def PathAllCardSaid : Prop := Claim7.holds Tryd.pinned (.plain (OpenSpec.ofChange pathAllSpec)) pathAllCard

/-- THE TIED CARD OF 'pointillistlaw06.PathLong'. -/
def pathLongCard : Claim7 := { stood := { row := pathLongRow, standIns := [], harness := (true, "1294b80429f1b28c4762efa009cb69da7cf611f31a9049b469ca0e3064ecbf6d"), looks := false }, kinds := [], alts := [], laidByText := true, laidKinds := [.data, .data, .data, .widerDeep], laidTests := true, laidLooks := .later }
def PathLongCardSaid : Prop := Claim7.holds Tryd.pinned (.plain (OpenSpec.ofChange pathLongSpec)) pathLongCard

/-- THE TIED CARD OF 'pointillistlaw06.PathRights'. -/
def pathRightsCard : Claim7 := { stood := { row := pathRightsRow, standIns := [], harness := (true, "1294b80429f1b28c4762efa009cb69da7cf611f31a9049b469ca0e3064ecbf6d"), looks := false }, kinds := [], alts := [], laidByText := true, laidKinds := [.data, .data, .data, .widerDeep], laidTests := true, laidLooks := .later }
def PathRightsCardSaid : Prop := Claim7.holds Tryd.pinned (.plain (OpenSpec.ofChange pathRightsSpec)) pathRightsCard

/-- THE TIED CARD OF 'pointillistlaw06.PathPrints'. -/
def pathPrintsCard : Claim7 := { stood := { row := pathPrintsRow, standIns := [], harness := (true, "1294b80429f1b28c4762efa009cb69da7cf611f31a9049b469ca0e3064ecbf6d"), looks := false }, kinds := [], alts := [], laidByText := true, laidKinds := [.data, .data, .data, .data, .data, .data, .widerDeep], laidTests := true, laidLooks := .later }
def PathPrintsCardSaid : Prop := Claim7.holds Tryd.pinned (.plain (OpenSpec.ofChange pathPrintsSpec)) pathPrintsCard

/-- THE TIED CARD OF 'pointillistlaw06.PathJoins'. -/
def pathJoinsCard : Claim7 := { stood := { row := pathJoinsRow, standIns := [], harness := (true, "1294b80429f1b28c4762efa009cb69da7cf611f31a9049b469ca0e3064ecbf6d"), looks := false }, kinds := [], alts := [], laidByText := true, laidKinds := [.data, .data, .data, .data, .data, .data, .widerDeep], laidTests := true, laidLooks := .later }
def PathJoinsCardSaid : Prop := Claim7.holds Tryd.pinned (.plain (OpenSpec.ofChange pathJoinsSpec)) pathJoinsCard

/-- THE SECOND FORM's CARD OF 'pointillistlaw06.PathParses'. -/
def pathParsesUptoCard : Claim7 := { stood := { row := pathParsesUptoRow, standIns := [], harness := (true, "1294b80429f1b28c4762efa009cb69da7cf611f31a9049b469ca0e3064ecbf6d"), looks := false }, kinds := [], alts := [], laidByText := true, laidKinds := [.data, .data, .data, .widerDeep], laidTests := true, laidLooks := .later }
def PathParsesUptoCardSaid : Prop := Claim7.holds Tryd.pinned (.plain (OpenSpec.upto pathParsesSpec)) pathParsesUptoCard

/-- THE SECOND FORM's CARD OF 'pointillistlaw06.PathCuts'. -/
def pathCutsUptoCard : Claim7 := { stood := { row := pathCutsUptoRow, standIns := [], harness := (true, "1294b80429f1b28c4762efa009cb69da7cf611f31a9049b469ca0e3064ecbf6d"), looks := false }, kinds := [], alts := [], laidByText := true, laidKinds := [.data, .data, .data, .widerDeep], laidTests := true, laidLooks := .later }
def PathCutsUptoCardSaid : Prop := Claim7.holds Tryd.pinned (.plain (OpenSpec.upto pathCutsSpec)) pathCutsUptoCard

/-- THE SECOND FORM's CARD OF 'pointillistlaw06.PathAll'. -/
def pathAllUptoCard : Claim7 := { stood := { row := pathAllUptoRow, standIns := [], harness := (true, "1294b80429f1b28c4762efa009cb69da7cf611f31a9049b469ca0e3064ecbf6d"), looks := false }, kinds := [], alts := [], laidByText := true, laidKinds := [.data, .data, .data, .widerDeep], laidTests := true, laidLooks := .later }
def PathAllUptoCardSaid : Prop := Claim7.holds Tryd.pinned (.plain (OpenSpec.upto pathAllSpec)) pathAllUptoCard

/-- THE SECOND FORM's CARD OF 'pointillistlaw06.PathLong'. -/
def pathLongUptoCard : Claim7 := { stood := { row := pathLongUptoRow, standIns := [], harness := (true, "1294b80429f1b28c4762efa009cb69da7cf611f31a9049b469ca0e3064ecbf6d"), looks := false }, kinds := [], alts := [], laidByText := true, laidKinds := [.data, .data, .data, .widerDeep], laidTests := true, laidLooks := .later }
def PathLongUptoCardSaid : Prop := Claim7.holds Tryd.pinned (.plain (OpenSpec.upto pathLongSpec)) pathLongUptoCard

/-- THE SECOND FORM's CARD OF 'pointillistlaw06.PathRights'. -/
def pathRightsUptoCard : Claim7 := { stood := { row := pathRightsUptoRow, standIns := [], harness := (true, "1294b80429f1b28c4762efa009cb69da7cf611f31a9049b469ca0e3064ecbf6d"), looks := false }, kinds := [], alts := [], laidByText := true, laidKinds := [.data, .data, .data, .widerDeep], laidTests := true, laidLooks := .later }
def PathRightsUptoCardSaid : Prop := Claim7.holds Tryd.pinned (.plain (OpenSpec.upto pathRightsSpec)) pathRightsUptoCard

/-- THE SECOND FORM's CARD OF 'pointillistlaw06.PathPrints'. -/
def pathPrintsUptoCard : Claim7 := { stood := { row := pathPrintsUptoRow, standIns := [], harness := (true, "1294b80429f1b28c4762efa009cb69da7cf611f31a9049b469ca0e3064ecbf6d"), looks := false }, kinds := [], alts := [], laidByText := true, laidKinds := [.data, .data, .data, .data, .data, .data, .widerDeep], laidTests := true, laidLooks := .later }
def PathPrintsUptoCardSaid : Prop := Claim7.holds Tryd.pinned (.plain (OpenSpec.upto pathPrintsSpec)) pathPrintsUptoCard

/-- THE SECOND FORM's CARD OF 'pointillistlaw06.PathJoins'. -/
def pathJoinsUptoCard : Claim7 := { stood := { row := pathJoinsUptoRow, standIns := [], harness := (true, "1294b80429f1b28c4762efa009cb69da7cf611f31a9049b469ca0e3064ecbf6d"), looks := false }, kinds := [], alts := [], laidByText := true, laidKinds := [.data, .data, .data, .data, .data, .data, .widerDeep], laidTests := true, laidLooks := .later }
def PathJoinsUptoCardSaid : Prop := Claim7.holds Tryd.pinned (.plain (OpenSpec.upto pathJoinsSpec)) pathJoinsUptoCard
end Rows
end Go.Proofs.YtjpaapkdbohgeaaDoor
