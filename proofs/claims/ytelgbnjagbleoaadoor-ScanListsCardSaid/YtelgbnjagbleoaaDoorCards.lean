/-
  DERIVED. GIVEN WITH THE SEED: THE CARDS: each row of YtelgbnjagbleoaaDoorRows.lean that lists a variable, with what it lists TIED to the program's text (the seventh form; the later family's looks); each row that meets fmt, with fmt's text TOLD by the authors' own Lean function (tested against real Go, not proved from fmt's source: count such statements apart). THE CARD IS WHAT COUNTS. Prove the row's statement (the work); the ties are given (YtelgbnjagbleoaaDoorTie.lean); close each card by the builder's one call (the guide's Derived/Test/ToyasCard.lean, 'card_holds'). Laid BY PROGRAM, IN A SANDBOX (cutbox-door.mjs). By AI agents, Wed Nov 11 2026. No macro, syntax, notation, axiom, sorry.
-/
import Derived.Test.YtelgbnjagbleoaaDoorRows
import GoSem.ClaimSeven
namespace Go.Proofs.YtelgbnjagbleoaaDoor
namespace Rows

/-- THE TIED CARD OF 'pointillistlaw05.ScanLists'. -/
def scanListsCard : Claim7 := { stood := { row := scanListsRow, standIns := [], harness := (true, "b115629ae4f8931353607815839bc49881faf216ab9b8f49dec550302cd9da00"), looks := false }, kinds := [], alts := [], laidByText := true, laidKinds := [.data, .data, .data], laidTests := true, laidLooks := .later }
def ScanListsCardSaid : Prop := Claim7.holds Tryd.pinned (.plain (OpenSpec.ofChange scanListsSpec)) scanListsCard

/-- THE TIED CARD OF 'pointillistlaw05.ScanGaps'. -/
def scanGapsCard : Claim7 := { stood := { row := scanGapsRow, standIns := [], harness := (true, "b115629ae4f8931353607815839bc49881faf216ab9b8f49dec550302cd9da00"), looks := false }, kinds := [], alts := [], laidByText := true, laidKinds := [.data, .data, .data], laidTests := true, laidLooks := .later }
def ScanGapsCardSaid : Prop := Claim7.holds Tryd.pinned (.plain (OpenSpec.ofChange scanGapsSpec)) scanGapsCard

/-- THE TIED CARD OF 'pointillistlaw05.ScanActs'. -/
def scanActsCard : Claim7 := { stood := { row := scanActsRow, standIns := [], harness := (true, "b115629ae4f8931353607815839bc49881faf216ab9b8f49dec550302cd9da00"), looks := false }, kinds := [], alts := [], laidByText := true, laidKinds := [.data, .data, .data], laidTests := true, laidLooks := .later }
def ScanActsCardSaid : Prop := Claim7.holds Tryd.pinned (.plain (OpenSpec.ofChange scanActsSpec)) scanActsCard

/-- THE TIED CARD OF 'pointillistlaw05.ScanNever'. -/
def scanNeverCard : Claim7 := { stood := { row := scanNeverRow, standIns := [], harness := (true, "b115629ae4f8931353607815839bc49881faf216ab9b8f49dec550302cd9da00"), looks := false }, kinds := [], alts := [], laidByText := true, laidKinds := [.data, .data, .data], laidTests := true, laidLooks := .later }
def ScanNeverCardSaid : Prop := Claim7.holds Tryd.pinned (.plain (OpenSpec.ofChange scanNeverSpec)) scanNeverCard

/-- THE SECOND FORM's CARD OF 'pointillistlaw05.ScanLists'. -/
def scanListsUptoCard : Claim7 := { stood := { row := scanListsUptoRow, standIns := [], harness := (true, "b115629ae4f8931353607815839bc49881faf216ab9b8f49dec550302cd9da00"), looks := false }, kinds := [], alts := [], laidByText := true, laidKinds := [.data, .data, .data], laidTests := true, laidLooks := .later }
def ScanListsUptoCardSaid : Prop := Claim7.holds Tryd.pinned (.plain (OpenSpec.upto scanListsSpec)) scanListsUptoCard

/-- THE SECOND FORM's CARD OF 'pointillistlaw05.ScanGaps'. -/
def scanGapsUptoCard : Claim7 := { stood := { row := scanGapsUptoRow, standIns := [], harness := (true, "b115629ae4f8931353607815839bc49881faf216ab9b8f49dec550302cd9da00"), looks := false }, kinds := [], alts := [], laidByText := true, laidKinds := [.data, .data, .data], laidTests := true, laidLooks := .later }
def ScanGapsUptoCardSaid : Prop := Claim7.holds Tryd.pinned (.plain (OpenSpec.upto scanGapsSpec)) scanGapsUptoCard

/-- THE SECOND FORM's CARD OF 'pointillistlaw05.ScanActs'. -/
def scanActsUptoCard : Claim7 := { stood := { row := scanActsUptoRow, standIns := [], harness := (true, "b115629ae4f8931353607815839bc49881faf216ab9b8f49dec550302cd9da00"), looks := false }, kinds := [], alts := [], laidByText := true, laidKinds := [.data, .data, .data], laidTests := true, laidLooks := .later }
def ScanActsUptoCardSaid : Prop := Claim7.holds Tryd.pinned (.plain (OpenSpec.upto scanActsSpec)) scanActsUptoCard

/-- THE SECOND FORM's CARD OF 'pointillistlaw05.ScanNever'. -/
def scanNeverUptoCard : Claim7 := { stood := { row := scanNeverUptoRow, standIns := [], harness := (true, "b115629ae4f8931353607815839bc49881faf216ab9b8f49dec550302cd9da00"), looks := false }, kinds := [], alts := [], laidByText := true, laidKinds := [.data, .data, .data], laidTests := true, laidLooks := .later }
def ScanNeverUptoCardSaid : Prop := Claim7.holds Tryd.pinned (.plain (OpenSpec.upto scanNeverSpec)) scanNeverUptoCard
end Rows
end Go.Proofs.YtelgbnjagbleoaaDoor
