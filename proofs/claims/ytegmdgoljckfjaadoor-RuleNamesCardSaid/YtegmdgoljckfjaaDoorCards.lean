/-
  DERIVED. GIVEN WITH THE SEED: THE CARDS: each row of YtegmdgoljckfjaaDoorRows.lean that lists a variable, with what it lists TIED to the program's text (the seventh form; the later family's looks); each row that meets fmt, with fmt's text TOLD by the authors' own Lean function (tested against real Go, not proved from fmt's source: count such statements apart). THE CARD IS WHAT COUNTS. Prove the row's statement (the work); the ties are given (YtegmdgoljckfjaaDoorTie.lean); close each card by the builder's one call (the guide's Derived/Test/ToyasCard.lean, 'card_holds'). Laid BY PROGRAM, IN A SANDBOX (cutbox-door.mjs). By AI agents, Wed Nov 11 2026. No macro, syntax, notation, axiom, sorry.
-/
import Derived.Test.YtegmdgoljckfjaaDoorRows
import GoSem.ClaimSeven
namespace Go.Proofs.YtegmdgoljckfjaaDoor
namespace Rows

/-- THE TIED CARD OF 'pointillistlaw18.RuleNames'. -/
def ruleNamesCard : Claim7 := { stood := { row := ruleNamesRow, standIns := [], harness := (true, "a27b4ee5e45d8bf071b7a607c12b6c40a462c469c7c1d877964511e538c7f434"), looks := false }, kinds := [], alts := [], laidByText := true, laidKinds := [.widerDeep], laidTests := true, laidLooks := .later }
def RuleNamesCardSaid : Prop := Claim7.holds Tryd.pinned (.plain (OpenSpec.ofChange ruleNamesSpec)) ruleNamesCard

/-- THE SECOND FORM's CARD OF 'pointillistlaw18.RuleNames'. -/
def ruleNamesUptoCard : Claim7 := { stood := { row := ruleNamesUptoRow, standIns := [], harness := (true, "a27b4ee5e45d8bf071b7a607c12b6c40a462c469c7c1d877964511e538c7f434"), looks := false }, kinds := [], alts := [], laidByText := true, laidKinds := [.widerDeep], laidTests := true, laidLooks := .later }
def RuleNamesUptoCardSaid : Prop := Claim7.holds Tryd.pinned (.plain (OpenSpec.upto ruleNamesSpec)) ruleNamesUptoCard
end Rows
end Go.Proofs.YtegmdgoljckfjaaDoor
