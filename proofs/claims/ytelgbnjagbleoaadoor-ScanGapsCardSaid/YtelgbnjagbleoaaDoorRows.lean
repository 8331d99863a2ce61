/-
  NARROWER THAN 'FOR EVERY INPUT', by the rows' own cells (each row's printed sentence says how): ScanLists: laid · ScanGaps: laid · ScanActs: laid · ScanNever: laid.
  DERIVED. THE GIVEN ROWS OF THIS SEAT. 4 by the template 'for every input the law returns true; each argument reads behind the call as it read before'; 0 by the template 'total and deterministic' (their statements: YtelgbnjagbleoaaDoorTotals.lean).
  GIVEN WITH THE SEED: the statements are not yours to turn. If you find one false, say at which input.
  Laid BY PROGRAM, IN A SANDBOX (cutbox-rows.mjs): the forced cells as the released guide's own fill.sh prints them over the translation e6d3a4c6a8ec21dc… (all of the seat's roots in one cut). By AI agents, Wed Nov 11 2026. No macro, syntax, notation, axiom, sorry.
-/
import Derived.Test.YtelgbnjagbleoaaDoorChecked
import GoSem.Claim
import GoSem.ClaimJoined
import GoSem.ClaimMapViews
import Derived.JoinedTies
import Derived.KernelRfl
namespace Go.Proofs.YtelgbnjagbleoaaDoor
/- THE CELL 'sum', in the pinned program and in every row, IS THE sha256 OF THE DUMP (.gsa) THAT YtelgbnjagbleoaaDoorProg.lean LOADS. Nothing in Lean hashes anything: it is a label: what it is worth is what the hold of that sum in a sandbox is worth. -/
noncomputable def Tryd.pinned : Pinned := { name := "ytelgbnjagbleoaadoor", sum := "e6d3a4c6a8ec21dcf4a276e96c900c6945499f7453b0f0ef5b0662dd34b82c3c", checked := Tryd.checked }
namespace Rows
def none {H : Type} : Left H := { results := [], args := [] }

/- WHAT THE LISTED PACKAGE-LEVEL VARIABLES READ AS WHEN THE CALL BEGINS. Each datum BY PROGRAM (the guide's laid-datum.mjs) off the statement by which the dump's own 'gosem.cut.vars' lays the variable. In a bare row this is a premise. The card (YtelgbnjagbleoaaDoorCards.lean) ties it to the program's text. -/
def laid_pointillist_dec_next {H : Type} : DataW H := .agg [.agg [.lit (.int .i64 2), .lit (.int .i64 3), .lit (.int .i64 0), .lit (.int .i64 1)], .agg [.lit (.int .i64 2), .lit (.int .i64 3), .lit (.int .i64 0), .lit (.int .i64 0)], .agg [.lit (.int .i64 2), .lit (.int .i64 4), .lit (.int .i64 6), .lit (.int .i64 0)], .agg [.lit (.int .i64 5), .lit (.int .i64 0), .lit (.int .i64 0), .lit (.int .i64 0)], .agg [.lit (.int .i64 5), .lit (.int .i64 0), .lit (.int .i64 6), .lit (.int .i64 0)], .agg [.lit (.int .i64 5), .lit (.int .i64 0), .lit (.int .i64 6), .lit (.int .i64 0)], .agg [.lit (.int .i64 8), .lit (.int .i64 0), .lit (.int .i64 0), .lit (.int .i64 7)], .agg [.lit (.int .i64 8), .lit (.int .i64 0), .lit (.int .i64 0), .lit (.int .i64 0)], .agg [.lit (.int .i64 8), .lit (.int .i64 0), .lit (.int .i64 0), .lit (.int .i64 0)]]
def laid_pointillist_dec_ends {H : Type} : DataW H := .agg [.lit (.int .i64 0), .lit (.int .i64 0), .lit (.int .i64 1), .lit (.int .i64 0), .lit (.int .i64 1), .lit (.int .i64 1), .lit (.int .i64 0), .lit (.int .i64 0), .lit (.int .i64 1)]
def laid_pointillist_scan_blanks {H : Type} : DataW H := .agg [.lit (.int .i64 0), .lit (.int .i64 0), .lit (.int .i64 0), .lit (.int .i64 0), .lit (.int .i64 0), .lit (.int .i64 0), .lit (.int .i64 0), .lit (.int .i64 0), .lit (.int .i64 0), .lit (.int .i64 1), .lit (.int .i64 1), .lit (.int .i64 0), .lit (.int .i64 0), .lit (.int .i64 1), .lit (.int .i64 0), .lit (.int .i64 0), .lit (.int .i64 0), .lit (.int .i64 0), .lit (.int .i64 0), .lit (.int .i64 0), .lit (.int .i64 0), .lit (.int .i64 0), .lit (.int .i64 0), .lit (.int .i64 0), .lit (.int .i64 0), .lit (.int .i64 0), .lit (.int .i64 0), .lit (.int .i64 0), .lit (.int .i64 0), .lit (.int .i64 0), .lit (.int .i64 0), .lit (.int .i64 0), .lit (.int .i64 1)]

/-- 'pointillistlaw05.ScanLists': WHATEVER THE INPUT: true; the input reads as it did. -/
def scanListsSpec : ChangeSpec := { name := "scanLists", fn := fun _ => fun
  | [d1, d2] => { results := [.lit (.bool true)], args := [d1, d2] }
  | _ => none }
def scanListsRow : OpenClaim := { program := "ytelgbnjagbleoaadoor", sum := "e6d3a4c6a8ec21dcf4a276e96c900c6945499f7453b0f0ef5b0662dd34b82c3c", func := "pointillist/pointillistlaw05.ScanLists", spec := "scanLists", unfollowed := true, recurses := true, named := ["pointillist/dec.next", "pointillist/dec.ends", "math/bits.divideError", "math/bits.overflowError", "pointillist/scan.blanks"], apart := false, laid := [("pointillist/dec.next", laid_pointillist_dec_next), ("pointillist/dec.ends", laid_pointillist_dec_ends), ("pointillist/scan.blanks", laid_pointillist_scan_blanks)] }
def ScanListsSaid : Prop := scanListsRow.holds Tryd.pinned (OpenSpec.ofChange scanListsSpec)

/-- ITS FALSE NEIGHBOUR: 'it returns false'. Refute it at one input. -/
def scanListsWrong : ChangeSpec := { name := "scanLists", fn := fun _ => fun
  | [d1, d2] => { results := [.lit (.bool false)], args := [d1, d2] }
  | _ => none }
def ScanListsWrongFalsely : Prop := scanListsRow.holds Tryd.pinned (OpenSpec.ofChange scanListsWrong)

/-- 'pointillistlaw05.ScanGaps': WHATEVER THE INPUT: true; the input reads as it did. -/
def scanGapsSpec : ChangeSpec := { name := "scanGaps", fn := fun _ => fun
  | [d] => { results := [.lit (.bool true)], args := [d] }
  | _ => none }
def scanGapsRow : OpenClaim := { program := "ytelgbnjagbleoaadoor", sum := "e6d3a4c6a8ec21dcf4a276e96c900c6945499f7453b0f0ef5b0662dd34b82c3c", func := "pointillist/pointillistlaw05.ScanGaps", spec := "scanGaps", unfollowed := true, recurses := true, named := ["pointillist/dec.next", "pointillist/dec.ends", "math/bits.divideError", "math/bits.overflowError", "pointillist/scan.blanks"], apart := false, laid := [("pointillist/dec.next", laid_pointillist_dec_next), ("pointillist/dec.ends", laid_pointillist_dec_ends), ("pointillist/scan.blanks", laid_pointillist_scan_blanks)] }
def ScanGapsSaid : Prop := scanGapsRow.holds Tryd.pinned (OpenSpec.ofChange scanGapsSpec)

/-- ITS FALSE NEIGHBOUR: 'it returns false'. Refute it at one input. -/
def scanGapsWrong : ChangeSpec := { name := "scanGaps", fn := fun _ => fun
  | [d] => { results := [.lit (.bool false)], args := [d] }
  | _ => none }
def ScanGapsWrongFalsely : Prop := scanGapsRow.holds Tryd.pinned (OpenSpec.ofChange scanGapsWrong)

/-- 'pointillistlaw05.ScanActs': WHATEVER THE INPUT: true; the input reads as it did. -/
def scanActsSpec : ChangeSpec := { name := "scanActs", fn := fun _ => fun
  | [d1, d2] => { results := [.lit (.bool true)], args := [d1, d2] }
  | _ => none }
def scanActsRow : OpenClaim := { program := "ytelgbnjagbleoaadoor", sum := "e6d3a4c6a8ec21dcf4a276e96c900c6945499f7453b0f0ef5b0662dd34b82c3c", func := "pointillist/pointillistlaw05.ScanActs", spec := "scanActs", unfollowed := true, recurses := true, named := ["pointillist/dec.next", "pointillist/dec.ends", "math/bits.divideError", "math/bits.overflowError", "pointillist/scan.blanks"], apart := false, laid := [("pointillist/dec.next", laid_pointillist_dec_next), ("pointillist/dec.ends", laid_pointillist_dec_ends), ("pointillist/scan.blanks", laid_pointillist_scan_blanks)] }
def ScanActsSaid : Prop := scanActsRow.holds Tryd.pinned (OpenSpec.ofChange scanActsSpec)

/-- ITS FALSE NEIGHBOUR: 'it returns false'. Refute it at one input. -/
def scanActsWrong : ChangeSpec := { name := "scanActs", fn := fun _ => fun
  | [d1, d2] => { results := [.lit (.bool false)], args := [d1, d2] }
  | _ => none }
def ScanActsWrongFalsely : Prop := scanActsRow.holds Tryd.pinned (OpenSpec.ofChange scanActsWrong)

/-- 'pointillistlaw05.ScanNever': WHATEVER THE INPUT: true; the input reads as it did. -/
def scanNeverSpec : ChangeSpec := { name := "scanNever", fn := fun _ => fun
  | [d1, d2] => { results := [.lit (.bool true)], args := [d1, d2] }
  | _ => none }
def scanNeverRow : OpenClaim := { program := "ytelgbnjagbleoaadoor", sum := "e6d3a4c6a8ec21dcf4a276e96c900c6945499f7453b0f0ef5b0662dd34b82c3c", func := "pointillist/pointillistlaw05.ScanNever", spec := "scanNever", unfollowed := true, recurses := true, named := ["pointillist/dec.next", "pointillist/dec.ends", "math/bits.divideError", "math/bits.overflowError", "pointillist/scan.blanks"], apart := false, laid := [("pointillist/dec.next", laid_pointillist_dec_next), ("pointillist/dec.ends", laid_pointillist_dec_ends), ("pointillist/scan.blanks", laid_pointillist_scan_blanks)] }
def ScanNeverSaid : Prop := scanNeverRow.holds Tryd.pinned (OpenSpec.ofChange scanNeverSpec)

/-- ITS FALSE NEIGHBOUR: 'it returns false'. Refute it at one input. -/
def scanNeverWrong : ChangeSpec := { name := "scanNever", fn := fun _ => fun
  | [d1, d2] => { results := [.lit (.bool false)], args := [d1, d2] }
  | _ => none }
def ScanNeverWrongFalsely : Prop := scanNeverRow.holds Tryd.pinned (OpenSpec.ofChange scanNeverWrong)

/- THE SECOND FORM. 'bulk': how many values and letters a reading holds, each counted each time it is reached (what is shared counts as often as it is met; a slice's spare places count too). A statement '..UptoSaid' is the law's where the arguments, and the package variables that the reading takes, are together of bulk at most 1048576: NARROWER than '..Said'. Prove '..Said' where nothing that the law and all that it calls make is longer than what came in: it says more and counts as full. Else prove '..UptoSaid'. A law counts once. -/
mutual
def uptoBulk {H : Type} : DataW H → Nat
  | .lit (.string bytes) => bytes.length + 1
  | .lit _ => 1
  | .nil => 1
  | .ptr d => uptoBulk d + 1
  | .slice elems spare => uptoBulkAll elems + uptoBulkAll spare + 1
  | .agg parts => uptoBulkAll parts + 1
  | .iface _ d => uptoBulk d + 1
  | .map entries => uptoBulkEntries entries + 1
  | .held _ => 1
def uptoBulkAll {H : Type} : List (DataW H) → Nat
  | [] => 0
  | d :: r => uptoBulk d + uptoBulkAll r
def uptoBulkEntries {H : Type} : List (Lit × DataW H) → Nat
  | [] => 0
  | x :: r => uptoBulkEntry x + uptoBulkEntries r
def uptoBulkEntry {H : Type} : Lit × DataW H → Nat
  | (.string bytes, d) => bytes.length + uptoBulk d + 1
  | (_, d) => uptoBulk d + 1
 end
def uptoSmall : (H : Type) → List (DataW H) → Bool := fun _ ds => decide (uptoBulkAll ds ≤ 1048576)
def OpenSpec.upto (s : _root_.Go.ChangeSpec) : _root_.Go.OpenSpec := { _root_.Go.OpenSpec.ofChange s with cond := some uptoSmall }

/-- 'pointillistlaw05.ScanLists', WHERE WHAT IT READS IS OF BULK AT MOST 1048576: true; the input reads as it did. -/
def scanListsUptoRow : OpenClaim := { program := "ytelgbnjagbleoaadoor", sum := "e6d3a4c6a8ec21dcf4a276e96c900c6945499f7453b0f0ef5b0662dd34b82c3c", func := "pointillist/pointillistlaw05.ScanLists", spec := "scanLists", unfollowed := true, recurses := true, named := ["pointillist/dec.next", "pointillist/dec.ends", "math/bits.divideError", "math/bits.overflowError", "pointillist/scan.blanks"], apart := false, laid := [("pointillist/dec.next", laid_pointillist_dec_next), ("pointillist/dec.ends", laid_pointillist_dec_ends), ("pointillist/scan.blanks", laid_pointillist_scan_blanks)], narrowed := true }
def ScanListsUptoSaid : Prop := scanListsUptoRow.holds Tryd.pinned (OpenSpec.upto scanListsSpec)

/-- 'pointillistlaw05.ScanGaps', WHERE WHAT IT READS IS OF BULK AT MOST 1048576: true; the input reads as it did. -/
def scanGapsUptoRow : OpenClaim := { program := "ytelgbnjagbleoaadoor", sum := "e6d3a4c6a8ec21dcf4a276e96c900c6945499f7453b0f0ef5b0662dd34b82c3c", func := "pointillist/pointillistlaw05.ScanGaps", spec := "scanGaps", unfollowed := true, recurses := true, named := ["pointillist/dec.next", "pointillist/dec.ends", "math/bits.divideError", "math/bits.overflowError", "pointillist/scan.blanks"], apart := false, laid := [("pointillist/dec.next", laid_pointillist_dec_next), ("pointillist/dec.ends", laid_pointillist_dec_ends), ("pointillist/scan.blanks", laid_pointillist_scan_blanks)], narrowed := true }
def ScanGapsUptoSaid : Prop := scanGapsUptoRow.holds Tryd.pinned (OpenSpec.upto scanGapsSpec)

/-- 'pointillistlaw05.ScanActs', WHERE WHAT IT READS IS OF BULK AT MOST 1048576: true; the input reads as it did. -/
def scanActsUptoRow : OpenClaim := { program := "ytelgbnjagbleoaadoor", sum := "e6d3a4c6a8ec21dcf4a276e96c900c6945499f7453b0f0ef5b0662dd34b82c3c", func := "pointillist/pointillistlaw05.ScanActs", spec := "scanActs", unfollowed := true, recurses := true, named := ["pointillist/dec.next", "pointillist/dec.ends", "math/bits.divideError", "math/bits.overflowError", "pointillist/scan.blanks"], apart := false, laid := [("pointillist/dec.next", laid_pointillist_dec_next), ("pointillist/dec.ends", laid_pointillist_dec_ends), ("pointillist/scan.blanks", laid_pointillist_scan_blanks)], narrowed := true }
def ScanActsUptoSaid : Prop := scanActsUptoRow.holds Tryd.pinned (OpenSpec.upto scanActsSpec)

/-- 'pointillistlaw05.ScanNever', WHERE WHAT IT READS IS OF BULK AT MOST 1048576: true; the input reads as it did. -/
def scanNeverUptoRow : OpenClaim := { program := "ytelgbnjagbleoaadoor", sum := "e6d3a4c6a8ec21dcf4a276e96c900c6945499f7453b0f0ef5b0662dd34b82c3c", func := "pointillist/pointillistlaw05.ScanNever", spec := "scanNever", unfollowed := true, recurses := true, named := ["pointillist/dec.next", "pointillist/dec.ends", "math/bits.divideError", "math/bits.overflowError", "pointillist/scan.blanks"], apart := false, laid := [("pointillist/dec.next", laid_pointillist_dec_next), ("pointillist/dec.ends", laid_pointillist_dec_ends), ("pointillist/scan.blanks", laid_pointillist_scan_blanks)], narrowed := true }
def ScanNeverUptoSaid : Prop := scanNeverUptoRow.holds Tryd.pinned (OpenSpec.upto scanNeverSpec)

end Rows
end Go.Proofs.YtelgbnjagbleoaaDoor
