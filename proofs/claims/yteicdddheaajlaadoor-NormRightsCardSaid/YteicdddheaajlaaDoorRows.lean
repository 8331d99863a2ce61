/-
  NARROWER THAN 'FOR EVERY INPUT', by the rows' own cells (each row's printed sentence says how): NormParses: laid · NormMoves: laid · NormSplits: laid · NormRights: laid.
  DERIVED. THE GIVEN ROWS OF THIS SEAT. 4 by the template 'for every input the law returns true; each argument reads behind the call as it read before'; 0 by the template 'total and deterministic' (their statements: YteicdddheaajlaaDoorTotals.lean).
  GIVEN WITH THE SEED: the statements are not yours to turn. If you find one false, say at which input.
  Laid BY PROGRAM, IN A SANDBOX (cutbox-rows.mjs): the forced cells as the released guide's own fill.sh prints them over the translation 597348dc3f62deca… (all of the seat's roots in one cut). By AI agents, Wed Nov 11 2026. No macro, syntax, notation, axiom, sorry.
-/
import Derived.Test.YteicdddheaajlaaDoorChecked
import GoSem.Claim
import GoSem.ClaimJoined
import GoSem.ClaimMapViews
import Derived.JoinedTies
import Derived.KernelRfl
namespace Go.Proofs.YteicdddheaajlaaDoor
/- THE CELL 'sum', in the pinned program and in every row, IS THE sha256 OF THE DUMP (.gsa) THAT YteicdddheaajlaaDoorProg.lean LOADS. Nothing in Lean hashes anything: it is a label: what it is worth is what the hold of that sum in a sandbox is worth. -/
noncomputable def Tryd.pinned : Pinned := { name := "yteicdddheaajlaadoor", sum := "597348dc3f62deca759ad21a5df3eae6489ba90893d9075e33e6c687e907ae79", checked := Tryd.checked }
namespace Rows
def none {H : Type} : Left H := { results := [], args := [] }

/- WHAT THE LISTED PACKAGE-LEVEL VARIABLES READ AS WHEN THE CALL BEGINS. Each datum BY PROGRAM (the guide's laid-datum.mjs) off the statement by which the dump's own 'gosem.cut.vars' lays the variable. In a bare row this is a premise. The card (YteicdddheaajlaaDoorCards.lean) ties it to the program's text. -/
def laid_pointillist_dec_next {H : Type} : DataW H := .agg [.agg [.lit (.int .i64 2), .lit (.int .i64 3), .lit (.int .i64 0), .lit (.int .i64 1)], .agg [.lit (.int .i64 2), .lit (.int .i64 3), .lit (.int .i64 0), .lit (.int .i64 0)], .agg [.lit (.int .i64 2), .lit (.int .i64 4), .lit (.int .i64 6), .lit (.int .i64 0)], .agg [.lit (.int .i64 5), .lit (.int .i64 0), .lit (.int .i64 0), .lit (.int .i64 0)], .agg [.lit (.int .i64 5), .lit (.int .i64 0), .lit (.int .i64 6), .lit (.int .i64 0)], .agg [.lit (.int .i64 5), .lit (.int .i64 0), .lit (.int .i64 6), .lit (.int .i64 0)], .agg [.lit (.int .i64 8), .lit (.int .i64 0), .lit (.int .i64 0), .lit (.int .i64 7)], .agg [.lit (.int .i64 8), .lit (.int .i64 0), .lit (.int .i64 0), .lit (.int .i64 0)], .agg [.lit (.int .i64 8), .lit (.int .i64 0), .lit (.int .i64 0), .lit (.int .i64 0)]]
def laid_pointillist_dec_ends {H : Type} : DataW H := .agg [.lit (.int .i64 0), .lit (.int .i64 0), .lit (.int .i64 1), .lit (.int .i64 0), .lit (.int .i64 1), .lit (.int .i64 1), .lit (.int .i64 0), .lit (.int .i64 0), .lit (.int .i64 1)]
def laid_pointillist_scan_blanks {H : Type} : DataW H := .agg [.lit (.int .i64 0), .lit (.int .i64 0), .lit (.int .i64 0), .lit (.int .i64 0), .lit (.int .i64 0), .lit (.int .i64 0), .lit (.int .i64 0), .lit (.int .i64 0), .lit (.int .i64 0), .lit (.int .i64 1), .lit (.int .i64 1), .lit (.int .i64 0), .lit (.int .i64 0), .lit (.int .i64 1), .lit (.int .i64 0), .lit (.int .i64 0), .lit (.int .i64 0), .lit (.int .i64 0), .lit (.int .i64 0), .lit (.int .i64 0), .lit (.int .i64 0), .lit (.int .i64 0), .lit (.int .i64 0), .lit (.int .i64 0), .lit (.int .i64 0), .lit (.int .i64 0), .lit (.int .i64 0), .lit (.int .i64 0), .lit (.int .i64 0), .lit (.int .i64 0), .lit (.int .i64 0), .lit (.int .i64 0), .lit (.int .i64 1)]
def laid_pointillist_path_signs {H : Type} : DataW H := .agg [.agg [.lit (.int .u8 77), .lit (.string [110, 110])], .agg [.lit (.int .u8 76), .lit (.string [110, 110])], .agg [.lit (.int .u8 72), .lit (.string [110])], .agg [.lit (.int .u8 86), .lit (.string [110])], .agg [.lit (.int .u8 67), .lit (.string [110, 110, 110, 110, 110, 110])], .agg [.lit (.int .u8 83), .lit (.string [110, 110, 110, 110])], .agg [.lit (.int .u8 81), .lit (.string [110, 110, 110, 110])], .agg [.lit (.int .u8 84), .lit (.string [110, 110])], .agg [.lit (.int .u8 65), .lit (.string [117, 117, 110, 103, 102, 110, 110])], .agg [.lit (.int .u8 90), .lit (.string [])]]

/-- 'pointillistlaw07.NormParses': WHATEVER THE INPUT: true; the input reads as it did. -/
def normParsesSpec : ChangeSpec := { name := "normParses", fn := fun _ => fun
  | [d] => { results := [.lit (.bool true)], args := [d] }
  | _ => none }
def normParsesRow : OpenClaim := { program := "yteicdddheaajlaadoor", sum := "597348dc3f62deca759ad21a5df3eae6489ba90893d9075e33e6c687e907ae79", func := "pointillist/pointillistlaw07.NormParses", spec := "normParses", unfollowed := true, recurses := true, named := ["pointillist/scan.blanks", "pointillist/path.signs", "pointillist/dec.next", "pointillist/dec.ends", "math/bits.divideError", "math/bits.overflowError"], apart := false, laid := [("pointillist/dec.next", laid_pointillist_dec_next), ("pointillist/dec.ends", laid_pointillist_dec_ends), ("pointillist/scan.blanks", laid_pointillist_scan_blanks), ("pointillist/path.signs", laid_pointillist_path_signs)] }
def NormParsesSaid : Prop := normParsesRow.holds Tryd.pinned (OpenSpec.ofChange normParsesSpec)

/-- ITS FALSE NEIGHBOUR: 'it returns false'. Refute it at one input. -/
def normParsesWrong : ChangeSpec := { name := "normParses", fn := fun _ => fun
  | [d] => { results := [.lit (.bool false)], args := [d] }
  | _ => none }
def NormParsesWrongFalsely : Prop := normParsesRow.holds Tryd.pinned (OpenSpec.ofChange normParsesWrong)

/-- 'pointillistlaw07.NormMoves': WHATEVER THE INPUT: true; the input reads as it did. -/
def normMovesSpec : ChangeSpec := { name := "normMoves", fn := fun _ => fun
  | [d1, d2] => { results := [.lit (.bool true)], args := [d1, d2] }
  | _ => none }
def normMovesRow : OpenClaim := { program := "yteicdddheaajlaadoor", sum := "597348dc3f62deca759ad21a5df3eae6489ba90893d9075e33e6c687e907ae79", func := "pointillist/pointillistlaw07.NormMoves", spec := "normMoves", unfollowed := true, recurses := true, named := ["pointillist/scan.blanks", "pointillist/path.signs", "pointillist/dec.next", "pointillist/dec.ends", "math/bits.divideError", "math/bits.overflowError"], apart := false, laid := [("pointillist/dec.next", laid_pointillist_dec_next), ("pointillist/dec.ends", laid_pointillist_dec_ends), ("pointillist/scan.blanks", laid_pointillist_scan_blanks), ("pointillist/path.signs", laid_pointillist_path_signs)] }
def NormMovesSaid : Prop := normMovesRow.holds Tryd.pinned (OpenSpec.ofChange normMovesSpec)

/-- ITS FALSE NEIGHBOUR: 'it returns false'. Refute it at one input. -/
def normMovesWrong : ChangeSpec := { name := "normMoves", fn := fun _ => fun
  | [d1, d2] => { results := [.lit (.bool false)], args := [d1, d2] }
  | _ => none }
def NormMovesWrongFalsely : Prop := normMovesRow.holds Tryd.pinned (OpenSpec.ofChange normMovesWrong)

/-- 'pointillistlaw07.NormSplits': WHATEVER THE INPUT: true; the input reads as it did. -/
def normSplitsSpec : ChangeSpec := { name := "normSplits", fn := fun _ => fun
  | [d1, d2] => { results := [.lit (.bool true)], args := [d1, d2] }
  | _ => none }
def normSplitsRow : OpenClaim := { program := "yteicdddheaajlaadoor", sum := "597348dc3f62deca759ad21a5df3eae6489ba90893d9075e33e6c687e907ae79", func := "pointillist/pointillistlaw07.NormSplits", spec := "normSplits", unfollowed := true, recurses := true, named := ["pointillist/scan.blanks", "pointillist/path.signs", "pointillist/dec.next", "pointillist/dec.ends", "math/bits.divideError", "math/bits.overflowError"], apart := false, laid := [("pointillist/dec.next", laid_pointillist_dec_next), ("pointillist/dec.ends", laid_pointillist_dec_ends), ("pointillist/scan.blanks", laid_pointillist_scan_blanks), ("pointillist/path.signs", laid_pointillist_path_signs)] }
def NormSplitsSaid : Prop := normSplitsRow.holds Tryd.pinned (OpenSpec.ofChange normSplitsSpec)

/-- ITS FALSE NEIGHBOUR: 'it returns false'. Refute it at one input. -/
def normSplitsWrong : ChangeSpec := { name := "normSplits", fn := fun _ => fun
  | [d1, d2] => { results := [.lit (.bool false)], args := [d1, d2] }
  | _ => none }
def NormSplitsWrongFalsely : Prop := normSplitsRow.holds Tryd.pinned (OpenSpec.ofChange normSplitsWrong)

/-- 'pointillistlaw07.NormRights': WHATEVER THE INPUT: true; the input reads as it did. -/
def normRightsSpec : ChangeSpec := { name := "normRights", fn := fun _ => fun
  | [d1, d2] => { results := [.lit (.bool true)], args := [d1, d2] }
  | _ => none }
def normRightsRow : OpenClaim := { program := "yteicdddheaajlaadoor", sum := "597348dc3f62deca759ad21a5df3eae6489ba90893d9075e33e6c687e907ae79", func := "pointillist/pointillistlaw07.NormRights", spec := "normRights", unfollowed := true, recurses := true, named := ["pointillist/scan.blanks", "pointillist/path.signs", "pointillist/dec.next", "pointillist/dec.ends", "math/bits.divideError", "math/bits.overflowError"], apart := false, laid := [("pointillist/dec.next", laid_pointillist_dec_next), ("pointillist/dec.ends", laid_pointillist_dec_ends), ("pointillist/scan.blanks", laid_pointillist_scan_blanks), ("pointillist/path.signs", laid_pointillist_path_signs)] }
def NormRightsSaid : Prop := normRightsRow.holds Tryd.pinned (OpenSpec.ofChange normRightsSpec)

/-- ITS FALSE NEIGHBOUR: 'it returns false'. Refute it at one input. -/
def normRightsWrong : ChangeSpec := { name := "normRights", fn := fun _ => fun
  | [d1, d2] => { results := [.lit (.bool false)], args := [d1, d2] }
  | _ => none }
def NormRightsWrongFalsely : Prop := normRightsRow.holds Tryd.pinned (OpenSpec.ofChange normRightsWrong)

/- THE SECOND FORM. 'bulk': how many values and letters a reading holds, each counted each time it is reached (what is shared counts as often as it is met; a slice's spare places count too). A statement '..UptoSaid' is the law's where the arguments, and the package variables that the reading takes, are together of bulk at most 1048576: NARROWER than '..Said'. Prove '..Said' where nothing that the law and all that it calls make is longer than what came in: it says more and counts as full. Else prove '..UptoSaid'. A law counts once. -/
mutual
def uptoBulk {H : Type} : DataW H → Nat
  | .lit (.string bytes) => bytes.length + 1
  | .lit _ => 1
  | .nil => 1
  | .ptr d => uptoBulk d + 1
  | .slice elems spare => uptoBulkAll elems + uptoBulkAll spare + 1
  | .agg parts => uptoBulkAll parts + 1
  | .iface _ d => uptoBulk d + 1
  | .map entries => uptoBulkEntries entries + 1
  | .held _ => 1
def uptoBulkAll {H : Type} : List (DataW H) → Nat
  | [] => 0
  | d :: r => uptoBulk d + uptoBulkAll r
def uptoBulkEntries {H : Type} : List (Lit × DataW H) → Nat
  | [] => 0
  | x :: r => uptoBulkEntry x + uptoBulkEntries r
def uptoBulkEntry {H : Type} : Lit × DataW H → Nat
  | (.string bytes, d) => bytes.length + uptoBulk d + 1
  | (_, d) => uptoBulk d + 1
 end
def uptoSmall : (H : Type) → List (DataW H) → Bool := fun _ ds => decide (uptoBulkAll ds ≤ 1048576)
def OpenSpec.upto (s : _root_.Go.ChangeSpec) : _root_.Go.OpenSpec := { _root_.Go.OpenSpec.ofChange s with cond := some uptoSmall }

/-- 'pointillistlaw07.NormParses', WHERE WHAT IT READS IS OF BULK AT MOST 1048576: true; the input reads as it did. -/
def normParsesUptoRow : OpenClaim := { program := "yteicdddheaajlaadoor", sum := "597348dc3f62deca759ad21a5df3eae6489ba90893d9075e33e6c687e907ae79", func := "pointillist/pointillistlaw07.NormParses", spec := "normParses", unfollowed := true, recurses := true, named := ["pointillist/scan.blanks", "pointillist/path.signs", "pointillist/dec.next", "pointillist/dec.ends", "math/bits.divideError", "math/bits.overflowError"], apart := false, laid := [("pointillist/dec.next", laid_pointillist_dec_next), ("pointillist/dec.ends", laid_pointillist_dec_ends), ("pointillist/scan.blanks", laid_pointillist_scan_blanks), ("pointillist/path.signs", laid_pointillist_path_signs)], narrowed := true }
def NormParsesUptoSaid : Prop := normParsesUptoRow.holds Tryd.pinned (OpenSpec.upto normParsesSpec)

/-- 'pointillistlaw07.NormMoves', WHERE WHAT IT READS IS OF BULK AT MOST 1048576: true; the input reads as it did. -/
def normMovesUptoRow : OpenClaim := { program := "yteicdddheaajlaadoor", sum := "597348dc3f62deca759ad21a5df3eae6489ba90893d9075e33e6c687e907ae79", func := "pointillist/pointillistlaw07.NormMoves", spec := "normMoves", unfollowed := true, recurses := true, named := ["pointillist/scan.blanks", "pointillist/path.signs", "pointillist/dec.next", "pointillist/dec.ends", "math/bits.divideError", "math/bits.overflowError"], apart := false, laid := [("pointillist/dec.next", laid_pointillist_dec_next), ("pointillist/dec.ends", laid_pointillist_dec_ends), ("pointillist/scan.blanks", laid_pointillist_scan_blanks), ("pointillist/path.signs", laid_pointillist_path_signs)], narrowed := true }
def NormMovesUptoSaid : Prop := normMovesUptoRow.holds Tryd.pinned (OpenSpec.upto normMovesSpec)

/-- 'pointillistlaw07.NormSplits', WHERE WHAT IT READS IS OF BULK AT MOST 1048576: true; the input reads as it did. -/
def normSplitsUptoRow : OpenClaim := { program := "yteicdddheaajlaadoor", sum := "597348dc3f62deca759ad21a5df3eae6489ba90893d9075e33e6c687e907ae79", func := "pointillist/pointillistlaw07.NormSplits", spec := "normSplits", unfollowed := true, recurses := true, named := ["pointillist/scan.blanks", "pointillist/path.signs", "pointillist/dec.next", "pointillist/dec.ends", "math/bits.divideError", "math/bits.overflowError"], apart := false, laid := [("pointillist/dec.next", laid_pointillist_dec_next), ("pointillist/dec.ends", laid_pointillist_dec_ends), ("pointillist/scan.blanks", laid_pointillist_scan_blanks), ("pointillist/path.signs", laid_pointillist_path_signs)], narrowed := true }
def NormSplitsUptoSaid : Prop := normSplitsUptoRow.holds Tryd.pinned (OpenSpec.upto normSplitsSpec)

/-- 'pointillistlaw07.NormRights', WHERE WHAT IT READS IS OF BULK AT MOST 1048576: true; the input reads as it did. -/
def normRightsUptoRow : OpenClaim := { program := "yteicdddheaajlaadoor", sum := "597348dc3f62deca759ad21a5df3eae6489ba90893d9075e33e6c687e907ae79", func := "pointillist/pointillistlaw07.NormRights", spec := "normRights", unfollowed := true, recurses := true, named := ["pointillist/scan.blanks", "pointillist/path.signs", "pointillist/dec.next", "pointillist/dec.ends", "math/bits.divideError", "math/bits.overflowError"], apart := false, laid := [("pointillist/dec.next", laid_pointillist_dec_next), ("pointillist/dec.ends", laid_pointillist_dec_ends), ("pointillist/scan.blanks", laid_pointillist_scan_blanks), ("pointillist/path.signs", laid_pointillist_path_signs)], narrowed := true }
def NormRightsUptoSaid : Prop := normRightsUptoRow.holds Tryd.pinned (OpenSpec.upto normRightsSpec)

end Rows
end Go.Proofs.YteicdddheaajlaaDoor
