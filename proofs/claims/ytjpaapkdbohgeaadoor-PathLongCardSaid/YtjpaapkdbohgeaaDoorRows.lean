/-
  NARROWER THAN 'FOR EVERY INPUT', by the rows' own cells (each row's printed sentence says how): PathParses: laid · PathCuts: laid · PathAll: laid · PathLong: laid · PathRights: laid · PathPrints: laid · PathJoins: laid.
  DERIVED. THE GIVEN ROWS OF THIS SEAT. 7 by the template 'for every input the law returns true; each argument reads behind the call as it read before'; 0 by the template 'total and deterministic' (their statements: YtjpaapkdbohgeaaDoorTotals.lean).
  GIVEN WITH THE SEED: the statements are not yours to turn. If you find one false, say at which input.
  Laid BY PROGRAM, IN A SANDBOX (cutbox-rows.mjs): the forced cells as the released guide's own fill.sh prints them over the translation 1726dfe9dfd26916… (all of the seat's roots in one cut). By AI agents, Wed Nov 11 2026. No macro, syntax, notation, axiom, sorry.
-/
import Derived.Test.YtjpaapkdbohgeaaDoorChecked
import GoSem.Claim
import GoSem.ClaimJoined
import GoSem.ClaimMapViews
import Derived.JoinedTies
import Derived.KernelRfl
namespace Go.Proofs.YtjpaapkdbohgeaaDoor
/- THE CELL 'sum', in the pinned program and in every row, IS THE sha256 OF THE DUMP (.gsa) THAT YtjpaapkdbohgeaaDoorProg.lean LOADS. Nothing in Lean hashes anything: it is a label: what it is worth is what the hold of that sum in a sandbox is worth. -/
noncomputable def Tryd.pinned : Pinned := { name := "ytjpaapkdbohgeaadoor", sum := "1726dfe9dfd269162a6673fd154c60c99f38e789cd8a0711c22c858a8e4bcdc1", checked := Tryd.checked }
namespace Rows
def none {H : Type} : Left H := { results := [], args := [] }

/- WHAT THE LISTED PACKAGE-LEVEL VARIABLES READ AS WHEN THE CALL BEGINS. Each datum BY PROGRAM (the guide's laid-datum.mjs) off the statement by which the dump's own 'gosem.cut.vars' lays the variable. In a bare row this is a premise. The card (YtjpaapkdbohgeaaDoorCards.lean) ties it to the program's text. -/
def laid_pointillist_dec_next {H : Type} : DataW H := .agg [.agg [.lit (.int .i64 2), .lit (.int .i64 3), .lit (.int .i64 0), .lit (.int .i64 1)], .agg [.lit (.int .i64 2), .lit (.int .i64 3), .lit (.int .i64 0), .lit (.int .i64 0)], .agg [.lit (.int .i64 2), .lit (.int .i64 4), .lit (.int .i64 6), .lit (.int .i64 0)], .agg [.lit (.int .i64 5), .lit (.int .i64 0), .lit (.int .i64 0), .lit (.int .i64 0)], .agg [.lit (.int .i64 5), .lit (.int .i64 0), .lit (.int .i64 6), .lit (.int .i64 0)], .agg [.lit (.int .i64 5), .lit (.int .i64 0), .lit (.int .i64 6), .lit (.int .i64 0)], .agg [.lit (.int .i64 8), .lit (.int .i64 0), .lit (.int .i64 0), .lit (.int .i64 7)], .agg [.lit (.int .i64 8), .lit (.int .i64 0), .lit (.int .i64 0), .lit (.int .i64 0)], .agg [.lit (.int .i64 8), .lit (.int .i64 0), .lit (.int .i64 0), .lit (.int .i64 0)]]
def laid_pointillist_dec_ends {H : Type} : DataW H := .agg [.lit (.int .i64 0), .lit (.int .i64 0), .lit (.int .i64 1), .lit (.int .i64 0), .lit (.int .i64 1), .lit (.int .i64 1), .lit (.int .i64 0), .lit (.int .i64 0), .lit (.int .i64 1)]
def laid_pointillist_scan_blanks {H : Type} : DataW H := .agg [.lit (.int .i64 0), .lit (.int .i64 0), .lit (.int .i64 0), .lit (.int .i64 0), .lit (.int .i64 0), .lit (.int .i64 0), .lit (.int .i64 0), .lit (.int .i64 0), .lit (.int .i64 0), .lit (.int .i64 1), .lit (.int .i64 1), .lit (.int .i64 0), .lit (.int .i64 0), .lit (.int .i64 1), .lit (.int .i64 0), .lit (.int .i64 0), .lit (.int .i64 0), .lit (.int .i64 0), .lit (.int .i64 0), .lit (.int .i64 0), .lit (.int .i64 0), .lit (.int .i64 0), .lit (.int .i64 0), .lit (.int .i64 0), .lit (.int .i64 0), .lit (.int .i64 0), .lit (.int .i64 0), .lit (.int .i64 0), .lit (.int .i64 0), .lit (.int .i64 0), .lit (.int .i64 0), .lit (.int .i64 0), .lit (.int .i64 1)]
def laid_pointillist_path_signs {H : Type} : DataW H := .agg [.agg [.lit (.int .u8 77), .lit (.string [110, 110])], .agg [.lit (.int .u8 76), .lit (.string [110, 110])], .agg [.lit (.int .u8 72), .lit (.string [110])], .agg [.lit (.int .u8 86), .lit (.string [110])], .agg [.lit (.int .u8 67), .lit (.string [110, 110, 110, 110, 110, 110])], .agg [.lit (.int .u8 83), .lit (.string [110, 110, 110, 110])], .agg [.lit (.int .u8 81), .lit (.string [110, 110, 110, 110])], .agg [.lit (.int .u8 84), .lit (.string [110, 110])], .agg [.lit (.int .u8 65), .lit (.string [117, 117, 110, 103, 102, 110, 110])], .agg [.lit (.int .u8 90), .lit (.string [])]]
def laid_math_bits_deBruijn32tab {H : Type} : DataW H := .agg [.lit (.int .u8 0), .lit (.int .u8 1), .lit (.int .u8 28), .lit (.int .u8 2), .lit (.int .u8 29), .lit (.int .u8 14), .lit (.int .u8 24), .lit (.int .u8 3), .lit (.int .u8 30), .lit (.int .u8 22), .lit (.int .u8 20), .lit (.int .u8 15), .lit (.int .u8 25), .lit (.int .u8 17), .lit (.int .u8 4), .lit (.int .u8 8), .lit (.int .u8 31), .lit (.int .u8 27), .lit (.int .u8 13), .lit (.int .u8 23), .lit (.int .u8 21), .lit (.int .u8 19), .lit (.int .u8 16), .lit (.int .u8 7), .lit (.int .u8 26), .lit (.int .u8 12), .lit (.int .u8 18), .lit (.int .u8 6), .lit (.int .u8 11), .lit (.int .u8 5), .lit (.int .u8 10), .lit (.int .u8 9)]
def laid_math_bits_deBruijn64tab {H : Type} : DataW H := .agg [.lit (.int .u8 0), .lit (.int .u8 1), .lit (.int .u8 56), .lit (.int .u8 2), .lit (.int .u8 57), .lit (.int .u8 49), .lit (.int .u8 28), .lit (.int .u8 3), .lit (.int .u8 61), .lit (.int .u8 58), .lit (.int .u8 42), .lit (.int .u8 50), .lit (.int .u8 38), .lit (.int .u8 29), .lit (.int .u8 17), .lit (.int .u8 4), .lit (.int .u8 62), .lit (.int .u8 47), .lit (.int .u8 59), .lit (.int .u8 36), .lit (.int .u8 45), .lit (.int .u8 43), .lit (.int .u8 51), .lit (.int .u8 22), .lit (.int .u8 53), .lit (.int .u8 39), .lit (.int .u8 33), .lit (.int .u8 30), .lit (.int .u8 24), .lit (.int .u8 18), .lit (.int .u8 12), .lit (.int .u8 5), .lit (.int .u8 63), .lit (.int .u8 55), .lit (.int .u8 48), .lit (.int .u8 27), .lit (.int .u8 60), .lit (.int .u8 41), .lit (.int .u8 37), .lit (.int .u8 16), .lit (.int .u8 46), .lit (.int .u8 35), .lit (.int .u8 44), .lit (.int .u8 21), .lit (.int .u8 52), .lit (.int .u8 32), .lit (.int .u8 23), .lit (.int .u8 11), .lit (.int .u8 54), .lit (.int .u8 26), .lit (.int .u8 40), .lit (.int .u8 15), .lit (.int .u8 34), .lit (.int .u8 20), .lit (.int .u8 31), .lit (.int .u8 10), .lit (.int .u8 25), .lit (.int .u8 14), .lit (.int .u8 19), .lit (.int .u8 9), .lit (.int .u8 13), .lit (.int .u8 8), .lit (.int .u8 7), .lit (.int .u8 6)]
def laid_internal_strconv_uint64pow10 {H : Type} : DataW H := .agg [.lit (.int .u64 1), .lit (.int .u64 10), .lit (.int .u64 100), .lit (.int .u64 1000), .lit (.int .u64 10000), .lit (.int .u64 100000), .lit (.int .u64 1000000), .lit (.int .u64 10000000), .lit (.int .u64 100000000), .lit (.int .u64 1000000000), .lit (.int .u64 10000000000), .lit (.int .u64 100000000000), .lit (.int .u64 1000000000000), .lit (.int .u64 10000000000000), .lit (.int .u64 100000000000000), .lit (.int .u64 1000000000000000), .lit (.int .u64 10000000000000000), .lit (.int .u64 100000000000000000), .lit (.int .u64 1000000000000000000), .lit (.int .u64 10000000000000000000)]

/-- 'pointillistlaw06.PathParses': WHATEVER THE INPUT: true; the input reads as it did. -/
def pathParsesSpec : ChangeSpec := { name := "pathParses", fn := fun _ => fun
  | [d] => { results := [.lit (.bool true)], args := [d] }
  | _ => none }
def pathParsesRow : OpenClaim := { program := "ytjpaapkdbohgeaadoor", sum := "1726dfe9dfd269162a6673fd154c60c99f38e789cd8a0711c22c858a8e4bcdc1", func := "pointillist/pointillistlaw06.PathParses", spec := "pathParses", unfollowed := true, recurses := true, named := ["pointillist/scan.blanks", "pointillist/path.signs", "pointillist/dec.next", "pointillist/dec.ends", "math/bits.divideError", "math/bits.overflowError"], apart := false, laid := [("pointillist/dec.next", laid_pointillist_dec_next), ("pointillist/dec.ends", laid_pointillist_dec_ends), ("pointillist/scan.blanks", laid_pointillist_scan_blanks), ("pointillist/path.signs", laid_pointillist_path_signs)] }
def PathParsesSaid : Prop := pathParsesRow.holds Tryd.pinned (OpenSpec.ofChange pathParsesSpec)

/-- ITS FALSE NEIGHBOUR: 'it returns false'. Refute it at one input. -/
def pathParsesWrong : ChangeSpec := { name := "pathParses", fn := fun _ => fun
  | [d] => { results := [.lit (.bool false)], args := [d] }
  | _ => none }
def PathParsesWrongFalsely : Prop := pathParsesRow.holds Tryd.pinned (OpenSpec.ofChange pathParsesWrong)

/-- 'pointillistlaw06.PathCuts': WHATEVER THE INPUT: true; the input reads as it did. -/
def pathCutsSpec : ChangeSpec := { name := "pathCuts", fn := fun _ => fun
  | [d1, d2] => { results := [.lit (.bool true)], args := [d1, d2] }
  | _ => none }
def pathCutsRow : OpenClaim := { program := "ytjpaapkdbohgeaadoor", sum := "1726dfe9dfd269162a6673fd154c60c99f38e789cd8a0711c22c858a8e4bcdc1", func := "pointillist/pointillistlaw06.PathCuts", spec := "pathCuts", unfollowed := true, recurses := true, named := ["pointillist/scan.blanks", "pointillist/path.signs", "pointillist/dec.next", "pointillist/dec.ends", "math/bits.divideError", "math/bits.overflowError"], apart := false, laid := [("pointillist/dec.next", laid_pointillist_dec_next), ("pointillist/dec.ends", laid_pointillist_dec_ends), ("pointillist/scan.blanks", laid_pointillist_scan_blanks), ("pointillist/path.signs", laid_pointillist_path_signs)] }
def PathCutsSaid : Prop := pathCutsRow.holds Tryd.pinned (OpenSpec.ofChange pathCutsSpec)

/-- ITS FALSE NEIGHBOUR: 'it returns false'. Refute it at one input. -/
def pathCutsWrong : ChangeSpec := { name := "pathCuts", fn := fun _ => fun
  | [d1, d2] => { results := [.lit (.bool false)], args := [d1, d2] }
  | _ => none }
def PathCutsWrongFalsely : Prop := pathCutsRow.holds Tryd.pinned (OpenSpec.ofChange pathCutsWrong)

/-- 'pointillistlaw06.PathAll': WHATEVER THE INPUT: true; the input reads as it did. -/
def pathAllSpec : ChangeSpec := { name := "pathAll", fn := fun _ => fun
  | [d1, d2] => { results := [.lit (.bool true)], args := [d1, d2] }
  | _ => none }
def pathAllRow : OpenClaim := { program := "ytjpaapkdbohgeaadoor", sum := "1726dfe9dfd269162a6673fd154c60c99f38e789cd8a0711c22c858a8e4bcdc1", func := "pointillist/pointillistlaw06.PathAll", spec := "pathAll", unfollowed := true, recurses := true, named := ["pointillist/scan.blanks", "pointillist/path.signs", "pointillist/dec.next", "pointillist/dec.ends", "math/bits.divideError", "math/bits.overflowError"], apart := false, laid := [("pointillist/dec.next", laid_pointillist_dec_next), ("pointillist/dec.ends", laid_pointillist_dec_ends), ("pointillist/scan.blanks", laid_pointillist_scan_blanks), ("pointillist/path.signs", laid_pointillist_path_signs)] }
def PathAllSaid : Prop := pathAllRow.holds Tryd.pinned (OpenSpec.ofChange pathAllSpec)

/-- ITS FALSE NEIGHBOUR: 'it returns false'. Refute it at one input. -/
def pathAllWrong : ChangeSpec := { name := "pathAll", fn := fun _ => fun
  | [d1, d2] => { results := [.lit (.bool false)], args := [d1, d2] }
  | _ => none }
def PathAllWrongFalsely : Prop := pathAllRow.holds Tryd.pinned (OpenSpec.ofChange pathAllWrong)

/-- 'pointillistlaw06.PathLong': WHATEVER THE INPUT: true; the input reads as it did. -/
def pathLongSpec : ChangeSpec := { name := "pathLong", fn := fun _ => fun
  | [d1, d2] => { results := [.lit (.bool true)], args := [d1, d2] }
  | _ => none }
def pathLongRow : OpenClaim := { program := "ytjpaapkdbohgeaadoor", sum := "1726dfe9dfd269162a6673fd154c60c99f38e789cd8a0711c22c858a8e4bcdc1", func := "pointillist/pointillistlaw06.PathLong", spec := "pathLong", unfollowed := true, recurses := true, named := ["pointillist/scan.blanks", "pointillist/path.signs", "pointillist/dec.next", "pointillist/dec.ends", "math/bits.divideError", "math/bits.overflowError"], apart := false, laid := [("pointillist/dec.next", laid_pointillist_dec_next), ("pointillist/dec.ends", laid_pointillist_dec_ends), ("pointillist/scan.blanks", laid_pointillist_scan_blanks), ("pointillist/path.signs", laid_pointillist_path_signs)] }
def PathLongSaid : Prop := pathLongRow.holds Tryd.pinned (OpenSpec.ofChange pathLongSpec)

/-- ITS FALSE NEIGHBOUR: 'it returns false'. Refute it at one input. -/
def pathLongWrong : ChangeSpec := { name := "pathLong", fn := fun _ => fun
  | [d1, d2] => { results := [.lit (.bool false)], args := [d1, d2] }
  | _ => none }
def PathLongWrongFalsely : Prop := pathLongRow.holds Tryd.pinned (OpenSpec.ofChange pathLongWrong)

/-- 'pointillistlaw06.PathRights': WHATEVER THE INPUT: true; the input reads as it did. -/
def pathRightsSpec : ChangeSpec := { name := "pathRights", fn := fun _ => fun
  | [d] => { results := [.lit (.bool true)], args := [d] }
  | _ => none }
def pathRightsRow : OpenClaim := { program := "ytjpaapkdbohgeaadoor", sum := "1726dfe9dfd269162a6673fd154c60c99f38e789cd8a0711c22c858a8e4bcdc1", func := "pointillist/pointillistlaw06.PathRights", spec := "pathRights", unfollowed := true, recurses := true, named := ["pointillist/scan.blanks", "pointillist/path.signs", "pointillist/dec.next", "pointillist/dec.ends", "math/bits.divideError", "math/bits.overflowError"], apart := false, laid := [("pointillist/dec.next", laid_pointillist_dec_next), ("pointillist/dec.ends", laid_pointillist_dec_ends), ("pointillist/scan.blanks", laid_pointillist_scan_blanks), ("pointillist/path.signs", laid_pointillist_path_signs)] }
def PathRightsSaid : Prop := pathRightsRow.holds Tryd.pinned (OpenSpec.ofChange pathRightsSpec)

/-- ITS FALSE NEIGHBOUR: 'it returns false'. Refute it at one input. -/
def pathRightsWrong : ChangeSpec := { name := "pathRights", fn := fun _ => fun
  | [d] => { results := [.lit (.bool false)], args := [d] }
  | _ => none }
def PathRightsWrongFalsely : Prop := pathRightsRow.holds Tryd.pinned (OpenSpec.ofChange pathRightsWrong)

/-- 'pointillistlaw06.PathPrints': WHATEVER THE INPUT: true; the input reads as it did. -/
def pathPrintsSpec : ChangeSpec := { name := "pathPrints", fn := fun _ => fun
  | [d] => { results := [.lit (.bool true)], args := [d] }
  | _ => none }
def pathPrintsRow : OpenClaim := { program := "ytjpaapkdbohgeaadoor", sum := "1726dfe9dfd269162a6673fd154c60c99f38e789cd8a0711c22c858a8e4bcdc1", func := "pointillist/pointillistlaw06.PathPrints", spec := "pathPrints", inPlace := ["internal/abi.NoEscape"], unfollowed := true, recurses := true, named := ["pointillist/scan.blanks", "pointillist/path.signs", "pointillist/dec.next", "pointillist/dec.ends", "math/bits.divideError", "math/bits.overflowError", "internal/strconv.uint64pow10", "math/bits.deBruijn32tab", "math/bits.deBruijn64tab"], apart := false, laid := [("math/bits.deBruijn32tab", laid_math_bits_deBruijn32tab), ("math/bits.deBruijn64tab", laid_math_bits_deBruijn64tab), ("internal/strconv.uint64pow10", laid_internal_strconv_uint64pow10), ("pointillist/dec.next", laid_pointillist_dec_next), ("pointillist/dec.ends", laid_pointillist_dec_ends), ("pointillist/scan.blanks", laid_pointillist_scan_blanks), ("pointillist/path.signs", laid_pointillist_path_signs)] }
def PathPrintsSaid : Prop := pathPrintsRow.holds Tryd.pinned (OpenSpec.ofChange pathPrintsSpec)

/-- ITS FALSE NEIGHBOUR: 'it returns false'. Refute it at one input. -/
def pathPrintsWrong : ChangeSpec := { name := "pathPrints", fn := fun _ => fun
  | [d] => { results := [.lit (.bool false)], args := [d] }
  | _ => none }
def PathPrintsWrongFalsely : Prop := pathPrintsRow.holds Tryd.pinned (OpenSpec.ofChange pathPrintsWrong)

/-- 'pointillistlaw06.PathJoins': WHATEVER THE INPUT: true; the input reads as it did. -/
def pathJoinsSpec : ChangeSpec := { name := "pathJoins", fn := fun _ => fun
  | [d1, d2] => { results := [.lit (.bool true)], args := [d1, d2] }
  | _ => none }
def pathJoinsRow : OpenClaim := { program := "ytjpaapkdbohgeaadoor", sum := "1726dfe9dfd269162a6673fd154c60c99f38e789cd8a0711c22c858a8e4bcdc1", func := "pointillist/pointillistlaw06.PathJoins", spec := "pathJoins", inPlace := ["internal/abi.NoEscape"], unfollowed := true, recurses := true, named := ["pointillist/scan.blanks", "pointillist/path.signs", "pointillist/dec.next", "pointillist/dec.ends", "math/bits.divideError", "math/bits.overflowError", "internal/strconv.uint64pow10", "math/bits.deBruijn32tab", "math/bits.deBruijn64tab"], apart := false, laid := [("math/bits.deBruijn32tab", laid_math_bits_deBruijn32tab), ("math/bits.deBruijn64tab", laid_math_bits_deBruijn64tab), ("internal/strconv.uint64pow10", laid_internal_strconv_uint64pow10), ("pointillist/dec.next", laid_pointillist_dec_next), ("pointillist/dec.ends", laid_pointillist_dec_ends), ("pointillist/scan.blanks", laid_pointillist_scan_blanks), ("pointillist/path.signs", laid_pointillist_path_signs)] }
def PathJoinsSaid : Prop := pathJoinsRow.holds Tryd.pinned (OpenSpec.ofChange pathJoinsSpec)

/-- ITS FALSE NEIGHBOUR: 'it returns false'. Refute it at one input. -/
def pathJoinsWrong : ChangeSpec := { name := "pathJoins", fn := fun _ => fun
  | [d1, d2] => { results := [.lit (.bool false)], args := [d1, d2] }
  | _ => none }
def PathJoinsWrongFalsely : Prop := pathJoinsRow.holds Tryd.pinned (OpenSpec.ofChange pathJoinsWrong)

/- THE SECOND FORM. 'bulk': how many values and letters a reading holds, each counted each time it is reached (what is shared counts as often as it is met; a slice's spare places count too). A statement '..UptoSaid' is the law's where the arguments, and the package variables that the reading takes, are together of bulk at most 1048576: NARROWER than '..Said'. Prove '..Said' where nothing that the law and all that it calls make is longer than what came in: it says more and counts as full. Else prove '..UptoSaid'. A law counts once. -/
mutual
def uptoBulk {H : Type} : DataW H → Nat
  | .lit (.string bytes) => bytes.length + 1
  | .lit _ => 1
  | .nil => 1
  | .ptr d => uptoBulk d + 1
  | .slice elems spare => uptoBulkAll elems + uptoBulkAll spare + 1
  | .agg parts => uptoBulkAll parts + 1
  | .iface _ d => uptoBulk d + 1
  | .map entries => uptoBulkEntries entries + 1
  | .held _ => 1
def uptoBulkAll {H : Type} : List (DataW H) → Nat
  | [] => 0
  | d :: r => uptoBulk d + uptoBulkAll r
def uptoBulkEntries {H : Type} : List (Lit × DataW H) → Nat
  | [] => 0
  | x :: r => uptoBulkEntry x + uptoBulkEntries r
def uptoBulkEntry {H : Type} : Lit × DataW H → Nat
  | (.string bytes, d) => bytes.length + uptoBulk d + 1
  | (_, d) => uptoBulk d + 1
 end
def uptoSmall : (H : Type) → List (DataW H) → Bool := fun _ ds => decide (uptoBulkAll ds ≤ 1048576)
def OpenSpec.upto (s : _root_.Go.ChangeSpec) : _root_.Go.OpenSpec := { _root_.Go.OpenSpec.ofChange s with cond := some uptoSmall }

/-- 'pointillistlaw06.PathParses', WHERE WHAT IT READS IS OF BULK AT MOST 1048576: true; the input reads as it did. -/
def pathParsesUptoRow : OpenClaim := { program := "ytjpaapkdbohgeaadoor", sum := "1726dfe9dfd269162a6673fd154c60c99f38e789cd8a0711c22c858a8e4bcdc1", func := "pointillist/pointillistlaw06.PathParses", spec := "pathParses", unfollowed := true, recurses := true, named := ["pointillist/scan.blanks", "pointillist/path.signs", "pointillist/dec.next", "pointillist/dec.ends", "math/bits.divideError", "math/bits.overflowError"], apart := false, laid := [("pointillist/dec.next", laid_pointillist_dec_next), ("pointillist/dec.ends", laid_pointillist_dec_ends), ("pointillist/scan.blanks", laid_pointillist_scan_blanks), ("pointillist/path.signs", laid_pointillist_path_signs)], narrowed := true }
def PathParsesUptoSaid : Prop := pathParsesUptoRow.holds Tryd.pinned (OpenSpec.upto pathParsesSpec)

/-- 'pointillistlaw06.PathCuts', WHERE WHAT IT READS IS OF BULK AT MOST 1048576: true; the input reads as it did. -/
def pathCutsUptoRow : OpenClaim := { program := "ytjpaapkdbohgeaadoor", sum := "1726dfe9dfd269162a6673fd154c60c99f38e789cd8a0711c22c858a8e4bcdc1", func := "pointillist/pointillistlaw06.PathCuts", spec := "pathCuts", unfollowed := true, recurses := true, named := ["pointillist/scan.blanks", "pointillist/path.signs", "pointillist/dec.next", "pointillist/dec.ends", "math/bits.divideError", "math/bits.overflowError"], apart := false, laid := [("pointillist/dec.next", laid_pointillist_dec_next), ("pointillist/dec.ends", laid_pointillist_dec_ends), ("pointillist/scan.blanks", laid_pointillist_scan_blanks), ("pointillist/path.signs", laid_pointillist_path_signs)], narrowed := true }
def PathCutsUptoSaid : Prop := pathCutsUptoRow.holds Tryd.pinned (OpenSpec.upto pathCutsSpec)

/-- 'pointillistlaw06.PathAll', WHERE WHAT IT READS IS OF BULK AT MOST 1048576: true; the input reads as it did. -/
def pathAllUptoRow : OpenClaim := { program := "ytjpaapkdbohgeaadoor", sum := "1726dfe9dfd269162a6673fd154c60c99f38e789cd8a0711c22c858a8e4bcdc1", func := "pointillist/pointillistlaw06.PathAll", spec := "pathAll", unfollowed := true, recurses := true, named := ["pointillist/scan.blanks", "pointillist/path.signs", "pointillist/dec.next", "pointillist/dec.ends", "math/bits.divideError", "math/bits.overflowError"], apart := false, laid := [("pointillist/dec.next", laid_pointillist_dec_next), ("pointillist/dec.ends", laid_pointillist_dec_ends), ("pointillist/scan.blanks", laid_pointillist_scan_blanks), ("pointillist/path.signs", laid_pointillist_path_signs)], narrowed := true }
def PathAllUptoSaid : Prop := pathAllUptoRow.holds Tryd.pinned (OpenSpec.upto pathAllSpec)

/-- 'pointillistlaw06.PathLong', WHERE WHAT IT READS IS OF BULK AT MOST 1048576: true; the input reads as it did. -/
def pathLongUptoRow : OpenClaim := { program := "ytjpaapkdbohgeaadoor", sum := "1726dfe9dfd269162a6673fd154c60c99f38e789cd8a0711c22c858a8e4bcdc1", func := "pointillist/pointillistlaw06.PathLong", spec := "pathLong", unfollowed := true, recurses := true, named := ["pointillist/scan.blanks", "pointillist/path.signs", "pointillist/dec.next", "pointillist/dec.ends", "math/bits.divideError", "math/bits.overflowError"], apart := false, laid := [("pointillist/dec.next", laid_pointillist_dec_next), ("pointillist/dec.ends", laid_pointillist_dec_ends), ("pointillist/scan.blanks", laid_pointillist_scan_blanks), ("pointillist/path.signs", laid_pointillist_path_signs)], narrowed := true }
def PathLongUptoSaid : Prop := pathLongUptoRow.holds Tryd.pinned (OpenSpec.upto pathLongSpec)

/-- 'pointillistlaw06.PathRights', WHERE WHAT IT READS IS OF BULK AT MOST 1048576: true; the input reads as it did. -/
def pathRightsUptoRow : OpenClaim := { program := "ytjpaapkdbohgeaadoor", sum := "1726dfe9dfd269162a6673fd154c60c99f38e789cd8a0711c22c858a8e4bcdc1", func := "pointillist/pointillistlaw06.PathRights", spec := "pathRights", unfollowed := true, recurses := true, named := ["pointillist/scan.blanks", "pointillist/path.signs", "pointillist/dec.next", "pointillist/dec.ends", "math/bits.divideError", "math/bits.overflowError"], apart := false, laid := [("pointillist/dec.next", laid_pointillist_dec_next), ("pointillist/dec.ends", laid_pointillist_dec_ends), ("pointillist/scan.blanks", laid_pointillist_scan_blanks), ("pointillist/path.signs", laid_pointillist_path_signs)], narrowed := true }
def PathRightsUptoSaid : Prop := pathRightsUptoRow.holds Tryd.pinned (OpenSpec.upto pathRightsSpec)

/-- 'pointillistlaw06.PathPrints', WHERE WHAT IT READS IS OF BULK AT MOST 1048576: true; the input reads as it did. -/
def pathPrintsUptoRow : OpenClaim := { program := "ytjpaapkdbohgeaadoor", sum := "1726dfe9dfd269162a6673fd154c60c99f38e789cd8a0711c22c858a8e4bcdc1", func := "pointillist/pointillistlaw06.PathPrints", spec := "pathPrints", inPlace := ["internal/abi.NoEscape"], unfollowed := true, recurses := true, named := ["pointillist/scan.blanks", "pointillist/path.signs", "pointillist/dec.next", "pointillist/dec.ends", "math/bits.divideError", "math/bits.overflowError", "internal/strconv.uint64pow10", "math/bits.deBruijn32tab", "math/bits.deBruijn64tab"], apart := false, laid := [("math/bits.deBruijn32tab", laid_math_bits_deBruijn32tab), ("math/bits.deBruijn64tab", laid_math_bits_deBruijn64tab), ("internal/strconv.uint64pow10", laid_internal_strconv_uint64pow10), ("pointillist/dec.next", laid_pointillist_dec_next), ("pointillist/dec.ends", laid_pointillist_dec_ends), ("pointillist/scan.blanks", laid_pointillist_scan_blanks), ("pointillist/path.signs", laid_pointillist_path_signs)], narrowed := true }
def PathPrintsUptoSaid : Prop := pathPrintsUptoRow.holds Tryd.pinned (OpenSpec.upto pathPrintsSpec)

/-- 'pointillistlaw06.PathJoins', WHERE WHAT IT READS IS OF BULK AT MOST 1048576: true; the input reads as it did. -/
def pathJoinsUptoRow : OpenClaim := { program := "ytjpaapkdbohgeaadoor", sum := "1726dfe9dfd269162a6673fd154c60c99f38e789cd8a0711c22c858a8e4bcdc1", func := "pointillist/pointillistlaw06.PathJoins", spec := "pathJoins", inPlace := ["internal/abi.NoEscape"], unfollowed := true, recurses := true, named := ["pointillist/scan.blanks", "pointillist/path.signs", "pointillist/dec.next", "pointillist/dec.ends", "math/bits.divideError", "math/bits.overflowError", "internal/strconv.uint64pow10", "math/bits.deBruijn32tab", "math/bits.deBruijn64tab"], apart := false, laid := [("math/bits.deBruijn32tab", laid_math_bits_deBruijn32tab), ("math/bits.deBruijn64tab", laid_math_bits_deBruijn64tab), ("internal/strconv.uint64pow10", laid_internal_strconv_uint64pow10), ("pointillist/dec.next", laid_pointillist_dec_next), ("pointillist/dec.ends", laid_pointillist_dec_ends), ("pointillist/scan.blanks", laid_pointillist_scan_blanks), ("pointillist/path.signs", laid_pointillist_path_signs)], narrowed := true }
def PathJoinsUptoSaid : Prop := pathJoinsUptoRow.holds Tryd.pinned (OpenSpec.upto pathJoinsSpec)

end Rows
end Go.Proofs.YtjpaapkdbohgeaaDoor
