/-
  No cell of these rows narrows 'for every input' (looked for: loops, veiled, ifaces, maps, wideKeys, modest, calm, conditions, laid).
  DERIVED. THE GIVEN ROWS OF THIS SEAT. 5 by the template 'for every input the law returns true; each argument reads behind the call as it read before'; 0 by the template 'total and deterministic' (their statements: YtflibnlbkffilaaTotals.lean).
  GIVEN WITH THE SEED: the statements are not yours to turn. If you find one false, say at which input.
  Laid BY PROGRAM, IN A SANDBOX (cutbox-rows.mjs): the forced cells as the released guide's own fill.sh prints them over the translation 4f32bce71184d526… (all of the seat's roots in one cut). By AI agents, Wed Nov 11 2026. No macro, syntax, notation, axiom, sorry.
-/
import Derived.Test.YtflibnlbkffilaaChecked
import GoSem.Claim
import GoSem.ClaimJoined
import GoSem.ClaimMapViews
import Derived.JoinedTies
import Derived.KernelRfl
namespace Go.Proofs.Ytflibnlbkffilaa
/- THE CELL 'sum', in the pinned program and in every row, IS THE sha256 OF THE DUMP (.gsa) THAT YtflibnlbkffilaaProg.lean LOADS. Nothing in Lean hashes anything: it is a label: what it is worth is what the hold of that sum in a sandbox is worth. -/
noncomputable def Try.pinned : Pinned := { name := "ytflibnlbkffilaa", sum := "4f32bce71184d52634887550ce88e7e7b04bc2d64923afeb75d7fe6d5dbf937b", checked := Try.checked }
namespace Rows
def none {H : Type} : Left H := { results := [], args := [] }

/-- 'pointillistlaw26.WindPasses': WHATEVER THE INPUT: true; the input reads as it did. -/
def windPassesSpec : ChangeSpec := { name := "windPasses", fn := fun _ => fun
  | [d1, d2] => { results := [.lit (.bool true)], args := [d1, d2] }
  | _ => none }
def windPassesRow : OpenClaim := { program := "ytflibnlbkffilaa", sum := "4f32bce71184d52634887550ce88e7e7b04bc2d64923afeb75d7fe6d5dbf937b", func := "pointillist/pointillistlaw26.WindPasses", spec := "windPasses", inPlace := ["math/bits.Add64"], apart := false }
def WindPassesSaid : Prop := windPassesRow.holds Try.pinned (OpenSpec.ofChange windPassesSpec)

/-- ITS FALSE NEIGHBOUR: 'it returns false'. Refute it at one input. -/
def windPassesWrong : ChangeSpec := { name := "windPasses", fn := fun _ => fun
  | [d1, d2] => { results := [.lit (.bool false)], args := [d1, d2] }
  | _ => none }
def WindPassesWrongFalsely : Prop := windPassesRow.holds Try.pinned (OpenSpec.ofChange windPassesWrong)

/-- 'pointillistlaw26.WindOutside': WHATEVER THE INPUT: true; the input reads as it did. -/
def windOutsideSpec : ChangeSpec := { name := "windOutside", fn := fun _ => fun
  | [d1, d2, d3] => { results := [.lit (.bool true)], args := [d1, d2, d3] }
  | _ => none }
def windOutsideRow : OpenClaim := { program := "ytflibnlbkffilaa", sum := "4f32bce71184d52634887550ce88e7e7b04bc2d64923afeb75d7fe6d5dbf937b", func := "pointillist/pointillistlaw26.WindOutside", spec := "windOutside", inPlace := ["math/bits.Add64"], apart := false }
def WindOutsideSaid : Prop := windOutsideRow.holds Try.pinned (OpenSpec.ofChange windOutsideSpec)

/-- ITS FALSE NEIGHBOUR: 'it returns false'. Refute it at one input. -/
def windOutsideWrong : ChangeSpec := { name := "windOutside", fn := fun _ => fun
  | [d1, d2, d3] => { results := [.lit (.bool false)], args := [d1, d2, d3] }
  | _ => none }
def WindOutsideWrongFalsely : Prop := windOutsideRow.holds Try.pinned (OpenSpec.ofChange windOutsideWrong)

/-- 'pointillistlaw26.WindCuts': WHATEVER THE INPUT: true; the input reads as it did. -/
def windCutsSpec : ChangeSpec := { name := "windCuts", fn := fun _ => fun
  | [d] => { results := [.lit (.bool true)], args := [d] }
  | _ => none }
def windCutsRow : OpenClaim := { program := "ytflibnlbkffilaa", sum := "4f32bce71184d52634887550ce88e7e7b04bc2d64923afeb75d7fe6d5dbf937b", func := "pointillist/pointillistlaw26.WindCuts", spec := "windCuts", inPlace := ["math/bits.Add64"], apart := false }
def WindCutsSaid : Prop := windCutsRow.holds Try.pinned (OpenSpec.ofChange windCutsSpec)

/-- ITS FALSE NEIGHBOUR: 'it returns false'. Refute it at one input. -/
def windCutsWrong : ChangeSpec := { name := "windCuts", fn := fun _ => fun
  | [d] => { results := [.lit (.bool false)], args := [d] }
  | _ => none }
def WindCutsWrongFalsely : Prop := windCutsRow.holds Try.pinned (OpenSpec.ofChange windCutsWrong)

/-- 'pointillistlaw26.WindNumbers': WHATEVER THE INPUT: true; the input reads as it did. -/
def windNumbersSpec : ChangeSpec := { name := "windNumbers", fn := fun _ => fun
  | [d1, d2, d3] => { results := [.lit (.bool true)], args := [d1, d2, d3] }
  | _ => none }
def windNumbersRow : OpenClaim := { program := "ytflibnlbkffilaa", sum := "4f32bce71184d52634887550ce88e7e7b04bc2d64923afeb75d7fe6d5dbf937b", func := "pointillist/pointillistlaw26.WindNumbers", spec := "windNumbers", inPlace := ["math/bits.Add64"], apart := false }
def WindNumbersSaid : Prop := windNumbersRow.holds Try.pinned (OpenSpec.ofChange windNumbersSpec)

/-- ITS FALSE NEIGHBOUR: 'it returns false'. Refute it at one input. -/
def windNumbersWrong : ChangeSpec := { name := "windNumbers", fn := fun _ => fun
  | [d1, d2, d3] => { results := [.lit (.bool false)], args := [d1, d2, d3] }
  | _ => none }
def WindNumbersWrongFalsely : Prop := windNumbersRow.holds Try.pinned (OpenSpec.ofChange windNumbersWrong)

/-- 'pointillistlaw26.WindAdds': WHATEVER THE INPUT: true; the input reads as it did. -/
def windAddsSpec : ChangeSpec := { name := "windAdds", fn := fun _ => fun
  | [d1, d2, d3] => { results := [.lit (.bool true)], args := [d1, d2, d3] }
  | _ => none }
def windAddsRow : OpenClaim := { program := "ytflibnlbkffilaa", sum := "4f32bce71184d52634887550ce88e7e7b04bc2d64923afeb75d7fe6d5dbf937b", func := "pointillist/pointillistlaw26.WindAdds", spec := "windAdds", inPlace := ["math/bits.Add64"], apart := false }
def WindAddsSaid : Prop := windAddsRow.holds Try.pinned (OpenSpec.ofChange windAddsSpec)

/-- ITS FALSE NEIGHBOUR: 'it returns false'. Refute it at one input. -/
def windAddsWrong : ChangeSpec := { name := "windAdds", fn := fun _ => fun
  | [d1, d2, d3] => { results := [.lit (.bool false)], args := [d1, d2, d3] }
  | _ => none }
def WindAddsWrongFalsely : Prop := windAddsRow.holds Try.pinned (OpenSpec.ofChange windAddsWrong)

/- THE SECOND FORM. 'bulk': how many values and letters a reading holds, each counted each time it is reached (what is shared counts as often as it is met; a slice's spare places count too). A statement '..UptoSaid' is the law's where the arguments, and the package variables that the reading takes, are together of bulk at most 1048576: NARROWER than '..Said'. Prove '..Said' where nothing that the law and all that it calls make is longer than what came in: it says more and counts as full. Else prove '..UptoSaid'. A law counts once. -/
mutual
def uptoBulk {H : Type} : DataW H → Nat
  | .lit (.string bytes) => bytes.length + 1
  | .lit _ => 1
  | .nil => 1
  | .ptr d => uptoBulk d + 1
  | .slice elems spare => uptoBulkAll elems + uptoBulkAll spare + 1
  | .agg parts => uptoBulkAll parts + 1
  | .iface _ d => uptoBulk d + 1
  | .map entries => uptoBulkEntries entries + 1
  | .held _ => 1
def uptoBulkAll {H : Type} : List (DataW H) → Nat
  | [] => 0
  | d :: r => uptoBulk d + uptoBulkAll r
def uptoBulkEntries {H : Type} : List (Lit × DataW H) → Nat
  | [] => 0
  | x :: r => uptoBulkEntry x + uptoBulkEntries r
def uptoBulkEntry {H : Type} : Lit × DataW H → Nat
  | (.string bytes, d) => bytes.length + uptoBulk d + 1
  | (_, d) => uptoBulk d + 1
 end
def uptoSmall : (H : Type) → List (DataW H) → Bool := fun _ ds => decide (uptoBulkAll ds ≤ 1048576)
def OpenSpec.upto (s : _root_.Go.ChangeSpec) : _root_.Go.OpenSpec := { _root_.Go.OpenSpec.ofChange s with cond := some uptoSmall }

/-- 'pointillistlaw26.WindPasses', WHERE WHAT IT READS IS OF BULK AT MOST 1048576: true; the input reads as it did. -/
def windPassesUptoRow : OpenClaim := { program := "ytflibnlbkffilaa", sum := "4f32bce71184d52634887550ce88e7e7b04bc2d64923afeb75d7fe6d5dbf937b", func := "pointillist/pointillistlaw26.WindPasses", spec := "windPasses", inPlace := ["math/bits.Add64"], apart := false, narrowed := true }
def WindPassesUptoSaid : Prop := windPassesUptoRow.holds Try.pinned (OpenSpec.upto windPassesSpec)

/-- 'pointillistlaw26.WindOutside', WHERE WHAT IT READS IS OF BULK AT MOST 1048576: true; the input reads as it did. -/
def windOutsideUptoRow : OpenClaim := { program := "ytflibnlbkffilaa", sum := "4f32bce71184d52634887550ce88e7e7b04bc2d64923afeb75d7fe6d5dbf937b", func := "pointillist/pointillistlaw26.WindOutside", spec := "windOutside", inPlace := ["math/bits.Add64"], apart := false, narrowed := true }
def WindOutsideUptoSaid : Prop := windOutsideUptoRow.holds Try.pinned (OpenSpec.upto windOutsideSpec)

/-- 'pointillistlaw26.WindCuts', WHERE WHAT IT READS IS OF BULK AT MOST 1048576: true; the input reads as it did. -/
def windCutsUptoRow : OpenClaim := { program := "ytflibnlbkffilaa", sum := "4f32bce71184d52634887550ce88e7e7b04bc2d64923afeb75d7fe6d5dbf937b", func := "pointillist/pointillistlaw26.WindCuts", spec := "windCuts", inPlace := ["math/bits.Add64"], apart := false, narrowed := true }
def WindCutsUptoSaid : Prop := windCutsUptoRow.holds Try.pinned (OpenSpec.upto windCutsSpec)

/-- 'pointillistlaw26.WindNumbers', WHERE WHAT IT READS IS OF BULK AT MOST 1048576: true; the input reads as it did. -/
def windNumbersUptoRow : OpenClaim := { program := "ytflibnlbkffilaa", sum := "4f32bce71184d52634887550ce88e7e7b04bc2d64923afeb75d7fe6d5dbf937b", func := "pointillist/pointillistlaw26.WindNumbers", spec := "windNumbers", inPlace := ["math/bits.Add64"], apart := false, narrowed := true }
def WindNumbersUptoSaid : Prop := windNumbersUptoRow.holds Try.pinned (OpenSpec.upto windNumbersSpec)

/-- 'pointillistlaw26.WindAdds', WHERE WHAT IT READS IS OF BULK AT MOST 1048576: true; the input reads as it did. -/
def windAddsUptoRow : OpenClaim := { program := "ytflibnlbkffilaa", sum := "4f32bce71184d52634887550ce88e7e7b04bc2d64923afeb75d7fe6d5dbf937b", func := "pointillist/pointillistlaw26.WindAdds", spec := "windAdds", inPlace := ["math/bits.Add64"], apart := false, narrowed := true }
def WindAddsUptoSaid : Prop := windAddsUptoRow.holds Try.pinned (OpenSpec.upto windAddsSpec)

end Rows
end Go.Proofs.Ytflibnlbkffilaa
