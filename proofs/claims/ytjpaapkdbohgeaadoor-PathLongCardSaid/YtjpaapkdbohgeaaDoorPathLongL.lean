/- The given statement 'PathLong' and its card, from the law's contract. No condition. -/
import Derived.Test.YtjpaapkdbohgeaaDoorRows
import Derived.Test.YtjpaapkdbohgeaaDoorCards
import Derived.Test.YtjpaapkdbohgeaaDoorTie
import Derived.WalkKit
import Derived.ProofKit
import Derived.OpenShut
import Derived.ChangeSame
import Derived.ChangeVars
import Derived.JoinedOf
import Derived.LaidLaws
import Derived.LaidHandle
import Derived.Stop.Joined
import Derived.ShutString
import Derived.SevenTiedAt
import Derived.Test.YtjpaapkdbohgeaaDoorL9
set_option linter.unusedSimpArgs false
set_option linter.unusedVariables false
set_option linter.deprecated false
namespace Go.Proofs.YtjpaapkdbohgeaaDoor.pathLong
open Go.Proofs.YtjpaapkdbohgeaaDoor
open Go.ChangeShapes Go.WideShapes Go.ChangeAt Go.RowKit
theorem own : ownKnob Tryd.prog.godebug = none := by kernel_rfl
theorem laidOut : laidOutB Tryd.prog = true := by kernel_rfl
theorem gN3 : Tryd.prog.globalNamed "pointillist/dec.next" = some 3 := by kernel_rfl
theorem gT3 : (Tryd.prog.globals[3]?).map (·.type) = some 133 := by kernel_rfl
def cells3 : List Value := [.int .i64 2, .int .i64 3, .int .i64 0, .int .i64 1, .int .i64 2, .int .i64 3, .int .i64 0, .int .i64 0, .int .i64 2, .int .i64 4, .int .i64 6, .int .i64 0, .int .i64 5, .int .i64 0, .int .i64 0, .int .i64 0, .int .i64 5, .int .i64 0, .int .i64 6, .int .i64 0, .int .i64 5, .int .i64 0, .int .i64 6, .int .i64 0, .int .i64 8, .int .i64 0, .int .i64 0, .int .i64 7, .int .i64 8, .int .i64 0, .int .i64 0, .int .i64 0, .int .i64 8, .int .i64 0, .int .i64 0, .int .i64 0]
theorem gN4 : Tryd.prog.globalNamed "pointillist/dec.ends" = some 4 := by kernel_rfl
theorem gT4 : (Tryd.prog.globals[4]?).map (·.type) = some 134 := by kernel_rfl
def cells4 : List Value := [.int .i64 0, .int .i64 0, .int .i64 1, .int .i64 0, .int .i64 1, .int .i64 1, .int .i64 0, .int .i64 0, .int .i64 1]
theorem gN1 : Tryd.prog.globalNamed "pointillist/scan.blanks" = some 1 := by kernel_rfl
theorem gT1 : (Tryd.prog.globals[1]?).map (·.type) = some 97 := by kernel_rfl
def cells1 : List Value := [.int .i64 0, .int .i64 0, .int .i64 0, .int .i64 0, .int .i64 0, .int .i64 0, .int .i64 0, .int .i64 0, .int .i64 0, .int .i64 1, .int .i64 1, .int .i64 0, .int .i64 0, .int .i64 1, .int .i64 0, .int .i64 0, .int .i64 0, .int .i64 0, .int .i64 0, .int .i64 0, .int .i64 0, .int .i64 0, .int .i64 0, .int .i64 0, .int .i64 0, .int .i64 0, .int .i64 0, .int .i64 0, .int .i64 0, .int .i64 0, .int .i64 0, .int .i64 0, .int .i64 1]
theorem gN0 : Tryd.prog.globalNamed "pointillist/path.signs" = some 0 := by kernel_rfl
theorem gT0 : (Tryd.prog.globals[0]?).map (·.type) = some 85 := by kernel_rfl
def cells0 : List Value := [.int .u8 77, .string ⟨#[110, 110]⟩, .int .u8 76, .string ⟨#[110, 110]⟩, .int .u8 72, .string ⟨#[110]⟩, .int .u8 86, .string ⟨#[110]⟩, .int .u8 67, .string ⟨#[110, 110, 110, 110, 110, 110]⟩, .int .u8 83, .string ⟨#[110, 110, 110, 110]⟩, .int .u8 81, .string ⟨#[110, 110, 110, 110]⟩, .int .u8 84, .string ⟨#[110, 110]⟩, .int .u8 65, .string ⟨#[117, 117, 110, 103, 102, 110, 110]⟩, .int .u8 90, .string ⟨#[]⟩]
theorem readable : ∀ t ∈ Tryd.f6.params.toList, Tryd.prog.readableRec t = true ∧ t < Tryd.prog.types.size := by
  intro t ht
  rw [Tryd.params6] at ht
  simp only [List.mem_cons, List.not_mem_nil, or_false] at ht
  rcases ht with rfl | rfl
  · exact ⟨by kernel_rfl, of_decide_eq_true (by kernel_rfl)⟩
  · exact ⟨by kernel_rfl, of_decide_eq_true (by kernel_rfl)⟩
theorem cells_of3 {W : World} (h : laidMetH Tryd.prog Rows.pathLongRow.laid W) : W.var? Tryd.prog "pointillist/dec.next" = some cells3.toArray :=
  Go.Abs.laid_at h (.head _) gN3 gT3 (by kernel_rfl) rfl
theorem cells_of4 {W : World} (h : laidMetH Tryd.prog Rows.pathLongRow.laid W) : W.var? Tryd.prog "pointillist/dec.ends" = some cells4.toArray :=
  Go.Abs.laid_at h (.tail _ (.head _)) gN4 gT4 (by kernel_rfl) rfl
theorem cells_of1 {W : World} (h : laidMetH Tryd.prog Rows.pathLongRow.laid W) : W.var? Tryd.prog "pointillist/scan.blanks" = some cells1.toArray :=
  Go.Abs.laid_at h (.tail _ (.tail _ (.head _))) gN1 gT1 (by kernel_rfl) rfl
theorem cells_of0 {W : World} (h : laidMetH Tryd.prog Rows.pathLongRow.laid W) : W.var? Tryd.prog "pointillist/path.signs" = some cells0.toArray :=
  Go.Abs.laid_at h (.tail _ (.tail _ (.tail _ (.head _)))) gN0 gT0 (by kernel_rfl) rfl
noncomputable def laidWorld (os : Os) : World :=
  { World.holding Tryd.prog os ⟨#[], #[], []⟩ with heap := (((((World.holding Tryd.prog os ⟨#[], #[], []⟩).heap.modify 3 fun
      | .cells _ t frozen => .cells cells3.toArray t frozen
      | o => o).modify 4 fun
      | .cells _ t frozen => .cells cells4.toArray t frozen
      | o => o).modify 1 fun
      | .cells _ t frozen => .cells cells1.toArray t frozen
      | o => o).modify 0 fun
      | .cells _ t frozen => .cells cells0.toArray t frozen
      | o => o) }
set_option maxRecDepth 100000 in
theorem laid_met (os : Os) (args : Array Value) : laidMetH Tryd.prog Rows.pathLongRow.laid ((laidWorld os).forCall (fun _ _ => 0) ⟨#[], args, []⟩).memory :=
  laidMet_of_run (ps := [.cell 3 0, .cell 3 1, .cell 3 2, .cell 3 3, .cell 3 4, .cell 3 5, .cell 3 6, .cell 3 7, .cell 3 8, .cell 3 9, .cell 3 10, .cell 3 11, .cell 3 12, .cell 3 13, .cell 3 14, .cell 3 15, .cell 3 16, .cell 3 17, .cell 3 18, .cell 3 19, .cell 3 20, .cell 3 21, .cell 3 22, .cell 3 23, .cell 3 24, .cell 3 25, .cell 3 26, .cell 3 27, .cell 3 28, .cell 3 29, .cell 3 30, .cell 3 31, .cell 3 32, .cell 3 33, .cell 3 34, .cell 3 35, .cell 4 0, .cell 4 1, .cell 4 2, .cell 4 3, .cell 4 4, .cell 4 5, .cell 4 6, .cell 4 7, .cell 4 8, .cell 1 0, .cell 1 1, .cell 1 2, .cell 1 3, .cell 1 4, .cell 1 5, .cell 1 6, .cell 1 7, .cell 1 8, .cell 1 9, .cell 1 10, .cell 1 11, .cell 1 12, .cell 1 13, .cell 1 14, .cell 1 15, .cell 1 16, .cell 1 17, .cell 1 18, .cell 1 19, .cell 1 20, .cell 1 21, .cell 1 22, .cell 1 23, .cell 1 24, .cell 1 25, .cell 1 26, .cell 1 27, .cell 1 28, .cell 1 29, .cell 1 30, .cell 1 31, .cell 1 32, .cell 0 0, .cell 0 1, .cell 0 2, .cell 0 3, .cell 0 4, .cell 0 5, .cell 0 6, .cell 0 7, .cell 0 8, .cell 0 9, .cell 0 10, .cell 0 11, .cell 0 12, .cell 0 13, .cell 0 14, .cell 0 15, .cell 0 16, .cell 0 17, .cell 0 18, .cell 0 19]) 8 (by kernel_rfl) (by kernel_rfl) (by kernel_rfl)
set_option maxRecDepth 100000 in
theorem vri3 {w : World} (hvar : w.var? Tryd.prog "pointillist/dec.next" = some cells3.toArray) {cs : List Go.Abs.AV} (h : seat.G 3 = some cs) : Go.Abs.VRI (Go.Abs.Env.bare (Go.Abs.immAll w) w) cs 3 0 := by
  cases h
  have k0 : w.cell? ⟨3, 0, none⟩ = some (.int .i64 2) := World.var?_cell gN3 hvar 0
  have k1 : w.cell? ⟨3, 1, none⟩ = some (.int .i64 3) := World.var?_cell gN3 hvar 1
  have k2 : w.cell? ⟨3, 2, none⟩ = some (.int .i64 0) := World.var?_cell gN3 hvar 2
  have k3 : w.cell? ⟨3, 3, none⟩ = some (.int .i64 1) := World.var?_cell gN3 hvar 3
  have k4 : w.cell? ⟨3, 4, none⟩ = some (.int .i64 2) := World.var?_cell gN3 hvar 4
  have k5 : w.cell? ⟨3, 5, none⟩ = some (.int .i64 3) := World.var?_cell gN3 hvar 5
  have k6 : w.cell? ⟨3, 6, none⟩ = some (.int .i64 0) := World.var?_cell gN3 hvar 6
  have k7 : w.cell? ⟨3, 7, none⟩ = some (.int .i64 0) := World.var?_cell gN3 hvar 7
  have k8 : w.cell? ⟨3, 8, none⟩ = some (.int .i64 2) := World.var?_cell gN3 hvar 8
  have k9 : w.cell? ⟨3, 9, none⟩ = some (.int .i64 4) := World.var?_cell gN3 hvar 9
  have k10 : w.cell? ⟨3, 10, none⟩ = some (.int .i64 6) := World.var?_cell gN3 hvar 10
  have k11 : w.cell? ⟨3, 11, none⟩ = some (.int .i64 0) := World.var?_cell gN3 hvar 11
  have k12 : w.cell? ⟨3, 12, none⟩ = some (.int .i64 5) := World.var?_cell gN3 hvar 12
  have k13 : w.cell? ⟨3, 13, none⟩ = some (.int .i64 0) := World.var?_cell gN3 hvar 13
  have k14 : w.cell? ⟨3, 14, none⟩ = some (.int .i64 0) := World.var?_cell gN3 hvar 14
  have k15 : w.cell? ⟨3, 15, none⟩ = some (.int .i64 0) := World.var?_cell gN3 hvar 15
  have k16 : w.cell? ⟨3, 16, none⟩ = some (.int .i64 5) := World.var?_cell gN3 hvar 16
  have k17 : w.cell? ⟨3, 17, none⟩ = some (.int .i64 0) := World.var?_cell gN3 hvar 17
  have k18 : w.cell? ⟨3, 18, none⟩ = some (.int .i64 6) := World.var?_cell gN3 hvar 18
  have k19 : w.cell? ⟨3, 19, none⟩ = some (.int .i64 0) := World.var?_cell gN3 hvar 19
  have k20 : w.cell? ⟨3, 20, none⟩ = some (.int .i64 5) := World.var?_cell gN3 hvar 20
  have k21 : w.cell? ⟨3, 21, none⟩ = some (.int .i64 0) := World.var?_cell gN3 hvar 21
  have k22 : w.cell? ⟨3, 22, none⟩ = some (.int .i64 6) := World.var?_cell gN3 hvar 22
  have k23 : w.cell? ⟨3, 23, none⟩ = some (.int .i64 0) := World.var?_cell gN3 hvar 23
  have k24 : w.cell? ⟨3, 24, none⟩ = some (.int .i64 8) := World.var?_cell gN3 hvar 24
  have k25 : w.cell? ⟨3, 25, none⟩ = some (.int .i64 0) := World.var?_cell gN3 hvar 25
  have k26 : w.cell? ⟨3, 26, none⟩ = some (.int .i64 0) := World.var?_cell gN3 hvar 26
  have k27 : w.cell? ⟨3, 27, none⟩ = some (.int .i64 7) := World.var?_cell gN3 hvar 27
  have k28 : w.cell? ⟨3, 28, none⟩ = some (.int .i64 8) := World.var?_cell gN3 hvar 28
  have k29 : w.cell? ⟨3, 29, none⟩ = some (.int .i64 0) := World.var?_cell gN3 hvar 29
  have k30 : w.cell? ⟨3, 30, none⟩ = some (.int .i64 0) := World.var?_cell gN3 hvar 30
  have k31 : w.cell? ⟨3, 31, none⟩ = some (.int .i64 0) := World.var?_cell gN3 hvar 31
  have k32 : w.cell? ⟨3, 32, none⟩ = some (.int .i64 8) := World.var?_cell gN3 hvar 32
  have k33 : w.cell? ⟨3, 33, none⟩ = some (.int .i64 0) := World.var?_cell gN3 hvar 33
  have k34 : w.cell? ⟨3, 34, none⟩ = some (.int .i64 0) := World.var?_cell gN3 hvar 34
  have k35 : w.cell? ⟨3, 35, none⟩ = some (.int .i64 0) := World.var?_cell gN3 hvar 35
  simp only [Go.Abs.VRI, Go.Abs.VR]
  exact ⟨⟨_, k0, rfl⟩, ⟨_, k1, rfl⟩, ⟨_, k2, rfl⟩, ⟨_, k3, rfl⟩, ⟨_, k4, rfl⟩, ⟨_, k5, rfl⟩, ⟨_, k6, rfl⟩, ⟨_, k7, rfl⟩, ⟨_, k8, rfl⟩, ⟨_, k9, rfl⟩, ⟨_, k10, rfl⟩, ⟨_, k11, rfl⟩, ⟨_, k12, rfl⟩, ⟨_, k13, rfl⟩, ⟨_, k14, rfl⟩, ⟨_, k15, rfl⟩, ⟨_, k16, rfl⟩, ⟨_, k17, rfl⟩, ⟨_, k18, rfl⟩, ⟨_, k19, rfl⟩, ⟨_, k20, rfl⟩, ⟨_, k21, rfl⟩, ⟨_, k22, rfl⟩, ⟨_, k23, rfl⟩, ⟨_, k24, rfl⟩, ⟨_, k25, rfl⟩, ⟨_, k26, rfl⟩, ⟨_, k27, rfl⟩, ⟨_, k28, rfl⟩, ⟨_, k29, rfl⟩, ⟨_, k30, rfl⟩, ⟨_, k31, rfl⟩, ⟨_, k32, rfl⟩, ⟨_, k33, rfl⟩, ⟨_, k34, rfl⟩, ⟨_, k35, rfl⟩, trivial⟩
set_option maxRecDepth 100000 in
theorem vri4 {w : World} (hvar : w.var? Tryd.prog "pointillist/dec.ends" = some cells4.toArray) {cs : List Go.Abs.AV} (h : seat.G 4 = some cs) : Go.Abs.VRI (Go.Abs.Env.bare (Go.Abs.immAll w) w) cs 4 0 := by
  cases h
  have k0 : w.cell? ⟨4, 0, none⟩ = some (.int .i64 0) := World.var?_cell gN4 hvar 0
  have k1 : w.cell? ⟨4, 1, none⟩ = some (.int .i64 0) := World.var?_cell gN4 hvar 1
  have k2 : w.cell? ⟨4, 2, none⟩ = some (.int .i64 1) := World.var?_cell gN4 hvar 2
  have k3 : w.cell? ⟨4, 3, none⟩ = some (.int .i64 0) := World.var?_cell gN4 hvar 3
  have k4 : w.cell? ⟨4, 4, none⟩ = some (.int .i64 1) := World.var?_cell gN4 hvar 4
  have k5 : w.cell? ⟨4, 5, none⟩ = some (.int .i64 1) := World.var?_cell gN4 hvar 5
  have k6 : w.cell? ⟨4, 6, none⟩ = some (.int .i64 0) := World.var?_cell gN4 hvar 6
  have k7 : w.cell? ⟨4, 7, none⟩ = some (.int .i64 0) := World.var?_cell gN4 hvar 7
  have k8 : w.cell? ⟨4, 8, none⟩ = some (.int .i64 1) := World.var?_cell gN4 hvar 8
  simp only [Go.Abs.VRI, Go.Abs.VR]
  exact ⟨⟨_, k0, rfl⟩, ⟨_, k1, rfl⟩, ⟨_, k2, rfl⟩, ⟨_, k3, rfl⟩, ⟨_, k4, rfl⟩, ⟨_, k5, rfl⟩, ⟨_, k6, rfl⟩, ⟨_, k7, rfl⟩, ⟨_, k8, rfl⟩, trivial⟩
set_option maxRecDepth 100000 in
theorem vri1 {w : World} (hvar : w.var? Tryd.prog "pointillist/scan.blanks" = some cells1.toArray) {cs : List Go.Abs.AV} (h : seat.G 1 = some cs) : Go.Abs.VRI (Go.Abs.Env.bare (Go.Abs.immAll w) w) cs 1 0 := by
  cases h
  have k0 : w.cell? ⟨1, 0, none⟩ = some (.int .i64 0) := World.var?_cell gN1 hvar 0
  have k1 : w.cell? ⟨1, 1, none⟩ = some (.int .i64 0) := World.var?_cell gN1 hvar 1
  have k2 : w.cell? ⟨1, 2, none⟩ = some (.int .i64 0) := World.var?_cell gN1 hvar 2
  have k3 : w.cell? ⟨1, 3, none⟩ = some (.int .i64 0) := World.var?_cell gN1 hvar 3
  have k4 : w.cell? ⟨1, 4, none⟩ = some (.int .i64 0) := World.var?_cell gN1 hvar 4
  have k5 : w.cell? ⟨1, 5, none⟩ = some (.int .i64 0) := World.var?_cell gN1 hvar 5
  have k6 : w.cell? ⟨1, 6, none⟩ = some (.int .i64 0) := World.var?_cell gN1 hvar 6
  have k7 : w.cell? ⟨1, 7, none⟩ = some (.int .i64 0) := World.var?_cell gN1 hvar 7
  have k8 : w.cell? ⟨1, 8, none⟩ = some (.int .i64 0) := World.var?_cell gN1 hvar 8
  have k9 : w.cell? ⟨1, 9, none⟩ = some (.int .i64 1) := World.var?_cell gN1 hvar 9
  have k10 : w.cell? ⟨1, 10, none⟩ = some (.int .i64 1) := World.var?_cell gN1 hvar 10
  have k11 : w.cell? ⟨1, 11, none⟩ = some (.int .i64 0) := World.var?_cell gN1 hvar 11
  have k12 : w.cell? ⟨1, 12, none⟩ = some (.int .i64 0) := World.var?_cell gN1 hvar 12
  have k13 : w.cell? ⟨1, 13, none⟩ = some (.int .i64 1) := World.var?_cell gN1 hvar 13
  have k14 : w.cell? ⟨1, 14, none⟩ = some (.int .i64 0) := World.var?_cell gN1 hvar 14
  have k15 : w.cell? ⟨1, 15, none⟩ = some (.int .i64 0) := World.var?_cell gN1 hvar 15
  have k16 : w.cell? ⟨1, 16, none⟩ = some (.int .i64 0) := World.var?_cell gN1 hvar 16
  have k17 : w.cell? ⟨1, 17, none⟩ = some (.int .i64 0) := World.var?_cell gN1 hvar 17
  have k18 : w.cell? ⟨1, 18, none⟩ = some (.int .i64 0) := World.var?_cell gN1 hvar 18
  have k19 : w.cell? ⟨1, 19, none⟩ = some (.int .i64 0) := World.var?_cell gN1 hvar 19
  have k20 : w.cell? ⟨1, 20, none⟩ = some (.int .i64 0) := World.var?_cell gN1 hvar 20
  have k21 : w.cell? ⟨1, 21, none⟩ = some (.int .i64 0) := World.var?_cell gN1 hvar 21
  have k22 : w.cell? ⟨1, 22, none⟩ = some (.int .i64 0) := World.var?_cell gN1 hvar 22
  have k23 : w.cell? ⟨1, 23, none⟩ = some (.int .i64 0) := World.var?_cell gN1 hvar 23
  have k24 : w.cell? ⟨1, 24, none⟩ = some (.int .i64 0) := World.var?_cell gN1 hvar 24
  have k25 : w.cell? ⟨1, 25, none⟩ = some (.int .i64 0) := World.var?_cell gN1 hvar 25
  have k26 : w.cell? ⟨1, 26, none⟩ = some (.int .i64 0) := World.var?_cell gN1 hvar 26
  have k27 : w.cell? ⟨1, 27, none⟩ = some (.int .i64 0) := World.var?_cell gN1 hvar 27
  have k28 : w.cell? ⟨1, 28, none⟩ = some (.int .i64 0) := World.var?_cell gN1 hvar 28
  have k29 : w.cell? ⟨1, 29, none⟩ = some (.int .i64 0) := World.var?_cell gN1 hvar 29
  have k30 : w.cell? ⟨1, 30, none⟩ = some (.int .i64 0) := World.var?_cell gN1 hvar 30
  have k31 : w.cell? ⟨1, 31, none⟩ = some (.int .i64 0) := World.var?_cell gN1 hvar 31
  have k32 : w.cell? ⟨1, 32, none⟩ = some (.int .i64 1) := World.var?_cell gN1 hvar 32
  simp only [Go.Abs.VRI, Go.Abs.VR]
  exact ⟨⟨_, k0, rfl⟩, ⟨_, k1, rfl⟩, ⟨_, k2, rfl⟩, ⟨_, k3, rfl⟩, ⟨_, k4, rfl⟩, ⟨_, k5, rfl⟩, ⟨_, k6, rfl⟩, ⟨_, k7, rfl⟩, ⟨_, k8, rfl⟩, ⟨_, k9, rfl⟩, ⟨_, k10, rfl⟩, ⟨_, k11, rfl⟩, ⟨_, k12, rfl⟩, ⟨_, k13, rfl⟩, ⟨_, k14, rfl⟩, ⟨_, k15, rfl⟩, ⟨_, k16, rfl⟩, ⟨_, k17, rfl⟩, ⟨_, k18, rfl⟩, ⟨_, k19, rfl⟩, ⟨_, k20, rfl⟩, ⟨_, k21, rfl⟩, ⟨_, k22, rfl⟩, ⟨_, k23, rfl⟩, ⟨_, k24, rfl⟩, ⟨_, k25, rfl⟩, ⟨_, k26, rfl⟩, ⟨_, k27, rfl⟩, ⟨_, k28, rfl⟩, ⟨_, k29, rfl⟩, ⟨_, k30, rfl⟩, ⟨_, k31, rfl⟩, ⟨_, k32, rfl⟩, trivial⟩
set_option maxRecDepth 100000 in
theorem vri0 {w : World} (hvar : w.var? Tryd.prog "pointillist/path.signs" = some cells0.toArray) {cs : List Go.Abs.AV} (h : seat.G 0 = some cs) : Go.Abs.VRI (Go.Abs.Env.bare (Go.Abs.immAll w) w) cs 0 0 := by
  cases h
  have k0 : w.cell? ⟨0, 0, none⟩ = some (.int .u8 77) := World.var?_cell gN0 hvar 0
  have k1 : w.cell? ⟨0, 1, none⟩ = some (.string ⟨#[110, 110]⟩) := World.var?_cell gN0 hvar 1
  have k2 : w.cell? ⟨0, 2, none⟩ = some (.int .u8 76) := World.var?_cell gN0 hvar 2
  have k3 : w.cell? ⟨0, 3, none⟩ = some (.string ⟨#[110, 110]⟩) := World.var?_cell gN0 hvar 3
  have k4 : w.cell? ⟨0, 4, none⟩ = some (.int .u8 72) := World.var?_cell gN0 hvar 4
  have k5 : w.cell? ⟨0, 5, none⟩ = some (.string ⟨#[110]⟩) := World.var?_cell gN0 hvar 5
  have k6 : w.cell? ⟨0, 6, none⟩ = some (.int .u8 86) := World.var?_cell gN0 hvar 6
  have k7 : w.cell? ⟨0, 7, none⟩ = some (.string ⟨#[110]⟩) := World.var?_cell gN0 hvar 7
  have k8 : w.cell? ⟨0, 8, none⟩ = some (.int .u8 67) := World.var?_cell gN0 hvar 8
  have k9 : w.cell? ⟨0, 9, none⟩ = some (.string ⟨#[110, 110, 110, 110, 110, 110]⟩) := World.var?_cell gN0 hvar 9
  have k10 : w.cell? ⟨0, 10, none⟩ = some (.int .u8 83) := World.var?_cell gN0 hvar 10
  have k11 : w.cell? ⟨0, 11, none⟩ = some (.string ⟨#[110, 110, 110, 110]⟩) := World.var?_cell gN0 hvar 11
  have k12 : w.cell? ⟨0, 12, none⟩ = some (.int .u8 81) := World.var?_cell gN0 hvar 12
  have k13 : w.cell? ⟨0, 13, none⟩ = some (.string ⟨#[110, 110, 110, 110]⟩) := World.var?_cell gN0 hvar 13
  have k14 : w.cell? ⟨0, 14, none⟩ = some (.int .u8 84) := World.var?_cell gN0 hvar 14
  have k15 : w.cell? ⟨0, 15, none⟩ = some (.string ⟨#[110, 110]⟩) := World.var?_cell gN0 hvar 15
  have k16 : w.cell? ⟨0, 16, none⟩ = some (.int .u8 65) := World.var?_cell gN0 hvar 16
  have k17 : w.cell? ⟨0, 17, none⟩ = some (.string ⟨#[117, 117, 110, 103, 102, 110, 110]⟩) := World.var?_cell gN0 hvar 17
  have k18 : w.cell? ⟨0, 18, none⟩ = some (.int .u8 90) := World.var?_cell gN0 hvar 18
  have k19 : w.cell? ⟨0, 19, none⟩ = some (.string ⟨#[]⟩) := World.var?_cell gN0 hvar 19
  simp only [Go.Abs.VRI, Go.Abs.VR]
  exact ⟨⟨_, k0, rfl⟩, ⟨_, k1, rfl⟩, ⟨_, k2, rfl⟩, ⟨_, k3, rfl⟩, ⟨_, k4, rfl⟩, ⟨_, k5, rfl⟩, ⟨_, k6, rfl⟩, ⟨_, k7, rfl⟩, ⟨_, k8, rfl⟩, ⟨_, k9, rfl⟩, ⟨_, k10, rfl⟩, ⟨_, k11, rfl⟩, ⟨_, k12, rfl⟩, ⟨_, k13, rfl⟩, ⟨_, k14, rfl⟩, ⟨_, k15, rfl⟩, ⟨_, k16, rfl⟩, ⟨_, k17, rfl⟩, ⟨_, k18, rfl⟩, ⟨_, k19, rfl⟩, trivial⟩
theorem globs_ok {w : World} (hvar3 : w.var? Tryd.prog "pointillist/dec.next" = some cells3.toArray) (hvar4 : w.var? Tryd.prog "pointillist/dec.ends" = some cells4.toArray) (hvar1 : w.var? Tryd.prog "pointillist/scan.blanks" = some cells1.toArray) (hvar0 : w.var? Tryd.prog "pointillist/path.signs" = some cells0.toArray) : ∀ g cs, seat.G g = some cs → Go.Abs.VRI (Go.Abs.Env.bare (Go.Abs.immAll w) w) cs g 0 := by
  intro g cs h
  match g, h with
  | 0, h => exact vri0 hvar0 h
  | 1, h => exact vri1 hvar1 h
  | 2, h => cases h
  | 3, h => exact vri3 hvar3 h
  | 4, h => exact vri4 hvar4 h
  | g + 5, h => cases g <;> cases h
set_option maxRecDepth 100000 in
theorem lifted (os : Os) (started : os.Started) (H : Type) (enc : TypeId × Value → H) :
    ReturnsInHanded {} Tryd.checked os 6 .any (fun w args => (Rows.pathLongSpec.pre enc Tryd.prog Tryd.f6 [] false w args ∧ laidMetH Tryd.prog Rows.pathLongRow.laid w) ∧ sizedMet enc Tryd.prog Tryd.f6 (OpenSpec.ofChange Rows.pathLongSpec) false w args)
      (Rows.pathLongSpec.post enc Tryd.prog Tryd.f6 false true false false) := by
  refine returnsInHanded_of_change_and (C := Tryd.checked) (X := fun w _ => laidMetH Tryd.prog Rows.pathLongRow.laid w) (fun _ _ _ hh h => h.of_heap hh) own started (by kernel_rfl) Tryd.func6
    (ChangeSpec.witness_at (enc := enc) (C := Tryd.checked) (os := os) (X := fun w _ => laidMetH Tryd.prog Rows.pathLongRow.laid w) false (laidWorld os) #[.int .u8 0, .int .u8 0] 8 rfl (by kernel_rfl) (by kernel_rfl) (by kernel_rfl) (by kernel_rfl) (by kernel_rfl) (laid_met os _)) ?_
  intro W base args ds gs before hval0 hW _ _ hL _
  have hval : ∀ (j : Nat) t v, Tryd.f6.params[j]? = some t → args[j]? = some v → Value.okWide Tryd.prog W .any base t v := hval0
  have hW' := hW
  obtain ⟨p, q, hA0, hV, rfl, hfz, hnd⟩ := hW
  have hA : DataW.TrodAll enc Tryd.prog W 0 (fun _ => true) true Tryd.f6.params.toList args.toList ds p := hA0
  rw [Tryd.params6] at hA hval
  obtain ⟨v0, vs0, d0, ds0, p0, q0, hargs, rfl, rfl, h0, r0⟩ := trodAll_cons hA
  obtain ⟨v1, vs1, d1, ds1, p1, q1, rfl, rfl, rfl, h1, r1⟩ := trodAll_cons r0
  obtain ⟨rfl, rfl, rfl⟩ := trodAll_nil r1
  obtain rfl : args = #[v0, v1] := by cases args; simp_all
  obtain ⟨rfl, rfl⟩ := trodVars_none hV
  obtain ⟨x0, rfl, rfl, rfl, k0⟩ := open_int Tryd.underlying5 (hval 0 5 v0 rfl rfl) h0
  obtain ⟨x1, rfl, rfl, rfl, k1⟩ := open_int Tryd.underlying5 (hval 1 5 v1 rfl rfl) h1
  have hc := Go.Abs.ACalls.top (S := seat) (v := .bool true) (u := .bool true) (l_pathLong' x0 x1 k0 k1) (fun _ _ h => by simpa only [Go.Abs.VR] using h) Tryd.func6 rfl rfl (imm := Go.Abs.immAll W) (w := W)
    (Go.Abs.immAll_ok W) (globs_ok (cells_of3 hL) (cells_of4 hL) (cells_of1 hL) (cells_of0 hL)) (Go.Abs.VRL.cons (Go.Abs.vr_int _ _ _) (Go.Abs.VRL.cons (Go.Abs.vr_int _ _ _) (Go.Abs.VRL.nil)))
  refine hc.mono fun e W' ⟨he, hg⟩ => ?_
  subst he
  exact ⟨_, rfl, Go.Abs.law_post laidOut Tryd.underlying4 rfl rfl readable ⟨rfl, rfl, rfl⟩ hW' hg⟩
theorem over : Rows.PathLongSaid :=
  OpenClaim.holds_of_wide 6 Tryd.f6 rfl rfl rfl rfl rfl rfl rfl ⟨rfl, rfl, rfl, rfl, rfl⟩ rfl rfl rfl rfl rfl (by kernel_rfl) Tryd.func6 (by kernel_rfl)
    (of_decide_eq_true (by kernel_rfl)) (by unfold Func.isWrapper; first | (rw [if_pos (by decide +kernel)]; kernel_rfl) | (rw [if_neg (by decide +kernel)]; exact ⟨rfl, rfl⟩))
    (fun os started H enc _ => lifted os started H enc)
theorem proved : Rows.PathLongCardSaid :=
  Claim7.holds_tied_plain_at .later [] [.data, .data, .data, .widerDeep] true (true, "1294b80429f1b28c4762efa009cb69da7cf611f31a9049b469ca0e3064ecbf6d") false
    over (fun _ h => by cases h) (by kernel_rfl) (fun _ h => by cases h) pathLong_row_tie rfl ⟨rfl, rfl⟩ (by kernel_rfl) rfl
    (fun f fn hf hfn => by
      obtain rfl : f = 6 := Option.some.inj ((show Tryd.prog.funcNamed "pointillist/pointillistlaw06.PathLong" = some 6 by kernel_rfl).symm.trans hf) |>.symm
      obtain rfl : fn = Tryd.f6 := (Option.some.inj (Tryd.func6.symm.trans hfn)).symm
      exact ⟨by kernel_rfl, fun j t ht => by
        rw [Tryd.params6] at ht
        have hmem : t ∈ [5, 5] := by simpa using Array.mem_of_getElem? ht
        simp only [List.mem_cons, List.not_mem_nil, or_false] at hmem
        rcases hmem with rfl | rfl
        · exact (show Tryd.prog.wantsStandIn 5 = false by kernel_rfl)
        · exact (show Tryd.prog.wantsStandIn 5 = false by kernel_rfl)
      ⟩)
    (by kernel_rfl)
#print axioms proved
end Go.Proofs.YtjpaapkdbohgeaaDoor.pathLong
