/- The given statement 'NormRights' and its card, from the law's contract. No condition. -/
import Derived.Test.YteicdddheaajlaaDoorRows
import Derived.Test.YteicdddheaajlaaDoorCards
import Derived.Test.YteicdddheaajlaaDoorTie
import Derived.WalkKit
import Derived.ProofKit
import Derived.OpenShut
import Derived.ChangeSame
import Derived.ChangeVars
import Derived.JoinedOf
import Derived.LaidLaws
import Derived.LaidHandle
import Derived.Stop.Joined
import Derived.ShutString
import Derived.SevenTiedAt
import Derived.Test.YteicdddheaajlaaDoorT11
set_option linter.unusedSimpArgs false
set_option linter.unusedVariables false
set_option linter.deprecated false
namespace Go.Proofs.YteicdddheaajlaaDoor.normRights
open Go.Proofs.YteicdddheaajlaaDoor
open Go.ChangeShapes Go.WideShapes Go.ChangeAt Go.RowKit
theorem own : ownKnob Tryd.prog.godebug = none := by kernel_rfl
theorem laidOut : laidOutB Tryd.prog = true := by kernel_rfl
theorem gN2 : Tryd.prog.globalNamed "pointillist/dec.next" = some 2 := by kernel_rfl
theorem gT2 : (Tryd.prog.globals[2]?).map (·.type) = some 137 := by kernel_rfl
def cells2 : List Value := [.int .i64 2, .int .i64 3, .int .i64 0, .int .i64 1, .int .i64 2, .int .i64 3, .int .i64 0, .int .i64 0, .int .i64 2, .int .i64 4, .int .i64 6, .int .i64 0, .int .i64 5, .int .i64 0, .int .i64 0, .int .i64 0, .int .i64 5, .int .i64 0, .int .i64 6, .int .i64 0, .int .i64 5, .int .i64 0, .int .i64 6, .int .i64 0, .int .i64 8, .int .i64 0, .int .i64 0, .int .i64 7, .int .i64 8, .int .i64 0, .int .i64 0, .int .i64 0, .int .i64 8, .int .i64 0, .int .i64 0, .int .i64 0]
theorem gN3 : Tryd.prog.globalNamed "pointillist/dec.ends" = some 3 := by kernel_rfl
theorem gT3 : (Tryd.prog.globals[3]?).map (·.type) = some 138 := by kernel_rfl
def cells3 : List Value := [.int .i64 0, .int .i64 0, .int .i64 1, .int .i64 0, .int .i64 1, .int .i64 1, .int .i64 0, .int .i64 0, .int .i64 1]
theorem gN1 : Tryd.prog.globalNamed "pointillist/scan.blanks" = some 1 := by kernel_rfl
theorem gT1 : (Tryd.prog.globals[1]?).map (·.type) = some 108 := by kernel_rfl
def cells1 : List Value := [.int .i64 0, .int .i64 0, .int .i64 0, .int .i64 0, .int .i64 0, .int .i64 0, .int .i64 0, .int .i64 0, .int .i64 0, .int .i64 1, .int .i64 1, .int .i64 0, .int .i64 0, .int .i64 1, .int .i64 0, .int .i64 0, .int .i64 0, .int .i64 0, .int .i64 0, .int .i64 0, .int .i64 0, .int .i64 0, .int .i64 0, .int .i64 0, .int .i64 0, .int .i64 0, .int .i64 0, .int .i64 0, .int .i64 0, .int .i64 0, .int .i64 0, .int .i64 0, .int .i64 1]
theorem gN0 : Tryd.prog.globalNamed "pointillist/path.signs" = some 0 := by kernel_rfl
theorem gT0 : (Tryd.prog.globals[0]?).map (·.type) = some 104 := by kernel_rfl
def cells0 : List Value := [.int .u8 77, .string ⟨#[110, 110]⟩, .int .u8 76, .string ⟨#[110, 110]⟩, .int .u8 72, .string ⟨#[110]⟩, .int .u8 86, .string ⟨#[110]⟩, .int .u8 67, .string ⟨#[110, 110, 110, 110, 110, 110]⟩, .int .u8 83, .string ⟨#[110, 110, 110, 110]⟩, .int .u8 81, .string ⟨#[110, 110, 110, 110]⟩, .int .u8 84, .string ⟨#[110, 110]⟩, .int .u8 65, .string ⟨#[117, 117, 110, 103, 102, 110, 110]⟩, .int .u8 90, .string ⟨#[]⟩]
theorem readable : ∀ t ∈ Tryd.f6.params.toList, Tryd.prog.readableRec t = true ∧ t < Tryd.prog.types.size := by
  intro t ht
  rw [Tryd.params6] at ht
  simp only [List.mem_cons, List.not_mem_nil, or_false] at ht
  rcases ht with rfl | rfl
  · exact ⟨by kernel_rfl, of_decide_eq_true (by kernel_rfl)⟩
  · exact ⟨by kernel_rfl, of_decide_eq_true (by kernel_rfl)⟩
set_option maxRecDepth 20000 in
theorem cells_of2 {W : World} (h : laidMetH Tryd.prog Rows.normRightsRow.laid W) : W.var? Tryd.prog "pointillist/dec.next" = some cells2.toArray :=
  Go.Abs.laid_at h (.head _) gN2 gT2 (by kernel_rfl) rfl
set_option maxRecDepth 20000 in
theorem cells_of3 {W : World} (h : laidMetH Tryd.prog Rows.normRightsRow.laid W) : W.var? Tryd.prog "pointillist/dec.ends" = some cells3.toArray :=
  Go.Abs.laid_at h (.tail _ (.head _)) gN3 gT3 (by kernel_rfl) rfl
set_option maxRecDepth 20000 in
theorem cells_of1 {W : World} (h : laidMetH Tryd.prog Rows.normRightsRow.laid W) : W.var? Tryd.prog "pointillist/scan.blanks" = some cells1.toArray :=
  Go.Abs.laid_at h (.tail _ (.tail _ (.head _))) gN1 gT1 (by kernel_rfl) rfl
set_option maxRecDepth 20000 in
theorem cells_of0 {W : World} (h : laidMetH Tryd.prog Rows.normRightsRow.laid W) : W.var? Tryd.prog "pointillist/path.signs" = some cells0.toArray :=
  Go.Abs.laid_at h (.tail _ (.tail _ (.tail _ (.head _)))) gN0 gT0 (by kernel_rfl) rfl
noncomputable def laidWorld (os : Os) : World :=
  { World.holding Tryd.prog os ⟨#[], #[], []⟩ with heap := (((((World.holding Tryd.prog os ⟨#[], #[], []⟩).heap.modify 2 fun
      | .cells _ t frozen => .cells cells2.toArray t frozen
      | o => o).modify 3 fun
      | .cells _ t frozen => .cells cells3.toArray t frozen
      | o => o).modify 1 fun
      | .cells _ t frozen => .cells cells1.toArray t frozen
      | o => o).modify 0 fun
      | .cells _ t frozen => .cells cells0.toArray t frozen
      | o => o) }
set_option maxRecDepth 100000 in
theorem laid_met (os : Os) (args : Array Value) : laidMetH Tryd.prog Rows.normRightsRow.laid ((laidWorld os).forCall (fun _ _ => 0) ⟨#[], args, []⟩).memory :=
  laidMet_of_run (ps := [.cell 2 0, .cell 2 1, .cell 2 2, .cell 2 3, .cell 2 4, .cell 2 5, .cell 2 6, .cell 2 7, .cell 2 8, .cell 2 9, .cell 2 10, .cell 2 11, .cell 2 12, .cell 2 13, .cell 2 14, .cell 2 15, .cell 2 16, .cell 2 17, .cell 2 18, .cell 2 19, .cell 2 20, .cell 2 21, .cell 2 22, .cell 2 23, .cell 2 24, .cell 2 25, .cell 2 26, .cell 2 27, .cell 2 28, .cell 2 29, .cell 2 30, .cell 2 31, .cell 2 32, .cell 2 33, .cell 2 34, .cell 2 35, .cell 3 0, .cell 3 1, .cell 3 2, .cell 3 3, .cell 3 4, .cell 3 5, .cell 3 6, .cell 3 7, .cell 3 8, .cell 1 0, .cell 1 1, .cell 1 2, .cell 1 3, .cell 1 4, .cell 1 5, .cell 1 6, .cell 1 7, .cell 1 8, .cell 1 9, .cell 1 10, .cell 1 11, .cell 1 12, .cell 1 13, .cell 1 14, .cell 1 15, .cell 1 16, .cell 1 17, .cell 1 18, .cell 1 19, .cell 1 20, .cell 1 21, .cell 1 22, .cell 1 23, .cell 1 24, .cell 1 25, .cell 1 26, .cell 1 27, .cell 1 28, .cell 1 29, .cell 1 30, .cell 1 31, .cell 1 32, .cell 0 0, .cell 0 1, .cell 0 2, .cell 0 3, .cell 0 4, .cell 0 5, .cell 0 6, .cell 0 7, .cell 0 8, .cell 0 9, .cell 0 10, .cell 0 11, .cell 0 12, .cell 0 13, .cell 0 14, .cell 0 15, .cell 0 16, .cell 0 17, .cell 0 18, .cell 0 19]) 8 (by kernel_rfl) (by kernel_rfl) (by kernel_rfl)
set_option maxRecDepth 100000 in
theorem vri2 {w : World} (hvar : w.var? Tryd.prog "pointillist/dec.next" = some cells2.toArray) {cs : List Go.Abs.AV} (h : seat.G 2 = some cs) : Go.Abs.VRI (Go.Abs.Env.bare (Go.Abs.immAll w) w) cs 2 0 := by
  cases h
  have k0 : w.cell? ⟨2, 0, none⟩ = some (.int .i64 2) := World.var?_cell gN2 hvar 0
  have k1 : w.cell? ⟨2, 1, none⟩ = some (.int .i64 3) := World.var?_cell gN2 hvar 1
  have k2 : w.cell? ⟨2, 2, none⟩ = some (.int .i64 0) := World.var?_cell gN2 hvar 2
  have k3 : w.cell? ⟨2, 3, none⟩ = some (.int .i64 1) := World.var?_cell gN2 hvar 3
  have k4 : w.cell? ⟨2, 4, none⟩ = some (.int .i64 2) := World.var?_cell gN2 hvar 4
  have k5 : w.cell? ⟨2, 5, none⟩ = some (.int .i64 3) := World.var?_cell gN2 hvar 5
  have k6 : w.cell? ⟨2, 6, none⟩ = some (.int .i64 0) := World.var?_cell gN2 hvar 6
  have k7 : w.cell? ⟨2, 7, none⟩ = some (.int .i64 0) := World.var?_cell gN2 hvar 7
  have k8 : w.cell? ⟨2, 8, none⟩ = some (.int .i64 2) := World.var?_cell gN2 hvar 8
  have k9 : w.cell? ⟨2, 9, none⟩ = some (.int .i64 4) := World.var?_cell gN2 hvar 9
  have k10 : w.cell? ⟨2, 10, none⟩ = some (.int .i64 6) := World.var?_cell gN2 hvar 10
  have k11 : w.cell? ⟨2, 11, none⟩ = some (.int .i64 0) := World.var?_cell gN2 hvar 11
  have k12 : w.cell? ⟨2, 12, none⟩ = some (.int .i64 5) := World.var?_cell gN2 hvar 12
  have k13 : w.cell? ⟨2, 13, none⟩ = some (.int .i64 0) := World.var?_cell gN2 hvar 13
  have k14 : w.cell? ⟨2, 14, none⟩ = some (.int .i64 0) := World.var?_cell gN2 hvar 14
  have k15 : w.cell? ⟨2, 15, none⟩ = some (.int .i64 0) := World.var?_cell gN2 hvar 15
  have k16 : w.cell? ⟨2, 16, none⟩ = some (.int .i64 5) := World.var?_cell gN2 hvar 16
  have k17 : w.cell? ⟨2, 17, none⟩ = some (.int .i64 0) := World.var?_cell gN2 hvar 17
  have k18 : w.cell? ⟨2, 18, none⟩ = some (.int .i64 6) := World.var?_cell gN2 hvar 18
  have k19 : w.cell? ⟨2, 19, none⟩ = some (.int .i64 0) := World.var?_cell gN2 hvar 19
  have k20 : w.cell? ⟨2, 20, none⟩ = some (.int .i64 5) := World.var?_cell gN2 hvar 20
  have k21 : w.cell? ⟨2, 21, none⟩ = some (.int .i64 0) := World.var?_cell gN2 hvar 21
  have k22 : w.cell? ⟨2, 22, none⟩ = some (.int .i64 6) := World.var?_cell gN2 hvar 22
  have k23 : w.cell? ⟨2, 23, none⟩ = some (.int .i64 0) := World.var?_cell gN2 hvar 23
  have k24 : w.cell? ⟨2, 24, none⟩ = some (.int .i64 8) := World.var?_cell gN2 hvar 24
  have k25 : w.cell? ⟨2, 25, none⟩ = some (.int .i64 0) := World.var?_cell gN2 hvar 25
  have k26 : w.cell? ⟨2, 26, none⟩ = some (.int .i64 0) := World.var?_cell gN2 hvar 26
  have k27 : w.cell? ⟨2, 27, none⟩ = some (.int .i64 7) := World.var?_cell gN2 hvar 27
  have k28 : w.cell? ⟨2, 28, none⟩ = some (.int .i64 8) := World.var?_cell gN2 hvar 28
  have k29 : w.cell? ⟨2, 29, none⟩ = some (.int .i64 0) := World.var?_cell gN2 hvar 29
  have k30 : w.cell? ⟨2, 30, none⟩ = some (.int .i64 0) := World.var?_cell gN2 hvar 30
  have k31 : w.cell? ⟨2, 31, none⟩ = some (.int .i64 0) := World.var?_cell gN2 hvar 31
  have k32 : w.cell? ⟨2, 32, none⟩ = some (.int .i64 8) := World.var?_cell gN2 hvar 32
  have k33 : w.cell? ⟨2, 33, none⟩ = some (.int .i64 0) := World.var?_cell gN2 hvar 33
  have k34 : w.cell? ⟨2, 34, none⟩ = some (.int .i64 0) := World.var?_cell gN2 hvar 34
  have k35 : w.cell? ⟨2, 35, none⟩ = some (.int .i64 0) := World.var?_cell gN2 hvar 35
  simp only [Go.Abs.VRI, Go.Abs.VR]
  exact ⟨⟨_, k0, rfl⟩, ⟨_, k1, rfl⟩, ⟨_, k2, rfl⟩, ⟨_, k3, rfl⟩, ⟨_, k4, rfl⟩, ⟨_, k5, rfl⟩, ⟨_, k6, rfl⟩, ⟨_, k7, rfl⟩, ⟨_, k8, rfl⟩, ⟨_, k9, rfl⟩, ⟨_, k10, rfl⟩, ⟨_, k11, rfl⟩, ⟨_, k12, rfl⟩, ⟨_, k13, rfl⟩, ⟨_, k14, rfl⟩, ⟨_, k15, rfl⟩, ⟨_, k16, rfl⟩, ⟨_, k17, rfl⟩, ⟨_, k18, rfl⟩, ⟨_, k19, rfl⟩, ⟨_, k20, rfl⟩, ⟨_, k21, rfl⟩, ⟨_, k22, rfl⟩, ⟨_, k23, rfl⟩, ⟨_, k24, rfl⟩, ⟨_, k25, rfl⟩, ⟨_, k26, rfl⟩, ⟨_, k27, rfl⟩, ⟨_, k28, rfl⟩, ⟨_, k29, rfl⟩, ⟨_, k30, rfl⟩, ⟨_, k31, rfl⟩, ⟨_, k32, rfl⟩, ⟨_, k33, rfl⟩, ⟨_, k34, rfl⟩, ⟨_, k35, rfl⟩, trivial⟩
set_option maxRecDepth 100000 in
theorem vri3 {w : World} (hvar : w.var? Tryd.prog "pointillist/dec.ends" = some cells3.toArray) {cs : List Go.Abs.AV} (h : seat.G 3 = some cs) : Go.Abs.VRI (Go.Abs.Env.bare (Go.Abs.immAll w) w) cs 3 0 := by
  cases h
  have k0 : w.cell? ⟨3, 0, none⟩ = some (.int .i64 0) := World.var?_cell gN3 hvar 0
  have k1 : w.cell? ⟨3, 1, none⟩ = some (.int .i64 0) := World.var?_cell gN3 hvar 1
  have k2 : w.cell? ⟨3, 2, none⟩ = some (.int .i64 1) := World.var?_cell gN3 hvar 2
  have k3 : w.cell? ⟨3, 3, none⟩ = some (.int .i64 0) := World.var?_cell gN3 hvar 3
  have k4 : w.cell? ⟨3, 4, none⟩ = some (.int .i64 1) := World.var?_cell gN3 hvar 4
  have k5 : w.cell? ⟨3, 5, none⟩ = some (.int .i64 1) := World.var?_cell gN3 hvar 5
  have k6 : w.cell? ⟨3, 6, none⟩ = some (.int .i64 0) := World.var?_cell gN3 hvar 6
  have k7 : w.cell? ⟨3, 7, none⟩ = some (.int .i64 0) := World.var?_cell gN3 hvar 7
  have k8 : w.cell? ⟨3, 8, none⟩ = some (.int .i64 1) := World.var?_cell gN3 hvar 8
  simp only [Go.Abs.VRI, Go.Abs.VR]
  exact ⟨⟨_, k0, rfl⟩, ⟨_, k1, rfl⟩, ⟨_, k2, rfl⟩, ⟨_, k3, rfl⟩, ⟨_, k4, rfl⟩, ⟨_, k5, rfl⟩, ⟨_, k6, rfl⟩, ⟨_, k7, rfl⟩, ⟨_, k8, rfl⟩, trivial⟩
set_option maxRecDepth 100000 in
theorem vri1 {w : World} (hvar : w.var? Tryd.prog "pointillist/scan.blanks" = some cells1.toArray) {cs : List Go.Abs.AV} (h : seat.G 1 = some cs) : Go.Abs.VRI (Go.Abs.Env.bare (Go.Abs.immAll w) w) cs 1 0 := by
  cases h
  have k0 : w.cell? ⟨1, 0, none⟩ = some (.int .i64 0) := World.var?_cell gN1 hvar 0
  have k1 : w.cell? ⟨1, 1, none⟩ = some (.int .i64 0) := World.var?_cell gN1 hvar 1
  have k2 : w.cell? ⟨1, 2, none⟩ = some (.int .i64 0) := World.var?_cell gN1 hvar 2
  have k3 : w.cell? ⟨1, 3, none⟩ = some (.int .i64 0) := World.var?_cell gN1 hvar 3
  have k4 : w.cell? ⟨1, 4, none⟩ = some (.int .i64 0) := World.var?_cell gN1 hvar 4
  have k5 : w.cell? ⟨1, 5, none⟩ = some (.int .i64 0) := World.var?_cell gN1 hvar 5
  have k6 : w.cell? ⟨1, 6, none⟩ = some (.int .i64 0) := World.var?_cell gN1 hvar 6
  have k7 : w.cell? ⟨1, 7, none⟩ = some (.int .i64 0) := World.var?_cell gN1 hvar 7
  have k8 : w.cell? ⟨1, 8, none⟩ = some (.int .i64 0) := World.var?_cell gN1 hvar 8
  have k9 : w.cell? ⟨1, 9, none⟩ = some (.int .i64 1) := World.var?_cell gN1 hvar 9
  have k10 : w.cell? ⟨1, 10, none⟩ = some (.int .i64 1) := World.var?_cell gN1 hvar 10
  have k11 : w.cell? ⟨1, 11, none⟩ = some (.int .i64 0) := World.var?_cell gN1 hvar 11
  have k12 : w.cell? ⟨1, 12, none⟩ = some (.int .i64 0) := World.var?_cell gN1 hvar 12
  have k13 : w.cell? ⟨1, 13, none⟩ = some (.int .i64 1) := World.var?_cell gN1 hvar 13
  have k14 : w.cell? ⟨1, 14, none⟩ = some (.int .i64 0) := World.var?_cell gN1 hvar 14
  have k15 : w.cell? ⟨1, 15, none⟩ = some (.int .i64 0) := World.var?_cell gN1 hvar 15
  have k16 : w.cell? ⟨1, 16, none⟩ = some (.int .i64 0) := World.var?_cell gN1 hvar 16
  have k17 : w.cell? ⟨1, 17, none⟩ = some (.int .i64 0) := World.var?_cell gN1 hvar 17
  have k18 : w.cell? ⟨1, 18, none⟩ = some (.int .i64 0) := World.var?_cell gN1 hvar 18
  have k19 : w.cell? ⟨1, 19, none⟩ = some (.int .i64 0) := World.var?_cell gN1 hvar 19
  have k20 : w.cell? ⟨1, 20, none⟩ = some (.int .i64 0) := World.var?_cell gN1 hvar 20
  have k21 : w.cell? ⟨1, 21, none⟩ = some (.int .i64 0) := World.var?_cell gN1 hvar 21
  have k22 : w.cell? ⟨1, 22, none⟩ = some (.int .i64 0) := World.var?_cell gN1 hvar 22
  have k23 : w.cell? ⟨1, 23, none⟩ = some (.int .i64 0) := World.var?_cell gN1 hvar 23
  have k24 : w.cell? ⟨1, 24, none⟩ = some (.int .i64 0) := World.var?_cell gN1 hvar 24
  have k25 : w.cell? ⟨1, 25, none⟩ = some (.int .i64 0) := World.var?_cell gN1 hvar 25
  have k26 : w.cell? ⟨1, 26, none⟩ = some (.int .i64 0) := World.var?_cell gN1 hvar 26
  have k27 : w.cell? ⟨1, 27, none⟩ = some (.int .i64 0) := World.var?_cell gN1 hvar 27
  have k28 : w.cell? ⟨1, 28, none⟩ = some (.int .i64 0) := World.var?_cell gN1 hvar 28
  have k29 : w.cell? ⟨1, 29, none⟩ = some (.int .i64 0) := World.var?_cell gN1 hvar 29
  have k30 : w.cell? ⟨1, 30, none⟩ = some (.int .i64 0) := World.var?_cell gN1 hvar 30
  have k31 : w.cell? ⟨1, 31, none⟩ = some (.int .i64 0) := World.var?_cell gN1 hvar 31
  have k32 : w.cell? ⟨1, 32, none⟩ = some (.int .i64 1) := World.var?_cell gN1 hvar 32
  simp only [Go.Abs.VRI, Go.Abs.VR]
  exact ⟨⟨_, k0, rfl⟩, ⟨_, k1, rfl⟩, ⟨_, k2, rfl⟩, ⟨_, k3, rfl⟩, ⟨_, k4, rfl⟩, ⟨_, k5, rfl⟩, ⟨_, k6, rfl⟩, ⟨_, k7, rfl⟩, ⟨_, k8, rfl⟩, ⟨_, k9, rfl⟩, ⟨_, k10, rfl⟩, ⟨_, k11, rfl⟩, ⟨_, k12, rfl⟩, ⟨_, k13, rfl⟩, ⟨_, k14, rfl⟩, ⟨_, k15, rfl⟩, ⟨_, k16, rfl⟩, ⟨_, k17, rfl⟩, ⟨_, k18, rfl⟩, ⟨_, k19, rfl⟩, ⟨_, k20, rfl⟩, ⟨_, k21, rfl⟩, ⟨_, k22, rfl⟩, ⟨_, k23, rfl⟩, ⟨_, k24, rfl⟩, ⟨_, k25, rfl⟩, ⟨_, k26, rfl⟩, ⟨_, k27, rfl⟩, ⟨_, k28, rfl⟩, ⟨_, k29, rfl⟩, ⟨_, k30, rfl⟩, ⟨_, k31, rfl⟩, ⟨_, k32, rfl⟩, trivial⟩
set_option maxRecDepth 100000 in
theorem vri0 {w : World} (hvar : w.var? Tryd.prog "pointillist/path.signs" = some cells0.toArray) {cs : List Go.Abs.AV} (h : seat.G 0 = some cs) : Go.Abs.VRI (Go.Abs.Env.bare (Go.Abs.immAll w) w) cs 0 0 := by
  cases h
  have k0 : w.cell? ⟨0, 0, none⟩ = some (.int .u8 77) := World.var?_cell gN0 hvar 0
  have k1 : w.cell? ⟨0, 1, none⟩ = some (.string ⟨#[110, 110]⟩) := World.var?_cell gN0 hvar 1
  have k2 : w.cell? ⟨0, 2, none⟩ = some (.int .u8 76) := World.var?_cell gN0 hvar 2
  have k3 : w.cell? ⟨0, 3, none⟩ = some (.string ⟨#[110, 110]⟩) := World.var?_cell gN0 hvar 3
  have k4 : w.cell? ⟨0, 4, none⟩ = some (.int .u8 72) := World.var?_cell gN0 hvar 4
  have k5 : w.cell? ⟨0, 5, none⟩ = some (.string ⟨#[110]⟩) := World.var?_cell gN0 hvar 5
  have k6 : w.cell? ⟨0, 6, none⟩ = some (.int .u8 86) := World.var?_cell gN0 hvar 6
  have k7 : w.cell? ⟨0, 7, none⟩ = some (.string ⟨#[110]⟩) := World.var?_cell gN0 hvar 7
  have k8 : w.cell? ⟨0, 8, none⟩ = some (.int .u8 67) := World.var?_cell gN0 hvar 8
  have k9 : w.cell? ⟨0, 9, none⟩ = some (.string ⟨#[110, 110, 110, 110, 110, 110]⟩) := World.var?_cell gN0 hvar 9
  have k10 : w.cell? ⟨0, 10, none⟩ = some (.int .u8 83) := World.var?_cell gN0 hvar 10
  have k11 : w.cell? ⟨0, 11, none⟩ = some (.string ⟨#[110, 110, 110, 110]⟩) := World.var?_cell gN0 hvar 11
  have k12 : w.cell? ⟨0, 12, none⟩ = some (.int .u8 81) := World.var?_cell gN0 hvar 12
  have k13 : w.cell? ⟨0, 13, none⟩ = some (.string ⟨#[110, 110, 110, 110]⟩) := World.var?_cell gN0 hvar 13
  have k14 : w.cell? ⟨0, 14, none⟩ = some (.int .u8 84) := World.var?_cell gN0 hvar 14
  have k15 : w.cell? ⟨0, 15, none⟩ = some (.string ⟨#[110, 110]⟩) := World.var?_cell gN0 hvar 15
  have k16 : w.cell? ⟨0, 16, none⟩ = some (.int .u8 65) := World.var?_cell gN0 hvar 16
  have k17 : w.cell? ⟨0, 17, none⟩ = some (.string ⟨#[117, 117, 110, 103, 102, 110, 110]⟩) := World.var?_cell gN0 hvar 17
  have k18 : w.cell? ⟨0, 18, none⟩ = some (.int .u8 90) := World.var?_cell gN0 hvar 18
  have k19 : w.cell? ⟨0, 19, none⟩ = some (.string ⟨#[]⟩) := World.var?_cell gN0 hvar 19
  simp only [Go.Abs.VRI, Go.Abs.VR]
  exact ⟨⟨_, k0, rfl⟩, ⟨_, k1, rfl⟩, ⟨_, k2, rfl⟩, ⟨_, k3, rfl⟩, ⟨_, k4, rfl⟩, ⟨_, k5, rfl⟩, ⟨_, k6, rfl⟩, ⟨_, k7, rfl⟩, ⟨_, k8, rfl⟩, ⟨_, k9, rfl⟩, ⟨_, k10, rfl⟩, ⟨_, k11, rfl⟩, ⟨_, k12, rfl⟩, ⟨_, k13, rfl⟩, ⟨_, k14, rfl⟩, ⟨_, k15, rfl⟩, ⟨_, k16, rfl⟩, ⟨_, k17, rfl⟩, ⟨_, k18, rfl⟩, ⟨_, k19, rfl⟩, trivial⟩
theorem globs_ok {w : World} (hvar2 : w.var? Tryd.prog "pointillist/dec.next" = some cells2.toArray) (hvar3 : w.var? Tryd.prog "pointillist/dec.ends" = some cells3.toArray) (hvar1 : w.var? Tryd.prog "pointillist/scan.blanks" = some cells1.toArray) (hvar0 : w.var? Tryd.prog "pointillist/path.signs" = some cells0.toArray) : ∀ g cs, seat.G g = some cs → Go.Abs.VRI (Go.Abs.Env.bare (Go.Abs.immAll w) w) cs g 0 := by
  intro g cs h
  match g, h with
  | 0, h => exact vri0 hvar0 h
  | 1, h => exact vri1 hvar1 h
  | 2, h => exact vri2 hvar2 h
  | 3, h => exact vri3 hvar3 h
  | g + 4, h => cases g <;> cases h
set_option maxRecDepth 100000 in
theorem lifted (os : Os) (started : os.Started) (H : Type) (enc : TypeId × Value → H) :
    ReturnsInHanded {} Tryd.checked os 6 .any (fun w args => (Rows.normRightsSpec.pre enc Tryd.prog Tryd.f6 [] false w args ∧ laidMetH Tryd.prog Rows.normRightsRow.laid w) ∧ sizedMet enc Tryd.prog Tryd.f6 (OpenSpec.ofChange Rows.normRightsSpec) false w args)
      (Rows.normRightsSpec.post enc Tryd.prog Tryd.f6 false true false false) := by
  refine returnsInHanded_of_change_and (C := Tryd.checked) (X := fun w _ => laidMetH Tryd.prog Rows.normRightsRow.laid w) (fun _ _ _ hh h => h.of_heap hh) own started (by kernel_rfl) Tryd.func6
    (ChangeSpec.witness_at (enc := enc) (C := Tryd.checked) (os := os) (X := fun w _ => laidMetH Tryd.prog Rows.normRightsRow.laid w) false (laidWorld os) #[.slice none 0 0, .slice none 0 0] 8 rfl (by kernel_rfl) (by kernel_rfl) (by kernel_rfl) (by kernel_rfl) (by kernel_rfl) (laid_met os _)) ?_
  intro W base args ds gs before hval0 hW _ _ hL _
  have hval : ∀ (j : Nat) t v, Tryd.f6.params[j]? = some t → args[j]? = some v → Value.okWide Tryd.prog W .any base t v := hval0
  have hW' := hW
  obtain ⟨p, q, hA0, hV, rfl, hfz, hnd⟩ := hW
  have hA : DataW.TrodAll enc Tryd.prog W 0 (fun _ => true) true Tryd.f6.params.toList args.toList ds p := hA0
  rw [Tryd.params6] at hA hval
  obtain ⟨v0, vs0, d0, ds0, p0, q0, hargs, rfl, rfl, h0, r0⟩ := trodAll_cons hA
  obtain ⟨v1, vs1, d1, ds1, p1, q1, rfl, rfl, rfl, h1, r1⟩ := trodAll_cons r0
  obtain ⟨rfl, rfl, rfl⟩ := trodAll_nil r1
  obtain rfl : args = #[v0, v1] := by cases args; simp_all
  obtain ⟨rfl, rfl⟩ := trodVars_none hV
  obtain ⟨x0, k0, m0, q0⟩ := Go.Abs.open_list sg_elem (by decide) Tryd.underlying23 (by kernel_rfl) (hval 0 23 v0 rfl rfl) h0
  obtain ⟨x1, k1, m1, q1⟩ := Go.Abs.open_list2 cmd_elem (by decide) Tryd.underlying32 (by kernel_rfl) (hval 1 32 v1 rfl rfl) h1
  have hc := Go.Abs.ACalls.top (S := seat) (v := .bool true) (u := .bool true) (l_normRights x0 x1) (fun _ _ h => by simpa only [Go.Abs.VR] using h) Tryd.func6 rfl rfl (imm := Go.Abs.immAll W) (w := W)
    (Go.Abs.immAll_ok W) (globs_ok (cells_of2 hL) (cells_of3 hL) (cells_of1 hL) (cells_of0 hL)) (Go.Abs.VRL.cons (q0) (Go.Abs.VRL.cons (q1) (Go.Abs.VRL.nil)))
  refine hc.mono fun e W' ⟨he, hg⟩ => ?_
  subst he
  exact ⟨_, rfl, Go.Abs.law_post laidOut Tryd.underlying4 rfl rfl readable ⟨rfl, rfl, rfl⟩ hW' hg⟩
theorem over : Rows.NormRightsSaid :=
  OpenClaim.holds_of_wide 6 Tryd.f6 rfl rfl rfl rfl rfl rfl rfl ⟨rfl, rfl, rfl, rfl, rfl⟩ rfl rfl rfl rfl rfl (by kernel_rfl) Tryd.func6 (by kernel_rfl)
    (of_decide_eq_true (by kernel_rfl)) (by unfold Func.isWrapper; first | (rw [if_pos (by decide +kernel)]; kernel_rfl) | (rw [if_neg (by decide +kernel)]; exact ⟨rfl, rfl⟩))
    (fun os started H enc _ => lifted os started H enc)
theorem proved : Rows.NormRightsCardSaid :=
  Claim7.holds_tied_plain_at .later [] [.data, .data, .data, .widerDeep] true (true, "96dd74cbf0e643213d94c47221d46c3efcb6bb2bf767cce3eef5bc2ece51b198") false
    over (fun _ h => by cases h) (by kernel_rfl) (fun _ h => by cases h) normRights_row_tie rfl ⟨rfl, rfl⟩ (by kernel_rfl) rfl
    (fun f fn hf hfn => by
      obtain rfl : f = 6 := Option.some.inj ((show Tryd.prog.funcNamed "pointillist/pointillistlaw07.NormRights" = some 6 by kernel_rfl).symm.trans hf) |>.symm
      obtain rfl : fn = Tryd.f6 := (Option.some.inj (Tryd.func6.symm.trans hfn)).symm
      exact ⟨by kernel_rfl, fun j t ht => by
        rw [Tryd.params6] at ht
        have hmem : t ∈ [23, 32] := by simpa using Array.mem_of_getElem? ht
        simp only [List.mem_cons, List.not_mem_nil, or_false] at hmem
        rcases hmem with rfl | rfl
        · exact (show Tryd.prog.wantsStandIn 23 = false by kernel_rfl)
        · exact (show Tryd.prog.wantsStandIn 32 = false by kernel_rfl)
      ⟩)
    (by kernel_rfl)
#print axioms proved
end Go.Proofs.YteicdddheaajlaaDoor.normRights
