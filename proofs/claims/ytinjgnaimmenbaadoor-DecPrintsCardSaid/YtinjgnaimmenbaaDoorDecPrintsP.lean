/- The given statement 'DecPrints' and its card, from the law's contract. No condition. -/
import Derived.Test.YtinjgnaimmenbaaDoorRows
import Derived.Test.YtinjgnaimmenbaaDoorCards
import Derived.Test.YtinjgnaimmenbaaDoorTie
import Derived.WalkKit
import Derived.ProofKit
import Derived.OpenShut
import Derived.ChangeSame
import Derived.ChangeVars
import Derived.JoinedOf
import Derived.LaidLaws
import Derived.LaidHandle
import Derived.Stop.Joined
import Derived.ShutString
import Derived.SevenTiedAt
import Derived.Test.YtinjgnaimmenbaaDoorP8
set_option linter.unusedSimpArgs false
set_option linter.unusedVariables false
set_option linter.deprecated false
namespace Go.Proofs.YtinjgnaimmenbaaDoor.decPrints
open Go.Proofs.YtinjgnaimmenbaaDoor
open Go.ChangeShapes Go.WideShapes Go.ChangeAt Go.RowKit
theorem own : ownKnob Tryd.prog.godebug = none := by kernel_rfl
theorem laidOut : laidOutB Tryd.prog = true := by kernel_rfl
theorem gN5 : Tryd.prog.globalNamed "math/bits.deBruijn32tab" = some 5 := by kernel_rfl
theorem gT5 : (Tryd.prog.globals[5]?).map (·.type) = some 87 := by kernel_rfl
def cells5 : List Value := [.int .u8 0, .int .u8 1, .int .u8 28, .int .u8 2, .int .u8 29, .int .u8 14, .int .u8 24, .int .u8 3, .int .u8 30, .int .u8 22, .int .u8 20, .int .u8 15, .int .u8 25, .int .u8 17, .int .u8 4, .int .u8 8, .int .u8 31, .int .u8 27, .int .u8 13, .int .u8 23, .int .u8 21, .int .u8 19, .int .u8 16, .int .u8 7, .int .u8 26, .int .u8 12, .int .u8 18, .int .u8 6, .int .u8 11, .int .u8 5, .int .u8 10, .int .u8 9]
theorem gN6 : Tryd.prog.globalNamed "math/bits.deBruijn64tab" = some 6 := by kernel_rfl
theorem gT6 : (Tryd.prog.globals[6]?).map (·.type) = some 88 := by kernel_rfl
def cells6 : List Value := [.int .u8 0, .int .u8 1, .int .u8 56, .int .u8 2, .int .u8 57, .int .u8 49, .int .u8 28, .int .u8 3, .int .u8 61, .int .u8 58, .int .u8 42, .int .u8 50, .int .u8 38, .int .u8 29, .int .u8 17, .int .u8 4, .int .u8 62, .int .u8 47, .int .u8 59, .int .u8 36, .int .u8 45, .int .u8 43, .int .u8 51, .int .u8 22, .int .u8 53, .int .u8 39, .int .u8 33, .int .u8 30, .int .u8 24, .int .u8 18, .int .u8 12, .int .u8 5, .int .u8 63, .int .u8 55, .int .u8 48, .int .u8 27, .int .u8 60, .int .u8 41, .int .u8 37, .int .u8 16, .int .u8 46, .int .u8 35, .int .u8 44, .int .u8 21, .int .u8 52, .int .u8 32, .int .u8 23, .int .u8 11, .int .u8 54, .int .u8 26, .int .u8 40, .int .u8 15, .int .u8 34, .int .u8 20, .int .u8 31, .int .u8 10, .int .u8 25, .int .u8 14, .int .u8 19, .int .u8 9, .int .u8 13, .int .u8 8, .int .u8 7, .int .u8 6]
theorem gN4 : Tryd.prog.globalNamed "internal/strconv.uint64pow10" = some 4 := by kernel_rfl
theorem gT4 : (Tryd.prog.globals[4]?).map (·.type) = some 82 := by kernel_rfl
def cells4 : List Value := [.int .u64 1, .int .u64 10, .int .u64 100, .int .u64 1000, .int .u64 10000, .int .u64 100000, .int .u64 1000000, .int .u64 10000000, .int .u64 100000000, .int .u64 1000000000, .int .u64 10000000000, .int .u64 100000000000, .int .u64 1000000000000, .int .u64 10000000000000, .int .u64 100000000000000, .int .u64 1000000000000000, .int .u64 10000000000000000, .int .u64 100000000000000000, .int .u64 1000000000000000000, .int .u64 10000000000000000000]
theorem gN0 : Tryd.prog.globalNamed "pointillist/dec.next" = some 0 := by kernel_rfl
theorem gT0 : (Tryd.prog.globals[0]?).map (·.type) = some 63 := by kernel_rfl
def cells0 : List Value := [.int .i64 2, .int .i64 3, .int .i64 0, .int .i64 1, .int .i64 2, .int .i64 3, .int .i64 0, .int .i64 0, .int .i64 2, .int .i64 4, .int .i64 6, .int .i64 0, .int .i64 5, .int .i64 0, .int .i64 0, .int .i64 0, .int .i64 5, .int .i64 0, .int .i64 6, .int .i64 0, .int .i64 5, .int .i64 0, .int .i64 6, .int .i64 0, .int .i64 8, .int .i64 0, .int .i64 0, .int .i64 7, .int .i64 8, .int .i64 0, .int .i64 0, .int .i64 0, .int .i64 8, .int .i64 0, .int .i64 0, .int .i64 0]
theorem gN1 : Tryd.prog.globalNamed "pointillist/dec.ends" = some 1 := by kernel_rfl
theorem gT1 : (Tryd.prog.globals[1]?).map (·.type) = some 64 := by kernel_rfl
def cells1 : List Value := [.int .i64 0, .int .i64 0, .int .i64 1, .int .i64 0, .int .i64 1, .int .i64 1, .int .i64 0, .int .i64 0, .int .i64 1]
theorem readable : ∀ t ∈ Tryd.f6.params.toList, Tryd.prog.readableRec t = true ∧ t < Tryd.prog.types.size := by
  intro t ht
  rw [Tryd.params6] at ht
  simp only [List.mem_cons, List.not_mem_nil, or_false] at ht
  subst ht
  exact ⟨by kernel_rfl, of_decide_eq_true (by kernel_rfl)⟩
set_option maxRecDepth 20000 in
theorem cells_of5 {W : World} (h : laidMetH Tryd.prog Rows.decPrintsRow.laid W) : W.var? Tryd.prog "math/bits.deBruijn32tab" = some cells5.toArray :=
  Go.Abs.laid_at h (.head _) gN5 gT5 (by kernel_rfl) rfl
set_option maxRecDepth 20000 in
theorem cells_of6 {W : World} (h : laidMetH Tryd.prog Rows.decPrintsRow.laid W) : W.var? Tryd.prog "math/bits.deBruijn64tab" = some cells6.toArray :=
  Go.Abs.laid_at h (.tail _ (.head _)) gN6 gT6 (by kernel_rfl) rfl
set_option maxRecDepth 20000 in
theorem cells_of4 {W : World} (h : laidMetH Tryd.prog Rows.decPrintsRow.laid W) : W.var? Tryd.prog "internal/strconv.uint64pow10" = some cells4.toArray :=
  Go.Abs.laid_at h (.tail _ (.tail _ (.head _))) gN4 gT4 (by kernel_rfl) rfl
set_option maxRecDepth 20000 in
theorem cells_of0 {W : World} (h : laidMetH Tryd.prog Rows.decPrintsRow.laid W) : W.var? Tryd.prog "pointillist/dec.next" = some cells0.toArray :=
  Go.Abs.laid_at h (.tail _ (.tail _ (.tail _ (.head _)))) gN0 gT0 (by kernel_rfl) rfl
set_option maxRecDepth 20000 in
theorem cells_of1 {W : World} (h : laidMetH Tryd.prog Rows.decPrintsRow.laid W) : W.var? Tryd.prog "pointillist/dec.ends" = some cells1.toArray :=
  Go.Abs.laid_at h (.tail _ (.tail _ (.tail _ (.tail _ (.head _))))) gN1 gT1 (by kernel_rfl) rfl
noncomputable def laidWorld (os : Os) : World :=
  { World.holding Tryd.prog os ⟨#[], #[], []⟩ with heap := ((((((World.holding Tryd.prog os ⟨#[], #[], []⟩).heap.modify 5 fun
      | .cells _ t frozen => .cells cells5.toArray t frozen
      | o => o).modify 6 fun
      | .cells _ t frozen => .cells cells6.toArray t frozen
      | o => o).modify 4 fun
      | .cells _ t frozen => .cells cells4.toArray t frozen
      | o => o).modify 0 fun
      | .cells _ t frozen => .cells cells0.toArray t frozen
      | o => o).modify 1 fun
      | .cells _ t frozen => .cells cells1.toArray t frozen
      | o => o) }
set_option maxRecDepth 100000 in
theorem laid_met (os : Os) (args : Array Value) : laidMetH Tryd.prog Rows.decPrintsRow.laid ((laidWorld os).forCall (fun _ _ => 0) ⟨#[], args, []⟩).memory :=
  laidMet_of_run (ps := [.cell 5 0, .cell 5 1, .cell 5 2, .cell 5 3, .cell 5 4, .cell 5 5, .cell 5 6, .cell 5 7, .cell 5 8, .cell 5 9, .cell 5 10, .cell 5 11, .cell 5 12, .cell 5 13, .cell 5 14, .cell 5 15, .cell 5 16, .cell 5 17, .cell 5 18, .cell 5 19, .cell 5 20, .cell 5 21, .cell 5 22, .cell 5 23, .cell 5 24, .cell 5 25, .cell 5 26, .cell 5 27, .cell 5 28, .cell 5 29, .cell 5 30, .cell 5 31, .cell 6 0, .cell 6 1, .cell 6 2, .cell 6 3, .cell 6 4, .cell 6 5, .cell 6 6, .cell 6 7, .cell 6 8, .cell 6 9, .cell 6 10, .cell 6 11, .cell 6 12, .cell 6 13, .cell 6 14, .cell 6 15, .cell 6 16, .cell 6 17, .cell 6 18, .cell 6 19, .cell 6 20, .cell 6 21, .cell 6 22, .cell 6 23, .cell 6 24, .cell 6 25, .cell 6 26, .cell 6 27, .cell 6 28, .cell 6 29, .cell 6 30, .cell 6 31, .cell 6 32, .cell 6 33, .cell 6 34, .cell 6 35, .cell 6 36, .cell 6 37, .cell 6 38, .cell 6 39, .cell 6 40, .cell 6 41, .cell 6 42, .cell 6 43, .cell 6 44, .cell 6 45, .cell 6 46, .cell 6 47, .cell 6 48, .cell 6 49, .cell 6 50, .cell 6 51, .cell 6 52, .cell 6 53, .cell 6 54, .cell 6 55, .cell 6 56, .cell 6 57, .cell 6 58, .cell 6 59, .cell 6 60, .cell 6 61, .cell 6 62, .cell 6 63, .cell 4 0, .cell 4 1, .cell 4 2, .cell 4 3, .cell 4 4, .cell 4 5, .cell 4 6, .cell 4 7, .cell 4 8, .cell 4 9, .cell 4 10, .cell 4 11, .cell 4 12, .cell 4 13, .cell 4 14, .cell 4 15, .cell 4 16, .cell 4 17, .cell 4 18, .cell 4 19, .cell 0 0, .cell 0 1, .cell 0 2, .cell 0 3, .cell 0 4, .cell 0 5, .cell 0 6, .cell 0 7, .cell 0 8, .cell 0 9, .cell 0 10, .cell 0 11, .cell 0 12, .cell 0 13, .cell 0 14, .cell 0 15, .cell 0 16, .cell 0 17, .cell 0 18, .cell 0 19, .cell 0 20, .cell 0 21, .cell 0 22, .cell 0 23, .cell 0 24, .cell 0 25, .cell 0 26, .cell 0 27, .cell 0 28, .cell 0 29, .cell 0 30, .cell 0 31, .cell 0 32, .cell 0 33, .cell 0 34, .cell 0 35, .cell 1 0, .cell 1 1, .cell 1 2, .cell 1 3, .cell 1 4, .cell 1 5, .cell 1 6, .cell 1 7, .cell 1 8]) 8 (by kernel_rfl) (by kernel_rfl) (by kernel_rfl)
set_option maxRecDepth 100000 in
theorem vri5 {w : World} (hvar : w.var? Tryd.prog "math/bits.deBruijn32tab" = some cells5.toArray) {cs : List Go.Abs.AV} (h : seat.G 5 = some cs) : Go.Abs.VRI (Go.Abs.Env.bare (Go.Abs.immAll w) w) cs 5 0 := by
  cases h
  have k0 : w.cell? ⟨5, 0, none⟩ = some (.int .u8 0) := World.var?_cell gN5 hvar 0
  have k1 : w.cell? ⟨5, 1, none⟩ = some (.int .u8 1) := World.var?_cell gN5 hvar 1
  have k2 : w.cell? ⟨5, 2, none⟩ = some (.int .u8 28) := World.var?_cell gN5 hvar 2
  have k3 : w.cell? ⟨5, 3, none⟩ = some (.int .u8 2) := World.var?_cell gN5 hvar 3
  have k4 : w.cell? ⟨5, 4, none⟩ = some (.int .u8 29) := World.var?_cell gN5 hvar 4
  have k5 : w.cell? ⟨5, 5, none⟩ = some (.int .u8 14) := World.var?_cell gN5 hvar 5
  have k6 : w.cell? ⟨5, 6, none⟩ = some (.int .u8 24) := World.var?_cell gN5 hvar 6
  have k7 : w.cell? ⟨5, 7, none⟩ = some (.int .u8 3) := World.var?_cell gN5 hvar 7
  have k8 : w.cell? ⟨5, 8, none⟩ = some (.int .u8 30) := World.var?_cell gN5 hvar 8
  have k9 : w.cell? ⟨5, 9, none⟩ = some (.int .u8 22) := World.var?_cell gN5 hvar 9
  have k10 : w.cell? ⟨5, 10, none⟩ = some (.int .u8 20) := World.var?_cell gN5 hvar 10
  have k11 : w.cell? ⟨5, 11, none⟩ = some (.int .u8 15) := World.var?_cell gN5 hvar 11
  have k12 : w.cell? ⟨5, 12, none⟩ = some (.int .u8 25) := World.var?_cell gN5 hvar 12
  have k13 : w.cell? ⟨5, 13, none⟩ = some (.int .u8 17) := World.var?_cell gN5 hvar 13
  have k14 : w.cell? ⟨5, 14, none⟩ = some (.int .u8 4) := World.var?_cell gN5 hvar 14
  have k15 : w.cell? ⟨5, 15, none⟩ = some (.int .u8 8) := World.var?_cell gN5 hvar 15
  have k16 : w.cell? ⟨5, 16, none⟩ = some (.int .u8 31) := World.var?_cell gN5 hvar 16
  have k17 : w.cell? ⟨5, 17, none⟩ = some (.int .u8 27) := World.var?_cell gN5 hvar 17
  have k18 : w.cell? ⟨5, 18, none⟩ = some (.int .u8 13) := World.var?_cell gN5 hvar 18
  have k19 : w.cell? ⟨5, 19, none⟩ = some (.int .u8 23) := World.var?_cell gN5 hvar 19
  have k20 : w.cell? ⟨5, 20, none⟩ = some (.int .u8 21) := World.var?_cell gN5 hvar 20
  have k21 : w.cell? ⟨5, 21, none⟩ = some (.int .u8 19) := World.var?_cell gN5 hvar 21
  have k22 : w.cell? ⟨5, 22, none⟩ = some (.int .u8 16) := World.var?_cell gN5 hvar 22
  have k23 : w.cell? ⟨5, 23, none⟩ = some (.int .u8 7) := World.var?_cell gN5 hvar 23
  have k24 : w.cell? ⟨5, 24, none⟩ = some (.int .u8 26) := World.var?_cell gN5 hvar 24
  have k25 : w.cell? ⟨5, 25, none⟩ = some (.int .u8 12) := World.var?_cell gN5 hvar 25
  have k26 : w.cell? ⟨5, 26, none⟩ = some (.int .u8 18) := World.var?_cell gN5 hvar 26
  have k27 : w.cell? ⟨5, 27, none⟩ = some (.int .u8 6) := World.var?_cell gN5 hvar 27
  have k28 : w.cell? ⟨5, 28, none⟩ = some (.int .u8 11) := World.var?_cell gN5 hvar 28
  have k29 : w.cell? ⟨5, 29, none⟩ = some (.int .u8 5) := World.var?_cell gN5 hvar 29
  have k30 : w.cell? ⟨5, 30, none⟩ = some (.int .u8 10) := World.var?_cell gN5 hvar 30
  have k31 : w.cell? ⟨5, 31, none⟩ = some (.int .u8 9) := World.var?_cell gN5 hvar 31
  simp only [Go.Abs.VRI, Go.Abs.VR]
  exact ⟨⟨_, k0, rfl⟩, ⟨_, k1, rfl⟩, ⟨_, k2, rfl⟩, ⟨_, k3, rfl⟩, ⟨_, k4, rfl⟩, ⟨_, k5, rfl⟩, ⟨_, k6, rfl⟩, ⟨_, k7, rfl⟩, ⟨_, k8, rfl⟩, ⟨_, k9, rfl⟩, ⟨_, k10, rfl⟩, ⟨_, k11, rfl⟩, ⟨_, k12, rfl⟩, ⟨_, k13, rfl⟩, ⟨_, k14, rfl⟩, ⟨_, k15, rfl⟩, ⟨_, k16, rfl⟩, ⟨_, k17, rfl⟩, ⟨_, k18, rfl⟩, ⟨_, k19, rfl⟩, ⟨_, k20, rfl⟩, ⟨_, k21, rfl⟩, ⟨_, k22, rfl⟩, ⟨_, k23, rfl⟩, ⟨_, k24, rfl⟩, ⟨_, k25, rfl⟩, ⟨_, k26, rfl⟩, ⟨_, k27, rfl⟩, ⟨_, k28, rfl⟩, ⟨_, k29, rfl⟩, ⟨_, k30, rfl⟩, ⟨_, k31, rfl⟩, trivial⟩
set_option maxRecDepth 100000 in
theorem vri6 {w : World} (hvar : w.var? Tryd.prog "math/bits.deBruijn64tab" = some cells6.toArray) {cs : List Go.Abs.AV} (h : seat.G 6 = some cs) : Go.Abs.VRI (Go.Abs.Env.bare (Go.Abs.immAll w) w) cs 6 0 := by
  cases h
  have k0 : w.cell? ⟨6, 0, none⟩ = some (.int .u8 0) := World.var?_cell gN6 hvar 0
  have k1 : w.cell? ⟨6, 1, none⟩ = some (.int .u8 1) := World.var?_cell gN6 hvar 1
  have k2 : w.cell? ⟨6, 2, none⟩ = some (.int .u8 56) := World.var?_cell gN6 hvar 2
  have k3 : w.cell? ⟨6, 3, none⟩ = some (.int .u8 2) := World.var?_cell gN6 hvar 3
  have k4 : w.cell? ⟨6, 4, none⟩ = some (.int .u8 57) := World.var?_cell gN6 hvar 4
  have k5 : w.cell? ⟨6, 5, none⟩ = some (.int .u8 49) := World.var?_cell gN6 hvar 5
  have k6 : w.cell? ⟨6, 6, none⟩ = some (.int .u8 28) := World.var?_cell gN6 hvar 6
  have k7 : w.cell? ⟨6, 7, none⟩ = some (.int .u8 3) := World.var?_cell gN6 hvar 7
  have k8 : w.cell? ⟨6, 8, none⟩ = some (.int .u8 61) := World.var?_cell gN6 hvar 8
  have k9 : w.cell? ⟨6, 9, none⟩ = some (.int .u8 58) := World.var?_cell gN6 hvar 9
  have k10 : w.cell? ⟨6, 10, none⟩ = some (.int .u8 42) := World.var?_cell gN6 hvar 10
  have k11 : w.cell? ⟨6, 11, none⟩ = some (.int .u8 50) := World.var?_cell gN6 hvar 11
  have k12 : w.cell? ⟨6, 12, none⟩ = some (.int .u8 38) := World.var?_cell gN6 hvar 12
  have k13 : w.cell? ⟨6, 13, none⟩ = some (.int .u8 29) := World.var?_cell gN6 hvar 13
  have k14 : w.cell? ⟨6, 14, none⟩ = some (.int .u8 17) := World.var?_cell gN6 hvar 14
  have k15 : w.cell? ⟨6, 15, none⟩ = some (.int .u8 4) := World.var?_cell gN6 hvar 15
  have k16 : w.cell? ⟨6, 16, none⟩ = some (.int .u8 62) := World.var?_cell gN6 hvar 16
  have k17 : w.cell? ⟨6, 17, none⟩ = some (.int .u8 47) := World.var?_cell gN6 hvar 17
  have k18 : w.cell? ⟨6, 18, none⟩ = some (.int .u8 59) := World.var?_cell gN6 hvar 18
  have k19 : w.cell? ⟨6, 19, none⟩ = some (.int .u8 36) := World.var?_cell gN6 hvar 19
  have k20 : w.cell? ⟨6, 20, none⟩ = some (.int .u8 45) := World.var?_cell gN6 hvar 20
  have k21 : w.cell? ⟨6, 21, none⟩ = some (.int .u8 43) := World.var?_cell gN6 hvar 21
  have k22 : w.cell? ⟨6, 22, none⟩ = some (.int .u8 51) := World.var?_cell gN6 hvar 22
  have k23 : w.cell? ⟨6, 23, none⟩ = some (.int .u8 22) := World.var?_cell gN6 hvar 23
  have k24 : w.cell? ⟨6, 24, none⟩ = some (.int .u8 53) := World.var?_cell gN6 hvar 24
  have k25 : w.cell? ⟨6, 25, none⟩ = some (.int .u8 39) := World.var?_cell gN6 hvar 25
  have k26 : w.cell? ⟨6, 26, none⟩ = some (.int .u8 33) := World.var?_cell gN6 hvar 26
  have k27 : w.cell? ⟨6, 27, none⟩ = some (.int .u8 30) := World.var?_cell gN6 hvar 27
  have k28 : w.cell? ⟨6, 28, none⟩ = some (.int .u8 24) := World.var?_cell gN6 hvar 28
  have k29 : w.cell? ⟨6, 29, none⟩ = some (.int .u8 18) := World.var?_cell gN6 hvar 29
  have k30 : w.cell? ⟨6, 30, none⟩ = some (.int .u8 12) := World.var?_cell gN6 hvar 30
  have k31 : w.cell? ⟨6, 31, none⟩ = some (.int .u8 5) := World.var?_cell gN6 hvar 31
  have k32 : w.cell? ⟨6, 32, none⟩ = some (.int .u8 63) := World.var?_cell gN6 hvar 32
  have k33 : w.cell? ⟨6, 33, none⟩ = some (.int .u8 55) := World.var?_cell gN6 hvar 33
  have k34 : w.cell? ⟨6, 34, none⟩ = some (.int .u8 48) := World.var?_cell gN6 hvar 34
  have k35 : w.cell? ⟨6, 35, none⟩ = some (.int .u8 27) := World.var?_cell gN6 hvar 35
  have k36 : w.cell? ⟨6, 36, none⟩ = some (.int .u8 60) := World.var?_cell gN6 hvar 36
  have k37 : w.cell? ⟨6, 37, none⟩ = some (.int .u8 41) := World.var?_cell gN6 hvar 37
  have k38 : w.cell? ⟨6, 38, none⟩ = some (.int .u8 37) := World.var?_cell gN6 hvar 38
  have k39 : w.cell? ⟨6, 39, none⟩ = some (.int .u8 16) := World.var?_cell gN6 hvar 39
  have k40 : w.cell? ⟨6, 40, none⟩ = some (.int .u8 46) := World.var?_cell gN6 hvar 40
  have k41 : w.cell? ⟨6, 41, none⟩ = some (.int .u8 35) := World.var?_cell gN6 hvar 41
  have k42 : w.cell? ⟨6, 42, none⟩ = some (.int .u8 44) := World.var?_cell gN6 hvar 42
  have k43 : w.cell? ⟨6, 43, none⟩ = some (.int .u8 21) := World.var?_cell gN6 hvar 43
  have k44 : w.cell? ⟨6, 44, none⟩ = some (.int .u8 52) := World.var?_cell gN6 hvar 44
  have k45 : w.cell? ⟨6, 45, none⟩ = some (.int .u8 32) := World.var?_cell gN6 hvar 45
  have k46 : w.cell? ⟨6, 46, none⟩ = some (.int .u8 23) := World.var?_cell gN6 hvar 46
  have k47 : w.cell? ⟨6, 47, none⟩ = some (.int .u8 11) := World.var?_cell gN6 hvar 47
  have k48 : w.cell? ⟨6, 48, none⟩ = some (.int .u8 54) := World.var?_cell gN6 hvar 48
  have k49 : w.cell? ⟨6, 49, none⟩ = some (.int .u8 26) := World.var?_cell gN6 hvar 49
  have k50 : w.cell? ⟨6, 50, none⟩ = some (.int .u8 40) := World.var?_cell gN6 hvar 50
  have k51 : w.cell? ⟨6, 51, none⟩ = some (.int .u8 15) := World.var?_cell gN6 hvar 51
  have k52 : w.cell? ⟨6, 52, none⟩ = some (.int .u8 34) := World.var?_cell gN6 hvar 52
  have k53 : w.cell? ⟨6, 53, none⟩ = some (.int .u8 20) := World.var?_cell gN6 hvar 53
  have k54 : w.cell? ⟨6, 54, none⟩ = some (.int .u8 31) := World.var?_cell gN6 hvar 54
  have k55 : w.cell? ⟨6, 55, none⟩ = some (.int .u8 10) := World.var?_cell gN6 hvar 55
  have k56 : w.cell? ⟨6, 56, none⟩ = some (.int .u8 25) := World.var?_cell gN6 hvar 56
  have k57 : w.cell? ⟨6, 57, none⟩ = some (.int .u8 14) := World.var?_cell gN6 hvar 57
  have k58 : w.cell? ⟨6, 58, none⟩ = some (.int .u8 19) := World.var?_cell gN6 hvar 58
  have k59 : w.cell? ⟨6, 59, none⟩ = some (.int .u8 9) := World.var?_cell gN6 hvar 59
  have k60 : w.cell? ⟨6, 60, none⟩ = some (.int .u8 13) := World.var?_cell gN6 hvar 60
  have k61 : w.cell? ⟨6, 61, none⟩ = some (.int .u8 8) := World.var?_cell gN6 hvar 61
  have k62 : w.cell? ⟨6, 62, none⟩ = some (.int .u8 7) := World.var?_cell gN6 hvar 62
  have k63 : w.cell? ⟨6, 63, none⟩ = some (.int .u8 6) := World.var?_cell gN6 hvar 63
  simp only [Go.Abs.VRI, Go.Abs.VR]
  exact ⟨⟨_, k0, rfl⟩, ⟨_, k1, rfl⟩, ⟨_, k2, rfl⟩, ⟨_, k3, rfl⟩, ⟨_, k4, rfl⟩, ⟨_, k5, rfl⟩, ⟨_, k6, rfl⟩, ⟨_, k7, rfl⟩, ⟨_, k8, rfl⟩, ⟨_, k9, rfl⟩, ⟨_, k10, rfl⟩, ⟨_, k11, rfl⟩, ⟨_, k12, rfl⟩, ⟨_, k13, rfl⟩, ⟨_, k14, rfl⟩, ⟨_, k15, rfl⟩, ⟨_, k16, rfl⟩, ⟨_, k17, rfl⟩, ⟨_, k18, rfl⟩, ⟨_, k19, rfl⟩, ⟨_, k20, rfl⟩, ⟨_, k21, rfl⟩, ⟨_, k22, rfl⟩, ⟨_, k23, rfl⟩, ⟨_, k24, rfl⟩, ⟨_, k25, rfl⟩, ⟨_, k26, rfl⟩, ⟨_, k27, rfl⟩, ⟨_, k28, rfl⟩, ⟨_, k29, rfl⟩, ⟨_, k30, rfl⟩, ⟨_, k31, rfl⟩, ⟨_, k32, rfl⟩, ⟨_, k33, rfl⟩, ⟨_, k34, rfl⟩, ⟨_, k35, rfl⟩, ⟨_, k36, rfl⟩, ⟨_, k37, rfl⟩, ⟨_, k38, rfl⟩, ⟨_, k39, rfl⟩, ⟨_, k40, rfl⟩, ⟨_, k41, rfl⟩, ⟨_, k42, rfl⟩, ⟨_, k43, rfl⟩, ⟨_, k44, rfl⟩, ⟨_, k45, rfl⟩, ⟨_, k46, rfl⟩, ⟨_, k47, rfl⟩, ⟨_, k48, rfl⟩, ⟨_, k49, rfl⟩, ⟨_, k50, rfl⟩, ⟨_, k51, rfl⟩, ⟨_, k52, rfl⟩, ⟨_, k53, rfl⟩, ⟨_, k54, rfl⟩, ⟨_, k55, rfl⟩, ⟨_, k56, rfl⟩, ⟨_, k57, rfl⟩, ⟨_, k58, rfl⟩, ⟨_, k59, rfl⟩, ⟨_, k60, rfl⟩, ⟨_, k61, rfl⟩, ⟨_, k62, rfl⟩, ⟨_, k63, rfl⟩, trivial⟩
set_option maxRecDepth 100000 in
theorem vri4 {w : World} (hvar : w.var? Tryd.prog "internal/strconv.uint64pow10" = some cells4.toArray) {cs : List Go.Abs.AV} (h : seat.G 4 = some cs) : Go.Abs.VRI (Go.Abs.Env.bare (Go.Abs.immAll w) w) cs 4 0 := by
  cases h
  have k0 : w.cell? ⟨4, 0, none⟩ = some (.int .u64 1) := World.var?_cell gN4 hvar 0
  have k1 : w.cell? ⟨4, 1, none⟩ = some (.int .u64 10) := World.var?_cell gN4 hvar 1
  have k2 : w.cell? ⟨4, 2, none⟩ = some (.int .u64 100) := World.var?_cell gN4 hvar 2
  have k3 : w.cell? ⟨4, 3, none⟩ = some (.int .u64 1000) := World.var?_cell gN4 hvar 3
  have k4 : w.cell? ⟨4, 4, none⟩ = some (.int .u64 10000) := World.var?_cell gN4 hvar 4
  have k5 : w.cell? ⟨4, 5, none⟩ = some (.int .u64 100000) := World.var?_cell gN4 hvar 5
  have k6 : w.cell? ⟨4, 6, none⟩ = some (.int .u64 1000000) := World.var?_cell gN4 hvar 6
  have k7 : w.cell? ⟨4, 7, none⟩ = some (.int .u64 10000000) := World.var?_cell gN4 hvar 7
  have k8 : w.cell? ⟨4, 8, none⟩ = some (.int .u64 100000000) := World.var?_cell gN4 hvar 8
  have k9 : w.cell? ⟨4, 9, none⟩ = some (.int .u64 1000000000) := World.var?_cell gN4 hvar 9
  have k10 : w.cell? ⟨4, 10, none⟩ = some (.int .u64 10000000000) := World.var?_cell gN4 hvar 10
  have k11 : w.cell? ⟨4, 11, none⟩ = some (.int .u64 100000000000) := World.var?_cell gN4 hvar 11
  have k12 : w.cell? ⟨4, 12, none⟩ = some (.int .u64 1000000000000) := World.var?_cell gN4 hvar 12
  have k13 : w.cell? ⟨4, 13, none⟩ = some (.int .u64 10000000000000) := World.var?_cell gN4 hvar 13
  have k14 : w.cell? ⟨4, 14, none⟩ = some (.int .u64 100000000000000) := World.var?_cell gN4 hvar 14
  have k15 : w.cell? ⟨4, 15, none⟩ = some (.int .u64 1000000000000000) := World.var?_cell gN4 hvar 15
  have k16 : w.cell? ⟨4, 16, none⟩ = some (.int .u64 10000000000000000) := World.var?_cell gN4 hvar 16
  have k17 : w.cell? ⟨4, 17, none⟩ = some (.int .u64 100000000000000000) := World.var?_cell gN4 hvar 17
  have k18 : w.cell? ⟨4, 18, none⟩ = some (.int .u64 1000000000000000000) := World.var?_cell gN4 hvar 18
  have k19 : w.cell? ⟨4, 19, none⟩ = some (.int .u64 10000000000000000000) := World.var?_cell gN4 hvar 19
  simp only [Go.Abs.VRI, Go.Abs.VR]
  exact ⟨⟨_, k0, rfl⟩, ⟨_, k1, rfl⟩, ⟨_, k2, rfl⟩, ⟨_, k3, rfl⟩, ⟨_, k4, rfl⟩, ⟨_, k5, rfl⟩, ⟨_, k6, rfl⟩, ⟨_, k7, rfl⟩, ⟨_, k8, rfl⟩, ⟨_, k9, rfl⟩, ⟨_, k10, rfl⟩, ⟨_, k11, rfl⟩, ⟨_, k12, rfl⟩, ⟨_, k13, rfl⟩, ⟨_, k14, rfl⟩, ⟨_, k15, rfl⟩, ⟨_, k16, rfl⟩, ⟨_, k17, rfl⟩, ⟨_, k18, rfl⟩, ⟨_, k19, rfl⟩, trivial⟩
set_option maxRecDepth 100000 in
theorem vri0 {w : World} (hvar : w.var? Tryd.prog "pointillist/dec.next" = some cells0.toArray) {cs : List Go.Abs.AV} (h : seat.G 0 = some cs) : Go.Abs.VRI (Go.Abs.Env.bare (Go.Abs.immAll w) w) cs 0 0 := by
  cases h
  have k0 : w.cell? ⟨0, 0, none⟩ = some (.int .i64 2) := World.var?_cell gN0 hvar 0
  have k1 : w.cell? ⟨0, 1, none⟩ = some (.int .i64 3) := World.var?_cell gN0 hvar 1
  have k2 : w.cell? ⟨0, 2, none⟩ = some (.int .i64 0) := World.var?_cell gN0 hvar 2
  have k3 : w.cell? ⟨0, 3, none⟩ = some (.int .i64 1) := World.var?_cell gN0 hvar 3
  have k4 : w.cell? ⟨0, 4, none⟩ = some (.int .i64 2) := World.var?_cell gN0 hvar 4
  have k5 : w.cell? ⟨0, 5, none⟩ = some (.int .i64 3) := World.var?_cell gN0 hvar 5
  have k6 : w.cell? ⟨0, 6, none⟩ = some (.int .i64 0) := World.var?_cell gN0 hvar 6
  have k7 : w.cell? ⟨0, 7, none⟩ = some (.int .i64 0) := World.var?_cell gN0 hvar 7
  have k8 : w.cell? ⟨0, 8, none⟩ = some (.int .i64 2) := World.var?_cell gN0 hvar 8
  have k9 : w.cell? ⟨0, 9, none⟩ = some (.int .i64 4) := World.var?_cell gN0 hvar 9
  have k10 : w.cell? ⟨0, 10, none⟩ = some (.int .i64 6) := World.var?_cell gN0 hvar 10
  have k11 : w.cell? ⟨0, 11, none⟩ = some (.int .i64 0) := World.var?_cell gN0 hvar 11
  have k12 : w.cell? ⟨0, 12, none⟩ = some (.int .i64 5) := World.var?_cell gN0 hvar 12
  have k13 : w.cell? ⟨0, 13, none⟩ = some (.int .i64 0) := World.var?_cell gN0 hvar 13
  have k14 : w.cell? ⟨0, 14, none⟩ = some (.int .i64 0) := World.var?_cell gN0 hvar 14
  have k15 : w.cell? ⟨0, 15, none⟩ = some (.int .i64 0) := World.var?_cell gN0 hvar 15
  have k16 : w.cell? ⟨0, 16, none⟩ = some (.int .i64 5) := World.var?_cell gN0 hvar 16
  have k17 : w.cell? ⟨0, 17, none⟩ = some (.int .i64 0) := World.var?_cell gN0 hvar 17
  have k18 : w.cell? ⟨0, 18, none⟩ = some (.int .i64 6) := World.var?_cell gN0 hvar 18
  have k19 : w.cell? ⟨0, 19, none⟩ = some (.int .i64 0) := World.var?_cell gN0 hvar 19
  have k20 : w.cell? ⟨0, 20, none⟩ = some (.int .i64 5) := World.var?_cell gN0 hvar 20
  have k21 : w.cell? ⟨0, 21, none⟩ = some (.int .i64 0) := World.var?_cell gN0 hvar 21
  have k22 : w.cell? ⟨0, 22, none⟩ = some (.int .i64 6) := World.var?_cell gN0 hvar 22
  have k23 : w.cell? ⟨0, 23, none⟩ = some (.int .i64 0) := World.var?_cell gN0 hvar 23
  have k24 : w.cell? ⟨0, 24, none⟩ = some (.int .i64 8) := World.var?_cell gN0 hvar 24
  have k25 : w.cell? ⟨0, 25, none⟩ = some (.int .i64 0) := World.var?_cell gN0 hvar 25
  have k26 : w.cell? ⟨0, 26, none⟩ = some (.int .i64 0) := World.var?_cell gN0 hvar 26
  have k27 : w.cell? ⟨0, 27, none⟩ = some (.int .i64 7) := World.var?_cell gN0 hvar 27
  have k28 : w.cell? ⟨0, 28, none⟩ = some (.int .i64 8) := World.var?_cell gN0 hvar 28
  have k29 : w.cell? ⟨0, 29, none⟩ = some (.int .i64 0) := World.var?_cell gN0 hvar 29
  have k30 : w.cell? ⟨0, 30, none⟩ = some (.int .i64 0) := World.var?_cell gN0 hvar 30
  have k31 : w.cell? ⟨0, 31, none⟩ = some (.int .i64 0) := World.var?_cell gN0 hvar 31
  have k32 : w.cell? ⟨0, 32, none⟩ = some (.int .i64 8) := World.var?_cell gN0 hvar 32
  have k33 : w.cell? ⟨0, 33, none⟩ = some (.int .i64 0) := World.var?_cell gN0 hvar 33
  have k34 : w.cell? ⟨0, 34, none⟩ = some (.int .i64 0) := World.var?_cell gN0 hvar 34
  have k35 : w.cell? ⟨0, 35, none⟩ = some (.int .i64 0) := World.var?_cell gN0 hvar 35
  simp only [Go.Abs.VRI, Go.Abs.VR]
  exact ⟨⟨_, k0, rfl⟩, ⟨_, k1, rfl⟩, ⟨_, k2, rfl⟩, ⟨_, k3, rfl⟩, ⟨_, k4, rfl⟩, ⟨_, k5, rfl⟩, ⟨_, k6, rfl⟩, ⟨_, k7, rfl⟩, ⟨_, k8, rfl⟩, ⟨_, k9, rfl⟩, ⟨_, k10, rfl⟩, ⟨_, k11, rfl⟩, ⟨_, k12, rfl⟩, ⟨_, k13, rfl⟩, ⟨_, k14, rfl⟩, ⟨_, k15, rfl⟩, ⟨_, k16, rfl⟩, ⟨_, k17, rfl⟩, ⟨_, k18, rfl⟩, ⟨_, k19, rfl⟩, ⟨_, k20, rfl⟩, ⟨_, k21, rfl⟩, ⟨_, k22, rfl⟩, ⟨_, k23, rfl⟩, ⟨_, k24, rfl⟩, ⟨_, k25, rfl⟩, ⟨_, k26, rfl⟩, ⟨_, k27, rfl⟩, ⟨_, k28, rfl⟩, ⟨_, k29, rfl⟩, ⟨_, k30, rfl⟩, ⟨_, k31, rfl⟩, ⟨_, k32, rfl⟩, ⟨_, k33, rfl⟩, ⟨_, k34, rfl⟩, ⟨_, k35, rfl⟩, trivial⟩
set_option maxRecDepth 100000 in
theorem vri1 {w : World} (hvar : w.var? Tryd.prog "pointillist/dec.ends" = some cells1.toArray) {cs : List Go.Abs.AV} (h : seat.G 1 = some cs) : Go.Abs.VRI (Go.Abs.Env.bare (Go.Abs.immAll w) w) cs 1 0 := by
  cases h
  have k0 : w.cell? ⟨1, 0, none⟩ = some (.int .i64 0) := World.var?_cell gN1 hvar 0
  have k1 : w.cell? ⟨1, 1, none⟩ = some (.int .i64 0) := World.var?_cell gN1 hvar 1
  have k2 : w.cell? ⟨1, 2, none⟩ = some (.int .i64 1) := World.var?_cell gN1 hvar 2
  have k3 : w.cell? ⟨1, 3, none⟩ = some (.int .i64 0) := World.var?_cell gN1 hvar 3
  have k4 : w.cell? ⟨1, 4, none⟩ = some (.int .i64 1) := World.var?_cell gN1 hvar 4
  have k5 : w.cell? ⟨1, 5, none⟩ = some (.int .i64 1) := World.var?_cell gN1 hvar 5
  have k6 : w.cell? ⟨1, 6, none⟩ = some (.int .i64 0) := World.var?_cell gN1 hvar 6
  have k7 : w.cell? ⟨1, 7, none⟩ = some (.int .i64 0) := World.var?_cell gN1 hvar 7
  have k8 : w.cell? ⟨1, 8, none⟩ = some (.int .i64 1) := World.var?_cell gN1 hvar 8
  simp only [Go.Abs.VRI, Go.Abs.VR]
  exact ⟨⟨_, k0, rfl⟩, ⟨_, k1, rfl⟩, ⟨_, k2, rfl⟩, ⟨_, k3, rfl⟩, ⟨_, k4, rfl⟩, ⟨_, k5, rfl⟩, ⟨_, k6, rfl⟩, ⟨_, k7, rfl⟩, ⟨_, k8, rfl⟩, trivial⟩
theorem globs_ok {w : World} (hvar5 : w.var? Tryd.prog "math/bits.deBruijn32tab" = some cells5.toArray) (hvar6 : w.var? Tryd.prog "math/bits.deBruijn64tab" = some cells6.toArray) (hvar4 : w.var? Tryd.prog "internal/strconv.uint64pow10" = some cells4.toArray) (hvar0 : w.var? Tryd.prog "pointillist/dec.next" = some cells0.toArray) (hvar1 : w.var? Tryd.prog "pointillist/dec.ends" = some cells1.toArray) : ∀ g cs, seat.G g = some cs → Go.Abs.VRI (Go.Abs.Env.bare (Go.Abs.immAll w) w) cs g 0 := by
  intro g cs h
  match g, h with
  | 0, h => exact vri0 hvar0 h
  | 1, h => exact vri1 hvar1 h
  | 2, h => cases h
  | 3, h => cases h
  | 4, h => exact vri4 hvar4 h
  | 5, h => exact vri5 hvar5 h
  | 6, h => exact vri6 hvar6 h
  | g + 7, h => cases g <;> cases h
set_option maxRecDepth 100000 in
theorem lifted (os : Os) (started : os.Started) (H : Type) (enc : TypeId × Value → H) :
    ReturnsInHanded {} Tryd.checked os 6 .any (fun w args => (Rows.decPrintsSpec.pre enc Tryd.prog Tryd.f6 [] false w args ∧ laidMetH Tryd.prog Rows.decPrintsRow.laid w) ∧ sizedMet enc Tryd.prog Tryd.f6 (OpenSpec.ofChange Rows.decPrintsSpec) false w args)
      (Rows.decPrintsSpec.post enc Tryd.prog Tryd.f6 false true false false) := by
  refine returnsInHanded_of_change_and (C := Tryd.checked) (X := fun w _ => laidMetH Tryd.prog Rows.decPrintsRow.laid w) (fun _ _ _ hh h => h.of_heap hh) own started (by kernel_rfl) Tryd.func6
    (ChangeSpec.witness_at (enc := enc) (C := Tryd.checked) (os := os) (X := fun w _ => laidMetH Tryd.prog Rows.decPrintsRow.laid w) false (laidWorld os) #[.int .i64 0] 8 rfl (by kernel_rfl) (by kernel_rfl) (by kernel_rfl) (by kernel_rfl) (by kernel_rfl) (laid_met os _)) ?_
  intro W base args ds gs before hval0 hW _ _ hL _
  have hval : ∀ (j : Nat) t v, Tryd.f6.params[j]? = some t → args[j]? = some v → Value.okWide Tryd.prog W .any base t v := hval0
  have hW' := hW
  obtain ⟨p, q, hA0, hV, rfl, hfz, hnd⟩ := hW
  have hA : DataW.TrodAll enc Tryd.prog W 0 (fun _ => true) true Tryd.f6.params.toList args.toList ds p := hA0
  rw [Tryd.params6] at hA hval
  obtain ⟨v0, vs0, d0, ds0, p0, q0, hargs, rfl, rfl, h0, r0⟩ := trodAll_cons hA
  obtain ⟨rfl, rfl, rfl⟩ := trodAll_nil r0
  obtain rfl : args = #[v0] := by cases args; simp_all
  obtain ⟨rfl, rfl⟩ := trodVars_none hV
  obtain ⟨x0, rfl, rfl, rfl, k0⟩ := open_int Tryd.underlying2 (hval 0 2 v0 rfl rfl) h0
  have hc := Go.Abs.ACalls.top (S := seat) (v := .bool true) (u := .bool true) (l_decPrints' x0 k0) (fun _ _ h => by simpa only [Go.Abs.VR] using h) Tryd.func6 rfl rfl (imm := Go.Abs.immAll W) (w := W)
    (Go.Abs.immAll_ok W) (globs_ok (cells_of5 hL) (cells_of6 hL) (cells_of4 hL) (cells_of0 hL) (cells_of1 hL)) (Go.Abs.VRL.cons (Go.Abs.vr_int _ _ _) (Go.Abs.VRL.nil))
  refine hc.mono fun e W' ⟨he, hg⟩ => ?_
  subst he
  exact ⟨_, rfl, Go.Abs.law_post laidOut Tryd.underlying4 rfl rfl readable ⟨rfl, rfl, rfl⟩ hW' hg⟩
theorem over : Rows.DecPrintsSaid :=
  OpenClaim.holds_of_wide 6 Tryd.f6 rfl rfl rfl rfl rfl rfl rfl ⟨rfl, rfl, rfl, rfl, rfl⟩ rfl rfl rfl rfl rfl (by kernel_rfl) Tryd.func6 (by kernel_rfl)
    (of_decide_eq_true (by kernel_rfl)) (by unfold Func.isWrapper; first | (rw [if_pos (by decide +kernel)]; kernel_rfl) | (rw [if_neg (by decide +kernel)]; exact ⟨rfl, rfl⟩))
    (fun os started H enc _ => lifted os started H enc)
theorem proved : Rows.DecPrintsCardSaid :=
  Claim7.holds_tied_plain_at .later [] [.data, .data, .data, .data, .data] true (true, "cd995c49221542b99c31f4e2b3d1862a9d7bf5634d51a6a5628469daae5e8e8c") false
    over (fun _ h => by cases h) (by kernel_rfl) (fun _ h => by cases h) decPrints_row_tie rfl ⟨rfl, rfl⟩ (by kernel_rfl) rfl
    (fun f fn hf hfn => by
      obtain rfl : f = 6 := Option.some.inj ((show Tryd.prog.funcNamed "pointillist/pointillistlaw04.DecPrints" = some 6 by kernel_rfl).symm.trans hf) |>.symm
      obtain rfl : fn = Tryd.f6 := (Option.some.inj (Tryd.func6.symm.trans hfn)).symm
      exact ⟨by kernel_rfl, fun j t ht => by
        rw [Tryd.params6] at ht
        have hmem : t ∈ [2] := by simpa using Array.mem_of_getElem? ht
        simp only [List.mem_cons, List.not_mem_nil, or_false] at hmem
        subst hmem
        exact (show Tryd.prog.wantsStandIn 2 = false by kernel_rfl)
      ⟩)
    (by kernel_rfl)
#print axioms proved
end Go.Proofs.YtinjgnaimmenbaaDoor.decPrints
