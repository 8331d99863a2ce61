/- The types of this seat's program, as the abstract evaluator takes them. No condition: a table and its check by the kernel. -/
import Derived.Test.YtelgbnjagbleoaaDoorAbsC
import Derived.Test.YtelgbnjagbleoaaDoorProg
import Derived.KernelRfl
set_option linter.unusedSimpArgs false
set_option linter.unusedVariables false
set_option linter.deprecated false
namespace Go.Proofs.YtelgbnjagbleoaaDoor
open Go.Abs
def tbl : List (Option TI) := [
  some ⟨.other, 1, 0, (Value.tuple #[])⟩,
  some ⟨.func, 1, 8, Value.nilFunc⟩,
  some ⟨.int .i64, 1, 8, (Value.int IntKind.i64 0)⟩,
  some ⟨.int .i64, 1, 8, (Value.int IntKind.i64 0)⟩,
  some ⟨.bool, 1, 1, (Value.bool false)⟩,
  some ⟨.int .u8, 1, 1, (Value.int IntKind.u8 0)⟩,
  some ⟨.int .u8, 1, 1, (Value.int IntKind.u8 0)⟩,
  some ⟨.struct [(0, 1, false), (1, 1, false), (2, 1, false), (3, 1, false)], 4, 24, (Value.agg #[Value.int IntKind.i64 0, Value.int IntKind.i64 0, Value.bool false, Value.int IntKind.u8 0])⟩,
  some ⟨.struct [(0, 1, false), (1, 1, false), (2, 1, false), (3, 1, false)], 4, 24, (Value.agg #[Value.int IntKind.i64 0, Value.int IntKind.i64 0, Value.bool false, Value.int IntKind.u8 0])⟩,
  some ⟨.str, 1, 16, (Value.string { data := #[] })⟩,
  some ⟨.str, 1, 16, (Value.string { data := #[] })⟩,
  some ⟨.str, 1, 16, (Value.string { data := #[] })⟩,
  some ⟨.int .u64, 1, 8, (Value.int IntKind.u64 0)⟩,
  some ⟨.struct [(0, 1, false), (1, 1, false)], 2, 24, (Value.agg #[Value.string { data := #[] }, Value.int IntKind.u64 0])⟩,
  some ⟨.struct [(0, 1, false), (1, 1, false)], 2, 24, (Value.agg #[Value.string { data := #[] }, Value.int IntKind.u64 0])⟩,
  some ⟨.ptr, 1, 8, (Value.pointer none)⟩,
  some ⟨.ptr, 1, 8, (Value.pointer none)⟩,
  some ⟨.ptr, 1, 8, (Value.pointer none)⟩,
  some ⟨.struct [(0, 1, false)], 1, 8, (Value.agg #[Value.pointer none])⟩,
  some ⟨.struct [(0, 1, false)], 1, 8, (Value.agg #[Value.pointer none])⟩,
  some ⟨.iface, 1, 16, Value.nilIface⟩,
  some ⟨.int .i32, 1, 4, (Value.int IntKind.i32 0)⟩,
  some ⟨.slice 21, 1, 24, (Value.slice none 0 0)⟩,
  some ⟨.slice 5, 1, 24, (Value.slice none 0 0)⟩,
  some ⟨.func, 1, 8, Value.nilFunc⟩,
  some ⟨.slice 9, 1, 24, (Value.slice none 0 0)⟩,
  some ⟨.func, 1, 8, Value.nilFunc⟩,
  some ⟨.ptr, 1, 8, (Value.pointer none)⟩,
  some ⟨.func, 1, 8, Value.nilFunc⟩,
  some ⟨.int .i64, 1, 8, (Value.int IntKind.i64 0)⟩,
  some ⟨.other, 1, 0, (Value.tuple #[Value.int IntKind.i64 0, Value.int IntKind.i64 0])⟩,
  some ⟨.func, 1, 8, Value.nilFunc⟩,
  some ⟨.func, 1, 8, Value.nilFunc⟩,
  some ⟨.func, 1, 8, Value.nilFunc⟩,
  some ⟨.other, 1, 0, (Value.tuple #[Value.int IntKind.u8 0, Value.bool false])⟩,
  some ⟨.func, 1, 8, Value.nilFunc⟩,
  some ⟨.func, 1, 8, Value.nilFunc⟩,
  some ⟨.func, 1, 8, Value.nilFunc⟩,
  some ⟨.struct [(0, 1, false), (1, 1, false), (2, 1, false)], 3, 24, (Value.agg #[Value.int IntKind.i64 0, Value.int IntKind.i64 0, Value.int IntKind.i64 0])⟩,
  some ⟨.struct [(0, 1, false), (1, 1, false), (2, 1, false)], 3, 24, (Value.agg #[Value.int IntKind.i64 0, Value.int IntKind.i64 0, Value.int IntKind.i64 0])⟩,
  some ⟨.func, 1, 8, Value.nilFunc⟩,
  some ⟨.func, 1, 8, Value.nilFunc⟩,
  some ⟨.other, 1, 0, (Value.tuple #[Value.int IntKind.i64 0, Value.int IntKind.i64 0])⟩,
  some ⟨.func, 1, 8, Value.nilFunc⟩,
  some ⟨.func, 1, 8, Value.nilFunc⟩,
  some ⟨.slice 3, 1, 24, (Value.slice none 0 0)⟩,
  some ⟨.struct [(0, 1, false), (1, 1, false)], 2, 32, (Value.agg #[Value.bool false, Value.slice none 0 0])⟩,
  some ⟨.struct [(0, 1, false), (1, 1, false)], 2, 32, (Value.agg #[Value.bool false, Value.slice none 0 0])⟩,
  some ⟨.func, 1, 8, Value.nilFunc⟩,
  some ⟨.int .u64, 1, 8, (Value.int IntKind.u64 0)⟩,
  some ⟨.struct [(0, 1, false), (1, 1, false)], 2, 24, (Value.agg #[Value.string { data := #[] }, Value.int IntKind.i64 0])⟩,
  some ⟨.struct [(0, 1, false), (1, 1, false)], 2, 24, (Value.agg #[Value.string { data := #[] }, Value.int IntKind.i64 0])⟩,
  some ⟨.other, 1, 0, (Value.tuple #[Value.int IntKind.i64 0, Value.bool false])⟩,
  some ⟨.func, 1, 8, Value.nilFunc⟩,
  some ⟨.func, 1, 8, Value.nilFunc⟩,
  some ⟨.func, 1, 8, Value.nilFunc⟩,
  some ⟨.arr 33 3, 33, 264, (Value.agg #[Value.int IntKind.i64 0, Value.int IntKind.i64 0, Value.int IntKind.i64 0, Value.int IntKind.i64 0, Value.int IntKind.i64 0, Value.int IntKind.i64 0, Value.int IntKind.i64 0, Value.int IntKind.i64 0, Value.int IntKind.i64 0, Value.int IntKind.i64 0, Value.int IntKind.i64 0, Value.int IntKind.i64 0, Value.int IntKind.i64 0, Value.int IntKind.i64 0, Value.int IntKind.i64 0, Value.int IntKind.i64 0, Value.int IntKind.i64 0, Value.int IntKind.i64 0, Value.int IntKind.i64 0, Value.int IntKind.i64 0, Value.int IntKind.i64 0, Value.int IntKind.i64 0, Value.int IntKind.i64 0, Value.int IntKind.i64 0, Value.int IntKind.i64 0, Value.int IntKind.i64 0, Value.int IntKind.i64 0, Value.int IntKind.i64 0, Value.int IntKind.i64 0, Value.int IntKind.i64 0, Value.int IntKind.i64 0, Value.int IntKind.i64 0, Value.int IntKind.i64 0])⟩,
  some ⟨.other, 1, 0, (Value.tuple #[Value.int IntKind.i64 0, Value.int IntKind.i64 0])⟩,
  some ⟨.func, 1, 8, Value.nilFunc⟩,
  some ⟨.func, 1, 8, Value.nilFunc⟩,
  some ⟨.func, 1, 8, Value.nilFunc⟩,
  some ⟨.arr 4 3, 4, 32, (Value.agg #[Value.int IntKind.i64 0, Value.int IntKind.i64 0, Value.int IntKind.i64 0, Value.int IntKind.i64 0])⟩,
  some ⟨.arr 9 61, 36, 288, (Value.agg #[Value.int IntKind.i64 0, Value.int IntKind.i64 0, Value.int IntKind.i64 0, Value.int IntKind.i64 0, Value.int IntKind.i64 0, Value.int IntKind.i64 0, Value.int IntKind.i64 0, Value.int IntKind.i64 0, Value.int IntKind.i64 0, Value.int IntKind.i64 0, Value.int IntKind.i64 0, Value.int IntKind.i64 0, Value.int IntKind.i64 0, Value.int IntKind.i64 0, Value.int IntKind.i64 0, Value.int IntKind.i64 0, Value.int IntKind.i64 0, Value.int IntKind.i64 0, Value.int IntKind.i64 0, Value.int IntKind.i64 0, Value.int IntKind.i64 0, Value.int IntKind.i64 0, Value.int IntKind.i64 0, Value.int IntKind.i64 0, Value.int IntKind.i64 0, Value.int IntKind.i64 0, Value.int IntKind.i64 0, Value.int IntKind.i64 0, Value.int IntKind.i64 0, Value.int IntKind.i64 0, Value.int IntKind.i64 0, Value.int IntKind.i64 0, Value.int IntKind.i64 0, Value.int IntKind.i64 0, Value.int IntKind.i64 0, Value.int IntKind.i64 0])⟩,
  some ⟨.arr 9 3, 9, 72, (Value.agg #[Value.int IntKind.i64 0, Value.int IntKind.i64 0, Value.int IntKind.i64 0, Value.int IntKind.i64 0, Value.int IntKind.i64 0, Value.int IntKind.i64 0, Value.int IntKind.i64 0, Value.int IntKind.i64 0, Value.int IntKind.i64 0])⟩,
  some ⟨.struct [(0, 1, false), (1, 1, false), (2, 1, false)], 3, 40, (Value.agg #[Value.bool false, Value.slice none 0 0, Value.int IntKind.i64 0])⟩,
  some ⟨.struct [(0, 1, false), (1, 1, false), (2, 1, false)], 3, 40, (Value.agg #[Value.bool false, Value.slice none 0 0, Value.int IntKind.i64 0])⟩,
  some ⟨.func, 1, 8, Value.nilFunc⟩,
  some ⟨.func, 1, 8, Value.nilFunc⟩,
  some ⟨.other, 1, 0, (Value.tuple #[Value.int IntKind.u64 0, Value.int IntKind.u64 0])⟩,
  some ⟨.func, 1, 8, Value.nilFunc⟩,
  some ⟨.func, 1, 8, Value.nilFunc⟩,
  some ⟨.int .u64, 1, 8, (Value.int IntKind.u64 0)⟩,
  some ⟨.struct [(0, 1, false), (1, 2, true), (3, 1, false)], 4, 48, (Value.agg #[Value.bool false, Value.bool false, Value.slice none 0 0, Value.int IntKind.i64 0])⟩,
  some ⟨.struct [(0, 1, false), (1, 2, true), (3, 1, false)], 4, 48, (Value.agg #[Value.bool false, Value.bool false, Value.slice none 0 0, Value.int IntKind.i64 0])⟩,
  some ⟨.func, 1, 8, Value.nilFunc⟩,
  some ⟨.func, 1, 8, Value.nilFunc⟩,
  some ⟨.func, 1, 8, Value.nilFunc⟩,
  some ⟨.other, 1, 0, (Value.tuple #[Value.int IntKind.i64 0, Value.bool false])⟩,
  some ⟨.func, 1, 8, Value.nilFunc⟩,
  some ⟨.iface, 1, 16, Value.nilIface⟩,
  some ⟨.iface, 1, 16, Value.nilIface⟩,
  some ⟨.func, 1, 8, Value.nilFunc⟩,
  some ⟨.func, 1, 8, Value.nilFunc⟩,
  some ⟨.func, 1, 8, Value.nilFunc⟩,
  some ⟨.func, 1, 8, Value.nilFunc⟩,
  some ⟨.other, 1, 0, (Value.tuple #[Value.slice none 0 0, Value.int IntKind.i64 0])⟩,
  some ⟨.func, 1, 8, Value.nilFunc⟩,
  some ⟨.ptr, 1, 8, (Value.pointer none)⟩,
  some ⟨.func, 1, 8, Value.nilFunc⟩,
  some ⟨.struct [(0, 1, false), (1, 1, false), (2, 1, false), (3, 1, false)], 4, 40, (Value.agg #[Value.pointer none, Value.pointer none, Value.pointer none, Value.string { data := #[] }])⟩,
  some ⟨.struct [(0, 1, false), (1, 1, false), (2, 1, false), (3, 1, false)], 4, 40, (Value.agg #[Value.pointer none, Value.pointer none, Value.pointer none, Value.string { data := #[] }])⟩,
  some ⟨.arr 0 16, 0, 0, (Value.agg #[])⟩,
  some ⟨.struct [(0, 0, true)], 0, 0, (Value.agg #[])⟩,
  some ⟨.struct [(0, 0, true)], 0, 0, (Value.agg #[])⟩,
  some ⟨.int .u32, 1, 4, (Value.int IntKind.u32 0)⟩,
  some ⟨.int .u8, 1, 1, (Value.int IntKind.u8 0)⟩,
  some ⟨.int .u8, 1, 1, (Value.int IntKind.u8 0)⟩,
  some ⟨.func, 1, 8, Value.nilFunc⟩,
  some ⟨.ptr, 1, 8, (Value.pointer none)⟩,
  some ⟨.int .i32, 1, 4, (Value.int IntKind.i32 0)⟩,
  some ⟨.int .i32, 1, 4, (Value.int IntKind.i32 0)⟩,
  some ⟨.struct [(0, 1, false), (1, 1, false), (2, 1, false), (3, 1, false), (4, 1, false), (5, 1, false), (6, 1, false), (7, 1, false), (8, 1, false), (9, 1, false), (10, 1, false)], 11, 48, (Value.agg #[Value.int IntKind.u64 0, Value.int IntKind.u64 0, Value.int IntKind.u32 0, Value.int IntKind.u8 0, Value.int IntKind.u8 0, Value.int IntKind.u8 0, Value.int IntKind.u8 0, Value.nilFunc, Value.pointer none, Value.int IntKind.i32 0, Value.int IntKind.i32 0])⟩,
  some ⟨.struct [(0, 1, false), (1, 1, false), (2, 1, false), (3, 1, false), (4, 1, false), (5, 1, false), (6, 1, false), (7, 1, false), (8, 1, false), (9, 1, false), (10, 1, false)], 11, 48, (Value.agg #[Value.int IntKind.u64 0, Value.int IntKind.u64 0, Value.int IntKind.u32 0, Value.int IntKind.u8 0, Value.int IntKind.u8 0, Value.int IntKind.u8 0, Value.int IntKind.u8 0, Value.nilFunc, Value.pointer none, Value.int IntKind.i32 0, Value.int IntKind.i32 0])⟩,
  some ⟨.struct [(0, 1, false)], 1, 16, (Value.agg #[Value.string { data := #[] }])⟩,
  some ⟨.struct [(0, 1, false)], 1, 16, (Value.agg #[Value.string { data := #[] }])⟩,
  none]
def globs : List (Option (List AV)) := [some [.int .i64 0, .int .i64 0, .int .i64 0, .int .i64 0, .int .i64 0, .int .i64 0, .int .i64 0, .int .i64 0, .int .i64 0, .int .i64 1, .int .i64 1, .int .i64 0, .int .i64 0, .int .i64 1, .int .i64 0, .int .i64 0, .int .i64 0, .int .i64 0, .int .i64 0, .int .i64 0, .int .i64 0, .int .i64 0, .int .i64 0, .int .i64 0, .int .i64 0, .int .i64 0, .int .i64 0, .int .i64 0, .int .i64 0, .int .i64 0, .int .i64 0, .int .i64 0, .int .i64 1], some [.int .i64 2, .int .i64 3, .int .i64 0, .int .i64 1, .int .i64 2, .int .i64 3, .int .i64 0, .int .i64 0, .int .i64 2, .int .i64 4, .int .i64 6, .int .i64 0, .int .i64 5, .int .i64 0, .int .i64 0, .int .i64 0, .int .i64 5, .int .i64 0, .int .i64 6, .int .i64 0, .int .i64 5, .int .i64 0, .int .i64 6, .int .i64 0, .int .i64 8, .int .i64 0, .int .i64 0, .int .i64 7, .int .i64 8, .int .i64 0, .int .i64 0, .int .i64 0, .int .i64 8, .int .i64 0, .int .i64 0, .int .i64 0], some [.int .i64 0, .int .i64 0, .int .i64 1, .int .i64 0, .int .i64 1, .int .i64 1, .int .i64 0, .int .i64 0, .int .i64 1]]
def flats (_ : Nat) : Option (List Nat) := none
theorem flat_spec (t : Nat) (ks : List Nat) (h : flats t = some ks) : FlatOK Tryd.prog t ks := nomatch h
noncomputable def seat : Seat := { P := Tryd.prog, Γ := fun t => (match getO tbl t with | some o => o | none => none), G := fun g => (match getO globs g with | some o => o | none => none), flat := flats }
theorem tbl_kind : (tbl.zipIdx.all fun p => match p.1 with | some ti => kindOKB Tryd.prog p.2 ti.kind && (ti.zero.cells.size == ti.size) | none => true) = true := by kernel_rfl
noncomputable def infoOf (p : Option TI × Nat) : Option (Nat × Nat × Option Value) := match p.1 with | some _ => (Tryd.prog.info? p.2).map (fun i => (i.size, i.bytes, i.zero)) | none => none
theorem tbl_info : tbl.zipIdx.map infoOf = tbl.map fun o => o.map fun ti => (ti.size, ti.bytes, some ti.zero) := by kernel_rfl
theorem seat_ok : SeatOK seat where
  ty t ti h := by
    have hg : tbl[t]? = some (some ti) := by
      have : (match getO tbl t with | some o => o | none => none) = some ti := h
      rw [getO_eq] at this
      cases ho : tbl[t]? with
      | none => rw [ho] at this; cases this
      | some o => rw [ho] at this; simp only at this; rw [this]
    have hz : tbl.zipIdx[t]? = some (some ti, t) := by simp [List.getElem?_zipIdx, hg]
    have hk := List.all_eq_true.1 tbl_kind _ (List.mem_of_getElem? hz)
    simp only [Bool.and_eq_true, beq_iff_eq] at hk
    have hi := congrArg (fun l => l[t]?) tbl_info
    simp only [List.getElem?_map, hz, hg, Option.map_some, infoOf] at hi
    exact ⟨hk.1, Option.some.inj hi, hk.2⟩
  mixed := by kernel_rfl
  flat t ks h := flat_spec t ks h
theorem seat_g : GOK seat := ⟨fun g cs h => by
  have : (match getO globs g with | some o => o | none => none) = some cs := h
  rw [getO_eq] at this
  have hc : ∀ o ∈ globs, ∀ cs, o = some cs → ClosedL cs := by simp [globs, ClosedL, Closed]
  cases ho : globs[g]? with
  | none => rw [ho] at this; cases this
  | some o => rw [ho] at this; exact hc o (List.mem_of_getElem? ho) cs this⟩
end Go.Proofs.YtelgbnjagbleoaaDoor
