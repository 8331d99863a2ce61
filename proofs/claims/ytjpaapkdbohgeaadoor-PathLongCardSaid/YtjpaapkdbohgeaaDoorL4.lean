/- Definitions and lemmas for the law, part 4. No condition beyond those in each statement. -/
import Derived.Test.YtjpaapkdbohgeaaDoorProg
import Derived.KernelRfl
import Derived.Test.YtjpaapkdbohgeaaDoorL3
set_option linter.unusedSimpArgs false
set_option linter.unusedVariables false
set_option linter.deprecated false
namespace Go.Proofs.YtjpaapkdbohgeaaDoor
open Go.Abs
def tbl : List (Option TI) := [
  some ⟨.other, 1, 0, (Value.tuple #[])⟩,
  some ⟨.func, 1, 8, Value.nilFunc⟩,
  some ⟨.int .i64, 1, 8, (Value.int IntKind.i64 0)⟩,
  some ⟨.int .i64, 1, 8, (Value.int IntKind.i64 0)⟩,
  some ⟨.bool, 1, 1, (Value.bool false)⟩,
  some ⟨.int .u8, 1, 1, (Value.int IntKind.u8 0)⟩,
  some ⟨.int .u8, 1, 1, (Value.int IntKind.u8 0)⟩,
  some ⟨.struct [(0, 1, false), (1, 1, false), (2, 1, false), (3, 1, false)], 4, 24, (Value.agg #[Value.int IntKind.i64 0, Value.int IntKind.i64 0, Value.bool false, Value.int IntKind.u8 0])⟩,
  some ⟨.struct [(0, 1, false), (1, 1, false), (2, 1, false), (3, 1, false)], 4, 24, (Value.agg #[Value.int IntKind.i64 0, Value.int IntKind.i64 0, Value.bool false, Value.int IntKind.u8 0])⟩,
  some ⟨.str, 1, 16, (Value.string { data := #[] })⟩,
  some ⟨.str, 1, 16, (Value.string { data := #[] })⟩,
  some ⟨.str, 1, 16, (Value.string { data := #[] })⟩,
  some ⟨.int .u64, 1, 8, (Value.int IntKind.u64 0)⟩,
  some ⟨.struct [(0, 1, false), (1, 1, false)], 2, 24, (Value.agg #[Value.string { data := #[] }, Value.int IntKind.u64 0])⟩,
  some ⟨.struct [(0, 1, false), (1, 1, false)], 2, 24, (Value.agg #[Value.string { data := #[] }, Value.int IntKind.u64 0])⟩,
  some ⟨.ptr, 1, 8, (Value.pointer none)⟩,
  some ⟨.ptr, 1, 8, (Value.pointer none)⟩,
  some ⟨.ptr, 1, 8, (Value.pointer none)⟩,
  some ⟨.struct [(0, 1, false)], 1, 8, (Value.agg #[Value.pointer none])⟩,
  some ⟨.struct [(0, 1, false)], 1, 8, (Value.agg #[Value.pointer none])⟩,
  some ⟨.iface, 1, 16, Value.nilIface⟩,
  some ⟨.int .i32, 1, 4, (Value.int IntKind.i32 0)⟩,
  some ⟨.func, 1, 8, Value.nilFunc⟩,
  some ⟨.slice 38, 1, 24, (Value.slice none 0 0)⟩,
  some ⟨.int .i64, 1, 8, (Value.int IntKind.i64 0)⟩,
  some ⟨.other, 1, 0, (Value.tuple #[Value.slice none 0 0, Value.int IntKind.i64 0, Value.int IntKind.i64 0])⟩,
  some ⟨.func, 1, 8, Value.nilFunc⟩,
  some ⟨.struct [(0, 1, false), (1, 1, false), (2, 1, false)], 3, 40, (Value.agg #[Value.slice none 0 0, Value.int IntKind.i64 0, Value.int IntKind.i64 0])⟩,
  some ⟨.struct [(0, 1, false), (1, 1, false), (2, 1, false)], 3, 40, (Value.agg #[Value.slice none 0 0, Value.int IntKind.i64 0, Value.int IntKind.i64 0])⟩,
  some ⟨.func, 1, 8, Value.nilFunc⟩,
  some ⟨.func, 1, 8, Value.nilFunc⟩,
  some ⟨.func, 1, 8, Value.nilFunc⟩,
  some ⟨.func, 1, 8, Value.nilFunc⟩,
  some ⟨.func, 1, 8, Value.nilFunc⟩,
  some ⟨.slice 5, 1, 24, (Value.slice none 0 0)⟩,
  some ⟨.func, 1, 8, Value.nilFunc⟩,
  some ⟨.slice 2, 1, 24, (Value.slice none 0 0)⟩,
  some ⟨.struct [(0, 1, false), (1, 1, false)], 2, 32, (Value.agg #[Value.int IntKind.u8 0, Value.slice none 0 0])⟩,
  some ⟨.struct [(0, 1, false), (1, 1, false)], 2, 32, (Value.agg #[Value.int IntKind.u8 0, Value.slice none 0 0])⟩,
  some ⟨.func, 1, 8, Value.nilFunc⟩,
  some ⟨.func, 1, 8, Value.nilFunc⟩,
  some ⟨.func, 1, 8, Value.nilFunc⟩,
  some ⟨.other, 1, 0, (Value.tuple #[Value.string { data := #[] }, Value.bool false])⟩,
  some ⟨.func, 1, 8, Value.nilFunc⟩,
  some ⟨.func, 1, 8, Value.nilFunc⟩,
  some ⟨.func, 1, 8, Value.nilFunc⟩,
  some ⟨.other, 1, 0, (Value.tuple #[Value.int IntKind.i64 0, Value.int IntKind.i64 0])⟩,
  some ⟨.func, 1, 8, Value.nilFunc⟩,
  some ⟨.func, 1, 8, Value.nilFunc⟩,
  some ⟨.struct [(0, 1, false), (1, 1, false), (2, 1, false)], 3, 24, (Value.agg #[Value.int IntKind.i64 0, Value.int IntKind.i64 0, Value.int IntKind.i64 0])⟩,
  some ⟨.struct [(0, 1, false), (1, 1, false), (2, 1, false)], 3, 24, (Value.agg #[Value.int IntKind.i64 0, Value.int IntKind.i64 0, Value.int IntKind.i64 0])⟩,
  some ⟨.func, 1, 8, Value.nilFunc⟩,
  some ⟨.func, 1, 8, Value.nilFunc⟩,
  some ⟨.func, 1, 8, Value.nilFunc⟩,
  some ⟨.func, 1, 8, Value.nilFunc⟩,
  some ⟨.func, 1, 8, Value.nilFunc⟩,
  some ⟨.func, 1, 8, Value.nilFunc⟩,
  some ⟨.struct [(0, 1, false), (1, 1, false)], 2, 24, (Value.agg #[Value.int IntKind.u8 0, Value.string { data := #[] }])⟩,
  some ⟨.struct [(0, 1, false), (1, 1, false)], 2, 24, (Value.agg #[Value.int IntKind.u8 0, Value.string { data := #[] }])⟩,
  some ⟨.other, 1, 0, (Value.tuple #[Value.agg #[Value.int IntKind.u8 0, Value.string { data := #[] }], Value.bool false])⟩,
  some ⟨.func, 1, 8, Value.nilFunc⟩,
  some ⟨.ptr, 1, 8, (Value.pointer none)⟩,
  some ⟨.struct [(0, 1, false), (1, 1, false)], 2, 32, (Value.agg #[Value.pointer none, Value.slice none 0 0])⟩,
  some ⟨.struct [(0, 1, false), (1, 1, false)], 2, 32, (Value.agg #[Value.pointer none, Value.slice none 0 0])⟩,
  some ⟨.func, 1, 8, Value.nilFunc⟩,
  some ⟨.iface, 1, 16, Value.nilIface⟩,
  some ⟨.iface, 1, 16, Value.nilIface⟩,
  some ⟨.func, 1, 8, Value.nilFunc⟩,
  some ⟨.other, 1, 0, (Value.tuple #[Value.int IntKind.i64 0, Value.nilIface])⟩,
  some ⟨.func, 1, 8, Value.nilFunc⟩,
  some ⟨.func, 1, 8, Value.nilFunc⟩,
  some ⟨.func, 1, 8, Value.nilFunc⟩,
  some ⟨.ptr, 1, 8, (Value.pointer none)⟩,
  some ⟨.func, 1, 8, Value.nilFunc⟩,
  some ⟨.func, 1, 8, Value.nilFunc⟩,
  some ⟨.other, 1, 0, (Value.tuple #[Value.int IntKind.u8 0, Value.bool false])⟩,
  some ⟨.func, 1, 8, Value.nilFunc⟩,
  some ⟨.other, 1, 0, (Value.tuple #[Value.slice none 0 0, Value.int IntKind.i64 0])⟩,
  some ⟨.func, 1, 8, Value.nilFunc⟩,
  some ⟨.func, 1, 8, Value.nilFunc⟩,
  some ⟨.func, 1, 8, Value.nilFunc⟩,
  some ⟨.func, 1, 8, Value.nilFunc⟩,
  some ⟨.func, 1, 8, Value.nilFunc⟩,
  some ⟨.func, 1, 8, Value.nilFunc⟩,
  some ⟨.slice 58, 1, 24, (Value.slice none 0 0)⟩,
  some ⟨.arr 10 58, 20, 240, (Value.agg #[Value.int IntKind.u8 0, Value.string { data := #[] }, Value.int IntKind.u8 0, Value.string { data := #[] }, Value.int IntKind.u8 0, Value.string { data := #[] }, Value.int IntKind.u8 0, Value.string { data := #[] }, Value.int IntKind.u8 0, Value.string { data := #[] }, Value.int IntKind.u8 0, Value.string { data := #[] }, Value.int IntKind.u8 0, Value.string { data := #[] }, Value.int IntKind.u8 0, Value.string { data := #[] }, Value.int IntKind.u8 0, Value.string { data := #[] }, Value.int IntKind.u8 0, Value.string { data := #[] }])⟩,
  some ⟨.func, 1, 8, Value.nilFunc⟩,
  some ⟨.int .u64, 1, 8, (Value.int IntKind.u64 0)⟩,
  some ⟨.func, 1, 8, Value.nilFunc⟩,
  some ⟨.int .u64, 1, 8, (Value.int IntKind.u64 0)⟩,
  some ⟨.ptr, 1, 8, (Value.pointer none)⟩,
  some ⟨.slice 3, 1, 24, (Value.slice none 0 0)⟩,
  some ⟨.struct [(0, 1, false), (1, 1, false)], 2, 32, (Value.agg #[Value.bool false, Value.slice none 0 0])⟩,
  some ⟨.struct [(0, 1, false), (1, 1, false)], 2, 32, (Value.agg #[Value.bool false, Value.slice none 0 0])⟩,
  some ⟨.func, 1, 8, Value.nilFunc⟩,
  some ⟨.struct [(0, 1, false), (1, 1, false)], 2, 24, (Value.agg #[Value.string { data := #[] }, Value.int IntKind.i64 0])⟩,
  some ⟨.struct [(0, 1, false), (1, 1, false)], 2, 24, (Value.agg #[Value.string { data := #[] }, Value.int IntKind.i64 0])⟩,
  some ⟨.arr 33 3, 33, 264, (Value.agg #[Value.int IntKind.i64 0, Value.int IntKind.i64 0, Value.int IntKind.i64 0, Value.int IntKind.i64 0, Value.int IntKind.i64 0, Value.int IntKind.i64 0, Value.int IntKind.i64 0, Value.int IntKind.i64 0, Value.int IntKind.i64 0, Value.int IntKind.i64 0, Value.int IntKind.i64 0, Value.int IntKind.i64 0, Value.int IntKind.i64 0, Value.int IntKind.i64 0, Value.int IntKind.i64 0, Value.int IntKind.i64 0, Value.int IntKind.i64 0, Value.int IntKind.i64 0, Value.int IntKind.i64 0, Value.int IntKind.i64 0, Value.int IntKind.i64 0, Value.int IntKind.i64 0, Value.int IntKind.i64 0, Value.int IntKind.i64 0, Value.int IntKind.i64 0, Value.int IntKind.i64 0, Value.int IntKind.i64 0, Value.int IntKind.i64 0, Value.int IntKind.i64 0, Value.int IntKind.i64 0, Value.int IntKind.i64 0, Value.int IntKind.i64 0, Value.int IntKind.i64 0])⟩,
  some ⟨.other, 1, 0, (Value.tuple #[Value.int IntKind.i64 0, Value.int IntKind.i64 0])⟩,
  some ⟨.func, 1, 8, Value.nilFunc⟩,
  some ⟨.other, 1, 0, (Value.tuple #[Value.int IntKind.i64 0, Value.bool false])⟩,
  some ⟨.func, 1, 8, Value.nilFunc⟩,
  some ⟨.other, 1, 0, (Value.tuple #[Value.int IntKind.i64 0, Value.int IntKind.i64 0])⟩,
  some ⟨.func, 1, 8, Value.nilFunc⟩,
  none,
  some ⟨.func, 1, 8, Value.nilFunc⟩,
  some ⟨.func, 1, 8, Value.nilFunc⟩,
  some ⟨.func, 1, 8, Value.nilFunc⟩,
  some ⟨.func, 1, 8, Value.nilFunc⟩,
  some ⟨.struct [(0, 1, false), (1, 2, true), (3, 1, false)], 4, 48, (Value.agg #[Value.bool false, Value.bool false, Value.slice none 0 0, Value.int IntKind.i64 0])⟩,
  some ⟨.struct [(0, 1, false), (1, 2, true), (3, 1, false)], 4, 48, (Value.agg #[Value.bool false, Value.bool false, Value.slice none 0 0, Value.int IntKind.i64 0])⟩,
  some ⟨.func, 1, 8, Value.nilFunc⟩,
  some ⟨.func, 1, 8, Value.nilFunc⟩,
  some ⟨.func, 1, 8, Value.nilFunc⟩,
  some ⟨.other, 1, 0, (Value.tuple #[Value.int IntKind.i64 0, Value.bool false])⟩,
  some ⟨.func, 1, 8, Value.nilFunc⟩,
  some ⟨.func, 1, 8, Value.nilFunc⟩,
  some ⟨.arr 24 5, 24, 24, (Value.agg #[Value.int IntKind.u8 0, Value.int IntKind.u8 0, Value.int IntKind.u8 0, Value.int IntKind.u8 0, Value.int IntKind.u8 0, Value.int IntKind.u8 0, Value.int IntKind.u8 0, Value.int IntKind.u8 0, Value.int IntKind.u8 0, Value.int IntKind.u8 0, Value.int IntKind.u8 0, Value.int IntKind.u8 0, Value.int IntKind.u8 0, Value.int IntKind.u8 0, Value.int IntKind.u8 0, Value.int IntKind.u8 0, Value.int IntKind.u8 0, Value.int IntKind.u8 0, Value.int IntKind.u8 0, Value.int IntKind.u8 0, Value.int IntKind.u8 0, Value.int IntKind.u8 0, Value.int IntKind.u8 0, Value.int IntKind.u8 0])⟩,
  some ⟨.func, 1, 8, Value.nilFunc⟩,
  some ⟨.func, 1, 8, Value.nilFunc⟩,
  some ⟨.other, 1, 0, (Value.tuple #[Value.slice none 0 0, Value.string { data := #[] }])⟩,
  some ⟨.func, 1, 8, Value.nilFunc⟩,
  some ⟨.func, 1, 8, Value.nilFunc⟩,
  some ⟨.func, 1, 8, Value.nilFunc⟩,
  some ⟨.func, 1, 8, Value.nilFunc⟩,
  some ⟨.func, 1, 8, Value.nilFunc⟩,
  some ⟨.func, 1, 8, Value.nilFunc⟩,
  some ⟨.arr 20 87, 20, 160, (Value.agg #[Value.int IntKind.u64 0, Value.int IntKind.u64 0, Value.int IntKind.u64 0, Value.int IntKind.u64 0, Value.int IntKind.u64 0, Value.int IntKind.u64 0, Value.int IntKind.u64 0, Value.int IntKind.u64 0, Value.int IntKind.u64 0, Value.int IntKind.u64 0, Value.int IntKind.u64 0, Value.int IntKind.u64 0, Value.int IntKind.u64 0, Value.int IntKind.u64 0, Value.int IntKind.u64 0, Value.int IntKind.u64 0, Value.int IntKind.u64 0, Value.int IntKind.u64 0, Value.int IntKind.u64 0, Value.int IntKind.u64 0])⟩,
  some ⟨.int .u32, 1, 4, (Value.int IntKind.u32 0)⟩,
  some ⟨.arr 65 5, 65, 65, (Value.agg ([Value.int IntKind.u8 0, Value.int IntKind.u8 0, Value.int IntKind.u8 0, Value.int IntKind.u8 0, Value.int IntKind.u8 0, Value.int IntKind.u8 0, Value.int IntKind.u8 0, Value.int IntKind.u8 0, Value.int IntKind.u8 0, Value.int IntKind.u8 0, Value.int IntKind.u8 0, Value.int IntKind.u8 0, Value.int IntKind.u8 0, Value.int IntKind.u8 0, Value.int IntKind.u8 0, Value.int IntKind.u8 0, Value.int IntKind.u8 0, Value.int IntKind.u8 0, Value.int IntKind.u8 0, Value.int IntKind.u8 0, Value.int IntKind.u8 0, Value.int IntKind.u8 0, Value.int IntKind.u8 0, Value.int IntKind.u8 0, Value.int IntKind.u8 0, Value.int IntKind.u8 0, Value.int IntKind.u8 0, Value.int IntKind.u8 0, Value.int IntKind.u8 0, Value.int IntKind.u8 0, Value.int IntKind.u8 0, Value.int IntKind.u8 0].append [Value.int IntKind.u8 0, Value.int IntKind.u8 0, Value.int IntKind.u8 0, Value.int IntKind.u8 0, Value.int IntKind.u8 0, Value.int IntKind.u8 0, Value.int IntKind.u8 0, Value.int IntKind.u8 0, Value.int IntKind.u8 0, Value.int IntKind.u8 0, Value.int IntKind.u8 0, Value.int IntKind.u8 0, Value.int IntKind.u8 0, Value.int IntKind.u8 0, Value.int IntKind.u8 0, Value.int IntKind.u8 0, Value.int IntKind.u8 0, Value.int IntKind.u8 0, Value.int IntKind.u8 0, Value.int IntKind.u8 0, Value.int IntKind.u8 0, Value.int IntKind.u8 0, Value.int IntKind.u8 0, Value.int IntKind.u8 0, Value.int IntKind.u8 0, Value.int IntKind.u8 0, Value.int IntKind.u8 0, Value.int IntKind.u8 0, Value.int IntKind.u8 0, Value.int IntKind.u8 0, Value.int IntKind.u8 0, Value.int IntKind.u8 0, Value.int IntKind.u8 0]).toArray)⟩,
  some ⟨.func, 1, 8, Value.nilFunc⟩,
  some ⟨.func, 1, 8, Value.nilFunc⟩,
  some ⟨.arr 4 3, 4, 32, (Value.agg #[Value.int IntKind.i64 0, Value.int IntKind.i64 0, Value.int IntKind.i64 0, Value.int IntKind.i64 0])⟩,
  some ⟨.arr 9 132, 36, 288, (Value.agg #[Value.int IntKind.i64 0, Value.int IntKind.i64 0, Value.int IntKind.i64 0, Value.int IntKind.i64 0, Value.int IntKind.i64 0, Value.int IntKind.i64 0, Value.int IntKind.i64 0, Value.int IntKind.i64 0, Value.int IntKind.i64 0, Value.int IntKind.i64 0, Value.int IntKind.i64 0, Value.int IntKind.i64 0, Value.int IntKind.i64 0, Value.int IntKind.i64 0, Value.int IntKind.i64 0, Value.int IntKind.i64 0, Value.int IntKind.i64 0, Value.int IntKind.i64 0, Value.int IntKind.i64 0, Value.int IntKind.i64 0, Value.int IntKind.i64 0, Value.int IntKind.i64 0, Value.int IntKind.i64 0, Value.int IntKind.i64 0, Value.int IntKind.i64 0, Value.int IntKind.i64 0, Value.int IntKind.i64 0, Value.int IntKind.i64 0, Value.int IntKind.i64 0, Value.int IntKind.i64 0, Value.int IntKind.i64 0, Value.int IntKind.i64 0, Value.int IntKind.i64 0, Value.int IntKind.i64 0, Value.int IntKind.i64 0, Value.int IntKind.i64 0])⟩,
  some ⟨.arr 9 3, 9, 72, (Value.agg #[Value.int IntKind.i64 0, Value.int IntKind.i64 0, Value.int IntKind.i64 0, Value.int IntKind.i64 0, Value.int IntKind.i64 0, Value.int IntKind.i64 0, Value.int IntKind.i64 0, Value.int IntKind.i64 0, Value.int IntKind.i64 0])⟩,
  some ⟨.struct [(0, 1, false), (1, 1, false), (2, 1, false)], 3, 40, (Value.agg #[Value.bool false, Value.slice none 0 0, Value.int IntKind.i64 0])⟩,
  some ⟨.struct [(0, 1, false), (1, 1, false), (2, 1, false)], 3, 40, (Value.agg #[Value.bool false, Value.slice none 0 0, Value.int IntKind.i64 0])⟩,
  some ⟨.func, 1, 8, Value.nilFunc⟩,
  some ⟨.func, 1, 8, Value.nilFunc⟩,
  some ⟨.other, 1, 0, (Value.tuple #[Value.int IntKind.u64 0, Value.int IntKind.u64 0])⟩,
  some ⟨.func, 1, 8, Value.nilFunc⟩,
  some ⟨.func, 1, 8, Value.nilFunc⟩,
  some ⟨.func, 1, 8, Value.nilFunc⟩,
  some ⟨.other, 1, 0, (Value.tuple #[Value.slice none 0 0, Value.int IntKind.i64 0])⟩,
  some ⟨.func, 1, 8, Value.nilFunc⟩,
  some ⟨.func, 1, 8, Value.nilFunc⟩,
  some ⟨.arr 32 5, 32, 32, (Value.agg #[Value.int IntKind.u8 0, Value.int IntKind.u8 0, Value.int IntKind.u8 0, Value.int IntKind.u8 0, Value.int IntKind.u8 0, Value.int IntKind.u8 0, Value.int IntKind.u8 0, Value.int IntKind.u8 0, Value.int IntKind.u8 0, Value.int IntKind.u8 0, Value.int IntKind.u8 0, Value.int IntKind.u8 0, Value.int IntKind.u8 0, Value.int IntKind.u8 0, Value.int IntKind.u8 0, Value.int IntKind.u8 0, Value.int IntKind.u8 0, Value.int IntKind.u8 0, Value.int IntKind.u8 0, Value.int IntKind.u8 0, Value.int IntKind.u8 0, Value.int IntKind.u8 0, Value.int IntKind.u8 0, Value.int IntKind.u8 0, Value.int IntKind.u8 0, Value.int IntKind.u8 0, Value.int IntKind.u8 0, Value.int IntKind.u8 0, Value.int IntKind.u8 0, Value.int IntKind.u8 0, Value.int IntKind.u8 0, Value.int IntKind.u8 0])⟩,
  some ⟨.arr 64 5, 64, 64, (Value.agg #[Value.int IntKind.u8 0, Value.int IntKind.u8 0, Value.int IntKind.u8 0, Value.int IntKind.u8 0, Value.int IntKind.u8 0, Value.int IntKind.u8 0, Value.int IntKind.u8 0, Value.int IntKind.u8 0, Value.int IntKind.u8 0, Value.int IntKind.u8 0, Value.int IntKind.u8 0, Value.int IntKind.u8 0, Value.int IntKind.u8 0, Value.int IntKind.u8 0, Value.int IntKind.u8 0, Value.int IntKind.u8 0, Value.int IntKind.u8 0, Value.int IntKind.u8 0, Value.int IntKind.u8 0, Value.int IntKind.u8 0, Value.int IntKind.u8 0, Value.int IntKind.u8 0, Value.int IntKind.u8 0, Value.int IntKind.u8 0, Value.int IntKind.u8 0, Value.int IntKind.u8 0, Value.int IntKind.u8 0, Value.int IntKind.u8 0, Value.int IntKind.u8 0, Value.int IntKind.u8 0, Value.int IntKind.u8 0, Value.int IntKind.u8 0, Value.int IntKind.u8 0, Value.int IntKind.u8 0, Value.int IntKind.u8 0, Value.int IntKind.u8 0, Value.int IntKind.u8 0, Value.int IntKind.u8 0, Value.int IntKind.u8 0, Value.int IntKind.u8 0, Value.int IntKind.u8 0, Value.int IntKind.u8 0, Value.int IntKind.u8 0, Value.int IntKind.u8 0, Value.int IntKind.u8 0, Value.int IntKind.u8 0, Value.int IntKind.u8 0, Value.int IntKind.u8 0, Value.int IntKind.u8 0, Value.int IntKind.u8 0, Value.int IntKind.u8 0, Value.int IntKind.u8 0, Value.int IntKind.u8 0, Value.int IntKind.u8 0, Value.int IntKind.u8 0, Value.int IntKind.u8 0, Value.int IntKind.u8 0, Value.int IntKind.u8 0, Value.int IntKind.u8 0, Value.int IntKind.u8 0, Value.int IntKind.u8 0, Value.int IntKind.u8 0, Value.int IntKind.u8 0, Value.int IntKind.u8 0])⟩,
  some ⟨.ptr, 1, 8, (Value.pointer none)⟩,
  some ⟨.struct [(0, 1, false), (1, 1, false), (2, 1, false), (3, 1, false)], 4, 40, (Value.agg #[Value.pointer none, Value.pointer none, Value.pointer none, Value.string { data := #[] }])⟩,
  some ⟨.struct [(0, 1, false), (1, 1, false), (2, 1, false), (3, 1, false)], 4, 40, (Value.agg #[Value.pointer none, Value.pointer none, Value.pointer none, Value.string { data := #[] }])⟩,
  some ⟨.arr 0 16, 0, 0, (Value.agg #[])⟩,
  some ⟨.struct [(0, 0, true)], 0, 0, (Value.agg #[])⟩,
  some ⟨.struct [(0, 0, true)], 0, 0, (Value.agg #[])⟩,
  some ⟨.int .u8, 1, 1, (Value.int IntKind.u8 0)⟩,
  some ⟨.int .u8, 1, 1, (Value.int IntKind.u8 0)⟩,
  some ⟨.func, 1, 8, Value.nilFunc⟩,
  some ⟨.int .i32, 1, 4, (Value.int IntKind.i32 0)⟩,
  some ⟨.int .i32, 1, 4, (Value.int IntKind.i32 0)⟩,
  some ⟨.struct [(0, 1, false), (1, 1, false), (2, 1, false), (3, 1, false), (4, 1, false), (5, 1, false), (6, 1, false), (7, 1, false), (8, 1, false), (9, 1, false), (10, 1, false)], 11, 48, (Value.agg #[Value.int IntKind.u64 0, Value.int IntKind.u64 0, Value.int IntKind.u32 0, Value.int IntKind.u8 0, Value.int IntKind.u8 0, Value.int IntKind.u8 0, Value.int IntKind.u8 0, Value.nilFunc, Value.pointer none, Value.int IntKind.i32 0, Value.int IntKind.i32 0])⟩,
  some ⟨.struct [(0, 1, false), (1, 1, false), (2, 1, false), (3, 1, false), (4, 1, false), (5, 1, false), (6, 1, false), (7, 1, false), (8, 1, false), (9, 1, false), (10, 1, false)], 11, 48, (Value.agg #[Value.int IntKind.u64 0, Value.int IntKind.u64 0, Value.int IntKind.u32 0, Value.int IntKind.u8 0, Value.int IntKind.u8 0, Value.int IntKind.u8 0, Value.int IntKind.u8 0, Value.nilFunc, Value.pointer none, Value.int IntKind.i32 0, Value.int IntKind.i32 0])⟩,
  some ⟨.struct [(0, 1, false)], 1, 16, (Value.agg #[Value.string { data := #[] }])⟩,
  some ⟨.struct [(0, 1, false)], 1, 16, (Value.agg #[Value.string { data := #[] }])⟩]
def globs : List (Option (List AV)) := [some [.int .u8 77, .str [110, 110], .int .u8 76, .str [110, 110], .int .u8 72, .str [110], .int .u8 86, .str [110], .int .u8 67, .str [110, 110, 110, 110, 110, 110], .int .u8 83, .str [110, 110, 110, 110], .int .u8 81, .str [110, 110, 110, 110], .int .u8 84, .str [110, 110], .int .u8 65, .str [117, 117, 110, 103, 102, 110, 110], .int .u8 90, .str []], some [.int .i64 0, .int .i64 0, .int .i64 0, .int .i64 0, .int .i64 0, .int .i64 0, .int .i64 0, .int .i64 0, .int .i64 0, .int .i64 1, .int .i64 1, .int .i64 0, .int .i64 0, .int .i64 1, .int .i64 0, .int .i64 0, .int .i64 0, .int .i64 0, .int .i64 0, .int .i64 0, .int .i64 0, .int .i64 0, .int .i64 0, .int .i64 0, .int .i64 0, .int .i64 0, .int .i64 0, .int .i64 0, .int .i64 0, .int .i64 0, .int .i64 0, .int .i64 0, .int .i64 1], none, some [.int .i64 2, .int .i64 3, .int .i64 0, .int .i64 1, .int .i64 2, .int .i64 3, .int .i64 0, .int .i64 0, .int .i64 2, .int .i64 4, .int .i64 6, .int .i64 0, .int .i64 5, .int .i64 0, .int .i64 0, .int .i64 0, .int .i64 5, .int .i64 0, .int .i64 6, .int .i64 0, .int .i64 5, .int .i64 0, .int .i64 6, .int .i64 0, .int .i64 8, .int .i64 0, .int .i64 0, .int .i64 7, .int .i64 8, .int .i64 0, .int .i64 0, .int .i64 0, .int .i64 8, .int .i64 0, .int .i64 0, .int .i64 0], some [.int .i64 0, .int .i64 0, .int .i64 1, .int .i64 0, .int .i64 1, .int .i64 1, .int .i64 0, .int .i64 0, .int .i64 1]]
def flats (_ : Nat) : Option (List Nat) := none
theorem flat_spec (t : Nat) (ks : List Nat) (h : flats t = some ks) : FlatOK Tryd.prog t ks := nomatch h
noncomputable def seat : Seat := { P := Tryd.prog, Γ := fun t => (match getO tbl t with | some o => o | none => none), G := fun g => (match getO globs g with | some o => o | none => none), flat := flats }
theorem tbl_kind : (tbl.zipIdx.all fun p => match p.1 with | some ti => kindOKB Tryd.prog p.2 ti.kind && (ti.zero.cells.size == ti.size) | none => true) = true := by kernel_rfl
noncomputable def infoOf (p : Option TI × Nat) : Option (Nat × Nat × Option Value) := match p.1 with | some _ => (Tryd.prog.info? p.2).map (fun i => (i.size, i.bytes, i.zero)) | none => none
theorem tbl_info : tbl.zipIdx.map infoOf = tbl.map fun o => o.map fun ti => (ti.size, ti.bytes, some ti.zero) := by kernel_rfl
theorem seat_ok : SeatOK seat where
  ty t ti h := by
    have hg : tbl[t]? = some (some ti) := by
      have : (match getO tbl t with | some o => o | none => none) = some ti := h
      rw [getO_eq] at this
      cases ho : tbl[t]? with
      | none => rw [ho] at this; cases this
      | some o => rw [ho] at this; simp only at this; rw [this]
    have hz : tbl.zipIdx[t]? = some (some ti, t) := by simp [List.getElem?_zipIdx, hg]
    have hk := List.all_eq_true.1 tbl_kind _ (List.mem_of_getElem? hz)
    simp only [Bool.and_eq_true, beq_iff_eq] at hk
    have hi := congrArg (fun l => l[t]?) tbl_info
    simp only [List.getElem?_map, hz, hg, Option.map_some, infoOf] at hi
    exact ⟨hk.1, Option.some.inj hi, hk.2⟩
  mixed := by kernel_rfl
  flat t ks h := flat_spec t ks h
theorem seat_g : GOK seat := ⟨fun g cs h => by
  have : (match getO globs g with | some o => o | none => none) = some cs := h
  rw [getO_eq] at this
  have hc : ∀ o ∈ globs, ∀ cs, o = some cs → ClosedL cs := by simp [globs, ClosedL, Closed]
  cases ho : globs[g]? with
  | none => rw [ho] at this; cases this
  | some o => rw [ho] at this; exact hc o (List.mem_of_getElem? ho) cs this⟩
end Go.Proofs.YtjpaapkdbohgeaaDoor
namespace Go.Proofs.YtjpaapkdbohgeaaDoor
open Go.Abs
theorem trim_step {m : List Int} {x : Int} {n : Int} (hn : n = m.length - 1) (h0 : 0 < m.length) (hx : m[n.toNat]? = some x) : m = m.dropLast ++ [x] ∧ m.take n.toNat = m.dropLast := by
  have e : n.toNat = m.length - 1 := by omega
  rw [e] at hx ⊢
  have h1 : m ≠ [] := by intro h; simp [h] at h0
  refine ⟨?_, List.dropLast_eq_take.symm⟩
  conv => lhs; rw [← List.dropLast_concat_getLast h1]
  rw [List.getLast_eq_getElem]
  rw [List.getElem?_eq_getElem (by omega)] at hx
  rw [Option.some.inj hx]
theorem c_trim (l : List Int) (hl : l.length < 4611686018427387904) : ACalls seat 62 [lv l] [] (fun x _ => x = .ret (lv (trimL l))) := by
  refine ACalls.body seat_ok Tryd.func62 rfl rfl ?_
  conv => whnf
  refine Sat.invN seat_ok seat_g (maskOf 21 [0]) 0 (fun m => lv m :: undefs 20) (fun _ => []) (fun m => m.length ≤ l.length ∧ trimL m = trimL l) (fun m => m.length) l ⟨Nat.le_refl _, rfl⟩ (WeakL.of_eq rfl) rfl (fun _ _ => rfl) ?_
  rintro m ⟨h1, h2⟩
  conv => whnf
  refine brD (fun g => ?_) (fun g => ?_)
  · conv => whnf
    repeat' ((first | refine zq1 (by omega) ?_ | refine zq2 (by omega) ?_ | refine NumH.rem (by omega) ?_ | refine zq4 (by omega) ?_ | refine zq5 (by omega) ?_ | refine zq6 ?_ | refine Req.mk (by omega) ?_ | refine Req.mk (by dsimp only; omega) ?_ | refine Req.mk ⟨rfl, rfl, rfl, by simp [ci_length, *], rfl, by simp [okCell], by dsimp only; omega, by omega, by decide⟩ ?_ | refine Req.mk (show pendP _ _ by repeat' constructor) ?_ | (with_reducible first | refine brT (by assumption) ?_ | refine brF (by assumption) ?_ | refine brDT (by omega) ?_ | refine brDF (by omega) ?_ | refine brET (by omega) ?_ | refine brEF (by omega) ?_ | refine brNET (by omega) ?_ | refine brNEF (by omega) ?_ | refine brNot ?_)); conv => whnf)
    refine ldSub (by omega) fun x hx => ?_
    conv => whnf
    repeat' ((first | refine zq1 (by omega) ?_ | refine zq2 (by omega) ?_ | refine NumH.rem (by omega) ?_ | refine zq4 (by omega) ?_ | refine zq5 (by omega) ?_ | refine zq6 ?_ | refine Req.mk (by omega) ?_ | refine Req.mk (by dsimp only; omega) ?_ | refine Req.mk ⟨rfl, rfl, rfl, by simp [ci_length, *], rfl, by simp [okCell], by dsimp only; omega, by omega, by decide⟩ ?_ | refine Req.mk (show pendP _ _ by repeat' constructor) ?_ | (with_reducible first | refine brT (by assumption) ?_ | refine brF (by assumption) ?_ | refine brDT (by omega) ?_ | refine brDF (by omega) ?_ | refine brET (by omega) ?_ | refine brEF (by omega) ?_ | refine brNET (by omega) ?_ | refine brNEF (by omega) ?_ | refine brNot ?_)); conv => whnf)
    obtain ⟨e1, e2⟩ := trim_step rfl (by omega) hx
    refine brE (fun g2 => ?_) (fun g2 => ?_)
    · conv => whnf
      repeat' ((first | refine zq1 (by omega) ?_ | refine zq2 (by omega) ?_ | refine NumH.rem (by omega) ?_ | refine zq4 (by omega) ?_ | refine zq5 (by omega) ?_ | refine zq6 ?_ | refine Req.mk (by omega) ?_ | refine Req.mk (by dsimp only; omega) ?_ | refine Req.mk ⟨rfl, rfl, rfl, by simp [ci_length, *], rfl, by simp [okCell], by dsimp only; omega, by omega, by decide⟩ ?_ | refine Req.mk (show pendP _ _ by repeat' constructor) ?_ | (with_reducible first | refine brT (by assumption) ?_ | refine brF (by assumption) ?_ | refine brDT (by omega) ?_ | refine brDF (by omega) ?_ | refine brET (by omega) ?_ | refine brEF (by omega) ?_ | refine brNET (by omega) ?_ | refine brNEF (by omega) ?_ | refine brNot ?_)); conv => whnf)
      refine ⟨m.dropLast, ⟨?_, ?_⟩, ?_, ?_, ?_, rfl, trivial⟩
      · rw [List.length_dropLast]; omega
      · rw [← h2]; conv => rhs; rw [e1, trimL_last, if_pos g2]
      · rw [List.length_dropLast]; omega
      · refine ⟨weak_eq ?_, WeakL.of_eq rfl⟩
        refine (ci_part .i64 m 0 (m.length - 1 : Int).toNat).trans ?_
        rw [List.drop_zero, Nat.sub_zero, lv_take (by omega), e2]
      · exact ⟨lv_ids _, ClosedL.ids _ (by simp [undefs, ClosedL, Closed])⟩
    · conv => whnf
      repeat' ((first | refine zq1 (by omega) ?_ | refine zq2 (by omega) ?_ | refine NumH.rem (by omega) ?_ | refine zq4 (by omega) ?_ | refine zq5 (by omega) ?_ | refine zq6 ?_ | refine Req.mk (by omega) ?_ | refine Req.mk (by dsimp only; omega) ?_ | refine Req.mk ⟨rfl, rfl, rfl, by simp [ci_length, *], rfl, by simp [okCell], by dsimp only; omega, by omega, by decide⟩ ?_ | refine Req.mk (show pendP _ _ by repeat' constructor) ?_ | (with_reducible first | refine brT (by assumption) ?_ | refine brF (by assumption) ?_ | refine brDT (by omega) ?_ | refine brDF (by omega) ?_ | refine brET (by omega) ?_ | refine brEF (by omega) ?_ | refine brNET (by omega) ?_ | refine brNEF (by omega) ?_ | refine brNot ?_)); conv => whnf)
      rw [← h2]; conv => rhs; rw [e1, trimL_last, if_neg g2, ← e1]
      rfl
  · conv => whnf
    repeat' ((first | refine zq1 (by omega) ?_ | refine zq2 (by omega) ?_ | refine NumH.rem (by omega) ?_ | refine zq4 (by omega) ?_ | refine zq5 (by omega) ?_ | refine zq6 ?_ | refine Req.mk (by omega) ?_ | refine Req.mk (by dsimp only; omega) ?_ | refine Req.mk ⟨rfl, rfl, rfl, by simp [ci_length, *], rfl, by simp [okCell], by dsimp only; omega, by omega, by decide⟩ ?_ | refine Req.mk (show pendP _ _ by repeat' constructor) ?_ | (with_reducible first | refine brT (by assumption) ?_ | refine brF (by assumption) ?_ | refine brDT (by omega) ?_ | refine brDF (by omega) ?_ | refine brET (by omega) ?_ | refine brEF (by omega) ?_ | refine brNET (by omega) ?_ | refine brNEF (by omega) ?_ | refine brNot ?_)); conv => whnf)
    have : m = [] := List.eq_nil_of_length_eq_zero (by omega)
    subst this
    rw [← h2]; rfl
theorem c_trim' (l : List Int) (g : Option Nat) {n : Nat} (hn : l.length = n) (hl : n < 4611686018427387904) {h : Heap} {k : AEnd → Heap → Prop} {r : List Int} (he : trimL l = r) (hk : k (.ret (lv r)) h) : CallH seat 62 [.vec (ci .i64 l) n g] h k := by
  subst hn; subst he
  exact CallH.weakA (WeakL.cons lv_tok WeakL.nil) (CallH.lift seat_g (c_trim l hl) ⟨lv_closed _, trivial⟩ (lv_closed _) hk)
theorem c_plus (a b : List Int) (ha : Dg a) (hb : Dg b) (la : a.length ≤ 100000) (lb : b.length ≤ 100000) : ACalls seat 81 [lv a, lv b] [] (fun x _ => x = .ret (lv (trimL (plusC 0 a b)))) := by
  refine ACalls.body seat_ok Tryd.func81 rfl rfl ?_
  conv => whnf
  refine Sat.nilTok 5 3 1 rfl ?_
  refine Sat.invP seat_ok seat_g (maskOf 55 [0, 1, 5, 6, 7]) 1 (fun μ t h => ∃ (i : Nat) (c : Int) (o : List Int), (c = 0 ∨ c = 1) ∧ o.length = i ∧ o ++ plusC c (a.drop i) (b.drop i) = plusC 0 a b ∧
    μ = 2 * (a.length - i) + 2 * (b.length - i) + c.toNat ∧ t = (lv a::lv b::uu::uu::uu::.vec (ci .i64 o) i (some 0)::.int .i64 c::.int .i64 i::uu::uu::uu::uu::uu::uu::uu::uu::uu::uu::uu::uu::uu::uu::uu::uu::uu::uu::uu::uu::uu::uu::uu::uu::uu::uu::uu::uu::uu::uu::uu::uu::uu::uu::uu::uu::uu::uu::uu::uu::uu::uu::uu::uu::uu::uu::uu::[]) ∧ h = [.tok i 3 1]) ?_ ⟨_, _, WeakL.of_eq rfl, 0, 0, [], .inl rfl, rfl, rfl, rfl, rfl, rfl⟩ ?_
  · rintro _ _ _ ⟨i, c, o, -, -, -, rfl, rfl, rfl⟩
    exact ⟨rfl, (by simp [IdsL, Ids, IdsH, IdsC, lv_ids, ci_ids]), (by simp [IdsL, Ids, IdsH, IdsC, lv_ids, ci_ids])⟩
  rintro _ _ _ ⟨i, c, o, hc, hi, ho, rfl, rfl, rfl⟩
  have hlen : i ≤ 100001 := by
    have h1 := (plusC_spec 0 a b (.inl rfl) ha hb).2.2
    rw [← ho, List.length_append] at h1; omega
  conv => whnf
  by_cases g1 : i < a.length <;> by_cases g2 : i < b.length
  · repeat' ((first | refine zq1 (by omega) ?_ | refine zq2 (by omega) ?_ | refine NumH.rem (by omega) ?_ | refine zq4 (by omega) ?_ | refine zq5 (by omega) ?_ | refine zq6 ?_ | refine Req.mk (by omega) ?_ | refine Req.mk (by dsimp only; omega) ?_ | refine Req.mk ⟨rfl, rfl, rfl, by simp [ci_length, *], rfl, by simp [okCell], by dsimp only; omega, by omega, by decide⟩ ?_ | refine Req.mk (show pendP _ _ by repeat' constructor) ?_ | (with_reducible first | refine brT (by assumption) ?_ | refine brF (by assumption) ?_ | refine brDT (by omega) ?_ | refine brDF (by omega) ?_ | refine brET (by omega) ?_ | refine brEF (by omega) ?_ | refine brNET (by omega) ?_ | refine brNEF (by omega) ?_ | refine brNot ?_)); conv => whnf)
    refine ldSub (by omega) fun x hx => ?_
    have hx : a[i]? = some x := hx
    have hxb := ha x (List.mem_of_getElem? hx)
    conv => whnf
    repeat' ((first | refine zq1 (by omega) ?_ | refine zq2 (by omega) ?_ | refine NumH.rem (by omega) ?_ | refine zq4 (by omega) ?_ | refine zq5 (by omega) ?_ | refine zq6 ?_ | refine Req.mk (by omega) ?_ | refine Req.mk (by dsimp only; omega) ?_ | refine Req.mk ⟨rfl, rfl, rfl, by simp [ci_length, *], rfl, by simp [okCell], by dsimp only; omega, by omega, by decide⟩ ?_ | refine Req.mk (show pendP _ _ by repeat' constructor) ?_ | (with_reducible first | refine brT (by assumption) ?_ | refine brF (by assumption) ?_ | refine brDT (by omega) ?_ | refine brDF (by omega) ?_ | refine brET (by omega) ?_ | refine brEF (by omega) ?_ | refine brNET (by omega) ?_ | refine brNEF (by omega) ?_ | refine brNot ?_)); conv => whnf)
    refine ldSub (by omega) fun y hy => ?_
    have hy : b[i]? = some y := hy
    have hyb := hb y (List.mem_of_getElem? hy)
    conv => whnf
    repeat' ((first | refine zq1 (by omega) ?_ | refine zq2 (by omega) ?_ | refine NumH.rem (by omega) ?_ | refine zq4 (by omega) ?_ | refine zq5 (by omega) ?_ | refine zq6 ?_ | refine Req.mk (by omega) ?_ | refine Req.mk (by dsimp only; omega) ?_ | refine Req.mk ⟨rfl, rfl, rfl, by simp [ci_length, *], rfl, by simp [okCell], by dsimp only; omega, by omega, by decide⟩ ?_ | refine Req.mk (show pendP _ _ by repeat' constructor) ?_ | (with_reducible first | refine brT (by assumption) ?_ | refine brF (by assumption) ?_ | refine brDT (by omega) ?_ | refine brDF (by omega) ?_ | refine brET (by omega) ?_ | refine brEF (by omega) ?_ | refine brNET (by omega) ?_ | refine brNEF (by omega) ?_ | refine brNot ?_)); conv => whnf)
    refine ⟨_, _, ?_, WeakL.of_eq rfl, i + 1, (c + x + y) / 65536, o ++ [(c + x + y) % 65536], by omega, by simp [hi], ?_, rfl, ?_, rfl⟩
    · omega
    · rw [← ho, drop_cons' hx, drop_cons' hy, plusC]; simp
    · rw [← ci_append]; rfl
  · repeat' ((first | refine zq1 (by omega) ?_ | refine zq2 (by omega) ?_ | refine NumH.rem (by omega) ?_ | refine zq4 (by omega) ?_ | refine zq5 (by omega) ?_ | refine zq6 ?_ | refine Req.mk (by omega) ?_ | refine Req.mk (by dsimp only; omega) ?_ | refine Req.mk ⟨rfl, rfl, rfl, by simp [ci_length, *], rfl, by simp [okCell], by dsimp only; omega, by omega, by decide⟩ ?_ | refine Req.mk (show pendP _ _ by repeat' constructor) ?_ | (with_reducible first | refine brT (by assumption) ?_ | refine brF (by assumption) ?_ | refine brDT (by omega) ?_ | refine brDF (by omega) ?_ | refine brET (by omega) ?_ | refine brEF (by omega) ?_ | refine brNET (by omega) ?_ | refine brNEF (by omega) ?_ | refine brNot ?_)); conv => whnf)
    refine ldSub (by omega) fun x hx => ?_
    have hx : a[i]? = some x := hx
    have hxb := ha x (List.mem_of_getElem? hx)
    conv => whnf
    repeat' ((first | refine zq1 (by omega) ?_ | refine zq2 (by omega) ?_ | refine NumH.rem (by omega) ?_ | refine zq4 (by omega) ?_ | refine zq5 (by omega) ?_ | refine zq6 ?_ | refine Req.mk (by omega) ?_ | refine Req.mk (by dsimp only; omega) ?_ | refine Req.mk ⟨rfl, rfl, rfl, by simp [ci_length, *], rfl, by simp [okCell], by dsimp only; omega, by omega, by decide⟩ ?_ | refine Req.mk (show pendP _ _ by repeat' constructor) ?_ | (with_reducible first | refine brT (by assumption) ?_ | refine brF (by assumption) ?_ | refine brDT (by omega) ?_ | refine brDF (by omega) ?_ | refine brET (by omega) ?_ | refine brEF (by omega) ?_ | refine brNET (by omega) ?_ | refine brNEF (by omega) ?_ | refine brNot ?_)); conv => whnf)
    refine ⟨_, _, ?_, WeakL.of_eq rfl, i + 1, (c + x) / 65536, o ++ [(c + x) % 65536], by omega, by simp [hi], ?_, rfl, ?_, rfl⟩
    · omega
    · rw [← ho, drop_cons' hx, drop_nil' (l := b) (by omega), drop_nil' (l := b) (by omega), plusC]; simp
    · rw [← ci_append]; rfl
  · repeat' ((first | refine zq1 (by omega) ?_ | refine zq2 (by omega) ?_ | refine NumH.rem (by omega) ?_ | refine zq4 (by omega) ?_ | refine zq5 (by omega) ?_ | refine zq6 ?_ | refine Req.mk (by omega) ?_ | refine Req.mk (by dsimp only; omega) ?_ | refine Req.mk ⟨rfl, rfl, rfl, by simp [ci_length, *], rfl, by simp [okCell], by dsimp only; omega, by omega, by decide⟩ ?_ | refine Req.mk (show pendP _ _ by repeat' constructor) ?_ | (with_reducible first | refine brT (by assumption) ?_ | refine brF (by assumption) ?_ | refine brDT (by omega) ?_ | refine brDF (by omega) ?_ | refine brET (by omega) ?_ | refine brEF (by omega) ?_ | refine brNET (by omega) ?_ | refine brNEF (by omega) ?_ | refine brNot ?_)); conv => whnf)
    refine ldSub (by omega) fun y hy => ?_
    have hy : b[i]? = some y := hy
    have hyb := hb y (List.mem_of_getElem? hy)
    conv => whnf
    repeat' ((first | refine zq1 (by omega) ?_ | refine zq2 (by omega) ?_ | refine NumH.rem (by omega) ?_ | refine zq4 (by omega) ?_ | refine zq5 (by omega) ?_ | refine zq6 ?_ | refine Req.mk (by omega) ?_ | refine Req.mk (by dsimp only; omega) ?_ | refine Req.mk ⟨rfl, rfl, rfl, by simp [ci_length, *], rfl, by simp [okCell], by dsimp only; omega, by omega, by decide⟩ ?_ | refine Req.mk (show pendP _ _ by repeat' constructor) ?_ | (with_reducible first | refine brT (by assumption) ?_ | refine brF (by assumption) ?_ | refine brDT (by omega) ?_ | refine brDF (by omega) ?_ | refine brET (by omega) ?_ | refine brEF (by omega) ?_ | refine brNET (by omega) ?_ | refine brNEF (by omega) ?_ | refine brNot ?_)); conv => whnf)
    refine ⟨_, _, ?_, WeakL.of_eq rfl, i + 1, (c + y) / 65536, o ++ [(c + y) % 65536], by omega, by simp [hi], ?_, rfl, ?_, rfl⟩
    · omega
    · rw [← ho, drop_cons' hy, drop_nil' (l := a) (by omega), drop_nil' (l := a) (by omega), plusC]; simp
    · rw [← ci_append]; rfl
  · rcases hc with rfl | rfl
    · repeat' ((first | refine zq1 (by omega) ?_ | refine zq2 (by omega) ?_ | refine NumH.rem (by omega) ?_ | refine zq4 (by omega) ?_ | refine zq5 (by omega) ?_ | refine zq6 ?_ | refine Req.mk (by omega) ?_ | refine Req.mk (by dsimp only; omega) ?_ | refine Req.mk ⟨rfl, rfl, rfl, by simp [ci_length, *], rfl, by simp [okCell], by dsimp only; omega, by omega, by decide⟩ ?_ | refine Req.mk (show pendP _ _ by repeat' constructor) ?_ | (with_reducible first | refine brT (by assumption) ?_ | refine brF (by assumption) ?_ | refine brDT (by omega) ?_ | refine brDF (by omega) ?_ | refine brET (by omega) ?_ | refine brEF (by omega) ?_ | refine brNET (by omega) ?_ | refine brNEF (by omega) ?_ | refine brNot ?_)); conv => whnf)
      refine c_trim' o _ hi (by omega) rfl ?_
      conv => whnf
      rw [drop_nil' (l := a) (by omega), drop_nil' (l := b) (by omega)] at ho
      rw [← ho]; simp [plusC, retK, lv]
    · repeat' ((first | refine zq1 (by omega) ?_ | refine zq2 (by omega) ?_ | refine NumH.rem (by omega) ?_ | refine zq4 (by omega) ?_ | refine zq5 (by omega) ?_ | refine zq6 ?_ | refine Req.mk (by omega) ?_ | refine Req.mk (by dsimp only; omega) ?_ | refine Req.mk ⟨rfl, rfl, rfl, by simp [ci_length, *], rfl, by simp [okCell], by dsimp only; omega, by omega, by decide⟩ ?_ | refine Req.mk (show pendP _ _ by repeat' constructor) ?_ | (with_reducible first | refine brT (by assumption) ?_ | refine brF (by assumption) ?_ | refine brDT (by omega) ?_ | refine brDF (by omega) ?_ | refine brET (by omega) ?_ | refine brEF (by omega) ?_ | refine brNET (by omega) ?_ | refine brNEF (by omega) ?_ | refine brNot ?_)); conv => whnf)
      refine ⟨_, _, ?_, WeakL.of_eq rfl, i + 1, 0, o ++ [1], by omega, by simp [hi], ?_, rfl, ?_, rfl⟩
      · omega
      · rw [← ho, drop_nil' (l := a) (by omega), drop_nil' (l := a) (by omega), drop_nil' (l := b) (by omega), drop_nil' (l := b) (by omega)]; simp [plusC]
      · rw [← ci_append]; rfl
theorem c_plusN (m n : Nat) (hm : (dig m).length ≤ 100000) (hn : (dig n).length ≤ 100000) : ACalls seat 81 [lv (dig m), lv (dig n)] [] (fun x _ => x = .ret (lv (dig (m + n)))) := by
  rw [← plus_dig]; exact c_plus _ _ (dig_Dg m) (dig_Dg n) hm hn
theorem c_minus (a b : List Int) (ha : Dg a) (hb : Dg b) (la : a.length ≤ 100000) (lb : b.length ≤ 100000) : ACalls seat 94 [lv a, lv b] [] (fun x _ => x = .ret (lv (trimL (minusC 0 a b)))) := by
  refine ACalls.body seat_ok Tryd.func94 rfl rfl ?_
  conv => whnf
  refine Sat.nilTok 5 3 1 rfl ?_
  refine Sat.invP seat_ok seat_g (maskOf 41 [0, 1, 5, 6, 7]) 1 (fun μ t h => ∃ (i : Nat) (r : Int) (o : List Int), (r = 0 ∨ r = 1) ∧ o.length = i ∧ o ++ minusC r (a.drop i) (b.drop i) = minusC 0 a b ∧
    μ = a.length - i ∧ t = (lv a::lv b::uu::uu::uu::.vec (ci .i64 o) i (some 0)::.int .i64 r::.int .i64 i::uu::uu::uu::uu::uu::uu::uu::uu::uu::uu::uu::uu::uu::uu::uu::uu::uu::uu::uu::uu::uu::uu::uu::uu::uu::uu::uu::uu::uu::uu::uu::uu::uu::[]) ∧ h = [.tok i 3 1]) ?_ ⟨_, _, WeakL.of_eq rfl, 0, 0, [], .inl rfl, rfl, rfl, rfl, rfl, rfl⟩ ?_
  · rintro _ _ _ ⟨i, c, o, -, -, -, rfl, rfl, rfl⟩
    exact ⟨rfl, (by simp [IdsL, Ids, IdsH, IdsC, lv_ids, ci_ids]), (by simp [IdsL, Ids, IdsH, IdsC, lv_ids, ci_ids])⟩
  rintro _ _ _ ⟨i, r, o, hr, hi, ho, rfl, rfl, rfl⟩
  have hlen : i ≤ 100000 := by
    have h1 := (minusC_spec 0 a b (.inl rfl) ha hb).1
    rw [← ho, List.length_append] at h1; omega
  conv => whnf
  by_cases g1 : i < a.length
  · obtain ⟨x, hx⟩ : ∃ x, a[i]? = some x := ⟨_, List.getElem?_eq_getElem g1⟩
    have hxb := ha x (List.mem_of_getElem? hx)
    rw [drop_cons' hx] at ho
    by_cases g2 : i < b.length
    · obtain ⟨y, hy⟩ : ∃ y, b[i]? = some y := ⟨_, List.getElem?_eq_getElem g2⟩
      have hyb := hb y (List.mem_of_getElem? hy)
      rw [drop_cons' hy, minusC] at ho
      repeat' ((first | refine zq1 (by omega) ?_ | refine zq2 (by omega) ?_ | refine NumH.rem (by omega) ?_ | refine zq4 (by omega) ?_ | refine zq5 (by omega) ?_ | refine zq6 ?_ | refine Req.mk (by omega) ?_ | refine Req.mk (by dsimp only; omega) ?_ | refine Req.mk ⟨rfl, rfl, rfl, by simp [ci_length, *], rfl, by simp [okCell], by dsimp only; omega, by omega, by decide⟩ ?_ | refine Req.mk (show pendP _ _ by repeat' constructor) ?_ | (with_reducible first | refine brT (by assumption) ?_ | refine brF (by assumption) ?_ | refine brDT (by omega) ?_ | refine brDF (by omega) ?_ | refine brET (by omega) ?_ | refine brEF (by omega) ?_ | refine brNET (by omega) ?_ | refine brNEF (by omega) ?_ | refine brNot ?_)); conv => whnf)
      refine ldI _ (ci_sub .i64 hx) ?_
      conv => whnf
      repeat' ((first | refine zq1 (by omega) ?_ | refine zq2 (by omega) ?_ | refine NumH.rem (by omega) ?_ | refine zq4 (by omega) ?_ | refine zq5 (by omega) ?_ | refine zq6 ?_ | refine Req.mk (by omega) ?_ | refine Req.mk (by dsimp only; omega) ?_ | refine Req.mk ⟨rfl, rfl, rfl, by simp [ci_length, *], rfl, by simp [okCell], by dsimp only; omega, by omega, by decide⟩ ?_ | refine Req.mk (show pendP _ _ by repeat' constructor) ?_ | (with_reducible first | refine brT (by assumption) ?_ | refine brF (by assumption) ?_ | refine brDT (by omega) ?_ | refine brDF (by omega) ?_ | refine brET (by omega) ?_ | refine brEF (by omega) ?_ | refine brNET (by omega) ?_ | refine brNEF (by omega) ?_ | refine brNot ?_)); conv => whnf)
      refine ldI _ (ci_sub .i64 hy) ?_
      conv => whnf
      repeat' ((first | refine zq1 (by omega) ?_ | refine zq2 (by omega) ?_ | refine NumH.rem (by omega) ?_ | refine zq4 (by omega) ?_ | refine zq5 (by omega) ?_ | refine zq6 ?_ | refine Req.mk (by omega) ?_ | refine Req.mk (by dsimp only; omega) ?_ | refine Req.mk ⟨rfl, rfl, rfl, by simp [ci_length, *], rfl, by simp [okCell], by dsimp only; omega, by omega, by decide⟩ ?_ | refine Req.mk (show pendP _ _ by repeat' constructor) ?_ | (with_reducible first | refine brT (by assumption) ?_ | refine brF (by assumption) ?_ | refine brDT (by omega) ?_ | refine brDF (by omega) ?_ | refine brET (by omega) ?_ | refine brEF (by omega) ?_ | refine brNET (by omega) ?_ | refine brNEF (by omega) ?_ | refine brNot ?_)); conv => whnf)
      by_cases g3 : x - r - y < 0
      · rw [if_pos g3] at ho
        repeat' ((first | refine zq1 (by omega) ?_ | refine zq2 (by omega) ?_ | refine NumH.rem (by omega) ?_ | refine zq4 (by omega) ?_ | refine zq5 (by omega) ?_ | refine zq6 ?_ | refine Req.mk (by omega) ?_ | refine Req.mk (by dsimp only; omega) ?_ | refine Req.mk ⟨rfl, rfl, rfl, by simp [ci_length, *], rfl, by simp [okCell], by dsimp only; omega, by omega, by decide⟩ ?_ | refine Req.mk (show pendP _ _ by repeat' constructor) ?_ | (with_reducible first | refine brT (by assumption) ?_ | refine brF (by assumption) ?_ | refine brDT (by omega) ?_ | refine brDF (by omega) ?_ | refine brET (by omega) ?_ | refine brEF (by omega) ?_ | refine brNET (by omega) ?_ | refine brNEF (by omega) ?_ | refine brNot ?_)); conv => whnf)
        refine ⟨_, _, ?_, WeakL.of_eq rfl, i + 1, 1, o ++ [x - r - y + 65536], .inr rfl, by simp [hi], ?_, rfl, ?_, rfl⟩
        · omega
        · rw [← ho]; simp
        · rw [← ci_append]; rfl
      · rw [if_neg g3] at ho
        repeat' ((first | refine zq1 (by omega) ?_ | refine zq2 (by omega) ?_ | refine NumH.rem (by omega) ?_ | refine zq4 (by omega) ?_ | refine zq5 (by omega) ?_ | refine zq6 ?_ | refine Req.mk (by omega) ?_ | refine Req.mk (by dsimp only; omega) ?_ | refine Req.mk ⟨rfl, rfl, rfl, by simp [ci_length, *], rfl, by simp [okCell], by dsimp only; omega, by omega, by decide⟩ ?_ | refine Req.mk (show pendP _ _ by repeat' constructor) ?_ | (with_reducible first | refine brT (by assumption) ?_ | refine brF (by assumption) ?_ | refine brDT (by omega) ?_ | refine brDF (by omega) ?_ | refine brET (by omega) ?_ | refine brEF (by omega) ?_ | refine brNET (by omega) ?_ | refine brNEF (by omega) ?_ | refine brNot ?_)); conv => whnf)
        refine ⟨_, _, ?_, WeakL.of_eq rfl, i + 1, 0, o ++ [x - r - y], .inl rfl, by simp [hi], ?_, rfl, ?_, rfl⟩
        · omega
        · rw [← ho]; simp
        · rw [← ci_append]; rfl
    · rw [drop_nil' (l := b) (by omega), minusC] at ho
      repeat' ((first | refine zq1 (by omega) ?_ | refine zq2 (by omega) ?_ | refine NumH.rem (by omega) ?_ | refine zq4 (by omega) ?_ | refine zq5 (by omega) ?_ | refine zq6 ?_ | refine Req.mk (by omega) ?_ | refine Req.mk (by dsimp only; omega) ?_ | refine Req.mk ⟨rfl, rfl, rfl, by simp [ci_length, *], rfl, by simp [okCell], by dsimp only; omega, by omega, by decide⟩ ?_ | refine Req.mk (show pendP _ _ by repeat' constructor) ?_ | (with_reducible first | refine brT (by assumption) ?_ | refine brF (by assumption) ?_ | refine brDT (by omega) ?_ | refine brDF (by omega) ?_ | refine brET (by omega) ?_ | refine brEF (by omega) ?_ | refine brNET (by omega) ?_ | refine brNEF (by omega) ?_ | refine brNot ?_)); conv => whnf)
      refine ldI _ (ci_sub .i64 hx) ?_
      conv => whnf
      repeat' ((first | refine zq1 (by omega) ?_ | refine zq2 (by omega) ?_ | refine NumH.rem (by omega) ?_ | refine zq4 (by omega) ?_ | refine zq5 (by omega) ?_ | refine zq6 ?_ | refine Req.mk (by omega) ?_ | refine Req.mk (by dsimp only; omega) ?_ | refine Req.mk ⟨rfl, rfl, rfl, by simp [ci_length, *], rfl, by simp [okCell], by dsimp only; omega, by omega, by decide⟩ ?_ | refine Req.mk (show pendP _ _ by repeat' constructor) ?_ | (with_reducible first | refine brT (by assumption) ?_ | refine brF (by assumption) ?_ | refine brDT (by omega) ?_ | refine brDF (by omega) ?_ | refine brET (by omega) ?_ | refine brEF (by omega) ?_ | refine brNET (by omega) ?_ | refine brNEF (by omega) ?_ | refine brNot ?_)); conv => whnf)
      by_cases g3 : x - r < 0
      · rw [if_pos g3] at ho
        repeat' ((first | refine zq1 (by omega) ?_ | refine zq2 (by omega) ?_ | refine NumH.rem (by omega) ?_ | refine zq4 (by omega) ?_ | refine zq5 (by omega) ?_ | refine zq6 ?_ | refine Req.mk (by omega) ?_ | refine Req.mk (by dsimp only; omega) ?_ | refine Req.mk ⟨rfl, rfl, rfl, by simp [ci_length, *], rfl, by simp [okCell], by dsimp only; omega, by omega, by decide⟩ ?_ | refine Req.mk (show pendP _ _ by repeat' constructor) ?_ | (with_reducible first | refine brT (by assumption) ?_ | refine brF (by assumption) ?_ | refine brDT (by omega) ?_ | refine brDF (by omega) ?_ | refine brET (by omega) ?_ | refine brEF (by omega) ?_ | refine brNET (by omega) ?_ | refine brNEF (by omega) ?_ | refine brNot ?_)); conv => whnf)
        refine ⟨_, _, ?_, WeakL.of_eq rfl, i + 1, 1, o ++ [x - r + 65536], .inr rfl, by simp [hi], ?_, rfl, ?_, rfl⟩
        · omega
        · rw [← ho, drop_nil' (l := b) (by omega)]; simp
        · rw [← ci_append]; rfl
      · rw [if_neg g3] at ho
        repeat' ((first | refine zq1 (by omega) ?_ | refine zq2 (by omega) ?_ | refine NumH.rem (by omega) ?_ | refine zq4 (by omega) ?_ | refine zq5 (by omega) ?_ | refine zq6 ?_ | refine Req.mk (by omega) ?_ | refine Req.mk (by dsimp only; omega) ?_ | refine Req.mk ⟨rfl, rfl, rfl, by simp [ci_length, *], rfl, by simp [okCell], by dsimp only; omega, by omega, by decide⟩ ?_ | refine Req.mk (show pendP _ _ by repeat' constructor) ?_ | (with_reducible first | refine brT (by assumption) ?_ | refine brF (by assumption) ?_ | refine brDT (by omega) ?_ | refine brDF (by omega) ?_ | refine brET (by omega) ?_ | refine brEF (by omega) ?_ | refine brNET (by omega) ?_ | refine brNEF (by omega) ?_ | refine brNot ?_)); conv => whnf)
        refine ⟨_, _, ?_, WeakL.of_eq rfl, i + 1, 0, o ++ [x - r], .inl rfl, by simp [hi], ?_, rfl, ?_, rfl⟩
        · omega
        · rw [← ho, drop_nil' (l := b) (by omega)]; simp
        · rw [← ci_append]; rfl
  · repeat' ((first | refine zq1 (by omega) ?_ | refine zq2 (by omega) ?_ | refine NumH.rem (by omega) ?_ | refine zq4 (by omega) ?_ | refine zq5 (by omega) ?_ | refine zq6 ?_ | refine Req.mk (by omega) ?_ | refine Req.mk (by dsimp only; omega) ?_ | refine Req.mk ⟨rfl, rfl, rfl, by simp [ci_length, *], rfl, by simp [okCell], by dsimp only; omega, by omega, by decide⟩ ?_ | refine Req.mk (show pendP _ _ by repeat' constructor) ?_ | (with_reducible first | refine brT (by assumption) ?_ | refine brF (by assumption) ?_ | refine brDT (by omega) ?_ | refine brDF (by omega) ?_ | refine brET (by omega) ?_ | refine brEF (by omega) ?_ | refine brNET (by omega) ?_ | refine brNEF (by omega) ?_ | refine brNot ?_)); conv => whnf)
    refine c_trim' o _ hi (by omega) rfl ?_
    conv => whnf
    rw [drop_nil' (l := a) (by omega)] at ho
    rw [← ho]; simp [minusC, retK, lv]
theorem c_minusN (m n : Nat) (h : n ≤ m) (hm : (dig m).length ≤ 100000) (hn : (dig n).length ≤ 100000) : ACalls seat 94 [lv (dig m), lv (dig n)] [] (fun x _ => x = .ret (lv (dig (m - n)))) := by
  rw [← minus_dig h]; exact c_minus _ _ (dig_Dg m) (dig_Dg n) hm hn
theorem c_less (a b : List Int) (la : a.length ≤ 100000) (lb : b.length ≤ 100000) : ACalls seat 93 [lv a, lv b] [] (fun x _ => x = .ret (.bool (lessL a b))) := by
  refine ACalls.body seat_ok Tryd.func93 rfl rfl ?_
  conv => whnf
  by_cases g : a.length = b.length
  · repeat' ((first | refine zq1 (by omega) ?_ | refine zq2 (by omega) ?_ | refine NumH.rem (by omega) ?_ | refine zq4 (by omega) ?_ | refine zq5 (by omega) ?_ | refine zq6 ?_ | refine Req.mk (by omega) ?_ | refine Req.mk (by dsimp only; omega) ?_ | refine Req.mk ⟨rfl, rfl, rfl, by simp [ci_length, *], rfl, by simp [okCell], by dsimp only; omega, by omega, by decide⟩ ?_ | refine Req.mk (show pendP _ _ by repeat' constructor) ?_ | (with_reducible first | refine brT (by assumption) ?_ | refine brF (by assumption) ?_ | refine brDT (by omega) ?_ | refine brDF (by omega) ?_ | refine brET (by omega) ?_ | refine brEF (by omega) ?_ | refine brNET (by omega) ?_ | refine brNEF (by omega) ?_ | refine brNot ?_)); conv => whnf)
    refine Sat.invP seat_ok seat_g (maskOf 41 [0, 1, 5]) 0 (fun μ t h => ∃ i : Nat, i ≤ a.length ∧ lessL a b = lessR (a.take i).reverse (b.take i).reverse ∧
      μ = i ∧ t = (lv a::lv b::uu::uu::uu::.int .i64 ((i : Int) - 1)::uu::uu::uu::uu::uu::uu::uu::uu::uu::uu::uu::uu::uu::uu::uu::uu::uu::uu::uu::uu::uu::uu::uu::uu::uu::uu::uu::uu::uu::uu::uu::uu::uu::uu::uu::[]) ∧ h = []) ?_ ⟨_, _, WeakL.of_eq rfl, a.length, Nat.le_refl _, ?_, rfl, rfl, rfl⟩ ?_
    · rintro _ _ _ ⟨i, -, -, rfl, rfl, rfl⟩
      exact ⟨rfl, (by simp [IdsL, Ids, IdsH, IdsC, lv_ids, ci_ids]), (by simp [IdsL, Ids, IdsH, IdsC, lv_ids, ci_ids])⟩
    · unfold lessL
      rw [if_neg (by simpa using g), List.take_length, g, List.take_length]
    rintro i _ _ ⟨_, hi, hl, rfl, rfl, rfl⟩
    conv => whnf
    cases i with
    | zero =>
      repeat' ((first | refine zq1 (by omega) ?_ | refine zq2 (by omega) ?_ | refine NumH.rem (by omega) ?_ | refine zq4 (by omega) ?_ | refine zq5 (by omega) ?_ | refine zq6 ?_ | refine Req.mk (by omega) ?_ | refine Req.mk (by dsimp only; omega) ?_ | refine Req.mk ⟨rfl, rfl, rfl, by simp [ci_length, *], rfl, by simp [okCell], by dsimp only; omega, by omega, by decide⟩ ?_ | refine Req.mk (show pendP _ _ by repeat' constructor) ?_ | (with_reducible first | refine brT (by assumption) ?_ | refine brF (by assumption) ?_ | refine brDT (by omega) ?_ | refine brDF (by omega) ?_ | refine brET (by omega) ?_ | refine brEF (by omega) ?_ | refine brNET (by omega) ?_ | refine brNEF (by omega) ?_ | refine brNot ?_)); conv => whnf)
      rw [hl]; rfl
    | succ i =>
      obtain ⟨x, hx⟩ : ∃ x, a[i]? = some x := ⟨_, List.getElem?_eq_getElem (by omega)⟩
      obtain ⟨y, hy⟩ : ∃ y, b[i]? = some y := ⟨_, List.getElem?_eq_getElem (by omega)⟩
      rw [List.take_add_one, List.take_add_one, hx, hy] at hl
      simp only [Option.toList_some, List.reverse_append, List.reverse_singleton, List.singleton_append, lessR] at hl
      have e1 : ((i + 1 : Nat) : Int) - 1 = i := by omega
      rw [e1]
      repeat' ((first | refine zq1 (by omega) ?_ | refine zq2 (by omega) ?_ | refine NumH.rem (by omega) ?_ | refine zq4 (by omega) ?_ | refine zq5 (by omega) ?_ | refine zq6 ?_ | refine Req.mk (by omega) ?_ | refine Req.mk (by dsimp only; omega) ?_ | refine Req.mk ⟨rfl, rfl, rfl, by simp [ci_length, *], rfl, by simp [okCell], by dsimp only; omega, by omega, by decide⟩ ?_ | refine Req.mk (show pendP _ _ by repeat' constructor) ?_ | (with_reducible first | refine brT (by assumption) ?_ | refine brF (by assumption) ?_ | refine brDT (by omega) ?_ | refine brDF (by omega) ?_ | refine brET (by omega) ?_ | refine brEF (by omega) ?_ | refine brNET (by omega) ?_ | refine brNEF (by omega) ?_ | refine brNot ?_)); conv => whnf)
      refine DrawH.plan seat_ok (.take 0 (.take 1 (.take 2 (.take 3 (.take 4 (.take 5 (.take 6 (.take 7 (.take 8 Plan.done))))))))) 0 (by kernel_rfl) ?_
      conv => whnf
      repeat' ((first | refine zq1 (by omega) ?_ | refine zq2 (by omega) ?_ | refine NumH.rem (by omega) ?_ | refine zq4 (by omega) ?_ | refine zq5 (by omega) ?_ | refine zq6 ?_ | refine Req.mk (by omega) ?_ | refine Req.mk (by dsimp only; omega) ?_ | refine Req.mk ⟨rfl, rfl, rfl, by simp [ci_length, *], rfl, by simp [okCell], by dsimp only; omega, by omega, by decide⟩ ?_ | refine Req.mk (show pendP _ _ by repeat' constructor) ?_ | (with_reducible first | refine brT (by assumption) ?_ | refine brF (by assumption) ?_ | refine brDT (by omega) ?_ | refine brDF (by omega) ?_ | refine brET (by omega) ?_ | refine brEF (by omega) ?_ | refine brNET (by omega) ?_ | refine brNEF (by omega) ?_ | refine brNot ?_)); conv => whnf)
      refine ldI _ (ci_sub .i64 hx) ?_
      conv => whnf
      repeat' ((first | refine zq1 (by omega) ?_ | refine zq2 (by omega) ?_ | refine NumH.rem (by omega) ?_ | refine zq4 (by omega) ?_ | refine zq5 (by omega) ?_ | refine zq6 ?_ | refine Req.mk (by omega) ?_ | refine Req.mk (by dsimp only; omega) ?_ | refine Req.mk ⟨rfl, rfl, rfl, by simp [ci_length, *], rfl, by simp [okCell], by dsimp only; omega, by omega, by decide⟩ ?_ | refine Req.mk (show pendP _ _ by repeat' constructor) ?_ | (with_reducible first | refine brT (by assumption) ?_ | refine brF (by assumption) ?_ | refine brDT (by omega) ?_ | refine brDF (by omega) ?_ | refine brET (by omega) ?_ | refine brEF (by omega) ?_ | refine brNET (by omega) ?_ | refine brNEF (by omega) ?_ | refine brNot ?_)); conv => whnf)
      refine ldI _ (ci_sub .i64 hy) ?_
      conv => whnf
      by_cases g3 : x = y
      · rw [if_pos g3] at hl
        repeat' ((first | refine zq1 (by omega) ?_ | refine zq2 (by omega) ?_ | refine NumH.rem (by omega) ?_ | refine zq4 (by omega) ?_ | refine zq5 (by omega) ?_ | refine zq6 ?_ | refine Req.mk (by omega) ?_ | refine Req.mk (by dsimp only; omega) ?_ | refine Req.mk ⟨rfl, rfl, rfl, by simp [ci_length, *], rfl, by simp [okCell], by dsimp only; omega, by omega, by decide⟩ ?_ | refine Req.mk (show pendP _ _ by repeat' constructor) ?_ | (with_reducible first | refine brT (by assumption) ?_ | refine brF (by assumption) ?_ | refine brDT (by omega) ?_ | refine brDF (by omega) ?_ | refine brET (by omega) ?_ | refine brEF (by omega) ?_ | refine brNET (by omega) ?_ | refine brNEF (by omega) ?_ | refine brNot ?_)); conv => whnf)
        exact ⟨_, _, Nat.lt_succ_self i, WeakL.of_eq rfl, i, by omega, hl, rfl, rfl, rfl⟩
      · rw [if_neg g3] at hl
        repeat' ((first | refine zq1 (by omega) ?_ | refine zq2 (by omega) ?_ | refine NumH.rem (by omega) ?_ | refine zq4 (by omega) ?_ | refine zq5 (by omega) ?_ | refine zq6 ?_ | refine Req.mk (by omega) ?_ | refine Req.mk (by dsimp only; omega) ?_ | refine Req.mk ⟨rfl, rfl, rfl, by simp [ci_length, *], rfl, by simp [okCell], by dsimp only; omega, by omega, by decide⟩ ?_ | refine Req.mk (show pendP _ _ by repeat' constructor) ?_ | (with_reducible first | refine brT (by assumption) ?_ | refine brF (by assumption) ?_ | refine brDT (by omega) ?_ | refine brDF (by omega) ?_ | refine brET (by omega) ?_ | refine brEF (by omega) ?_ | refine brNET (by omega) ?_ | refine brNEF (by omega) ?_ | refine brNot ?_)); conv => whnf)
        refine DrawH.plan seat_ok (.take 0 (.take 1 (.take 2 (.take 3 (.take 4 (.take 5 (.take 6 (.take 7 (.take 8 (.take 9 Plan.done)))))))))) 0 (by kernel_rfl) ?_
        conv => whnf
        repeat' ((first | refine zq1 (by omega) ?_ | refine zq2 (by omega) ?_ | refine NumH.rem (by omega) ?_ | refine zq4 (by omega) ?_ | refine zq5 (by omega) ?_ | refine zq6 ?_ | refine Req.mk (by omega) ?_ | refine Req.mk (by dsimp only; omega) ?_ | refine Req.mk ⟨rfl, rfl, rfl, by simp [ci_length, *], rfl, by simp [okCell], by dsimp only; omega, by omega, by decide⟩ ?_ | refine Req.mk (show pendP _ _ by repeat' constructor) ?_ | (with_reducible first | refine brT (by assumption) ?_ | refine brF (by assumption) ?_ | refine brDT (by omega) ?_ | refine brDF (by omega) ?_ | refine brET (by omega) ?_ | refine brEF (by omega) ?_ | refine brNET (by omega) ?_ | refine brNEF (by omega) ?_ | refine brNot ?_)); conv => whnf)
        refine ldI _ (ci_sub .i64 hx) ?_
        conv => whnf
        repeat' ((first | refine zq1 (by omega) ?_ | refine zq2 (by omega) ?_ | refine NumH.rem (by omega) ?_ | refine zq4 (by omega) ?_ | refine zq5 (by omega) ?_ | refine zq6 ?_ | refine Req.mk (by omega) ?_ | refine Req.mk (by dsimp only; omega) ?_ | refine Req.mk ⟨rfl, rfl, rfl, by simp [ci_length, *], rfl, by simp [okCell], by dsimp only; omega, by omega, by decide⟩ ?_ | refine Req.mk (show pendP _ _ by repeat' constructor) ?_ | (with_reducible first | refine brT (by assumption) ?_ | refine brF (by assumption) ?_ | refine brDT (by omega) ?_ | refine brDF (by omega) ?_ | refine brET (by omega) ?_ | refine brEF (by omega) ?_ | refine brNET (by omega) ?_ | refine brNEF (by omega) ?_ | refine brNot ?_)); conv => whnf)
        refine ldI _ (ci_sub .i64 hy) ?_
        conv => whnf
        repeat' ((first | refine zq1 (by omega) ?_ | refine zq2 (by omega) ?_ | refine NumH.rem (by omega) ?_ | refine zq4 (by omega) ?_ | refine zq5 (by omega) ?_ | refine zq6 ?_ | refine Req.mk (by omega) ?_ | refine Req.mk (by dsimp only; omega) ?_ | refine Req.mk ⟨rfl, rfl, rfl, by simp [ci_length, *], rfl, by simp [okCell], by dsimp only; omega, by omega, by decide⟩ ?_ | refine Req.mk (show pendP _ _ by repeat' constructor) ?_ | (with_reducible first | refine brT (by assumption) ?_ | refine brF (by assumption) ?_ | refine brDT (by omega) ?_ | refine brDF (by omega) ?_ | refine brET (by omega) ?_ | refine brEF (by omega) ?_ | refine brNET (by omega) ?_ | refine brNEF (by omega) ?_ | refine brNot ?_)); conv => whnf)
        rw [hl]; rfl
  · repeat' ((first | refine zq1 (by omega) ?_ | refine zq2 (by omega) ?_ | refine NumH.rem (by omega) ?_ | refine zq4 (by omega) ?_ | refine zq5 (by omega) ?_ | refine zq6 ?_ | refine Req.mk (by omega) ?_ | refine Req.mk (by dsimp only; omega) ?_ | refine Req.mk ⟨rfl, rfl, rfl, by simp [ci_length, *], rfl, by simp [okCell], by dsimp only; omega, by omega, by decide⟩ ?_ | refine Req.mk (show pendP _ _ by repeat' constructor) ?_ | (with_reducible first | refine brT (by assumption) ?_ | refine brF (by assumption) ?_ | refine brDT (by omega) ?_ | refine brDF (by omega) ?_ | refine brET (by omega) ?_ | refine brEF (by omega) ?_ | refine brNET (by omega) ?_ | refine brNEF (by omega) ?_ | refine brNot ?_)); conv => whnf)
    unfold lessL
    rw [if_pos g]
    simp [retK]
theorem c_lessN (m n : Nat) (hm : (dig m).length ≤ 100000) (hn : (dig n).length ≤ 100000) : ACalls seat 93 [lv (dig m), lv (dig n)] [] (fun x _ => x = .ret (.bool (decide (m < n)))) := by
  rw [← less_dig]; exact c_less _ _ hm hn
def nv (s : Bool) (m : Nat) : AV := .agg [.bool s, lv (dig m)]
theorem nv_closed (s : Bool) (m : Nat) : Closed (nv s m) := by simp only [nv, Closed, ClosedL]; exact ⟨trivial, lv_closed _, trivial⟩
theorem c_of (a : Int) (ha : I64 a) : ACalls seat 54 [.int .i64 a] [] (fun x _ => x = .ret (nv (decide (a < 0)) a.natAbs)) := by
  refine ACalls.body seat_ok Tryd.func54 rfl rfl ?_
  have hm : a.natAbs ≤ 9223372036854775808 := by unfold I64 at ha; omega
  have hs := sg_natAbs a
  generalize hS : decide (a < 0) = s at hs ⊢
  generalize a.natAbs = m0 at hs hm ⊢
  conv => whnf
  refine Sat.nilTok 4 3 1 rfl ?_
  refine Sat.invP seat_ok seat_g (maskOf 29 [0, 2, 3, 4, 5]) 2 (fun μ t h => ∃ (i m : Nat) (o : List Int), i ≤ 4 ∧ m ≤ m0 ∧ o.length = i ∧ o ++ lowD (4 - i) m = lowD 4 m0 ∧
    μ = 4 - i ∧ t = (.int .i64 (sg s m)::uu::.ptr 0 0::.bool s::.vec (ci .i64 o) i (some 1)::.int .i64 i::uu::uu::uu::uu::uu::uu::uu::uu::uu::uu::uu::uu::uu::uu::uu::uu::uu::uu::uu::uu::uu::uu::uu::[]) ∧ h = [.var [.bool false, .nils] 93, .tok i 3 1]) ?_ ⟨_, _, ?_, 0, m0, [], by omega, Nat.le_refl _, rfl, rfl, rfl, rfl, rfl⟩ ?_
  · rintro _ _ _ ⟨i, m, o, -, -, -, -, rfl, rfl, rfl⟩
    exact ⟨rfl, (by simp [IdsL, Ids, IdsH, IdsC, lv_ids, ci_ids]), (by simp [IdsL, Ids, IdsH, IdsC, lv_ids, ci_ids])⟩
  · rw [← hs, ← hS]; exact WeakL.of_eq rfl
  rintro _ _ _ ⟨i, m, o, hi, hmm, ho, hl, rfl, rfl, rfl⟩
  conv => whnf
  by_cases g : i < 4
  · have hb := sg_bounds s (m % 65536)
    have hb2 := sg_bounds s (m / 65536)
    obtain ⟨j, hj⟩ : ∃ j, 4 - i = j + 1 := ⟨3 - i, by omega⟩
    rw [hj, lowD] at hl
    repeat' ((first | refine zq1 (by omega) ?_ | refine zq2 (by omega) ?_ | refine NumH.rem (by omega) ?_ | refine zq4 (by omega) ?_ | refine zq5 (by omega) ?_ | refine zq6 ?_ | refine Req.mk (by omega) ?_ | refine Req.mk (by dsimp only; omega) ?_ | refine Req.mk ⟨rfl, rfl, rfl, by simp [ci_length, *], rfl, by simp [okCell], by dsimp only; omega, by omega, by decide⟩ ?_ | refine Req.mk (show pendP _ _ by repeat' constructor) ?_ | (with_reducible first | refine brT (by assumption) ?_ | refine brF (by assumption) ?_ | refine brDT (by omega) ?_ | refine brDF (by omega) ?_ | refine brET (by omega) ?_ | refine brEF (by omega) ?_ | refine brNET (by omega) ?_ | refine brNEF (by omega) ?_ | refine brNot ?_)); conv => whnf)
    refine NumH.is _ (sg_tmod s m) ?_
    conv => whnf
    by_cases g2 : sg s (m % 65536) < 0
    · repeat' ((first | refine zq1 (by omega) ?_ | refine zq2 (by omega) ?_ | refine NumH.rem (by omega) ?_ | refine zq4 (by omega) ?_ | refine zq5 (by omega) ?_ | refine zq6 ?_ | refine Req.mk (by omega) ?_ | refine Req.mk (by dsimp only; omega) ?_ | refine Req.mk ⟨rfl, rfl, rfl, by simp [ci_length, *], rfl, by simp [okCell], by dsimp only; omega, by omega, by decide⟩ ?_ | refine Req.mk (show pendP _ _ by repeat' constructor) ?_ | (with_reducible first | refine brT (by assumption) ?_ | refine brF (by assumption) ?_ | refine brDT (by omega) ?_ | refine brDF (by omega) ?_ | refine brET (by omega) ?_ | refine brEF (by omega) ?_ | refine brNET (by omega) ?_ | refine brNEF (by omega) ?_ | refine brNot ?_)); conv => whnf)
      refine WrapH.is (sg s (m / 65536)) (by rw [sg_tdiv]; exact wrap_i64 (by omega) (by omega)) ?_
      conv => whnf
      repeat' ((first | refine zq1 (by omega) ?_ | refine zq2 (by omega) ?_ | refine NumH.rem (by omega) ?_ | refine zq4 (by omega) ?_ | refine zq5 (by omega) ?_ | refine zq6 ?_ | refine Req.mk (by omega) ?_ | refine Req.mk (by dsimp only; omega) ?_ | refine Req.mk ⟨rfl, rfl, rfl, by simp [ci_length, *], rfl, by simp [okCell], by dsimp only; omega, by omega, by decide⟩ ?_ | refine Req.mk (show pendP _ _ by repeat' constructor) ?_ | (with_reducible first | refine brT (by assumption) ?_ | refine brF (by assumption) ?_ | refine brDT (by omega) ?_ | refine brDF (by omega) ?_ | refine brET (by omega) ?_ | refine brEF (by omega) ?_ | refine brNET (by omega) ?_ | refine brNEF (by omega) ?_ | refine brNot ?_)); conv => whnf)
      refine ⟨_, _, ?_, WeakL.of_eq rfl, i + 1, m / 65536, o ++ [((m % 65536 : Nat) : Int)], by omega, by omega, by simp [ho], ?_, rfl, ?_, rfl⟩
      · omega
      · rw [← hl, show 4 - (i + 1) = j by omega]; simp
      · rw [← ci_append, ← sg_neg g2]; rfl
    · repeat' ((first | refine zq1 (by omega) ?_ | refine zq2 (by omega) ?_ | refine NumH.rem (by omega) ?_ | refine zq4 (by omega) ?_ | refine zq5 (by omega) ?_ | refine zq6 ?_ | refine Req.mk (by omega) ?_ | refine Req.mk (by dsimp only; omega) ?_ | refine Req.mk ⟨rfl, rfl, rfl, by simp [ci_length, *], rfl, by simp [okCell], by dsimp only; omega, by omega, by decide⟩ ?_ | refine Req.mk (show pendP _ _ by repeat' constructor) ?_ | (with_reducible first | refine brT (by assumption) ?_ | refine brF (by assumption) ?_ | refine brDT (by omega) ?_ | refine brDF (by omega) ?_ | refine brET (by omega) ?_ | refine brEF (by omega) ?_ | refine brNET (by omega) ?_ | refine brNEF (by omega) ?_ | refine brNot ?_)); conv => whnf)
      refine WrapH.is (sg s (m / 65536)) (by rw [sg_tdiv]; exact wrap_i64 (by omega) (by omega)) ?_
      conv => whnf
      repeat' ((first | refine zq1 (by omega) ?_ | refine zq2 (by omega) ?_ | refine NumH.rem (by omega) ?_ | refine zq4 (by omega) ?_ | refine zq5 (by omega) ?_ | refine zq6 ?_ | refine Req.mk (by omega) ?_ | refine Req.mk (by dsimp only; omega) ?_ | refine Req.mk ⟨rfl, rfl, rfl, by simp [ci_length, *], rfl, by simp [okCell], by dsimp only; omega, by omega, by decide⟩ ?_ | refine Req.mk (show pendP _ _ by repeat' constructor) ?_ | (with_reducible first | refine brT (by assumption) ?_ | refine brF (by assumption) ?_ | refine brDT (by omega) ?_ | refine brDF (by omega) ?_ | refine brET (by omega) ?_ | refine brEF (by omega) ?_ | refine brNET (by omega) ?_ | refine brNEF (by omega) ?_ | refine brNot ?_)); conv => whnf)
      refine ⟨_, _, ?_, WeakL.of_eq rfl, i + 1, m / 65536, o ++ [((m % 65536 : Nat) : Int)], by omega, by omega, by simp [ho], ?_, rfl, ?_, rfl⟩
      · omega
      · rw [← hl, show 4 - (i + 1) = j by omega]; simp
      · rw [← ci_append, ← sg_pos g2]; rfl
  · repeat' ((first | refine zq1 (by omega) ?_ | refine zq2 (by omega) ?_ | refine NumH.rem (by omega) ?_ | refine zq4 (by omega) ?_ | refine zq5 (by omega) ?_ | refine zq6 ?_ | refine Req.mk (by omega) ?_ | refine Req.mk (by dsimp only; omega) ?_ | refine Req.mk ⟨rfl, rfl, rfl, by simp [ci_length, *], rfl, by simp [okCell], by dsimp only; omega, by omega, by decide⟩ ?_ | refine Req.mk (show pendP _ _ by repeat' constructor) ?_ | (with_reducible first | refine brT (by assumption) ?_ | refine brF (by assumption) ?_ | refine brDT (by omega) ?_ | refine brDF (by omega) ?_ | refine brET (by omega) ?_ | refine brEF (by omega) ?_ | refine brNET (by omega) ?_ | refine brNEF (by omega) ?_ | refine brNot ?_)); conv => whnf)
    refine c_trim' o _ ho (by omega) rfl ?_
    conv => whnf
    have : i = 4 := by omega
    subst this
    have e : o = lowD 4 m0 := by rw [← hl]; simp [lowD]
    rw [e, low_dig (by omega)]
    rfl
set_option maxRecDepth 100000 in
theorem c_mul (s1 s2 : Bool) (m n : Nat) (hm : (dig m).length ≤ 20000) (hn : (dig n).length ≤ 20000) : ACalls seat 69 [nv s1 m, nv s2 n] [] (fun x _ => x = .ret (nv (!(s1 == s2)) (m * n))) := by
  refine ACalls.body seat_ok Tryd.func69 rfl rfl ?_
  have da := dig_Dg m
  have db := dig_Dg n
  have va := dv_dig m
  have hml := dig_mul_length m n
  have hrowd := fun x hx i => row_dig (x := x) hx i n
  unfold nv
  generalize dig m = A at *
  generalize dig n = B at *
  conv => whnf
  refine Sat.cut (fun x t h => x = .exit 0 ∧ t = (uu::uu::.ptr 0 0::.ptr 1 0::.ptr 2 0::lv (dig (m * n))::uu::uu::uu::uu::uu::uu::uu::uu::uu::uu::uu::uu::uu::uu::uu::uu::uu::uu::uu::uu::uu::uu::uu::uu::uu::uu::uu::uu::uu::uu::uu::uu::uu::uu::uu::uu::uu::uu::uu::uu::uu::uu::uu::uu::uu::uu::uu::uu::uu::uu::uu::uu::uu::uu::uu::uu::uu::uu::uu::uu::uu::uu::[]) ∧
    h = [.var [.bool s1, lv A] 93, .var [.bool s2, lv B] 93, .var [.bool false, .nils] 93]) ?_ ?_
  · refine Sat.invP seat_ok seat_g (maskOf 68 [2, 3, 4, 5, 6]) 3 (fun μ t h => ∃ (i p : Nat), i ≤ A.length ∧ (p : Int) = dv (A.take i) ∧
      μ = A.length - i ∧ t = (uu::uu::.ptr 0 0::.ptr 1 0::.ptr 2 0::lv (dig (p * n))::.int .i64 i::uu::uu::uu::uu::uu::uu::uu::uu::uu::uu::uu::uu::uu::uu::uu::uu::uu::uu::uu::uu::uu::uu::uu::uu::uu::uu::uu::uu::uu::uu::uu::uu::uu::uu::uu::uu::uu::uu::uu::uu::uu::uu::uu::uu::uu::uu::uu::uu::uu::uu::uu::uu::uu::uu::uu::uu::uu::uu::uu::uu::uu::[]) ∧
      h = [.var [.bool s1, lv A] 93, .var [.bool s2, lv B] 93, .var [.bool false, .nils] 93]) ?_ ⟨_, _, WeakL.setAt 5 rfl lv_nils, 0, 0, by omega, rfl, rfl, ?_, rfl⟩ ?_
    · rintro _ _ _ ⟨i, p, -, -, rfl, rfl, rfl⟩
      exact ⟨rfl, (by simp [IdsL, Ids, IdsH, IdsC, lv_ids, ci_ids]), (by simp [IdsL, Ids, IdsH, IdsC, lv_ids, ci_ids])⟩
    · rw [Nat.zero_mul]; rfl
    rintro _ _ _ ⟨i, p, hi, hp, rfl, rfl, rfl⟩
    by_cases g : i < A.length
    · obtain ⟨x, hx⟩ : ∃ x, A[i]? = some x := ⟨_, List.getElem?_eq_getElem g⟩
      have hxb := da x (List.mem_of_getElem? hx)
      conv => whnf
      repeat' ((first | refine zq1 (by omega) ?_ | refine zq2 (by omega) ?_ | refine NumH.rem (by omega) ?_ | refine zq4 (by omega) ?_ | refine zq5 (by omega) ?_ | refine zq6 ?_ | refine Req.mk (by omega) ?_ | refine Req.mk (by dsimp only; omega) ?_ | refine Req.mk ⟨rfl, rfl, rfl, by simp [ci_length, *], rfl, by simp [okCell], by dsimp only; omega, by omega, by decide⟩ ?_ | refine Req.mk (show pendP _ _ by repeat' constructor) ?_ | (with_reducible first | refine brT (by assumption) ?_ | refine brF (by assumption) ?_ | refine brDT (by omega) ?_ | refine brDF (by omega) ?_ | refine brET (by omega) ?_ | refine brEF (by omega) ?_ | refine brNET (by omega) ?_ | refine brNEF (by omega) ?_ | refine brNot ?_)); conv => whnf)
      refine Sat.freeze 7 3 (len := i) (cap := i) 1 rfl rfl ⟨?_, by omega, by omega⟩ ?_
      · show i * 1 = (repL i [AV.int .i64 0]).length
        rw [repL_length]; rfl
      have ez : AV.vec ((repL i [AV.int .i64 0]).take (i * 1)) i (some 3) = .vec (ci .i64 (List.replicate i 0)) i (some 3) := by
        rw [ci_zeros, ci_take, Nat.mul_one, List.take_of_length_le (by simp)]
      refine Sat.cut (fun y t h => y = .exit 2 ∧ ∃ k, t = (uu::uu::.ptr 0 0::.ptr 1 0::.ptr 2 0::lv (dig (p * n))::.int .i64 i::.vec (ci .i64 (List.replicate i 0 ++ mulC x 0 B)) k (some 3)::uu::uu::uu::uu::uu::uu::uu::uu::uu::uu::uu::uu::uu::uu::uu::uu::uu::uu::uu::uu::uu::uu::uu::uu::uu::uu::uu::uu::uu::uu::uu::uu::uu::uu::uu::uu::uu::uu::uu::uu::uu::uu::uu::uu::uu::uu::uu::uu::uu::uu::uu::uu::uu::uu::uu::uu::uu::uu::uu::uu::[]) ∧
        (List.replicate i 0 ++ mulC x 0 B).length = k ∧
        h = [.var [.bool s1, lv A] 93, .var [.bool s2, lv B] 93, .var [.bool false, .nils] 93, .tok k 3 1]) ?_ ?_
      · refine Sat.invP seat_ok seat_g (maskOf 68 [2, 3, 4, 5, 6, 7, 8, 9]) 4 (fun μ t h => ∃ (k : Nat) (c : Int) (r : List Int), (0 ≤ c ∧ c < 65536) ∧ r.length = i + k ∧ r ++ mulC x c (B.drop k) = List.replicate i 0 ++ mulC x 0 B ∧
          μ = 2 * (B.length - k) + (if c = 0 then 0 else 1) ∧ t = (uu::uu::.ptr 0 0::.ptr 1 0::.ptr 2 0::lv (dig (p * n))::.int .i64 i::.vec (ci .i64 r) (i + k) (some 3)::.int .i64 c::.int .i64 k::uu::uu::uu::uu::uu::uu::uu::uu::uu::uu::uu::uu::uu::uu::uu::uu::uu::uu::uu::uu::uu::uu::uu::uu::uu::uu::uu::uu::uu::uu::uu::uu::uu::uu::uu::uu::uu::uu::uu::uu::uu::uu::uu::uu::uu::uu::uu::uu::uu::uu::uu::uu::uu::uu::uu::uu::uu::uu::[]) ∧
          h = [.var [.bool s1, lv A] 93, .var [.bool s2, lv B] 93, .var [.bool false, .nils] 93, .tok (i + k) 3 1]) ?_ ⟨_, _, WeakL.of_eq ?_, 0, 0, List.replicate i 0, by omega, by simp, rfl, rfl, rfl, rfl⟩ ?_
        · rintro _ _ _ ⟨k, c, r, -, -, -, rfl, rfl, rfl⟩
          exact ⟨rfl, (by simp [IdsL, Ids, IdsH, IdsC, lv_ids, ci_ids]), (by simp [IdsL, Ids, IdsH, IdsC, lv_ids, ci_ids])⟩
        · rw [Nat.add_zero, ← ez]; rfl
        rintro _ _ _ ⟨k, c, r, hc, hr, hrow, rfl, rfl, rfl⟩
        have hk : k ≤ 20001 := by
          have h1 := (mulC_spec hxb B 0 (by omega) db).2.2
          have h2 := congrArg List.length hrow
          simp only [List.length_append, List.length_replicate] at h2; omega
        by_cases g2 : k < B.length
        · obtain ⟨y, hy⟩ : ∃ y, B[k]? = some y := ⟨_, List.getElem?_eq_getElem g2⟩
          have hyb := db y (List.mem_of_getElem? hy)
          have hb := mul_bound hc hxb hyb
          rw [drop_cons' hy, mulC] at hrow
          conv => whnf
          repeat' ((first | refine zq1 (by omega) ?_ | refine zq2 (by omega) ?_ | refine NumH.rem (by omega) ?_ | refine zq4 (by omega) ?_ | refine zq5 (by omega) ?_ | refine zq6 ?_ | refine Req.mk (by omega) ?_ | refine Req.mk (by dsimp only; omega) ?_ | refine Req.mk ⟨rfl, rfl, rfl, by simp [ci_length, *], rfl, by simp [okCell], by dsimp only; omega, by omega, by decide⟩ ?_ | refine Req.mk (show pendP _ _ by repeat' constructor) ?_ | (with_reducible first | refine brT (by assumption) ?_ | refine brF (by assumption) ?_ | refine brDT (by omega) ?_ | refine brDF (by omega) ?_ | refine brET (by omega) ?_ | refine brEF (by omega) ?_ | refine brNET (by omega) ?_ | refine brNEF (by omega) ?_ | refine brNot ?_)); conv => whnf)
          refine DrawH.plan seat_ok (.take 0 (.take 1 (.take 2 (.take 3 (.take 4 (.take 5 (.take 6 (.take 7 (.take 8 (.take 9 (.take 10 (.take 11 (.take 12 (.perform 13 none Plan.done)))))))))))))) 0 (by kernel_rfl) ?_
          conv => whnf
          repeat' ((first | refine zq1 (by omega) ?_ | refine zq2 (by omega) ?_ | refine NumH.rem (by omega) ?_ | refine zq4 (by omega) ?_ | refine zq5 (by omega) ?_ | refine zq6 ?_ | refine Req.mk (by omega) ?_ | refine Req.mk (by dsimp only; omega) ?_ | refine Req.mk ⟨rfl, rfl, rfl, by simp [ci_length, *], rfl, by simp [okCell], by dsimp only; omega, by omega, by decide⟩ ?_ | refine Req.mk (show pendP _ _ by repeat' constructor) ?_ | (with_reducible first | refine brT (by assumption) ?_ | refine brF (by assumption) ?_ | refine brDT (by omega) ?_ | refine brDF (by omega) ?_ | refine brET (by omega) ?_ | refine brEF (by omega) ?_ | refine brNET (by omega) ?_ | refine brNEF (by omega) ?_ | refine brNot ?_)); conv => whnf)
          refine ldI _ (ci_sub .i64 hx) ?_
          conv => whnf
          repeat' ((first | refine zq1 (by omega) ?_ | refine zq2 (by omega) ?_ | refine NumH.rem (by omega) ?_ | refine zq4 (by omega) ?_ | refine zq5 (by omega) ?_ | refine zq6 ?_ | refine Req.mk (by omega) ?_ | refine Req.mk (by dsimp only; omega) ?_ | refine Req.mk ⟨rfl, rfl, rfl, by simp [ci_length, *], rfl, by simp [okCell], by dsimp only; omega, by omega, by decide⟩ ?_ | refine Req.mk (show pendP _ _ by repeat' constructor) ?_ | (with_reducible first | refine brT (by assumption) ?_ | refine brF (by assumption) ?_ | refine brDT (by omega) ?_ | refine brDF (by omega) ?_ | refine brET (by omega) ?_ | refine brEF (by omega) ?_ | refine brNET (by omega) ?_ | refine brNEF (by omega) ?_ | refine brNot ?_)); conv => whnf)
          refine ldI _ (ci_sub .i64 hy) ?_
          conv => whnf
          repeat' ((first | refine zq1 (by omega) ?_ | refine zq2 (by omega) ?_ | refine NumH.rem (by omega) ?_ | refine zq4 (by omega) ?_ | refine zq5 (by omega) ?_ | refine zq6 ?_ | refine Req.mk (by omega) ?_ | refine Req.mk (by dsimp only; omega) ?_ | refine Req.mk ⟨rfl, rfl, rfl, by simp [ci_length, *], rfl, by simp [okCell], by dsimp only; omega, by omega, by decide⟩ ?_ | refine Req.mk (show pendP _ _ by repeat' constructor) ?_ | (with_reducible first | refine brT (by assumption) ?_ | refine brF (by assumption) ?_ | refine brDT (by omega) ?_ | refine brDF (by omega) ?_ | refine brET (by omega) ?_ | refine brEF (by omega) ?_ | refine brNET (by omega) ?_ | refine brNEF (by omega) ?_ | refine brNot ?_)); conv => whnf)
          refine ⟨_, _, ?_, WeakL.of_eq rfl, k + 1, (c + x * y) / 65536, r ++ [(c + x * y) % 65536], by omega, by simp [hr]; omega, ?_, rfl, ?_, rfl⟩
          · split <;> split <;> omega
          · rw [← hrow]; simp
          · rw [← ci_append]; rfl
        · rw [drop_nil' (l := B) (by omega), mulC] at hrow
          by_cases g3 : c > 0
          · conv => whnf
            repeat' ((first | refine zq1 (by omega) ?_ | refine zq2 (by omega) ?_ | refine NumH.rem (by omega) ?_ | refine zq4 (by omega) ?_ | refine zq5 (by omega) ?_ | refine zq6 ?_ | refine Req.mk (by omega) ?_ | refine Req.mk (by dsimp only; omega) ?_ | refine Req.mk ⟨rfl, rfl, rfl, by simp [ci_length, *], rfl, by simp [okCell], by dsimp only; omega, by omega, by decide⟩ ?_ | refine Req.mk (show pendP _ _ by repeat' constructor) ?_ | (with_reducible first | refine brT (by assumption) ?_ | refine brF (by assumption) ?_ | refine brDT (by omega) ?_ | refine brDF (by omega) ?_ | refine brET (by omega) ?_ | refine brEF (by omega) ?_ | refine brNET (by omega) ?_ | refine brNEF (by omega) ?_ | refine brNot ?_)); conv => whnf)
            have e1 : c % 65536 = c := by omega
            have e2 : c / 65536 = 0 := by omega
            refine ⟨_, _, ?_, WeakL.of_eq rfl, k + 1, c / 65536, r ++ [c % 65536], by omega, by simp [hr]; omega, ?_, rfl, ?_, rfl⟩
            · rw [e2, if_pos rfl, if_neg (by omega)]; omega
            · rw [← hrow, e1, e2, drop_nil' (l := B) (by omega), if_neg (by omega)]; simp [mulC]
            · rw [← ci_append]; rfl
          · conv => whnf
            repeat' ((first | refine zq1 (by omega) ?_ | refine zq2 (by omega) ?_ | refine NumH.rem (by omega) ?_ | refine zq4 (by omega) ?_ | refine zq5 (by omega) ?_ | refine zq6 ?_ | refine Req.mk (by omega) ?_ | refine Req.mk (by dsimp only; omega) ?_ | refine Req.mk ⟨rfl, rfl, rfl, by simp [ci_length, *], rfl, by simp [okCell], by dsimp only; omega, by omega, by decide⟩ ?_ | refine Req.mk (show pendP _ _ by repeat' constructor) ?_ | (with_reducible first | refine brT (by assumption) ?_ | refine brF (by assumption) ?_ | refine brDT (by omega) ?_ | refine brDF (by omega) ?_ | refine brET (by omega) ?_ | refine brEF (by omega) ?_ | refine brNET (by omega) ?_ | refine brNEF (by omega) ?_ | refine brNot ?_)); conv => whnf)
            rw [if_pos (by omega), List.append_nil] at hrow
            subst hrow
            exact ⟨_, keepT_weak (maskOf 68 [2, 3, 4, 5, 6, 7]) _, rfl, i + k, rfl, hr, rfl⟩
      · rintro _ _ _ ⟨rfl, k, rfl, hk, rfl⟩
        have hkl : k ≤ 100000 := by
          have h1 := (mulC_spec hxb B 0 (by omega) db).2.2
          simp only [List.length_append, List.length_replicate] at hk; omega
        have hsucc := dv_take_succ hx
        have htl := dv_take_le da (i + 1)
        have hnn : (65536 : Int) ^ i * x = ((65536 ^ i * x.toNat : Nat) : Int) := by
          rw [Int.natCast_mul, Int.natCast_pow, Int.toNat_of_nonneg hxb.1]; rfl
        have hp2 : ((p + 65536 ^ i * x.toNat : Nat) : Int) = dv (A.take (i + 1)) := by rw [hsucc, ← hp, hnn]; rfl
        have hpm : p + 65536 ^ i * x.toNat ≤ m := by rw [va] at htl; omega
        have hl1 : (dig (p * n)).length ≤ 100000 := by
          have := dig_length_mono (Nat.mul_le_mul_right n (by omega : p ≤ m)); omega
        have hl2 : (dig (65536 ^ i * x.toNat * n)).length ≤ 100000 := by
          have := dig_length_mono (Nat.mul_le_mul_right n (by omega : 65536 ^ i * x.toNat ≤ m)); omega
        have hrd := hrowd x hxb i
        clear hsucc htl hnn
        conv => whnf
        refine c_trim' _ _ hk (by omega) hrd ?_
        conv => whnf
        refine CallH.lift seat_g (c_plusN _ _ hl1 hl2) ⟨lv_closed _, lv_closed _, trivial⟩ (lv_closed _) ?_
        conv => whnf
        repeat' ((first | refine zq1 (by omega) ?_ | refine zq2 (by omega) ?_ | refine NumH.rem (by omega) ?_ | refine zq4 (by omega) ?_ | refine zq5 (by omega) ?_ | refine zq6 ?_ | refine Req.mk (by omega) ?_ | refine Req.mk (by dsimp only; omega) ?_ | refine Req.mk ⟨rfl, rfl, rfl, by simp [ci_length, *], rfl, by simp [okCell], by dsimp only; omega, by omega, by decide⟩ ?_ | refine Req.mk (show pendP _ _ by repeat' constructor) ?_ | (with_reducible first | refine brT (by assumption) ?_ | refine brF (by assumption) ?_ | refine brDT (by omega) ?_ | refine brDF (by omega) ?_ | refine brET (by omega) ?_ | refine brEF (by omega) ?_ | refine brNET (by omega) ?_ | refine brNEF (by omega) ?_ | refine brNot ?_)); conv => whnf)
        refine ⟨_, _, ?_, WeakL.of_eq rfl, i + 1, _, by omega, hp2, rfl, ?_, rfl⟩
        · omega
        · rw [Nat.add_mul]; rfl
    · conv => whnf
      repeat' ((first | refine zq1 (by omega) ?_ | refine zq2 (by omega) ?_ | refine NumH.rem (by omega) ?_ | refine zq4 (by omega) ?_ | refine zq5 (by omega) ?_ | refine zq6 ?_ | refine Req.mk (by omega) ?_ | refine Req.mk (by dsimp only; omega) ?_ | refine Req.mk ⟨rfl, rfl, rfl, by simp [ci_length, *], rfl, by simp [okCell], by dsimp only; omega, by omega, by decide⟩ ?_ | refine Req.mk (show pendP _ _ by repeat' constructor) ?_ | (with_reducible first | refine brT (by assumption) ?_ | refine brF (by assumption) ?_ | refine brDT (by omega) ?_ | refine brDF (by omega) ?_ | refine brET (by omega) ?_ | refine brEF (by omega) ?_ | refine brNET (by omega) ?_ | refine brNEF (by omega) ?_ | refine brNot ?_)); conv => whnf)
      have : p = m := by
        rw [List.take_of_length_le (by omega), va] at hp; omega
      subst this
      exact ⟨_, keepT_weak (maskOf 68 [2, 3, 4, 5]) _, rfl, rfl, rfl⟩
  · rintro _ _ _ ⟨rfl, rfl, rfl⟩
    conv => whnf
    repeat' ((first | refine zq1 (by omega) ?_ | refine zq2 (by omega) ?_ | refine NumH.rem (by omega) ?_ | refine zq4 (by omega) ?_ | refine zq5 (by omega) ?_ | refine zq6 ?_ | refine Req.mk (by omega) ?_ | refine Req.mk (by dsimp only; omega) ?_ | refine Req.mk ⟨rfl, rfl, rfl, by simp [ci_length, *], rfl, by simp [okCell], by dsimp only; omega, by omega, by decide⟩ ?_ | refine Req.mk (show pendP _ _ by repeat' constructor) ?_ | (with_reducible first | refine brT (by assumption) ?_ | refine brF (by assumption) ?_ | refine brDT (by omega) ?_ | refine brDF (by omega) ?_ | refine brET (by omega) ?_ | refine brEF (by omega) ?_ | refine brNET (by omega) ?_ | refine brNEF (by omega) ?_ | refine brNot ?_)); conv => whnf)
    rfl
def addS (s1 : Bool) (m : Nat) (s2 : Bool) (n : Nat) : Bool := if s1 = s2 then s1 else if m < n then s2 else s1
def addM (s1 : Bool) (m : Nat) (s2 : Bool) (n : Nat) : Nat := if s1 = s2 then m + n else if m < n then n - m else m - n
theorem c_add (s1 s2 : Bool) (m n : Nat) (hm : (dig m).length ≤ 100000) (hn : (dig n).length ≤ 100000) : ACalls seat 80 [nv s1 m, nv s2 n] [] (fun x _ => x = .ret (nv (addS s1 m s2 n) (addM s1 m s2 n))) := by
  refine ACalls.body seat_ok Tryd.func80 rfl rfl ?_
  by_cases hs : s1 = s2
  · have e1 : addS s1 m s2 n = s1 := if_pos hs
    have e2 : addM s1 m s2 n = m + n := if_pos hs
    rw [e1, e2]
    conv => whnf
    refine brT (by simp [hs]) ?_
    conv => whnf
    refine DrawH.plan seat_ok (.take 0 (.take 1 (.take 2 (.take 3 (.take 4 (.take 5 (.perform 6 none (.take 7 (.perform 8 none Plan.done))))))))) 0 (by kernel_rfl) ?_
    conv => whnf
    refine CallH.lift seat_g (c_plusN m n hm hn) ⟨lv_closed _, lv_closed _, trivial⟩ (lv_closed _) ?_
    conv => whnf
    repeat' ((first | refine zq1 (by omega) ?_ | refine zq2 (by omega) ?_ | refine NumH.rem (by omega) ?_ | refine zq4 (by omega) ?_ | refine zq5 (by omega) ?_ | refine zq6 ?_ | refine Req.mk (by omega) ?_ | refine Req.mk (by dsimp only; omega) ?_ | refine Req.mk ⟨rfl, rfl, rfl, by simp [ci_length, *], rfl, by simp [okCell], by dsimp only; omega, by omega, by decide⟩ ?_ | refine Req.mk (show pendP _ _ by repeat' constructor) ?_ | (with_reducible first | refine brT (by assumption) ?_ | refine brF (by assumption) ?_ | refine brDT (by omega) ?_ | refine brDF (by omega) ?_ | refine brET (by omega) ?_ | refine brEF (by omega) ?_ | refine brNET (by omega) ?_ | refine brNEF (by omega) ?_ | refine brNot ?_)); conv => whnf)
    rfl
  · by_cases hl : m < n
    · have e1 : addS s1 m s2 n = s2 := (if_neg hs).trans (if_pos hl)
      have e2 : addM s1 m s2 n = n - m := (if_neg hs).trans (if_pos hl)
      rw [e1, e2]
      conv => whnf
      refine brF (by simp [hs]) ?_
      conv => whnf
      refine CallH.lift seat_g (c_lessN m n hm hn) ⟨lv_closed _, lv_closed _, trivial⟩ (by simp [Closed]) ?_
      conv => whnf
      repeat' ((first | refine zq1 (by omega) ?_ | refine zq2 (by omega) ?_ | refine NumH.rem (by omega) ?_ | refine zq4 (by omega) ?_ | refine zq5 (by omega) ?_ | refine zq6 ?_ | refine Req.mk (by omega) ?_ | refine Req.mk (by dsimp only; omega) ?_ | refine Req.mk ⟨rfl, rfl, rfl, by simp [ci_length, *], rfl, by simp [okCell], by dsimp only; omega, by omega, by decide⟩ ?_ | refine Req.mk (show pendP _ _ by repeat' constructor) ?_ | (with_reducible first | refine brT (by assumption) ?_ | refine brF (by assumption) ?_ | refine brDT (by omega) ?_ | refine brDF (by omega) ?_ | refine brET (by omega) ?_ | refine brEF (by omega) ?_ | refine brNET (by omega) ?_ | refine brNEF (by omega) ?_ | refine brNot ?_)); conv => whnf)
      refine DrawH.plan seat_ok (.take 0 (.take 1 (.take 2 (.take 3 (.take 4 (.take 5 (.perform 6 none (.take 7 (.perform 8 none Plan.done))))))))) 0 (by kernel_rfl) ?_
      conv => whnf
      refine CallH.lift seat_g (c_minusN n m (by omega) hn hm) ⟨lv_closed _, lv_closed _, trivial⟩ (lv_closed _) ?_
      conv => whnf
      repeat' ((first | refine zq1 (by omega) ?_ | refine zq2 (by omega) ?_ | refine NumH.rem (by omega) ?_ | refine zq4 (by omega) ?_ | refine zq5 (by omega) ?_ | refine zq6 ?_ | refine Req.mk (by omega) ?_ | refine Req.mk (by dsimp only; omega) ?_ | refine Req.mk ⟨rfl, rfl, rfl, by simp [ci_length, *], rfl, by simp [okCell], by dsimp only; omega, by omega, by decide⟩ ?_ | refine Req.mk (show pendP _ _ by repeat' constructor) ?_ | (with_reducible first | refine brT (by assumption) ?_ | refine brF (by assumption) ?_ | refine brDT (by omega) ?_ | refine brDF (by omega) ?_ | refine brET (by omega) ?_ | refine brEF (by omega) ?_ | refine brNET (by omega) ?_ | refine brNEF (by omega) ?_ | refine brNot ?_)); conv => whnf)
      rfl
    · have e1 : addS s1 m s2 n = s1 := (if_neg hs).trans (if_neg hl)
      have e2 : addM s1 m s2 n = m - n := (if_neg hs).trans (if_neg hl)
      rw [e1, e2]
      conv => whnf
      refine brF (by simp [hs]) ?_
      conv => whnf
      refine CallH.lift seat_g (c_lessN m n hm hn) ⟨lv_closed _, lv_closed _, trivial⟩ (by simp [Closed]) ?_
      conv => whnf
      repeat' ((first | refine zq1 (by omega) ?_ | refine zq2 (by omega) ?_ | refine NumH.rem (by omega) ?_ | refine zq4 (by omega) ?_ | refine zq5 (by omega) ?_ | refine zq6 ?_ | refine Req.mk (by omega) ?_ | refine Req.mk (by dsimp only; omega) ?_ | refine Req.mk ⟨rfl, rfl, rfl, by simp [ci_length, *], rfl, by simp [okCell], by dsimp only; omega, by omega, by decide⟩ ?_ | refine Req.mk (show pendP _ _ by repeat' constructor) ?_ | (with_reducible first | refine brT (by assumption) ?_ | refine brF (by assumption) ?_ | refine brDT (by omega) ?_ | refine brDF (by omega) ?_ | refine brET (by omega) ?_ | refine brEF (by omega) ?_ | refine brNET (by omega) ?_ | refine brNEF (by omega) ?_ | refine brNot ?_)); conv => whnf)
      refine DrawH.plan seat_ok (.take 0 (.take 1 (.take 2 (.take 3 (.take 4 (.take 5 (.perform 6 none (.take 7 (.perform 8 none Plan.done))))))))) 0 (by kernel_rfl) ?_
      conv => whnf
      refine CallH.lift seat_g (c_minusN m n (by omega) hm hn) ⟨lv_closed _, lv_closed _, trivial⟩ (lv_closed _) ?_
      conv => whnf
      repeat' ((first | refine zq1 (by omega) ?_ | refine zq2 (by omega) ?_ | refine NumH.rem (by omega) ?_ | refine zq4 (by omega) ?_ | refine zq5 (by omega) ?_ | refine zq6 ?_ | refine Req.mk (by omega) ?_ | refine Req.mk (by dsimp only; omega) ?_ | refine Req.mk ⟨rfl, rfl, rfl, by simp [ci_length, *], rfl, by simp [okCell], by dsimp only; omega, by omega, by decide⟩ ?_ | refine Req.mk (show pendP _ _ by repeat' constructor) ?_ | (with_reducible first | refine brT (by assumption) ?_ | refine brF (by assumption) ?_ | refine brDT (by omega) ?_ | refine brDF (by omega) ?_ | refine brET (by omega) ?_ | refine brEF (by omega) ?_ | refine brNET (by omega) ?_ | refine brNEF (by omega) ?_ | refine brNot ?_)); conv => whnf)
      rfl
end Go.Proofs.YtjpaapkdbohgeaaDoor
namespace Go.Proofs.YtjpaapkdbohgeaaDoor
open Go.Abs
def kindN (n : Int) : Int := if 48 ≤ n ∧ n ≤ 57 then 0 else if n = 46 then 1 else if n = 101 ∨ n = 69 then 2 else if n = 43 ∨ n = 45 then 3 else -1
theorem kindN_cases (n : Int) : (kindN n = 0 ∧ 48 ≤ n ∧ n ≤ 57) ∨ (kindN n = 1 ∧ n = 46) ∨ (kindN n = 2 ∧ (n = 101 ∨ n = 69)) ∨ (kindN n = 3 ∧ (n = 43 ∨ n = 45)) ∨ (kindN n = -1 ∧ ¬ (48 ≤ n ∧ n ≤ 57) ∧ n ≠ 46 ∧ n ≠ 101 ∧ n ≠ 69 ∧ n ≠ 43 ∧ n ≠ 45) := by
  unfold kindN
  repeat' split
  all_goals omega
theorem c_kind (n : Int) : ACalls seat 88 [.int .u8 n] [] (fun x _ => x = .ret (.int .i64 (kindN n))) := by
  refine ACalls.body seat_ok Tryd.func88 rfl rfl ?_
  rcases kindN_cases n with ⟨h, h1, h2⟩ | ⟨h, h1⟩ | ⟨h, h1 | h1⟩ | ⟨h, h1 | h1⟩ | ⟨h, h1, h2, h3, h4, h5, h6⟩
  · rw [h]; conv => whnf
    repeat' ((first | refine zq1 (by omega) ?_ | refine zq2 (by omega) ?_ | refine NumH.rem (by omega) ?_ | refine zq4 (by omega) ?_ | refine zq5 (by omega) ?_ | refine zq6 ?_ | refine Req.mk (by omega) ?_ | refine Req.mk (by dsimp only; omega) ?_ | refine Req.mk (show pendP _ _ by repeat' constructor) ?_ | (with_reducible first | refine brT (by assumption) ?_ | refine brF (by assumption) ?_ | refine brDT (by omega) ?_ | refine brDF (by omega) ?_ | refine brET (by omega) ?_ | refine brEF (by omega) ?_ | refine brNET (by omega) ?_ | refine brNEF (by omega) ?_ | refine brNot ?_)); conv => whnf)
    rfl
  · rw [h]; conv => whnf
    repeat' ((first | refine zq1 (by omega) ?_ | refine zq2 (by omega) ?_ | refine NumH.rem (by omega) ?_ | refine zq4 (by omega) ?_ | refine zq5 (by omega) ?_ | refine zq6 ?_ | refine Req.mk (by omega) ?_ | refine Req.mk (by dsimp only; omega) ?_ | refine Req.mk (show pendP _ _ by repeat' constructor) ?_ | (with_reducible first | refine brT (by assumption) ?_ | refine brF (by assumption) ?_ | refine brDT (by omega) ?_ | refine brDF (by omega) ?_ | refine brET (by omega) ?_ | refine brEF (by omega) ?_ | refine brNET (by omega) ?_ | refine brNEF (by omega) ?_ | refine brNot ?_)); conv => whnf)
    rfl
  · rw [h]; conv => whnf
    repeat' ((first | refine zq1 (by omega) ?_ | refine zq2 (by omega) ?_ | refine NumH.rem (by omega) ?_ | refine zq4 (by omega) ?_ | refine zq5 (by omega) ?_ | refine zq6 ?_ | refine Req.mk (by omega) ?_ | refine Req.mk (by dsimp only; omega) ?_ | refine Req.mk (show pendP _ _ by repeat' constructor) ?_ | (with_reducible first | refine brT (by assumption) ?_ | refine brF (by assumption) ?_ | refine brDT (by omega) ?_ | refine brDF (by omega) ?_ | refine brET (by omega) ?_ | refine brEF (by omega) ?_ | refine brNET (by omega) ?_ | refine brNEF (by omega) ?_ | refine brNot ?_)); conv => whnf)
    rfl
  · rw [h]; conv => whnf
    repeat' ((first | refine zq1 (by omega) ?_ | refine zq2 (by omega) ?_ | refine NumH.rem (by omega) ?_ | refine zq4 (by omega) ?_ | refine zq5 (by omega) ?_ | refine zq6 ?_ | refine Req.mk (by omega) ?_ | refine Req.mk (by dsimp only; omega) ?_ | refine Req.mk (show pendP _ _ by repeat' constructor) ?_ | (with_reducible first | refine brT (by assumption) ?_ | refine brF (by assumption) ?_ | refine brDT (by omega) ?_ | refine brDF (by omega) ?_ | refine brET (by omega) ?_ | refine brEF (by omega) ?_ | refine brNET (by omega) ?_ | refine brNEF (by omega) ?_ | refine brNot ?_)); conv => whnf)
    rfl
  · rw [h]; conv => whnf
    repeat' ((first | refine zq1 (by omega) ?_ | refine zq2 (by omega) ?_ | refine NumH.rem (by omega) ?_ | refine zq4 (by omega) ?_ | refine zq5 (by omega) ?_ | refine zq6 ?_ | refine Req.mk (by omega) ?_ | refine Req.mk (by dsimp only; omega) ?_ | refine Req.mk (show pendP _ _ by repeat' constructor) ?_ | (with_reducible first | refine brT (by assumption) ?_ | refine brF (by assumption) ?_ | refine brDT (by omega) ?_ | refine brDF (by omega) ?_ | refine brET (by omega) ?_ | refine brEF (by omega) ?_ | refine brNET (by omega) ?_ | refine brNEF (by omega) ?_ | refine brNot ?_)); conv => whnf)
    rfl
  · rw [h]; conv => whnf
    repeat' ((first | refine zq1 (by omega) ?_ | refine zq2 (by omega) ?_ | refine NumH.rem (by omega) ?_ | refine zq4 (by omega) ?_ | refine zq5 (by omega) ?_ | refine zq6 ?_ | refine Req.mk (by omega) ?_ | refine Req.mk (by dsimp only; omega) ?_ | refine Req.mk (show pendP _ _ by repeat' constructor) ?_ | (with_reducible first | refine brT (by assumption) ?_ | refine brF (by assumption) ?_ | refine brDT (by omega) ?_ | refine brDF (by omega) ?_ | refine brET (by omega) ?_ | refine brEF (by omega) ?_ | refine brNET (by omega) ?_ | refine brNEF (by omega) ?_ | refine brNot ?_)); conv => whnf)
    rfl
  · rw [h]
    by_cases g : 48 ≤ n
    · conv => whnf
      repeat' ((first | refine zq1 (by omega) ?_ | refine zq2 (by omega) ?_ | refine NumH.rem (by omega) ?_ | refine zq4 (by omega) ?_ | refine zq5 (by omega) ?_ | refine zq6 ?_ | refine Req.mk (by omega) ?_ | refine Req.mk (by dsimp only; omega) ?_ | refine Req.mk (show pendP _ _ by repeat' constructor) ?_ | (with_reducible first | refine brT (by assumption) ?_ | refine brF (by assumption) ?_ | refine brDT (by omega) ?_ | refine brDF (by omega) ?_ | refine brET (by omega) ?_ | refine brEF (by omega) ?_ | refine brNET (by omega) ?_ | refine brNEF (by omega) ?_ | refine brNot ?_)); conv => whnf)
      rfl
    · conv => whnf
      repeat' ((first | refine zq1 (by omega) ?_ | refine zq2 (by omega) ?_ | refine NumH.rem (by omega) ?_ | refine zq4 (by omega) ?_ | refine zq5 (by omega) ?_ | refine zq6 ?_ | refine Req.mk (by omega) ?_ | refine Req.mk (by dsimp only; omega) ?_ | refine Req.mk (show pendP _ _ by repeat' constructor) ?_ | (with_reducible first | refine brT (by assumption) ?_ | refine brF (by assumption) ?_ | refine brDT (by omega) ?_ | refine brDF (by omega) ?_ | refine brET (by omega) ?_ | refine brEF (by omega) ?_ | refine brNET (by omega) ?_ | refine brNEF (by omega) ?_ | refine brNot ?_)); conv => whnf)
      rfl
end Go.Proofs.YtjpaapkdbohgeaaDoor
