import Derived.Test.YthlojpcjafefjaaProg
import Derived.Test.YthlojpcjafefjaaHayDl
namespace Go.Hay.Ythlojpcjafefjaa
open Go Go.Hay Go.Proofs
def utab : List TD := [
  .no,
  ⟨.func, 1, 8, [.nilFunc], none, false⟩,
  ⟨.int .i64, 1, 8, [.int .i64 0], some (.int .i64), false⟩,
  ⟨.int .i64, 1, 8, [.int .i64 0], some (.int .i64), false⟩,
  ⟨.bool, 1, 1, [.bool false], some .bool, false⟩,
  ⟨.int .u8, 1, 1, [.int .u8 0], some .byte, false⟩,
  ⟨.int .u8, 1, 1, [.int .u8 0], some .byte, false⟩,
  ⟨.struct [(2, 0), (3, 1), (4, 2), (6, 3)], 4, 24, [.int .i64 0, .int .i64 0, .bool false, .int .u8 0], some (.pair (.int .i64) (.pair (.int .i64) (.pair .bool .byte))), true⟩,
  ⟨.struct [(2, 0), (3, 1), (4, 2), (6, 3)], 4, 24, [.int .i64 0, .int .i64 0, .bool false, .int .u8 0], some (.pair (.int .i64) (.pair (.int .i64) (.pair .bool .byte))), true⟩,
  ⟨.string, 1, 16, [.string ⟨#[]⟩], some .str, false⟩,
  ⟨.string, 1, 16, [.string ⟨#[]⟩], some .str, false⟩,
  ⟨.string, 1, 16, [.string ⟨#[]⟩], some .str, false⟩,
  ⟨.int .u64, 1, 8, [.int .u64 0], some (.int .u64), false⟩,
  ⟨.struct [(9, 0), (12, 1)], 2, 24, [.string ⟨#[]⟩, .int .u64 0], some (.pair .str (.int .u64)), false⟩,
  ⟨.struct [(9, 0), (12, 1)], 2, 24, [.string ⟨#[]⟩, .int .u64 0], some (.pair .str (.int .u64)), false⟩,
  ⟨.ptr 157, 1, 8, [.pointer none], none, false⟩,
  ⟨.ptr 160, 1, 8, [.pointer none], none, false⟩,
  ⟨.ptr 168, 1, 8, [.pointer none], none, false⟩,
  ⟨.struct [(17, 0)], 1, 8, [.pointer none], none, false⟩,
  ⟨.struct [(17, 0)], 1, 8, [.pointer none], none, false⟩,
  ⟨.other, 1, 16, [.nilIface], none, false⟩,
  ⟨.int .i32, 1, 4, [.int .i32 0], some (.int .i32), false⟩,
  ⟨.slice 5, 1, 24, [.slice none 0 0], some (.slice .byte), false⟩,
  ⟨.slice 22, 1, 24, [.slice none 0 0], some (.slice (.slice .byte)), false⟩,
  ⟨.int .i64, 1, 8, [.int .i64 0], some (.int .i64), false⟩,
  .no,
  ⟨.func, 1, 8, [.nilFunc], none, false⟩,
  .no,
  ⟨.func, 1, 8, [.nilFunc], none, false⟩,
  ⟨.func, 1, 8, [.nilFunc], none, false⟩,
  ⟨.func, 1, 8, [.nilFunc], none, false⟩,
  ⟨.func, 1, 8, [.nilFunc], none, false⟩,
  ⟨.slice 23, 1, 24, [.slice none 0 0], some (.slice (.slice (.slice .byte))), false⟩,
  ⟨.func, 1, 8, [.nilFunc], none, false⟩,
  ⟨.ptr 75, 1, 8, [.pointer none], none, false⟩,
  ⟨.func, 1, 8, [.nilFunc], none, false⟩,
  ⟨.ptr 80, 1, 8, [.pointer none], none, false⟩,
  .no,
  ⟨.func, 1, 8, [.nilFunc], none, false⟩,
  ⟨.func, 1, 8, [.nilFunc], none, false⟩,
  ⟨.func, 1, 8, [.nilFunc], none, false⟩,
  ⟨.func, 1, 8, [.nilFunc], none, false⟩,
  ⟨.func, 1, 8, [.nilFunc], none, false⟩,
  ⟨.func, 1, 8, [.nilFunc], none, false⟩,
  ⟨.func, 1, 8, [.nilFunc], none, false⟩,
  .no,
  ⟨.func, 1, 8, [.nilFunc], none, false⟩,
  ⟨.func, 1, 8, [.nilFunc], none, false⟩,
  ⟨.func, 1, 8, [.nilFunc], none, false⟩,
  ⟨.slice 3, 1, 24, [.slice none 0 0], some (.slice (.int .i64)), false⟩,
  ⟨.struct [(3, 0), (49, 1)], 2, 32, [.int .i64 0, .slice none 0 0], some (.pair (.int .i64) (.slice (.int .i64))), false⟩,
  ⟨.struct [(3, 0), (49, 1)], 2, 32, [.int .i64 0, .slice none 0 0], some (.pair (.int .i64) (.slice (.int .i64))), false⟩,
  ⟨.func, 1, 8, [.nilFunc], none, false⟩,
  ⟨.func, 1, 8, [.nilFunc], none, false⟩,
  ⟨.func, 1, 8, [.nilFunc], none, false⟩,
  .no,
  ⟨.func, 1, 8, [.nilFunc], none, false⟩,
  ⟨.ptr 93, 1, 8, [.pointer none], none, false⟩,
  ⟨.func, 1, 8, [.nilFunc], none, false⟩,
  ⟨.func, 1, 8, [.nilFunc], none, false⟩,
  ⟨.func, 1, 8, [.nilFunc], none, false⟩,
  ⟨.func, 1, 8, [.nilFunc], none, false⟩,
  .no,
  ⟨.func, 1, 8, [.nilFunc], none, false⟩,
  ⟨.ptr 106, 1, 8, [.pointer none], none, false⟩,
  ⟨.func, 1, 8, [.nilFunc], none, false⟩,
  ⟨.func, 1, 8, [.nilFunc], none, false⟩,
  ⟨.func, 1, 8, [.nilFunc], none, false⟩,
  ⟨.func, 1, 8, [.nilFunc], none, false⟩,
  ⟨.func, 1, 8, [.nilFunc], none, false⟩,
  ⟨.func, 1, 8, [.nilFunc], none, false⟩,
  ⟨.int .u64, 1, 8, [.int .u64 0], some (.int .u64), false⟩,
  ⟨.func, 1, 8, [.nilFunc], none, false⟩,
  ⟨.map 9 84 true, 1, 8, [.map none], none, false⟩,
  ⟨.struct [(3, 0), (3, 1), (73, 2), (3, 3), (3, 4), (4, 5)], 6, 48, [.int .i64 0, .int .i64 0, .map none, .int .i64 0, .int .i64 0, .bool false], none, false⟩,
  ⟨.struct [(3, 0), (3, 1), (73, 2), (3, 3), (3, 4), (4, 5)], 6, 48, [.int .i64 0, .int .i64 0, .map none, .int .i64 0, .int .i64 0, .bool false], none, false⟩,
  ⟨.func, 1, 8, [.nilFunc], none, false⟩,
  ⟨.func, 1, 8, [.nilFunc], none, false⟩,
  ⟨.func, 1, 8, [.nilFunc], none, false⟩,
  ⟨.struct [(34, 0), (9, 1), (23, 2), (3, 3)], 4, 56, [.pointer none, .string ⟨#[]⟩, .slice none 0 0, .int .i64 0], none, false⟩,
  ⟨.struct [(34, 0), (9, 1), (23, 2), (3, 3)], 4, 56, [.pointer none, .string ⟨#[]⟩, .slice none 0 0, .int .i64 0], none, false⟩,
  ⟨.func, 1, 8, [.nilFunc], none, false⟩,
  ⟨.func, 1, 8, [.nilFunc], none, false⟩,
  ⟨.struct [(22, 0), (3, 1)], 2, 32, [.slice none 0 0, .int .i64 0], some (.pair (.slice .byte) (.int .i64)), false⟩,
  ⟨.struct [(22, 0), (3, 1)], 2, 32, [.slice none 0 0, .int .i64 0], some (.pair (.slice .byte) (.int .i64)), false⟩,
  .no,
  ⟨.func, 1, 8, [.nilFunc], none, false⟩,
  ⟨.func, 1, 8, [.nilFunc], none, false⟩,
  ⟨.func, 1, 8, [.nilFunc], none, false⟩,
  ⟨.func, 1, 8, [.nilFunc], none, false⟩,
  ⟨.int .u32, 1, 4, [.int .u32 0], some (.int .u32), false⟩,
  ⟨.func, 1, 8, [.nilFunc], none, false⟩,
  ⟨.struct [(22, 0), (24, 1)], 2, 32, [.slice none 0 0, .int .i64 0], some (.pair (.slice .byte) (.int .i64)), false⟩,
  ⟨.struct [(22, 0), (24, 1)], 2, 32, [.slice none 0 0, .int .i64 0], some (.pair (.slice .byte) (.int .i64)), false⟩,
  ⟨.func, 1, 8, [.nilFunc], none, false⟩,
  ⟨.func, 1, 8, [.nilFunc], none, false⟩,
  ⟨.func, 1, 8, [.nilFunc], none, false⟩,
  ⟨.func, 1, 8, [.nilFunc], none, false⟩,
  ⟨.struct [(22, 0), (3, 1), (24, 2)], 3, 40, [.slice none 0 0, .int .i64 0, .int .i64 0], some (.pair (.slice .byte) (.pair (.int .i64) (.int .i64))), false⟩,
  ⟨.struct [(22, 0), (3, 1), (24, 2)], 3, 40, [.slice none 0 0, .int .i64 0, .int .i64 0], some (.pair (.slice .byte) (.pair (.int .i64) (.int .i64))), false⟩,
  .no,
  ⟨.func, 1, 8, [.nilFunc], none, false⟩,
  .no,
  ⟨.func, 1, 8, [.nilFunc], none, false⟩,
  ⟨.func, 1, 8, [.nilFunc], none, false⟩,
  ⟨.struct [(22, 0)], 1, 24, [.slice none 0 0], some (.pair (.slice .byte) .unit), false⟩,
  ⟨.struct [(22, 0)], 1, 24, [.slice none 0 0], some (.pair (.slice .byte) .unit), false⟩,
  ⟨.func, 1, 8, [.nilFunc], none, false⟩,
  ⟨.func, 1, 8, [.nilFunc], none, false⟩,
  ⟨.func, 1, 8, [.nilFunc], none, false⟩,
  ⟨.func, 1, 8, [.nilFunc], none, false⟩,
  ⟨.slice 61, 1, 24, [.slice none 0 0], none, false⟩,
  ⟨.func, 1, 8, [.nilFunc], none, false⟩,
  ⟨.func, 1, 8, [.nilFunc], none, false⟩,
  ⟨.func, 1, 8, [.nilFunc], none, false⟩,
  ⟨.func, 1, 8, [.nilFunc], none, false⟩,
  ⟨.func, 1, 8, [.nilFunc], none, false⟩,
  ⟨.func, 1, 8, [.nilFunc], none, false⟩,
  ⟨.slice 9, 1, 24, [.slice none 0 0], some (.slice .str), false⟩,
  ⟨.func, 1, 8, [.nilFunc], none, false⟩,
  ⟨.func, 1, 8, [.nilFunc], none, false⟩,
  ⟨.func, 1, 8, [.nilFunc], none, false⟩,
  ⟨.array 16 90, 16, 64, [.int .u32 0, .int .u32 0, .int .u32 0, .int .u32 0, .int .u32 0, .int .u32 0, .int .u32 0, .int .u32 0, .int .u32 0, .int .u32 0, .int .u32 0, .int .u32 0, .int .u32 0, .int .u32 0, .int .u32 0, .int .u32 0], none, false⟩,
  ⟨.int .u64, 1, 8, [.int .u64 0], some (.int .u64), false⟩,
  ⟨.func, 1, 8, [.nilFunc], none, false⟩,
  ⟨.func, 1, 8, [.nilFunc], none, false⟩,
  ⟨.func, 1, 8, [.nilFunc], none, false⟩,
  ⟨.func, 1, 8, [.nilFunc], none, false⟩,
  ⟨.func, 1, 8, [.nilFunc], none, false⟩,
  ⟨.func, 1, 8, [.nilFunc], none, false⟩,
  ⟨.func, 1, 8, [.nilFunc], none, false⟩,
  ⟨.func, 1, 8, [.nilFunc], none, false⟩,
  ⟨.func, 1, 8, [.nilFunc], none, false⟩,
  ⟨.func, 1, 8, [.nilFunc], none, false⟩,
  ⟨.func, 1, 8, [.nilFunc], none, false⟩,
  ⟨.func, 1, 8, [.nilFunc], none, false⟩,
  ⟨.int .i64, 1, 8, [.int .i64 0], some (.int .i64), false⟩,
  .no,
  ⟨.func, 1, 8, [.nilFunc], none, false⟩,
  ⟨.func, 1, 8, [.nilFunc], none, false⟩,
  ⟨.func, 1, 8, [.nilFunc], none, false⟩,
  ⟨.func, 1, 8, [.nilFunc], none, false⟩,
  .no,
  ⟨.func, 1, 8, [.nilFunc], none, false⟩,
  ⟨.func, 1, 8, [.nilFunc], none, false⟩,
  ⟨.func, 1, 8, [.nilFunc], none, false⟩,
  ⟨.int .u64, 1, 8, [.int .u64 0], some (.int .u64), false⟩,
  ⟨.func, 1, 8, [.nilFunc], none, false⟩,
  ⟨.func, 1, 8, [.nilFunc], none, false⟩,
  ⟨.func, 1, 8, [.nilFunc], none, false⟩,
  ⟨.ptr 3, 1, 8, [.pointer none], none, false⟩,
  ⟨.func, 1, 8, [.nilFunc], none, false⟩,
  ⟨.ptr 146, 1, 8, [.pointer none], none, false⟩,
  .no,
  ⟨.func, 1, 8, [.nilFunc], none, false⟩,
  ⟨.func, 1, 8, [.nilFunc], none, false⟩,
  ⟨.struct [(17, 0), (17, 1), (17, 2), (9, 3)], 4, 40, [.pointer none, .pointer none, .pointer none, .string ⟨#[]⟩], none, false⟩,
  ⟨.struct [(17, 0), (17, 1), (17, 2), (9, 3)], 4, 40, [.pointer none, .pointer none, .pointer none, .string ⟨#[]⟩], none, false⟩,
  ⟨.array 0 16, 0, 0, [], none, false⟩,
  ⟨.struct [(158, 0)], 0, 0, [], none, false⟩,
  ⟨.struct [(158, 0)], 0, 0, [], none, false⟩,
  ⟨.int .u8, 1, 1, [.int .u8 0], some .byte, false⟩,
  ⟨.int .u8, 1, 1, [.int .u8 0], some .byte, false⟩,
  ⟨.func, 1, 8, [.nilFunc], none, false⟩,
  ⟨.ptr 5, 1, 8, [.pointer none], none, false⟩,
  ⟨.int .i32, 1, 4, [.int .i32 0], some (.int .i32), false⟩,
  ⟨.int .i32, 1, 4, [.int .i32 0], some (.int .i32), false⟩,
  ⟨.struct [(12, 0), (12, 1), (90, 2), (161, 3), (5, 4), (5, 5), (162, 6), (163, 7), (164, 8), (165, 9), (166, 10)], 11, 48, [.int .u64 0, .int .u64 0, .int .u32 0, .int .u8 0, .int .u8 0, .int .u8 0, .int .u8 0, .nilFunc, .pointer none, .int .i32 0, .int .i32 0], none, false⟩,
  ⟨.struct [(12, 0), (12, 1), (90, 2), (161, 3), (5, 4), (5, 5), (162, 6), (163, 7), (164, 8), (165, 9), (166, 10)], 11, 48, [.int .u64 0, .int .u64 0, .int .u32 0, .int .u8 0, .int .u8 0, .int .u8 0, .int .u8 0, .nilFunc, .pointer none, .int .i32 0, .int .i32 0], none, false⟩,
  ⟨.func, 1, 8, [.nilFunc], none, false⟩,
  .no]
def U : TEnv := fun t => utab.getD t TD.no
theorem u1 : TD.Holds Try.prog 1 ⟨.func, 1, 8, [.nilFunc], none, false⟩ := ⟨show (Try.prog.underlying 1).map funcDesc = some true by kernel_rfl, show (Try.prog.info? 1).map (fun i => (i.size, i.bytes, i.zero.map fun z => z.cells.toList)) = some (1, 8, some [.nilFunc]) by kernel_rfl, fun h => by cases h⟩
theorem u2 : TD.Holds Try.prog 2 ⟨.int .i64, 1, 8, [.int .i64 0], some (.int .i64), false⟩ := ⟨show Try.prog.underlying 2 = some (.int .i64) by kernel_rfl, show (Try.prog.info? 2).map (fun i => (i.size, i.bytes, i.zero.map fun z => z.cells.toList)) = some (1, 8, some [.int .i64 0]) by kernel_rfl, fun h => by cases h⟩
theorem u3 : TD.Holds Try.prog 3 ⟨.int .i64, 1, 8, [.int .i64 0], some (.int .i64), false⟩ := ⟨show Try.prog.underlying 3 = some (.int .i64) by kernel_rfl, show (Try.prog.info? 3).map (fun i => (i.size, i.bytes, i.zero.map fun z => z.cells.toList)) = some (1, 8, some [.int .i64 0]) by kernel_rfl, fun h => by cases h⟩
theorem u4 : TD.Holds Try.prog 4 ⟨.bool, 1, 1, [.bool false], some .bool, false⟩ := ⟨show Try.prog.underlying 4 = some .bool by kernel_rfl, show (Try.prog.info? 4).map (fun i => (i.size, i.bytes, i.zero.map fun z => z.cells.toList)) = some (1, 1, some [.bool false]) by kernel_rfl, fun h => by cases h⟩
theorem u5 : TD.Holds Try.prog 5 ⟨.int .u8, 1, 1, [.int .u8 0], some .byte, false⟩ := ⟨show Try.prog.underlying 5 = some (.int .u8) by kernel_rfl, show (Try.prog.info? 5).map (fun i => (i.size, i.bytes, i.zero.map fun z => z.cells.toList)) = some (1, 1, some [.int .u8 0]) by kernel_rfl, fun h => by cases h⟩
theorem u6 : TD.Holds Try.prog 6 ⟨.int .u8, 1, 1, [.int .u8 0], some .byte, false⟩ := ⟨show Try.prog.underlying 6 = some (.int .u8) by kernel_rfl, show (Try.prog.info? 6).map (fun i => (i.size, i.bytes, i.zero.map fun z => z.cells.toList)) = some (1, 1, some [.int .u8 0]) by kernel_rfl, fun h => by cases h⟩
theorem u7 : TD.Holds Try.prog 7 ⟨.struct [(2, 0), (3, 1), (4, 2), (6, 3)], 4, 24, [.int .i64 0, .int .i64 0, .bool false, .int .u8 0], some (.pair (.int .i64) (.pair (.int .i64) (.pair .bool .byte))), true⟩ := ⟨show (Try.prog.underlying 7).bind fieldsOf = some [(2, 0), (3, 1), (4, 2), (6, 3)] by kernel_rfl, show (Try.prog.info? 7).map (fun i => (i.size, i.bytes, i.zero.map fun z => z.cells.toList)) = some (4, 24, some [.int .i64 0, .int .i64 0, .bool false, .int .u8 0]) by kernel_rfl, fun _ => ⟨show Try.prog.stoodInHeld 7 = false by kernel_rfl, show Try.prog.eqGuardType Try.prog.depth 7 = false by kernel_rfl, show (Try.prog.fieldsOf 7).toList.all (fun f => f.name != "_") = true by kernel_rfl⟩⟩
theorem u8 : TD.Holds Try.prog 8 ⟨.struct [(2, 0), (3, 1), (4, 2), (6, 3)], 4, 24, [.int .i64 0, .int .i64 0, .bool false, .int .u8 0], some (.pair (.int .i64) (.pair (.int .i64) (.pair .bool .byte))), true⟩ := ⟨show (Try.prog.underlying 8).bind fieldsOf = some [(2, 0), (3, 1), (4, 2), (6, 3)] by kernel_rfl, show (Try.prog.info? 8).map (fun i => (i.size, i.bytes, i.zero.map fun z => z.cells.toList)) = some (4, 24, some [.int .i64 0, .int .i64 0, .bool false, .int .u8 0]) by kernel_rfl, fun _ => ⟨show Try.prog.stoodInHeld 8 = false by kernel_rfl, show Try.prog.eqGuardType Try.prog.depth 8 = false by kernel_rfl, show (Try.prog.fieldsOf 8).toList.all (fun f => f.name != "_") = true by kernel_rfl⟩⟩
theorem u9 : TD.Holds Try.prog 9 ⟨.string, 1, 16, [.string ⟨#[]⟩], some .str, false⟩ := ⟨show Try.prog.underlying 9 = some .string by kernel_rfl, show (Try.prog.info? 9).map (fun i => (i.size, i.bytes, i.zero.map fun z => z.cells.toList)) = some (1, 16, some [.string ⟨#[]⟩]) by kernel_rfl, fun h => by cases h⟩
theorem u10 : TD.Holds Try.prog 10 ⟨.string, 1, 16, [.string ⟨#[]⟩], some .str, false⟩ := ⟨show Try.prog.underlying 10 = some .string by kernel_rfl, show (Try.prog.info? 10).map (fun i => (i.size, i.bytes, i.zero.map fun z => z.cells.toList)) = some (1, 16, some [.string ⟨#[]⟩]) by kernel_rfl, fun h => by cases h⟩
theorem u11 : TD.Holds Try.prog 11 ⟨.string, 1, 16, [.string ⟨#[]⟩], some .str, false⟩ := ⟨show Try.prog.underlying 11 = some .string by kernel_rfl, show (Try.prog.info? 11).map (fun i => (i.size, i.bytes, i.zero.map fun z => z.cells.toList)) = some (1, 16, some [.string ⟨#[]⟩]) by kernel_rfl, fun h => by cases h⟩
theorem u12 : TD.Holds Try.prog 12 ⟨.int .u64, 1, 8, [.int .u64 0], some (.int .u64), false⟩ := ⟨show Try.prog.underlying 12 = some (.int .u64) by kernel_rfl, show (Try.prog.info? 12).map (fun i => (i.size, i.bytes, i.zero.map fun z => z.cells.toList)) = some (1, 8, some [.int .u64 0]) by kernel_rfl, fun h => by cases h⟩
theorem u13 : TD.Holds Try.prog 13 ⟨.struct [(9, 0), (12, 1)], 2, 24, [.string ⟨#[]⟩, .int .u64 0], some (.pair .str (.int .u64)), false⟩ := ⟨show (Try.prog.underlying 13).bind fieldsOf = some [(9, 0), (12, 1)] by kernel_rfl, show (Try.prog.info? 13).map (fun i => (i.size, i.bytes, i.zero.map fun z => z.cells.toList)) = some (2, 24, some [.string ⟨#[]⟩, .int .u64 0]) by kernel_rfl, fun h => by cases h⟩
theorem u14 : TD.Holds Try.prog 14 ⟨.struct [(9, 0), (12, 1)], 2, 24, [.string ⟨#[]⟩, .int .u64 0], some (.pair .str (.int .u64)), false⟩ := ⟨show (Try.prog.underlying 14).bind fieldsOf = some [(9, 0), (12, 1)] by kernel_rfl, show (Try.prog.info? 14).map (fun i => (i.size, i.bytes, i.zero.map fun z => z.cells.toList)) = some (2, 24, some [.string ⟨#[]⟩, .int .u64 0]) by kernel_rfl, fun h => by cases h⟩
theorem u15 : TD.Holds Try.prog 15 ⟨.ptr 157, 1, 8, [.pointer none], none, false⟩ := ⟨show Try.prog.underlying 15 = some (.pointer 157) by kernel_rfl, show (Try.prog.info? 15).map (fun i => (i.size, i.bytes, i.zero.map fun z => z.cells.toList)) = some (1, 8, some [.pointer none]) by kernel_rfl, fun h => by cases h⟩
theorem u16 : TD.Holds Try.prog 16 ⟨.ptr 160, 1, 8, [.pointer none], none, false⟩ := ⟨show Try.prog.underlying 16 = some (.pointer 160) by kernel_rfl, show (Try.prog.info? 16).map (fun i => (i.size, i.bytes, i.zero.map fun z => z.cells.toList)) = some (1, 8, some [.pointer none]) by kernel_rfl, fun h => by cases h⟩
theorem u17 : TD.Holds Try.prog 17 ⟨.ptr 168, 1, 8, [.pointer none], none, false⟩ := ⟨show Try.prog.underlying 17 = some (.pointer 168) by kernel_rfl, show (Try.prog.info? 17).map (fun i => (i.size, i.bytes, i.zero.map fun z => z.cells.toList)) = some (1, 8, some [.pointer none]) by kernel_rfl, fun h => by cases h⟩
theorem u18 : TD.Holds Try.prog 18 ⟨.struct [(17, 0)], 1, 8, [.pointer none], none, false⟩ := ⟨show (Try.prog.underlying 18).bind fieldsOf = some [(17, 0)] by kernel_rfl, show (Try.prog.info? 18).map (fun i => (i.size, i.bytes, i.zero.map fun z => z.cells.toList)) = some (1, 8, some [.pointer none]) by kernel_rfl, fun h => by cases h⟩
theorem u19 : TD.Holds Try.prog 19 ⟨.struct [(17, 0)], 1, 8, [.pointer none], none, false⟩ := ⟨show (Try.prog.underlying 19).bind fieldsOf = some [(17, 0)] by kernel_rfl, show (Try.prog.info? 19).map (fun i => (i.size, i.bytes, i.zero.map fun z => z.cells.toList)) = some (1, 8, some [.pointer none]) by kernel_rfl, fun h => by cases h⟩
theorem u20 : TD.Holds Try.prog 20 ⟨.other, 1, 16, [.nilIface], none, false⟩ := ⟨show (Try.prog.underlying 20).map aggDesc = some false by kernel_rfl, show (Try.prog.info? 20).map (fun i => (i.size, i.bytes, i.zero.map fun z => z.cells.toList)) = some (1, 16, some [.nilIface]) by kernel_rfl, fun h => by cases h⟩
theorem u21 : TD.Holds Try.prog 21 ⟨.int .i32, 1, 4, [.int .i32 0], some (.int .i32), false⟩ := ⟨show Try.prog.underlying 21 = some (.int .i32) by kernel_rfl, show (Try.prog.info? 21).map (fun i => (i.size, i.bytes, i.zero.map fun z => z.cells.toList)) = some (1, 4, some [.int .i32 0]) by kernel_rfl, fun h => by cases h⟩
theorem u22 : TD.Holds Try.prog 22 ⟨.slice 5, 1, 24, [.slice none 0 0], some (.slice .byte), false⟩ := ⟨show Try.prog.underlying 22 = some (.slice 5) by kernel_rfl, show (Try.prog.info? 22).map (fun i => (i.size, i.bytes, i.zero.map fun z => z.cells.toList)) = some (1, 24, some [.slice none 0 0]) by kernel_rfl, fun h => by cases h⟩
theorem u23 : TD.Holds Try.prog 23 ⟨.slice 22, 1, 24, [.slice none 0 0], some (.slice (.slice .byte)), false⟩ := ⟨show Try.prog.underlying 23 = some (.slice 22) by kernel_rfl, show (Try.prog.info? 23).map (fun i => (i.size, i.bytes, i.zero.map fun z => z.cells.toList)) = some (1, 24, some [.slice none 0 0]) by kernel_rfl, fun h => by cases h⟩
theorem u24 : TD.Holds Try.prog 24 ⟨.int .i64, 1, 8, [.int .i64 0], some (.int .i64), false⟩ := ⟨show Try.prog.underlying 24 = some (.int .i64) by kernel_rfl, show (Try.prog.info? 24).map (fun i => (i.size, i.bytes, i.zero.map fun z => z.cells.toList)) = some (1, 8, some [.int .i64 0]) by kernel_rfl, fun h => by cases h⟩
theorem u26 : TD.Holds Try.prog 26 ⟨.func, 1, 8, [.nilFunc], none, false⟩ := ⟨show (Try.prog.underlying 26).map funcDesc = some true by kernel_rfl, show (Try.prog.info? 26).map (fun i => (i.size, i.bytes, i.zero.map fun z => z.cells.toList)) = some (1, 8, some [.nilFunc]) by kernel_rfl, fun h => by cases h⟩
theorem u28 : TD.Holds Try.prog 28 ⟨.func, 1, 8, [.nilFunc], none, false⟩ := ⟨show (Try.prog.underlying 28).map funcDesc = some true by kernel_rfl, show (Try.prog.info? 28).map (fun i => (i.size, i.bytes, i.zero.map fun z => z.cells.toList)) = some (1, 8, some [.nilFunc]) by kernel_rfl, fun h => by cases h⟩
theorem u29 : TD.Holds Try.prog 29 ⟨.func, 1, 8, [.nilFunc], none, false⟩ := ⟨show (Try.prog.underlying 29).map funcDesc = some true by kernel_rfl, show (Try.prog.info? 29).map (fun i => (i.size, i.bytes, i.zero.map fun z => z.cells.toList)) = some (1, 8, some [.nilFunc]) by kernel_rfl, fun h => by cases h⟩
theorem u30 : TD.Holds Try.prog 30 ⟨.func, 1, 8, [.nilFunc], none, false⟩ := ⟨show (Try.prog.underlying 30).map funcDesc = some true by kernel_rfl, show (Try.prog.info? 30).map (fun i => (i.size, i.bytes, i.zero.map fun z => z.cells.toList)) = some (1, 8, some [.nilFunc]) by kernel_rfl, fun h => by cases h⟩
theorem u31 : TD.Holds Try.prog 31 ⟨.func, 1, 8, [.nilFunc], none, false⟩ := ⟨show (Try.prog.underlying 31).map funcDesc = some true by kernel_rfl, show (Try.prog.info? 31).map (fun i => (i.size, i.bytes, i.zero.map fun z => z.cells.toList)) = some (1, 8, some [.nilFunc]) by kernel_rfl, fun h => by cases h⟩
theorem u32 : TD.Holds Try.prog 32 ⟨.slice 23, 1, 24, [.slice none 0 0], some (.slice (.slice (.slice .byte))), false⟩ := ⟨show Try.prog.underlying 32 = some (.slice 23) by kernel_rfl, show (Try.prog.info? 32).map (fun i => (i.size, i.bytes, i.zero.map fun z => z.cells.toList)) = some (1, 24, some [.slice none 0 0]) by kernel_rfl, fun h => by cases h⟩
theorem u33 : TD.Holds Try.prog 33 ⟨.func, 1, 8, [.nilFunc], none, false⟩ := ⟨show (Try.prog.underlying 33).map funcDesc = some true by kernel_rfl, show (Try.prog.info? 33).map (fun i => (i.size, i.bytes, i.zero.map fun z => z.cells.toList)) = some (1, 8, some [.nilFunc]) by kernel_rfl, fun h => by cases h⟩
theorem u34 : TD.Holds Try.prog 34 ⟨.ptr 75, 1, 8, [.pointer none], none, false⟩ := ⟨show Try.prog.underlying 34 = some (.pointer 75) by kernel_rfl, show (Try.prog.info? 34).map (fun i => (i.size, i.bytes, i.zero.map fun z => z.cells.toList)) = some (1, 8, some [.pointer none]) by kernel_rfl, fun h => by cases h⟩
theorem u35 : TD.Holds Try.prog 35 ⟨.func, 1, 8, [.nilFunc], none, false⟩ := ⟨show (Try.prog.underlying 35).map funcDesc = some true by kernel_rfl, show (Try.prog.info? 35).map (fun i => (i.size, i.bytes, i.zero.map fun z => z.cells.toList)) = some (1, 8, some [.nilFunc]) by kernel_rfl, fun h => by cases h⟩
theorem u36 : TD.Holds Try.prog 36 ⟨.ptr 80, 1, 8, [.pointer none], none, false⟩ := ⟨show Try.prog.underlying 36 = some (.pointer 80) by kernel_rfl, show (Try.prog.info? 36).map (fun i => (i.size, i.bytes, i.zero.map fun z => z.cells.toList)) = some (1, 8, some [.pointer none]) by kernel_rfl, fun h => by cases h⟩
theorem u38 : TD.Holds Try.prog 38 ⟨.func, 1, 8, [.nilFunc], none, false⟩ := ⟨show (Try.prog.underlying 38).map funcDesc = some true by kernel_rfl, show (Try.prog.info? 38).map (fun i => (i.size, i.bytes, i.zero.map fun z => z.cells.toList)) = some (1, 8, some [.nilFunc]) by kernel_rfl, fun h => by cases h⟩
theorem u39 : TD.Holds Try.prog 39 ⟨.func, 1, 8, [.nilFunc], none, false⟩ := ⟨show (Try.prog.underlying 39).map funcDesc = some true by kernel_rfl, show (Try.prog.info? 39).map (fun i => (i.size, i.bytes, i.zero.map fun z => z.cells.toList)) = some (1, 8, some [.nilFunc]) by kernel_rfl, fun h => by cases h⟩
theorem u40 : TD.Holds Try.prog 40 ⟨.func, 1, 8, [.nilFunc], none, false⟩ := ⟨show (Try.prog.underlying 40).map funcDesc = some true by kernel_rfl, show (Try.prog.info? 40).map (fun i => (i.size, i.bytes, i.zero.map fun z => z.cells.toList)) = some (1, 8, some [.nilFunc]) by kernel_rfl, fun h => by cases h⟩
theorem u41 : TD.Holds Try.prog 41 ⟨.func, 1, 8, [.nilFunc], none, false⟩ := ⟨show (Try.prog.underlying 41).map funcDesc = some true by kernel_rfl, show (Try.prog.info? 41).map (fun i => (i.size, i.bytes, i.zero.map fun z => z.cells.toList)) = some (1, 8, some [.nilFunc]) by kernel_rfl, fun h => by cases h⟩
theorem u42 : TD.Holds Try.prog 42 ⟨.func, 1, 8, [.nilFunc], none, false⟩ := ⟨show (Try.prog.underlying 42).map funcDesc = some true by kernel_rfl, show (Try.prog.info? 42).map (fun i => (i.size, i.bytes, i.zero.map fun z => z.cells.toList)) = some (1, 8, some [.nilFunc]) by kernel_rfl, fun h => by cases h⟩
theorem u43 : TD.Holds Try.prog 43 ⟨.func, 1, 8, [.nilFunc], none, false⟩ := ⟨show (Try.prog.underlying 43).map funcDesc = some true by kernel_rfl, show (Try.prog.info? 43).map (fun i => (i.size, i.bytes, i.zero.map fun z => z.cells.toList)) = some (1, 8, some [.nilFunc]) by kernel_rfl, fun h => by cases h⟩
theorem u44 : TD.Holds Try.prog 44 ⟨.func, 1, 8, [.nilFunc], none, false⟩ := ⟨show (Try.prog.underlying 44).map funcDesc = some true by kernel_rfl, show (Try.prog.info? 44).map (fun i => (i.size, i.bytes, i.zero.map fun z => z.cells.toList)) = some (1, 8, some [.nilFunc]) by kernel_rfl, fun h => by cases h⟩
theorem u46 : TD.Holds Try.prog 46 ⟨.func, 1, 8, [.nilFunc], none, false⟩ := ⟨show (Try.prog.underlying 46).map funcDesc = some true by kernel_rfl, show (Try.prog.info? 46).map (fun i => (i.size, i.bytes, i.zero.map fun z => z.cells.toList)) = some (1, 8, some [.nilFunc]) by kernel_rfl, fun h => by cases h⟩
theorem u47 : TD.Holds Try.prog 47 ⟨.func, 1, 8, [.nilFunc], none, false⟩ := ⟨show (Try.prog.underlying 47).map funcDesc = some true by kernel_rfl, show (Try.prog.info? 47).map (fun i => (i.size, i.bytes, i.zero.map fun z => z.cells.toList)) = some (1, 8, some [.nilFunc]) by kernel_rfl, fun h => by cases h⟩
theorem u48 : TD.Holds Try.prog 48 ⟨.func, 1, 8, [.nilFunc], none, false⟩ := ⟨show (Try.prog.underlying 48).map funcDesc = some true by kernel_rfl, show (Try.prog.info? 48).map (fun i => (i.size, i.bytes, i.zero.map fun z => z.cells.toList)) = some (1, 8, some [.nilFunc]) by kernel_rfl, fun h => by cases h⟩
theorem u49 : TD.Holds Try.prog 49 ⟨.slice 3, 1, 24, [.slice none 0 0], some (.slice (.int .i64)), false⟩ := ⟨show Try.prog.underlying 49 = some (.slice 3) by kernel_rfl, show (Try.prog.info? 49).map (fun i => (i.size, i.bytes, i.zero.map fun z => z.cells.toList)) = some (1, 24, some [.slice none 0 0]) by kernel_rfl, fun h => by cases h⟩
theorem u50 : TD.Holds Try.prog 50 ⟨.struct [(3, 0), (49, 1)], 2, 32, [.int .i64 0, .slice none 0 0], some (.pair (.int .i64) (.slice (.int .i64))), false⟩ := ⟨show (Try.prog.underlying 50).bind fieldsOf = some [(3, 0), (49, 1)] by kernel_rfl, show (Try.prog.info? 50).map (fun i => (i.size, i.bytes, i.zero.map fun z => z.cells.toList)) = some (2, 32, some [.int .i64 0, .slice none 0 0]) by kernel_rfl, fun h => by cases h⟩
theorem u51 : TD.Holds Try.prog 51 ⟨.struct [(3, 0), (49, 1)], 2, 32, [.int .i64 0, .slice none 0 0], some (.pair (.int .i64) (.slice (.int .i64))), false⟩ := ⟨show (Try.prog.underlying 51).bind fieldsOf = some [(3, 0), (49, 1)] by kernel_rfl, show (Try.prog.info? 51).map (fun i => (i.size, i.bytes, i.zero.map fun z => z.cells.toList)) = some (2, 32, some [.int .i64 0, .slice none 0 0]) by kernel_rfl, fun h => by cases h⟩
theorem u52 : TD.Holds Try.prog 52 ⟨.func, 1, 8, [.nilFunc], none, false⟩ := ⟨show (Try.prog.underlying 52).map funcDesc = some true by kernel_rfl, show (Try.prog.info? 52).map (fun i => (i.size, i.bytes, i.zero.map fun z => z.cells.toList)) = some (1, 8, some [.nilFunc]) by kernel_rfl, fun h => by cases h⟩
theorem u53 : TD.Holds Try.prog 53 ⟨.func, 1, 8, [.nilFunc], none, false⟩ := ⟨show (Try.prog.underlying 53).map funcDesc = some true by kernel_rfl, show (Try.prog.info? 53).map (fun i => (i.size, i.bytes, i.zero.map fun z => z.cells.toList)) = some (1, 8, some [.nilFunc]) by kernel_rfl, fun h => by cases h⟩
theorem u54 : TD.Holds Try.prog 54 ⟨.func, 1, 8, [.nilFunc], none, false⟩ := ⟨show (Try.prog.underlying 54).map funcDesc = some true by kernel_rfl, show (Try.prog.info? 54).map (fun i => (i.size, i.bytes, i.zero.map fun z => z.cells.toList)) = some (1, 8, some [.nilFunc]) by kernel_rfl, fun h => by cases h⟩
theorem u56 : TD.Holds Try.prog 56 ⟨.func, 1, 8, [.nilFunc], none, false⟩ := ⟨show (Try.prog.underlying 56).map funcDesc = some true by kernel_rfl, show (Try.prog.info? 56).map (fun i => (i.size, i.bytes, i.zero.map fun z => z.cells.toList)) = some (1, 8, some [.nilFunc]) by kernel_rfl, fun h => by cases h⟩
theorem u57 : TD.Holds Try.prog 57 ⟨.ptr 93, 1, 8, [.pointer none], none, false⟩ := ⟨show Try.prog.underlying 57 = some (.pointer 93) by kernel_rfl, show (Try.prog.info? 57).map (fun i => (i.size, i.bytes, i.zero.map fun z => z.cells.toList)) = some (1, 8, some [.pointer none]) by kernel_rfl, fun h => by cases h⟩
theorem u58 : TD.Holds Try.prog 58 ⟨.func, 1, 8, [.nilFunc], none, false⟩ := ⟨show (Try.prog.underlying 58).map funcDesc = some true by kernel_rfl, show (Try.prog.info? 58).map (fun i => (i.size, i.bytes, i.zero.map fun z => z.cells.toList)) = some (1, 8, some [.nilFunc]) by kernel_rfl, fun h => by cases h⟩
theorem u59 : TD.Holds Try.prog 59 ⟨.func, 1, 8, [.nilFunc], none, false⟩ := ⟨show (Try.prog.underlying 59).map funcDesc = some true by kernel_rfl, show (Try.prog.info? 59).map (fun i => (i.size, i.bytes, i.zero.map fun z => z.cells.toList)) = some (1, 8, some [.nilFunc]) by kernel_rfl, fun h => by cases h⟩
theorem u60 : TD.Holds Try.prog 60 ⟨.func, 1, 8, [.nilFunc], none, false⟩ := ⟨show (Try.prog.underlying 60).map funcDesc = some true by kernel_rfl, show (Try.prog.info? 60).map (fun i => (i.size, i.bytes, i.zero.map fun z => z.cells.toList)) = some (1, 8, some [.nilFunc]) by kernel_rfl, fun h => by cases h⟩
theorem u61 : TD.Holds Try.prog 61 ⟨.func, 1, 8, [.nilFunc], none, false⟩ := ⟨show (Try.prog.underlying 61).map funcDesc = some true by kernel_rfl, show (Try.prog.info? 61).map (fun i => (i.size, i.bytes, i.zero.map fun z => z.cells.toList)) = some (1, 8, some [.nilFunc]) by kernel_rfl, fun h => by cases h⟩
theorem u63 : TD.Holds Try.prog 63 ⟨.func, 1, 8, [.nilFunc], none, false⟩ := ⟨show (Try.prog.underlying 63).map funcDesc = some true by kernel_rfl, show (Try.prog.info? 63).map (fun i => (i.size, i.bytes, i.zero.map fun z => z.cells.toList)) = some (1, 8, some [.nilFunc]) by kernel_rfl, fun h => by cases h⟩
theorem u64 : TD.Holds Try.prog 64 ⟨.ptr 106, 1, 8, [.pointer none], none, false⟩ := ⟨show Try.prog.underlying 64 = some (.pointer 106) by kernel_rfl, show (Try.prog.info? 64).map (fun i => (i.size, i.bytes, i.zero.map fun z => z.cells.toList)) = some (1, 8, some [.pointer none]) by kernel_rfl, fun h => by cases h⟩
theorem u65 : TD.Holds Try.prog 65 ⟨.func, 1, 8, [.nilFunc], none, false⟩ := ⟨show (Try.prog.underlying 65).map funcDesc = some true by kernel_rfl, show (Try.prog.info? 65).map (fun i => (i.size, i.bytes, i.zero.map fun z => z.cells.toList)) = some (1, 8, some [.nilFunc]) by kernel_rfl, fun h => by cases h⟩
theorem u66 : TD.Holds Try.prog 66 ⟨.func, 1, 8, [.nilFunc], none, false⟩ := ⟨show (Try.prog.underlying 66).map funcDesc = some true by kernel_rfl, show (Try.prog.info? 66).map (fun i => (i.size, i.bytes, i.zero.map fun z => z.cells.toList)) = some (1, 8, some [.nilFunc]) by kernel_rfl, fun h => by cases h⟩
theorem u67 : TD.Holds Try.prog 67 ⟨.func, 1, 8, [.nilFunc], none, false⟩ := ⟨show (Try.prog.underlying 67).map funcDesc = some true by kernel_rfl, show (Try.prog.info? 67).map (fun i => (i.size, i.bytes, i.zero.map fun z => z.cells.toList)) = some (1, 8, some [.nilFunc]) by kernel_rfl, fun h => by cases h⟩
theorem u68 : TD.Holds Try.prog 68 ⟨.func, 1, 8, [.nilFunc], none, false⟩ := ⟨show (Try.prog.underlying 68).map funcDesc = some true by kernel_rfl, show (Try.prog.info? 68).map (fun i => (i.size, i.bytes, i.zero.map fun z => z.cells.toList)) = some (1, 8, some [.nilFunc]) by kernel_rfl, fun h => by cases h⟩
theorem u69 : TD.Holds Try.prog 69 ⟨.func, 1, 8, [.nilFunc], none, false⟩ := ⟨show (Try.prog.underlying 69).map funcDesc = some true by kernel_rfl, show (Try.prog.info? 69).map (fun i => (i.size, i.bytes, i.zero.map fun z => z.cells.toList)) = some (1, 8, some [.nilFunc]) by kernel_rfl, fun h => by cases h⟩
theorem u70 : TD.Holds Try.prog 70 ⟨.func, 1, 8, [.nilFunc], none, false⟩ := ⟨show (Try.prog.underlying 70).map funcDesc = some true by kernel_rfl, show (Try.prog.info? 70).map (fun i => (i.size, i.bytes, i.zero.map fun z => z.cells.toList)) = some (1, 8, some [.nilFunc]) by kernel_rfl, fun h => by cases h⟩
theorem u71 : TD.Holds Try.prog 71 ⟨.int .u64, 1, 8, [.int .u64 0], some (.int .u64), false⟩ := ⟨show Try.prog.underlying 71 = some (.int .u64) by kernel_rfl, show (Try.prog.info? 71).map (fun i => (i.size, i.bytes, i.zero.map fun z => z.cells.toList)) = some (1, 8, some [.int .u64 0]) by kernel_rfl, fun h => by cases h⟩
theorem u72 : TD.Holds Try.prog 72 ⟨.func, 1, 8, [.nilFunc], none, false⟩ := ⟨show (Try.prog.underlying 72).map funcDesc = some true by kernel_rfl, show (Try.prog.info? 72).map (fun i => (i.size, i.bytes, i.zero.map fun z => z.cells.toList)) = some (1, 8, some [.nilFunc]) by kernel_rfl, fun h => by cases h⟩
theorem u73 : TD.Holds Try.prog 73 ⟨.map 9 84 true, 1, 8, [.map none], none, false⟩ := ⟨⟨show Try.prog.underlying 73 = some (.map 9 84) by kernel_rfl, show ((Try.prog.info? 84).bind (·.zero)).map isAggV = some true by kernel_rfl⟩, show (Try.prog.info? 73).map (fun i => (i.size, i.bytes, i.zero.map fun z => z.cells.toList)) = some (1, 8, some [.map none]) by kernel_rfl, fun h => by cases h⟩
theorem u74 : TD.Holds Try.prog 74 ⟨.struct [(3, 0), (3, 1), (73, 2), (3, 3), (3, 4), (4, 5)], 6, 48, [.int .i64 0, .int .i64 0, .map none, .int .i64 0, .int .i64 0, .bool false], none, false⟩ := ⟨show (Try.prog.underlying 74).bind fieldsOf = some [(3, 0), (3, 1), (73, 2), (3, 3), (3, 4), (4, 5)] by kernel_rfl, show (Try.prog.info? 74).map (fun i => (i.size, i.bytes, i.zero.map fun z => z.cells.toList)) = some (6, 48, some [.int .i64 0, .int .i64 0, .map none, .int .i64 0, .int .i64 0, .bool false]) by kernel_rfl, fun h => by cases h⟩
theorem u75 : TD.Holds Try.prog 75 ⟨.struct [(3, 0), (3, 1), (73, 2), (3, 3), (3, 4), (4, 5)], 6, 48, [.int .i64 0, .int .i64 0, .map none, .int .i64 0, .int .i64 0, .bool false], none, false⟩ := ⟨show (Try.prog.underlying 75).bind fieldsOf = some [(3, 0), (3, 1), (73, 2), (3, 3), (3, 4), (4, 5)] by kernel_rfl, show (Try.prog.info? 75).map (fun i => (i.size, i.bytes, i.zero.map fun z => z.cells.toList)) = some (6, 48, some [.int .i64 0, .int .i64 0, .map none, .int .i64 0, .int .i64 0, .bool false]) by kernel_rfl, fun h => by cases h⟩
theorem u76 : TD.Holds Try.prog 76 ⟨.func, 1, 8, [.nilFunc], none, false⟩ := ⟨show (Try.prog.underlying 76).map funcDesc = some true by kernel_rfl, show (Try.prog.info? 76).map (fun i => (i.size, i.bytes, i.zero.map fun z => z.cells.toList)) = some (1, 8, some [.nilFunc]) by kernel_rfl, fun h => by cases h⟩
theorem u77 : TD.Holds Try.prog 77 ⟨.func, 1, 8, [.nilFunc], none, false⟩ := ⟨show (Try.prog.underlying 77).map funcDesc = some true by kernel_rfl, show (Try.prog.info? 77).map (fun i => (i.size, i.bytes, i.zero.map fun z => z.cells.toList)) = some (1, 8, some [.nilFunc]) by kernel_rfl, fun h => by cases h⟩
theorem u78 : TD.Holds Try.prog 78 ⟨.func, 1, 8, [.nilFunc], none, false⟩ := ⟨show (Try.prog.underlying 78).map funcDesc = some true by kernel_rfl, show (Try.prog.info? 78).map (fun i => (i.size, i.bytes, i.zero.map fun z => z.cells.toList)) = some (1, 8, some [.nilFunc]) by kernel_rfl, fun h => by cases h⟩
theorem u79 : TD.Holds Try.prog 79 ⟨.struct [(34, 0), (9, 1), (23, 2), (3, 3)], 4, 56, [.pointer none, .string ⟨#[]⟩, .slice none 0 0, .int .i64 0], none, false⟩ := ⟨show (Try.prog.underlying 79).bind fieldsOf = some [(34, 0), (9, 1), (23, 2), (3, 3)] by kernel_rfl, show (Try.prog.info? 79).map (fun i => (i.size, i.bytes, i.zero.map fun z => z.cells.toList)) = some (4, 56, some [.pointer none, .string ⟨#[]⟩, .slice none 0 0, .int .i64 0]) by kernel_rfl, fun h => by cases h⟩
theorem u80 : TD.Holds Try.prog 80 ⟨.struct [(34, 0), (9, 1), (23, 2), (3, 3)], 4, 56, [.pointer none, .string ⟨#[]⟩, .slice none 0 0, .int .i64 0], none, false⟩ := ⟨show (Try.prog.underlying 80).bind fieldsOf = some [(34, 0), (9, 1), (23, 2), (3, 3)] by kernel_rfl, show (Try.prog.info? 80).map (fun i => (i.size, i.bytes, i.zero.map fun z => z.cells.toList)) = some (4, 56, some [.pointer none, .string ⟨#[]⟩, .slice none 0 0, .int .i64 0]) by kernel_rfl, fun h => by cases h⟩
theorem u81 : TD.Holds Try.prog 81 ⟨.func, 1, 8, [.nilFunc], none, false⟩ := ⟨show (Try.prog.underlying 81).map funcDesc = some true by kernel_rfl, show (Try.prog.info? 81).map (fun i => (i.size, i.bytes, i.zero.map fun z => z.cells.toList)) = some (1, 8, some [.nilFunc]) by kernel_rfl, fun h => by cases h⟩
theorem u82 : TD.Holds Try.prog 82 ⟨.func, 1, 8, [.nilFunc], none, false⟩ := ⟨show (Try.prog.underlying 82).map funcDesc = some true by kernel_rfl, show (Try.prog.info? 82).map (fun i => (i.size, i.bytes, i.zero.map fun z => z.cells.toList)) = some (1, 8, some [.nilFunc]) by kernel_rfl, fun h => by cases h⟩
theorem u83 : TD.Holds Try.prog 83 ⟨.struct [(22, 0), (3, 1)], 2, 32, [.slice none 0 0, .int .i64 0], some (.pair (.slice .byte) (.int .i64)), false⟩ := ⟨show (Try.prog.underlying 83).bind fieldsOf = some [(22, 0), (3, 1)] by kernel_rfl, show (Try.prog.info? 83).map (fun i => (i.size, i.bytes, i.zero.map fun z => z.cells.toList)) = some (2, 32, some [.slice none 0 0, .int .i64 0]) by kernel_rfl, fun h => by cases h⟩
theorem u84 : TD.Holds Try.prog 84 ⟨.struct [(22, 0), (3, 1)], 2, 32, [.slice none 0 0, .int .i64 0], some (.pair (.slice .byte) (.int .i64)), false⟩ := ⟨show (Try.prog.underlying 84).bind fieldsOf = some [(22, 0), (3, 1)] by kernel_rfl, show (Try.prog.info? 84).map (fun i => (i.size, i.bytes, i.zero.map fun z => z.cells.toList)) = some (2, 32, some [.slice none 0 0, .int .i64 0]) by kernel_rfl, fun h => by cases h⟩
theorem u86 : TD.Holds Try.prog 86 ⟨.func, 1, 8, [.nilFunc], none, false⟩ := ⟨show (Try.prog.underlying 86).map funcDesc = some true by kernel_rfl, show (Try.prog.info? 86).map (fun i => (i.size, i.bytes, i.zero.map fun z => z.cells.toList)) = some (1, 8, some [.nilFunc]) by kernel_rfl, fun h => by cases h⟩
theorem u87 : TD.Holds Try.prog 87 ⟨.func, 1, 8, [.nilFunc], none, false⟩ := ⟨show (Try.prog.underlying 87).map funcDesc = some true by kernel_rfl, show (Try.prog.info? 87).map (fun i => (i.size, i.bytes, i.zero.map fun z => z.cells.toList)) = some (1, 8, some [.nilFunc]) by kernel_rfl, fun h => by cases h⟩
theorem u88 : TD.Holds Try.prog 88 ⟨.func, 1, 8, [.nilFunc], none, false⟩ := ⟨show (Try.prog.underlying 88).map funcDesc = some true by kernel_rfl, show (Try.prog.info? 88).map (fun i => (i.size, i.bytes, i.zero.map fun z => z.cells.toList)) = some (1, 8, some [.nilFunc]) by kernel_rfl, fun h => by cases h⟩
theorem u89 : TD.Holds Try.prog 89 ⟨.func, 1, 8, [.nilFunc], none, false⟩ := ⟨show (Try.prog.underlying 89).map funcDesc = some true by kernel_rfl, show (Try.prog.info? 89).map (fun i => (i.size, i.bytes, i.zero.map fun z => z.cells.toList)) = some (1, 8, some [.nilFunc]) by kernel_rfl, fun h => by cases h⟩
theorem u90 : TD.Holds Try.prog 90 ⟨.int .u32, 1, 4, [.int .u32 0], some (.int .u32), false⟩ := ⟨show Try.prog.underlying 90 = some (.int .u32) by kernel_rfl, show (Try.prog.info? 90).map (fun i => (i.size, i.bytes, i.zero.map fun z => z.cells.toList)) = some (1, 4, some [.int .u32 0]) by kernel_rfl, fun h => by cases h⟩
theorem u91 : TD.Holds Try.prog 91 ⟨.func, 1, 8, [.nilFunc], none, false⟩ := ⟨show (Try.prog.underlying 91).map funcDesc = some true by kernel_rfl, show (Try.prog.info? 91).map (fun i => (i.size, i.bytes, i.zero.map fun z => z.cells.toList)) = some (1, 8, some [.nilFunc]) by kernel_rfl, fun h => by cases h⟩
theorem u92 : TD.Holds Try.prog 92 ⟨.struct [(22, 0), (24, 1)], 2, 32, [.slice none 0 0, .int .i64 0], some (.pair (.slice .byte) (.int .i64)), false⟩ := ⟨show (Try.prog.underlying 92).bind fieldsOf = some [(22, 0), (24, 1)] by kernel_rfl, show (Try.prog.info? 92).map (fun i => (i.size, i.bytes, i.zero.map fun z => z.cells.toList)) = some (2, 32, some [.slice none 0 0, .int .i64 0]) by kernel_rfl, fun h => by cases h⟩
theorem u93 : TD.Holds Try.prog 93 ⟨.struct [(22, 0), (24, 1)], 2, 32, [.slice none 0 0, .int .i64 0], some (.pair (.slice .byte) (.int .i64)), false⟩ := ⟨show (Try.prog.underlying 93).bind fieldsOf = some [(22, 0), (24, 1)] by kernel_rfl, show (Try.prog.info? 93).map (fun i => (i.size, i.bytes, i.zero.map fun z => z.cells.toList)) = some (2, 32, some [.slice none 0 0, .int .i64 0]) by kernel_rfl, fun h => by cases h⟩
theorem u94 : TD.Holds Try.prog 94 ⟨.func, 1, 8, [.nilFunc], none, false⟩ := ⟨show (Try.prog.underlying 94).map funcDesc = some true by kernel_rfl, show (Try.prog.info? 94).map (fun i => (i.size, i.bytes, i.zero.map fun z => z.cells.toList)) = some (1, 8, some [.nilFunc]) by kernel_rfl, fun h => by cases h⟩
theorem u95 : TD.Holds Try.prog 95 ⟨.func, 1, 8, [.nilFunc], none, false⟩ := ⟨show (Try.prog.underlying 95).map funcDesc = some true by kernel_rfl, show (Try.prog.info? 95).map (fun i => (i.size, i.bytes, i.zero.map fun z => z.cells.toList)) = some (1, 8, some [.nilFunc]) by kernel_rfl, fun h => by cases h⟩
theorem u96 : TD.Holds Try.prog 96 ⟨.func, 1, 8, [.nilFunc], none, false⟩ := ⟨show (Try.prog.underlying 96).map funcDesc = some true by kernel_rfl, show (Try.prog.info? 96).map (fun i => (i.size, i.bytes, i.zero.map fun z => z.cells.toList)) = some (1, 8, some [.nilFunc]) by kernel_rfl, fun h => by cases h⟩
theorem u97 : TD.Holds Try.prog 97 ⟨.func, 1, 8, [.nilFunc], none, false⟩ := ⟨show (Try.prog.underlying 97).map funcDesc = some true by kernel_rfl, show (Try.prog.info? 97).map (fun i => (i.size, i.bytes, i.zero.map fun z => z.cells.toList)) = some (1, 8, some [.nilFunc]) by kernel_rfl, fun h => by cases h⟩
theorem u98 : TD.Holds Try.prog 98 ⟨.struct [(22, 0), (3, 1), (24, 2)], 3, 40, [.slice none 0 0, .int .i64 0, .int .i64 0], some (.pair (.slice .byte) (.pair (.int .i64) (.int .i64))), false⟩ := ⟨show (Try.prog.underlying 98).bind fieldsOf = some [(22, 0), (3, 1), (24, 2)] by kernel_rfl, show (Try.prog.info? 98).map (fun i => (i.size, i.bytes, i.zero.map fun z => z.cells.toList)) = some (3, 40, some [.slice none 0 0, .int .i64 0, .int .i64 0]) by kernel_rfl, fun h => by cases h⟩
theorem u99 : TD.Holds Try.prog 99 ⟨.struct [(22, 0), (3, 1), (24, 2)], 3, 40, [.slice none 0 0, .int .i64 0, .int .i64 0], some (.pair (.slice .byte) (.pair (.int .i64) (.int .i64))), false⟩ := ⟨show (Try.prog.underlying 99).bind fieldsOf = some [(22, 0), (3, 1), (24, 2)] by kernel_rfl, show (Try.prog.info? 99).map (fun i => (i.size, i.bytes, i.zero.map fun z => z.cells.toList)) = some (3, 40, some [.slice none 0 0, .int .i64 0, .int .i64 0]) by kernel_rfl, fun h => by cases h⟩
theorem u101 : TD.Holds Try.prog 101 ⟨.func, 1, 8, [.nilFunc], none, false⟩ := ⟨show (Try.prog.underlying 101).map funcDesc = some true by kernel_rfl, show (Try.prog.info? 101).map (fun i => (i.size, i.bytes, i.zero.map fun z => z.cells.toList)) = some (1, 8, some [.nilFunc]) by kernel_rfl, fun h => by cases h⟩
theorem u103 : TD.Holds Try.prog 103 ⟨.func, 1, 8, [.nilFunc], none, false⟩ := ⟨show (Try.prog.underlying 103).map funcDesc = some true by kernel_rfl, show (Try.prog.info? 103).map (fun i => (i.size, i.bytes, i.zero.map fun z => z.cells.toList)) = some (1, 8, some [.nilFunc]) by kernel_rfl, fun h => by cases h⟩
theorem u104 : TD.Holds Try.prog 104 ⟨.func, 1, 8, [.nilFunc], none, false⟩ := ⟨show (Try.prog.underlying 104).map funcDesc = some true by kernel_rfl, show (Try.prog.info? 104).map (fun i => (i.size, i.bytes, i.zero.map fun z => z.cells.toList)) = some (1, 8, some [.nilFunc]) by kernel_rfl, fun h => by cases h⟩
theorem u105 : TD.Holds Try.prog 105 ⟨.struct [(22, 0)], 1, 24, [.slice none 0 0], some (.pair (.slice .byte) .unit), false⟩ := ⟨show (Try.prog.underlying 105).bind fieldsOf = some [(22, 0)] by kernel_rfl, show (Try.prog.info? 105).map (fun i => (i.size, i.bytes, i.zero.map fun z => z.cells.toList)) = some (1, 24, some [.slice none 0 0]) by kernel_rfl, fun h => by cases h⟩
theorem u106 : TD.Holds Try.prog 106 ⟨.struct [(22, 0)], 1, 24, [.slice none 0 0], some (.pair (.slice .byte) .unit), false⟩ := ⟨show (Try.prog.underlying 106).bind fieldsOf = some [(22, 0)] by kernel_rfl, show (Try.prog.info? 106).map (fun i => (i.size, i.bytes, i.zero.map fun z => z.cells.toList)) = some (1, 24, some [.slice none 0 0]) by kernel_rfl, fun h => by cases h⟩
theorem u107 : TD.Holds Try.prog 107 ⟨.func, 1, 8, [.nilFunc], none, false⟩ := ⟨show (Try.prog.underlying 107).map funcDesc = some true by kernel_rfl, show (Try.prog.info? 107).map (fun i => (i.size, i.bytes, i.zero.map fun z => z.cells.toList)) = some (1, 8, some [.nilFunc]) by kernel_rfl, fun h => by cases h⟩
theorem u108 : TD.Holds Try.prog 108 ⟨.func, 1, 8, [.nilFunc], none, false⟩ := ⟨show (Try.prog.underlying 108).map funcDesc = some true by kernel_rfl, show (Try.prog.info? 108).map (fun i => (i.size, i.bytes, i.zero.map fun z => z.cells.toList)) = some (1, 8, some [.nilFunc]) by kernel_rfl, fun h => by cases h⟩
theorem u109 : TD.Holds Try.prog 109 ⟨.func, 1, 8, [.nilFunc], none, false⟩ := ⟨show (Try.prog.underlying 109).map funcDesc = some true by kernel_rfl, show (Try.prog.info? 109).map (fun i => (i.size, i.bytes, i.zero.map fun z => z.cells.toList)) = some (1, 8, some [.nilFunc]) by kernel_rfl, fun h => by cases h⟩
theorem u110 : TD.Holds Try.prog 110 ⟨.func, 1, 8, [.nilFunc], none, false⟩ := ⟨show (Try.prog.underlying 110).map funcDesc = some true by kernel_rfl, show (Try.prog.info? 110).map (fun i => (i.size, i.bytes, i.zero.map fun z => z.cells.toList)) = some (1, 8, some [.nilFunc]) by kernel_rfl, fun h => by cases h⟩
theorem u111 : TD.Holds Try.prog 111 ⟨.slice 61, 1, 24, [.slice none 0 0], none, false⟩ := ⟨show Try.prog.underlying 111 = some (.slice 61) by kernel_rfl, show (Try.prog.info? 111).map (fun i => (i.size, i.bytes, i.zero.map fun z => z.cells.toList)) = some (1, 24, some [.slice none 0 0]) by kernel_rfl, fun h => by cases h⟩
theorem u112 : TD.Holds Try.prog 112 ⟨.func, 1, 8, [.nilFunc], none, false⟩ := ⟨show (Try.prog.underlying 112).map funcDesc = some true by kernel_rfl, show (Try.prog.info? 112).map (fun i => (i.size, i.bytes, i.zero.map fun z => z.cells.toList)) = some (1, 8, some [.nilFunc]) by kernel_rfl, fun h => by cases h⟩
theorem u113 : TD.Holds Try.prog 113 ⟨.func, 1, 8, [.nilFunc], none, false⟩ := ⟨show (Try.prog.underlying 113).map funcDesc = some true by kernel_rfl, show (Try.prog.info? 113).map (fun i => (i.size, i.bytes, i.zero.map fun z => z.cells.toList)) = some (1, 8, some [.nilFunc]) by kernel_rfl, fun h => by cases h⟩
theorem u114 : TD.Holds Try.prog 114 ⟨.func, 1, 8, [.nilFunc], none, false⟩ := ⟨show (Try.prog.underlying 114).map funcDesc = some true by kernel_rfl, show (Try.prog.info? 114).map (fun i => (i.size, i.bytes, i.zero.map fun z => z.cells.toList)) = some (1, 8, some [.nilFunc]) by kernel_rfl, fun h => by cases h⟩
theorem u115 : TD.Holds Try.prog 115 ⟨.func, 1, 8, [.nilFunc], none, false⟩ := ⟨show (Try.prog.underlying 115).map funcDesc = some true by kernel_rfl, show (Try.prog.info? 115).map (fun i => (i.size, i.bytes, i.zero.map fun z => z.cells.toList)) = some (1, 8, some [.nilFunc]) by kernel_rfl, fun h => by cases h⟩
theorem u116 : TD.Holds Try.prog 116 ⟨.func, 1, 8, [.nilFunc], none, false⟩ := ⟨show (Try.prog.underlying 116).map funcDesc = some true by kernel_rfl, show (Try.prog.info? 116).map (fun i => (i.size, i.bytes, i.zero.map fun z => z.cells.toList)) = some (1, 8, some [.nilFunc]) by kernel_rfl, fun h => by cases h⟩
theorem u117 : TD.Holds Try.prog 117 ⟨.func, 1, 8, [.nilFunc], none, false⟩ := ⟨show (Try.prog.underlying 117).map funcDesc = some true by kernel_rfl, show (Try.prog.info? 117).map (fun i => (i.size, i.bytes, i.zero.map fun z => z.cells.toList)) = some (1, 8, some [.nilFunc]) by kernel_rfl, fun h => by cases h⟩
theorem u118 : TD.Holds Try.prog 118 ⟨.slice 9, 1, 24, [.slice none 0 0], some (.slice .str), false⟩ := ⟨show Try.prog.underlying 118 = some (.slice 9) by kernel_rfl, show (Try.prog.info? 118).map (fun i => (i.size, i.bytes, i.zero.map fun z => z.cells.toList)) = some (1, 24, some [.slice none 0 0]) by kernel_rfl, fun h => by cases h⟩
theorem u119 : TD.Holds Try.prog 119 ⟨.func, 1, 8, [.nilFunc], none, false⟩ := ⟨show (Try.prog.underlying 119).map funcDesc = some true by kernel_rfl, show (Try.prog.info? 119).map (fun i => (i.size, i.bytes, i.zero.map fun z => z.cells.toList)) = some (1, 8, some [.nilFunc]) by kernel_rfl, fun h => by cases h⟩
theorem u120 : TD.Holds Try.prog 120 ⟨.func, 1, 8, [.nilFunc], none, false⟩ := ⟨show (Try.prog.underlying 120).map funcDesc = some true by kernel_rfl, show (Try.prog.info? 120).map (fun i => (i.size, i.bytes, i.zero.map fun z => z.cells.toList)) = some (1, 8, some [.nilFunc]) by kernel_rfl, fun h => by cases h⟩
theorem u121 : TD.Holds Try.prog 121 ⟨.func, 1, 8, [.nilFunc], none, false⟩ := ⟨show (Try.prog.underlying 121).map funcDesc = some true by kernel_rfl, show (Try.prog.info? 121).map (fun i => (i.size, i.bytes, i.zero.map fun z => z.cells.toList)) = some (1, 8, some [.nilFunc]) by kernel_rfl, fun h => by cases h⟩
theorem u122 : TD.Holds Try.prog 122 ⟨.array 16 90, 16, 64, [.int .u32 0, .int .u32 0, .int .u32 0, .int .u32 0, .int .u32 0, .int .u32 0, .int .u32 0, .int .u32 0, .int .u32 0, .int .u32 0, .int .u32 0, .int .u32 0, .int .u32 0, .int .u32 0, .int .u32 0, .int .u32 0], none, false⟩ := ⟨show Try.prog.underlying 122 = some (.array 16 90) by kernel_rfl, show (Try.prog.info? 122).map (fun i => (i.size, i.bytes, i.zero.map fun z => z.cells.toList)) = some (16, 64, some [.int .u32 0, .int .u32 0, .int .u32 0, .int .u32 0, .int .u32 0, .int .u32 0, .int .u32 0, .int .u32 0, .int .u32 0, .int .u32 0, .int .u32 0, .int .u32 0, .int .u32 0, .int .u32 0, .int .u32 0, .int .u32 0]) by kernel_rfl, fun h => by cases h⟩
theorem u123 : TD.Holds Try.prog 123 ⟨.int .u64, 1, 8, [.int .u64 0], some (.int .u64), false⟩ := ⟨show Try.prog.underlying 123 = some (.int .u64) by kernel_rfl, show (Try.prog.info? 123).map (fun i => (i.size, i.bytes, i.zero.map fun z => z.cells.toList)) = some (1, 8, some [.int .u64 0]) by kernel_rfl, fun h => by cases h⟩
theorem u124 : TD.Holds Try.prog 124 ⟨.func, 1, 8, [.nilFunc], none, false⟩ := ⟨show (Try.prog.underlying 124).map funcDesc = some true by kernel_rfl, show (Try.prog.info? 124).map (fun i => (i.size, i.bytes, i.zero.map fun z => z.cells.toList)) = some (1, 8, some [.nilFunc]) by kernel_rfl, fun h => by cases h⟩
theorem u125 : TD.Holds Try.prog 125 ⟨.func, 1, 8, [.nilFunc], none, false⟩ := ⟨show (Try.prog.underlying 125).map funcDesc = some true by kernel_rfl, show (Try.prog.info? 125).map (fun i => (i.size, i.bytes, i.zero.map fun z => z.cells.toList)) = some (1, 8, some [.nilFunc]) by kernel_rfl, fun h => by cases h⟩
theorem u126 : TD.Holds Try.prog 126 ⟨.func, 1, 8, [.nilFunc], none, false⟩ := ⟨show (Try.prog.underlying 126).map funcDesc = some true by kernel_rfl, show (Try.prog.info? 126).map (fun i => (i.size, i.bytes, i.zero.map fun z => z.cells.toList)) = some (1, 8, some [.nilFunc]) by kernel_rfl, fun h => by cases h⟩
theorem u127 : TD.Holds Try.prog 127 ⟨.func, 1, 8, [.nilFunc], none, false⟩ := ⟨show (Try.prog.underlying 127).map funcDesc = some true by kernel_rfl, show (Try.prog.info? 127).map (fun i => (i.size, i.bytes, i.zero.map fun z => z.cells.toList)) = some (1, 8, some [.nilFunc]) by kernel_rfl, fun h => by cases h⟩
theorem u128 : TD.Holds Try.prog 128 ⟨.func, 1, 8, [.nilFunc], none, false⟩ := ⟨show (Try.prog.underlying 128).map funcDesc = some true by kernel_rfl, show (Try.prog.info? 128).map (fun i => (i.size, i.bytes, i.zero.map fun z => z.cells.toList)) = some (1, 8, some [.nilFunc]) by kernel_rfl, fun h => by cases h⟩
theorem u129 : TD.Holds Try.prog 129 ⟨.func, 1, 8, [.nilFunc], none, false⟩ := ⟨show (Try.prog.underlying 129).map funcDesc = some true by kernel_rfl, show (Try.prog.info? 129).map (fun i => (i.size, i.bytes, i.zero.map fun z => z.cells.toList)) = some (1, 8, some [.nilFunc]) by kernel_rfl, fun h => by cases h⟩
theorem u130 : TD.Holds Try.prog 130 ⟨.func, 1, 8, [.nilFunc], none, false⟩ := ⟨show (Try.prog.underlying 130).map funcDesc = some true by kernel_rfl, show (Try.prog.info? 130).map (fun i => (i.size, i.bytes, i.zero.map fun z => z.cells.toList)) = some (1, 8, some [.nilFunc]) by kernel_rfl, fun h => by cases h⟩
theorem u131 : TD.Holds Try.prog 131 ⟨.func, 1, 8, [.nilFunc], none, false⟩ := ⟨show (Try.prog.underlying 131).map funcDesc = some true by kernel_rfl, show (Try.prog.info? 131).map (fun i => (i.size, i.bytes, i.zero.map fun z => z.cells.toList)) = some (1, 8, some [.nilFunc]) by kernel_rfl, fun h => by cases h⟩
theorem u132 : TD.Holds Try.prog 132 ⟨.func, 1, 8, [.nilFunc], none, false⟩ := ⟨show (Try.prog.underlying 132).map funcDesc = some true by kernel_rfl, show (Try.prog.info? 132).map (fun i => (i.size, i.bytes, i.zero.map fun z => z.cells.toList)) = some (1, 8, some [.nilFunc]) by kernel_rfl, fun h => by cases h⟩
theorem u133 : TD.Holds Try.prog 133 ⟨.func, 1, 8, [.nilFunc], none, false⟩ := ⟨show (Try.prog.underlying 133).map funcDesc = some true by kernel_rfl, show (Try.prog.info? 133).map (fun i => (i.size, i.bytes, i.zero.map fun z => z.cells.toList)) = some (1, 8, some [.nilFunc]) by kernel_rfl, fun h => by cases h⟩
theorem u134 : TD.Holds Try.prog 134 ⟨.func, 1, 8, [.nilFunc], none, false⟩ := ⟨show (Try.prog.underlying 134).map funcDesc = some true by kernel_rfl, show (Try.prog.info? 134).map (fun i => (i.size, i.bytes, i.zero.map fun z => z.cells.toList)) = some (1, 8, some [.nilFunc]) by kernel_rfl, fun h => by cases h⟩
theorem u135 : TD.Holds Try.prog 135 ⟨.func, 1, 8, [.nilFunc], none, false⟩ := ⟨show (Try.prog.underlying 135).map funcDesc = some true by kernel_rfl, show (Try.prog.info? 135).map (fun i => (i.size, i.bytes, i.zero.map fun z => z.cells.toList)) = some (1, 8, some [.nilFunc]) by kernel_rfl, fun h => by cases h⟩
theorem u136 : TD.Holds Try.prog 136 ⟨.int .i64, 1, 8, [.int .i64 0], some (.int .i64), false⟩ := ⟨show Try.prog.underlying 136 = some (.int .i64) by kernel_rfl, show (Try.prog.info? 136).map (fun i => (i.size, i.bytes, i.zero.map fun z => z.cells.toList)) = some (1, 8, some [.int .i64 0]) by kernel_rfl, fun h => by cases h⟩
theorem u138 : TD.Holds Try.prog 138 ⟨.func, 1, 8, [.nilFunc], none, false⟩ := ⟨show (Try.prog.underlying 138).map funcDesc = some true by kernel_rfl, show (Try.prog.info? 138).map (fun i => (i.size, i.bytes, i.zero.map fun z => z.cells.toList)) = some (1, 8, some [.nilFunc]) by kernel_rfl, fun h => by cases h⟩
theorem u139 : TD.Holds Try.prog 139 ⟨.func, 1, 8, [.nilFunc], none, false⟩ := ⟨show (Try.prog.underlying 139).map funcDesc = some true by kernel_rfl, show (Try.prog.info? 139).map (fun i => (i.size, i.bytes, i.zero.map fun z => z.cells.toList)) = some (1, 8, some [.nilFunc]) by kernel_rfl, fun h => by cases h⟩
theorem u140 : TD.Holds Try.prog 140 ⟨.func, 1, 8, [.nilFunc], none, false⟩ := ⟨show (Try.prog.underlying 140).map funcDesc = some true by kernel_rfl, show (Try.prog.info? 140).map (fun i => (i.size, i.bytes, i.zero.map fun z => z.cells.toList)) = some (1, 8, some [.nilFunc]) by kernel_rfl, fun h => by cases h⟩
theorem u141 : TD.Holds Try.prog 141 ⟨.func, 1, 8, [.nilFunc], none, false⟩ := ⟨show (Try.prog.underlying 141).map funcDesc = some true by kernel_rfl, show (Try.prog.info? 141).map (fun i => (i.size, i.bytes, i.zero.map fun z => z.cells.toList)) = some (1, 8, some [.nilFunc]) by kernel_rfl, fun h => by cases h⟩
theorem u143 : TD.Holds Try.prog 143 ⟨.func, 1, 8, [.nilFunc], none, false⟩ := ⟨show (Try.prog.underlying 143).map funcDesc = some true by kernel_rfl, show (Try.prog.info? 143).map (fun i => (i.size, i.bytes, i.zero.map fun z => z.cells.toList)) = some (1, 8, some [.nilFunc]) by kernel_rfl, fun h => by cases h⟩
theorem u144 : TD.Holds Try.prog 144 ⟨.func, 1, 8, [.nilFunc], none, false⟩ := ⟨show (Try.prog.underlying 144).map funcDesc = some true by kernel_rfl, show (Try.prog.info? 144).map (fun i => (i.size, i.bytes, i.zero.map fun z => z.cells.toList)) = some (1, 8, some [.nilFunc]) by kernel_rfl, fun h => by cases h⟩
theorem u145 : TD.Holds Try.prog 145 ⟨.func, 1, 8, [.nilFunc], none, false⟩ := ⟨show (Try.prog.underlying 145).map funcDesc = some true by kernel_rfl, show (Try.prog.info? 145).map (fun i => (i.size, i.bytes, i.zero.map fun z => z.cells.toList)) = some (1, 8, some [.nilFunc]) by kernel_rfl, fun h => by cases h⟩
theorem u146 : TD.Holds Try.prog 146 ⟨.int .u64, 1, 8, [.int .u64 0], some (.int .u64), false⟩ := ⟨show Try.prog.underlying 146 = some (.int .u64) by kernel_rfl, show (Try.prog.info? 146).map (fun i => (i.size, i.bytes, i.zero.map fun z => z.cells.toList)) = some (1, 8, some [.int .u64 0]) by kernel_rfl, fun h => by cases h⟩
theorem u147 : TD.Holds Try.prog 147 ⟨.func, 1, 8, [.nilFunc], none, false⟩ := ⟨show (Try.prog.underlying 147).map funcDesc = some true by kernel_rfl, show (Try.prog.info? 147).map (fun i => (i.size, i.bytes, i.zero.map fun z => z.cells.toList)) = some (1, 8, some [.nilFunc]) by kernel_rfl, fun h => by cases h⟩
theorem u148 : TD.Holds Try.prog 148 ⟨.func, 1, 8, [.nilFunc], none, false⟩ := ⟨show (Try.prog.underlying 148).map funcDesc = some true by kernel_rfl, show (Try.prog.info? 148).map (fun i => (i.size, i.bytes, i.zero.map fun z => z.cells.toList)) = some (1, 8, some [.nilFunc]) by kernel_rfl, fun h => by cases h⟩
theorem u149 : TD.Holds Try.prog 149 ⟨.func, 1, 8, [.nilFunc], none, false⟩ := ⟨show (Try.prog.underlying 149).map funcDesc = some true by kernel_rfl, show (Try.prog.info? 149).map (fun i => (i.size, i.bytes, i.zero.map fun z => z.cells.toList)) = some (1, 8, some [.nilFunc]) by kernel_rfl, fun h => by cases h⟩
theorem u150 : TD.Holds Try.prog 150 ⟨.ptr 3, 1, 8, [.pointer none], none, false⟩ := ⟨show Try.prog.underlying 150 = some (.pointer 3) by kernel_rfl, show (Try.prog.info? 150).map (fun i => (i.size, i.bytes, i.zero.map fun z => z.cells.toList)) = some (1, 8, some [.pointer none]) by kernel_rfl, fun h => by cases h⟩
theorem u151 : TD.Holds Try.prog 151 ⟨.func, 1, 8, [.nilFunc], none, false⟩ := ⟨show (Try.prog.underlying 151).map funcDesc = some true by kernel_rfl, show (Try.prog.info? 151).map (fun i => (i.size, i.bytes, i.zero.map fun z => z.cells.toList)) = some (1, 8, some [.nilFunc]) by kernel_rfl, fun h => by cases h⟩
theorem u152 : TD.Holds Try.prog 152 ⟨.ptr 146, 1, 8, [.pointer none], none, false⟩ := ⟨show Try.prog.underlying 152 = some (.pointer 146) by kernel_rfl, show (Try.prog.info? 152).map (fun i => (i.size, i.bytes, i.zero.map fun z => z.cells.toList)) = some (1, 8, some [.pointer none]) by kernel_rfl, fun h => by cases h⟩
theorem u154 : TD.Holds Try.prog 154 ⟨.func, 1, 8, [.nilFunc], none, false⟩ := ⟨show (Try.prog.underlying 154).map funcDesc = some true by kernel_rfl, show (Try.prog.info? 154).map (fun i => (i.size, i.bytes, i.zero.map fun z => z.cells.toList)) = some (1, 8, some [.nilFunc]) by kernel_rfl, fun h => by cases h⟩
theorem u155 : TD.Holds Try.prog 155 ⟨.func, 1, 8, [.nilFunc], none, false⟩ := ⟨show (Try.prog.underlying 155).map funcDesc = some true by kernel_rfl, show (Try.prog.info? 155).map (fun i => (i.size, i.bytes, i.zero.map fun z => z.cells.toList)) = some (1, 8, some [.nilFunc]) by kernel_rfl, fun h => by cases h⟩
theorem u156 : TD.Holds Try.prog 156 ⟨.struct [(17, 0), (17, 1), (17, 2), (9, 3)], 4, 40, [.pointer none, .pointer none, .pointer none, .string ⟨#[]⟩], none, false⟩ := ⟨show (Try.prog.underlying 156).bind fieldsOf = some [(17, 0), (17, 1), (17, 2), (9, 3)] by kernel_rfl, show (Try.prog.info? 156).map (fun i => (i.size, i.bytes, i.zero.map fun z => z.cells.toList)) = some (4, 40, some [.pointer none, .pointer none, .pointer none, .string ⟨#[]⟩]) by kernel_rfl, fun h => by cases h⟩
theorem u157 : TD.Holds Try.prog 157 ⟨.struct [(17, 0), (17, 1), (17, 2), (9, 3)], 4, 40, [.pointer none, .pointer none, .pointer none, .string ⟨#[]⟩], none, false⟩ := ⟨show (Try.prog.underlying 157).bind fieldsOf = some [(17, 0), (17, 1), (17, 2), (9, 3)] by kernel_rfl, show (Try.prog.info? 157).map (fun i => (i.size, i.bytes, i.zero.map fun z => z.cells.toList)) = some (4, 40, some [.pointer none, .pointer none, .pointer none, .string ⟨#[]⟩]) by kernel_rfl, fun h => by cases h⟩
theorem u158 : TD.Holds Try.prog 158 ⟨.array 0 16, 0, 0, [], none, false⟩ := ⟨show Try.prog.underlying 158 = some (.array 0 16) by kernel_rfl, show (Try.prog.info? 158).map (fun i => (i.size, i.bytes, i.zero.map fun z => z.cells.toList)) = some (0, 0, some []) by kernel_rfl, fun h => by cases h⟩
theorem u159 : TD.Holds Try.prog 159 ⟨.struct [(158, 0)], 0, 0, [], none, false⟩ := ⟨show (Try.prog.underlying 159).bind fieldsOf = some [(158, 0)] by kernel_rfl, show (Try.prog.info? 159).map (fun i => (i.size, i.bytes, i.zero.map fun z => z.cells.toList)) = some (0, 0, some []) by kernel_rfl, fun h => by cases h⟩
theorem u160 : TD.Holds Try.prog 160 ⟨.struct [(158, 0)], 0, 0, [], none, false⟩ := ⟨show (Try.prog.underlying 160).bind fieldsOf = some [(158, 0)] by kernel_rfl, show (Try.prog.info? 160).map (fun i => (i.size, i.bytes, i.zero.map fun z => z.cells.toList)) = some (0, 0, some []) by kernel_rfl, fun h => by cases h⟩
theorem u161 : TD.Holds Try.prog 161 ⟨.int .u8, 1, 1, [.int .u8 0], some .byte, false⟩ := ⟨show Try.prog.underlying 161 = some (.int .u8) by kernel_rfl, show (Try.prog.info? 161).map (fun i => (i.size, i.bytes, i.zero.map fun z => z.cells.toList)) = some (1, 1, some [.int .u8 0]) by kernel_rfl, fun h => by cases h⟩
theorem u162 : TD.Holds Try.prog 162 ⟨.int .u8, 1, 1, [.int .u8 0], some .byte, false⟩ := ⟨show Try.prog.underlying 162 = some (.int .u8) by kernel_rfl, show (Try.prog.info? 162).map (fun i => (i.size, i.bytes, i.zero.map fun z => z.cells.toList)) = some (1, 1, some [.int .u8 0]) by kernel_rfl, fun h => by cases h⟩
theorem u163 : TD.Holds Try.prog 163 ⟨.func, 1, 8, [.nilFunc], none, false⟩ := ⟨show (Try.prog.underlying 163).map funcDesc = some true by kernel_rfl, show (Try.prog.info? 163).map (fun i => (i.size, i.bytes, i.zero.map fun z => z.cells.toList)) = some (1, 8, some [.nilFunc]) by kernel_rfl, fun h => by cases h⟩
theorem u164 : TD.Holds Try.prog 164 ⟨.ptr 5, 1, 8, [.pointer none], none, false⟩ := ⟨show Try.prog.underlying 164 = some (.pointer 5) by kernel_rfl, show (Try.prog.info? 164).map (fun i => (i.size, i.bytes, i.zero.map fun z => z.cells.toList)) = some (1, 8, some [.pointer none]) by kernel_rfl, fun h => by cases h⟩
theorem u165 : TD.Holds Try.prog 165 ⟨.int .i32, 1, 4, [.int .i32 0], some (.int .i32), false⟩ := ⟨show Try.prog.underlying 165 = some (.int .i32) by kernel_rfl, show (Try.prog.info? 165).map (fun i => (i.size, i.bytes, i.zero.map fun z => z.cells.toList)) = some (1, 4, some [.int .i32 0]) by kernel_rfl, fun h => by cases h⟩
theorem u166 : TD.Holds Try.prog 166 ⟨.int .i32, 1, 4, [.int .i32 0], some (.int .i32), false⟩ := ⟨show Try.prog.underlying 166 = some (.int .i32) by kernel_rfl, show (Try.prog.info? 166).map (fun i => (i.size, i.bytes, i.zero.map fun z => z.cells.toList)) = some (1, 4, some [.int .i32 0]) by kernel_rfl, fun h => by cases h⟩
theorem u167 : TD.Holds Try.prog 167 ⟨.struct [(12, 0), (12, 1), (90, 2), (161, 3), (5, 4), (5, 5), (162, 6), (163, 7), (164, 8), (165, 9), (166, 10)], 11, 48, [.int .u64 0, .int .u64 0, .int .u32 0, .int .u8 0, .int .u8 0, .int .u8 0, .int .u8 0, .nilFunc, .pointer none, .int .i32 0, .int .i32 0], none, false⟩ := ⟨show (Try.prog.underlying 167).bind fieldsOf = some [(12, 0), (12, 1), (90, 2), (161, 3), (5, 4), (5, 5), (162, 6), (163, 7), (164, 8), (165, 9), (166, 10)] by kernel_rfl, show (Try.prog.info? 167).map (fun i => (i.size, i.bytes, i.zero.map fun z => z.cells.toList)) = some (11, 48, some [.int .u64 0, .int .u64 0, .int .u32 0, .int .u8 0, .int .u8 0, .int .u8 0, .int .u8 0, .nilFunc, .pointer none, .int .i32 0, .int .i32 0]) by kernel_rfl, fun h => by cases h⟩
theorem u168 : TD.Holds Try.prog 168 ⟨.struct [(12, 0), (12, 1), (90, 2), (161, 3), (5, 4), (5, 5), (162, 6), (163, 7), (164, 8), (165, 9), (166, 10)], 11, 48, [.int .u64 0, .int .u64 0, .int .u32 0, .int .u8 0, .int .u8 0, .int .u8 0, .int .u8 0, .nilFunc, .pointer none, .int .i32 0, .int .i32 0], none, false⟩ := ⟨show (Try.prog.underlying 168).bind fieldsOf = some [(12, 0), (12, 1), (90, 2), (161, 3), (5, 4), (5, 5), (162, 6), (163, 7), (164, 8), (165, 9), (166, 10)] by kernel_rfl, show (Try.prog.info? 168).map (fun i => (i.size, i.bytes, i.zero.map fun z => z.cells.toList)) = some (11, 48, some [.int .u64 0, .int .u64 0, .int .u32 0, .int .u8 0, .int .u8 0, .int .u8 0, .int .u8 0, .nilFunc, .pointer none, .int .i32 0, .int .i32 0]) by kernel_rfl, fun h => by cases h⟩
theorem u169 : TD.Holds Try.prog 169 ⟨.func, 1, 8, [.nilFunc], none, false⟩ := ⟨show (Try.prog.underlying 169).map funcDesc = some true by kernel_rfl, show (Try.prog.info? 169).map (fun i => (i.size, i.bytes, i.zero.map fun z => z.cells.toList)) = some (1, 8, some [.nilFunc]) by kernel_rfl, fun h => by cases h⟩
theorem U_ok : U.Ok Try.prog := Tab.ok (Tab.skip <| Tab.cons u1 <| Tab.cons u2 <| Tab.cons u3 <| Tab.cons u4 <| Tab.cons u5 <| Tab.cons u6 <| Tab.cons u7 <| Tab.cons u8 <| Tab.cons u9 <| Tab.cons u10 <| Tab.cons u11 <| Tab.cons u12 <| Tab.cons u13 <| Tab.cons u14 <| Tab.cons u15 <| Tab.cons u16 <| Tab.cons u17 <| Tab.cons u18 <| Tab.cons u19 <| Tab.cons u20 <| Tab.cons u21 <| Tab.cons u22 <| Tab.cons u23 <| Tab.cons u24 <| Tab.skip <| Tab.cons u26 <| Tab.skip <| Tab.cons u28 <| Tab.cons u29 <| Tab.cons u30 <| Tab.cons u31 <| Tab.cons u32 <| Tab.cons u33 <| Tab.cons u34 <| Tab.cons u35 <| Tab.cons u36 <| Tab.skip <| Tab.cons u38 <| Tab.cons u39 <| Tab.cons u40 <| Tab.cons u41 <| Tab.cons u42 <| Tab.cons u43 <| Tab.cons u44 <| Tab.skip <| Tab.cons u46 <| Tab.cons u47 <| Tab.cons u48 <| Tab.cons u49 <| Tab.cons u50 <| Tab.cons u51 <| Tab.cons u52 <| Tab.cons u53 <| Tab.cons u54 <| Tab.skip <| Tab.cons u56 <| Tab.cons u57 <| Tab.cons u58 <| Tab.cons u59 <| Tab.cons u60 <| Tab.cons u61 <| Tab.skip <| Tab.cons u63 <| Tab.cons u64 <| Tab.cons u65 <| Tab.cons u66 <| Tab.cons u67 <| Tab.cons u68 <| Tab.cons u69 <| Tab.cons u70 <| Tab.cons u71 <| Tab.cons u72 <| Tab.cons u73 <| Tab.cons u74 <| Tab.cons u75 <| Tab.cons u76 <| Tab.cons u77 <| Tab.cons u78 <| Tab.cons u79 <| Tab.cons u80 <| Tab.cons u81 <| Tab.cons u82 <| Tab.cons u83 <| Tab.cons u84 <| Tab.skip <| Tab.cons u86 <| Tab.cons u87 <| Tab.cons u88 <| Tab.cons u89 <| Tab.cons u90 <| Tab.cons u91 <| Tab.cons u92 <| Tab.cons u93 <| Tab.cons u94 <| Tab.cons u95 <| Tab.cons u96 <| Tab.cons u97 <| Tab.cons u98 <| Tab.cons u99 <| Tab.skip <| Tab.cons u101 <| Tab.skip <| Tab.cons u103 <| Tab.cons u104 <| Tab.cons u105 <| Tab.cons u106 <| Tab.cons u107 <| Tab.cons u108 <| Tab.cons u109 <| Tab.cons u110 <| Tab.cons u111 <| Tab.cons u112 <| Tab.cons u113 <| Tab.cons u114 <| Tab.cons u115 <| Tab.cons u116 <| Tab.cons u117 <| Tab.cons u118 <| Tab.cons u119 <| Tab.cons u120 <| Tab.cons u121 <| Tab.cons u122 <| Tab.cons u123 <| Tab.cons u124 <| Tab.cons u125 <| Tab.cons u126 <| Tab.cons u127 <| Tab.cons u128 <| Tab.cons u129 <| Tab.cons u130 <| Tab.cons u131 <| Tab.cons u132 <| Tab.cons u133 <| Tab.cons u134 <| Tab.cons u135 <| Tab.cons u136 <| Tab.skip <| Tab.cons u138 <| Tab.cons u139 <| Tab.cons u140 <| Tab.cons u141 <| Tab.skip <| Tab.cons u143 <| Tab.cons u144 <| Tab.cons u145 <| Tab.cons u146 <| Tab.cons u147 <| Tab.cons u148 <| Tab.cons u149 <| Tab.cons u150 <| Tab.cons u151 <| Tab.cons u152 <| Tab.skip <| Tab.cons u154 <| Tab.cons u155 <| Tab.cons u156 <| Tab.cons u157 <| Tab.cons u158 <| Tab.cons u159 <| Tab.cons u160 <| Tab.cons u161 <| Tab.cons u162 <| Tab.cons u163 <| Tab.cons u164 <| Tab.cons u165 <| Tab.cons u166 <| Tab.cons u167 <| Tab.cons u168 <| Tab.cons u169 <| Tab.skip <| Tab.nil)
theorem mix : Try.prog.follows .mixedOrders = true := by kernel_rfl
end Go.Hay.Ythlojpcjafefjaa
