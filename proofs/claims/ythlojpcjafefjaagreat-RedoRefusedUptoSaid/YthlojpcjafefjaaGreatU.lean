/- The types of the program: what is known of them. Conditions: none. -/
import Derived.Test.YthlojpcjafefjaaGreatProg
import Derived.Test.YthlojpcjafefjaaGreatHayZc
namespace Go.Hay.YthlojpcjafefjaaGreat
open Go Go.Hay Go.Proofs
def d3 : TD := ⟨.int .i64, 1, 8, [.int .i64 0], some (.int .i64), false⟩
def d4 : TD := ⟨.bool, 1, 1, [.bool false], some .bool, false⟩
def d5 : TD := ⟨.int .u8, 1, 1, [.int .u8 0], some .byte, false⟩
def d9 : TD := ⟨.string, 1, 16, [.string ⟨#[]⟩], some .str, false⟩
def d22 : TD := ⟨.slice 40, 1, 24, [.slice none 0 0], some (.slice (.pair (.int .i64) (.pair (.int .i64) (.pair (.slice (.slice .byte)) (.slice (.int .i64)))))), false⟩
def d23 : TD := ⟨.slice 43, 1, 24, [.slice none 0 0], some (.slice (.slice .byte)), false⟩
def d24 : TD := ⟨.ptr 54, 1, 8, [.pointer none], none, false⟩
def d26 : TD := ⟨.slice 83, 1, 24, [.slice none 0 0], some (.slice (.pair .str (.pair (.slice .byte) (.int .i64)))), false⟩
def d28 : TD := ⟨.struct [(3, 0), (3, 1), (26, 2), (4, 3), (4, 4), (3, 5)], 6, 56, [.int .i64 0, .int .i64 0, .slice none 0 0, .bool false, .bool false, .int .i64 0], some (.pair (.int .i64) (.pair (.int .i64) (.pair (.slice (.pair .str (.pair (.slice .byte) (.int .i64)))) (.pair .bool (.pair .bool (.int .i64)))))), false⟩
def d30 : TD := ⟨.ptr 69, 1, 8, [.pointer none], none, false⟩
def d32 : TD := ⟨.struct [(9, 0), (23, 1), (3, 2)], 3, 48, [.string ⟨#[]⟩, .slice none 0 0, .int .i64 0], some (.pair .str (.pair (.slice (.slice .byte)) (.int .i64))), false⟩
def d34 : TD := ⟨.struct [(24, 0), (30, 1), (28, 2), (32, 8), (4, 11)], 12, 128, [.pointer none, .pointer none, .int .i64 0, .int .i64 0, .slice none 0 0, .bool false, .bool false, .int .i64 0, .string ⟨#[]⟩, .slice none 0 0, .int .i64 0, .bool false], none, false⟩
def d38 : TD := ⟨.slice 3, 1, 24, [.slice none 0 0], some (.slice (.int .i64)), false⟩
def d40 : TD := ⟨.struct [(3, 0), (3, 1), (23, 2), (38, 3)], 4, 64, [.int .i64 0, .int .i64 0, .slice none 0 0, .slice none 0 0], some (.pair (.int .i64) (.pair (.int .i64) (.pair (.slice (.slice .byte)) (.slice (.int .i64))))), false⟩
def d43 : TD := ⟨.slice 5, 1, 24, [.slice none 0 0], some (.slice .byte), false⟩
def d46 : TD := ⟨.int .i64, 1, 8, [.int .i64 0], some (.int .i64), false⟩
def d52 : TD := ⟨.map 9 71 true, 1, 8, [.map none], none, false⟩
def d54 : TD := ⟨.struct [(3, 0), (3, 1), (52, 2), (3, 3), (3, 4), (4, 5)], 6, 48, [.int .i64 0, .int .i64 0, .map none, .int .i64 0, .int .i64 0, .bool false], none, false⟩
def d66 : TD := ⟨.func, 1, 8, [.nilFunc], none, false⟩
def d69 : TD := ⟨.struct [(24, 0), (9, 1), (23, 2), (3, 3)], 4, 56, [.pointer none, .string ⟨#[]⟩, .slice none 0 0, .int .i64 0], none, false⟩
def d71 : TD := ⟨.struct [(43, 0), (3, 1)], 2, 32, [.slice none 0 0, .int .i64 0], some (.pair (.slice .byte) (.int .i64)), false⟩
def d78 : TD := ⟨.func, 1, 8, [.nilFunc], none, false⟩
def d80 : TD := ⟨.slice 9, 1, 24, [.slice none 0 0], some (.slice .str), false⟩
def d83 : TD := ⟨.struct [(9, 0), (43, 1), (3, 2)], 3, 48, [.string ⟨#[]⟩, .slice none 0 0, .int .i64 0], some (.pair .str (.pair (.slice .byte) (.int .i64))), false⟩
def d92 : TD := ⟨.func, 1, 8, [.nilFunc], none, false⟩
def d97 : TD := ⟨.ptr 129, 1, 8, [.pointer none], none, false⟩
def d103 : TD := ⟨.slice 78, 1, 24, [.slice none 0 0], none, false⟩
def d112 : TD := ⟨.ptr 138, 1, 8, [.pointer none], none, false⟩
def d115 : TD := ⟨.func, 1, 8, [.nilFunc], none, false⟩
def d127 : TD := ⟨.int .u64, 1, 8, [.int .u64 0], some (.int .u64), false⟩
def d129 : TD := ⟨.struct [(43, 0)], 1, 24, [.slice none 0 0], some (.pair (.slice .byte) .unit), false⟩
def d133 : TD := ⟨.int .u32, 1, 4, [.int .u32 0], some (.int .u32), false⟩
def d138 : TD := ⟨.struct [(43, 0), (46, 1)], 2, 32, [.slice none 0 0, .int .i64 0], some (.pair (.slice .byte) (.int .i64)), false⟩
def d143 : TD := ⟨.struct [(43, 0), (3, 1), (46, 2)], 3, 40, [.slice none 0 0, .int .i64 0, .int .i64 0], some (.pair (.slice .byte) (.pair (.int .i64) (.int .i64))), false⟩
def d153 : TD := ⟨.array 16 133, 16, 64, [.int .u32 0, .int .u32 0, .int .u32 0, .int .u32 0, .int .u32 0, .int .u32 0, .int .u32 0, .int .u32 0, .int .u32 0, .int .u32 0, .int .u32 0, .int .u32 0, .int .u32 0, .int .u32 0, .int .u32 0, .int .u32 0], none, false⟩
def utab : List TD := [.no, .no, .no, d3, d4, d5, .no, .no, .no, d9, .no, .no, .no, .no, .no, .no, .no, .no, .no, .no, .no, .no, d22, d23, d24, .no, d26, .no, d28, .no, d30, .no, d32, .no, d34, .no, .no, .no, d38, .no, d40, .no, .no, d43, .no, .no, d46, .no, .no, .no, .no, .no, d52, .no, d54, .no, .no, .no, .no, .no, .no, .no, .no, .no, .no, .no, d66, .no, .no, d69, .no, d71, .no, .no, .no, .no, .no, .no, d78, .no, d80, .no, .no, d83, .no, .no, .no, .no, .no, .no, .no, .no, d92, .no, .no, .no, .no, d97, .no, .no, .no, .no, .no, d103, .no, .no, .no, .no, .no, .no, .no, .no, d112, .no, .no, d115, .no, .no, .no, .no, .no, .no, .no, .no, .no, .no, .no, d127, .no, d129, .no, .no, .no, d133, .no, .no, .no, .no, d138, .no, .no, .no, .no, d143, .no, .no, .no, .no, .no, .no, .no, .no, .no, d153]
def U : TEnv := fun t => utab.getD t TD.no
theorem u3 : TD.Holds Tryz.prog 3 d3 := hInt (by kernel_rfl) (by kernel_rfl)
theorem u4 : TD.Holds Tryz.prog 4 d4 := hBool (by kernel_rfl) (by kernel_rfl)
theorem u5 : TD.Holds Tryz.prog 5 d5 := hInt (by kernel_rfl) (by kernel_rfl)
theorem u9 : TD.Holds Tryz.prog 9 d9 := hString (by kernel_rfl) (by kernel_rfl)
theorem u22 : TD.Holds Tryz.prog 22 d22 := hSlice (by kernel_rfl) (by kernel_rfl)
theorem u23 : TD.Holds Tryz.prog 23 d23 := hSlice (by kernel_rfl) (by kernel_rfl)
theorem u24 : TD.Holds Tryz.prog 24 d24 := hPtr (by kernel_rfl) (by kernel_rfl)
theorem u26 : TD.Holds Tryz.prog 26 d26 := hSlice (by kernel_rfl) (by kernel_rfl)
theorem u28 : TD.Holds Tryz.prog 28 d28 := hStruct (by kernel_rfl) (by kernel_rfl)
theorem u30 : TD.Holds Tryz.prog 30 d30 := hPtr (by kernel_rfl) (by kernel_rfl)
theorem u32 : TD.Holds Tryz.prog 32 d32 := hStruct (by kernel_rfl) (by kernel_rfl)
theorem u34 : TD.Holds Tryz.prog 34 d34 := hStruct (by kernel_rfl) (by kernel_rfl)
theorem u38 : TD.Holds Tryz.prog 38 d38 := hSlice (by kernel_rfl) (by kernel_rfl)
theorem u40 : TD.Holds Tryz.prog 40 d40 := hStruct (by kernel_rfl) (by kernel_rfl)
theorem u43 : TD.Holds Tryz.prog 43 d43 := hSlice (by kernel_rfl) (by kernel_rfl)
theorem u46 : TD.Holds Tryz.prog 46 d46 := hInt (by kernel_rfl) (by kernel_rfl)
theorem u52 : TD.Holds Tryz.prog 52 d52 := hMap (by kernel_rfl) (by kernel_rfl) (by kernel_rfl)
theorem u54 : TD.Holds Tryz.prog 54 d54 := hStruct (by kernel_rfl) (by kernel_rfl)
theorem u66 : TD.Holds Tryz.prog 66 d66 := hFunc (by kernel_rfl) (by kernel_rfl)
theorem u69 : TD.Holds Tryz.prog 69 d69 := hStruct (by kernel_rfl) (by kernel_rfl)
theorem u71 : TD.Holds Tryz.prog 71 d71 := hStruct (by kernel_rfl) (by kernel_rfl)
theorem u78 : TD.Holds Tryz.prog 78 d78 := hFunc (by kernel_rfl) (by kernel_rfl)
theorem u80 : TD.Holds Tryz.prog 80 d80 := hSlice (by kernel_rfl) (by kernel_rfl)
theorem u83 : TD.Holds Tryz.prog 83 d83 := hStruct (by kernel_rfl) (by kernel_rfl)
theorem u92 : TD.Holds Tryz.prog 92 d92 := hFunc (by kernel_rfl) (by kernel_rfl)
theorem u97 : TD.Holds Tryz.prog 97 d97 := hPtr (by kernel_rfl) (by kernel_rfl)
theorem u103 : TD.Holds Tryz.prog 103 d103 := hSlice (by kernel_rfl) (by kernel_rfl)
theorem u112 : TD.Holds Tryz.prog 112 d112 := hPtr (by kernel_rfl) (by kernel_rfl)
theorem u115 : TD.Holds Tryz.prog 115 d115 := hFunc (by kernel_rfl) (by kernel_rfl)
theorem u127 : TD.Holds Tryz.prog 127 d127 := hInt (by kernel_rfl) (by kernel_rfl)
theorem u129 : TD.Holds Tryz.prog 129 d129 := hStruct (by kernel_rfl) (by kernel_rfl)
theorem u133 : TD.Holds Tryz.prog 133 d133 := hInt (by kernel_rfl) (by kernel_rfl)
theorem u138 : TD.Holds Tryz.prog 138 d138 := hStruct (by kernel_rfl) (by kernel_rfl)
theorem u143 : TD.Holds Tryz.prog 143 d143 := hStruct (by kernel_rfl) (by kernel_rfl)
theorem u153 : TD.Holds Tryz.prog 153 d153 := hArray (by kernel_rfl) (by kernel_rfl)
theorem U_ok : U.Ok Tryz.prog := Tab.ok (Tab.skip <| Tab.skip <| Tab.skip <| Tab.cons u3 <| Tab.cons u4 <| Tab.cons u5 <| Tab.skip <| Tab.skip <| Tab.skip <| Tab.cons u9 <| Tab.skip <| Tab.skip <| Tab.skip <| Tab.skip <| Tab.skip <| Tab.skip <| Tab.skip <| Tab.skip <| Tab.skip <| Tab.skip <| Tab.skip <| Tab.skip <| Tab.cons u22 <| Tab.cons u23 <| Tab.cons u24 <| Tab.skip <| Tab.cons u26 <| Tab.skip <| Tab.cons u28 <| Tab.skip <| Tab.cons u30 <| Tab.skip <| Tab.cons u32 <| Tab.skip <| Tab.cons u34 <| Tab.skip <| Tab.skip <| Tab.skip <| Tab.cons u38 <| Tab.skip <| Tab.cons u40 <| Tab.skip <| Tab.skip <| Tab.cons u43 <| Tab.skip <| Tab.skip <| Tab.cons u46 <| Tab.skip <| Tab.skip <| Tab.skip <| Tab.skip <| Tab.skip <| Tab.cons u52 <| Tab.skip <| Tab.cons u54 <| Tab.skip <| Tab.skip <| Tab.skip <| Tab.skip <| Tab.skip <| Tab.skip <| Tab.skip <| Tab.skip <| Tab.skip <| Tab.skip <| Tab.skip <| Tab.cons u66 <| Tab.skip <| Tab.skip <| Tab.cons u69 <| Tab.skip <| Tab.cons u71 <| Tab.skip <| Tab.skip <| Tab.skip <| Tab.skip <| Tab.skip <| Tab.skip <| Tab.cons u78 <| Tab.skip <| Tab.cons u80 <| Tab.skip <| Tab.skip <| Tab.cons u83 <| Tab.skip <| Tab.skip <| Tab.skip <| Tab.skip <| Tab.skip <| Tab.skip <| Tab.skip <| Tab.skip <| Tab.cons u92 <| Tab.skip <| Tab.skip <| Tab.skip <| Tab.skip <| Tab.cons u97 <| Tab.skip <| Tab.skip <| Tab.skip <| Tab.skip <| Tab.skip <| Tab.cons u103 <| Tab.skip <| Tab.skip <| Tab.skip <| Tab.skip <| Tab.skip <| Tab.skip <| Tab.skip <| Tab.skip <| Tab.cons u112 <| Tab.skip <| Tab.skip <| Tab.cons u115 <| Tab.skip <| Tab.skip <| Tab.skip <| Tab.skip <| Tab.skip <| Tab.skip <| Tab.skip <| Tab.skip <| Tab.skip <| Tab.skip <| Tab.skip <| Tab.cons u127 <| Tab.skip <| Tab.cons u129 <| Tab.skip <| Tab.skip <| Tab.skip <| Tab.cons u133 <| Tab.skip <| Tab.skip <| Tab.skip <| Tab.skip <| Tab.cons u138 <| Tab.skip <| Tab.skip <| Tab.skip <| Tab.skip <| Tab.cons u143 <| Tab.skip <| Tab.skip <| Tab.skip <| Tab.skip <| Tab.skip <| Tab.skip <| Tab.skip <| Tab.skip <| Tab.skip <| Tab.cons u153 <| Tab.nil)
theorem mix : Tryz.prog.follows .mixedOrders = true := by kernel_rfl
end Go.Hay.YthlojpcjafefjaaGreat
