/- The types of the program: what is known of them. Conditions: none. -/
import Derived.Test.YtpgamibdlinhjaaProg
import Derived.Test.YtpgamibdlinhjaaHayPl
namespace Go.Hay.Ytpgamibdlinhjaa
open Go Go.Hay Go.Proofs
def d1 : TD := ⟨.func, 1, 8, [.nilFunc], none, false⟩
def d2 : TD := ⟨.int .i64, 1, 8, [.int .i64 0], some (.int .i64), false⟩
def d3 : TD := ⟨.int .i64, 1, 8, [.int .i64 0], some (.int .i64), false⟩
def d4 : TD := ⟨.bool, 1, 1, [.bool false], some .bool, false⟩
def d5 : TD := ⟨.int .u8, 1, 1, [.int .u8 0], some .byte, false⟩
def d9 : TD := ⟨.string, 1, 16, [.string ⟨#[]⟩], some .str, false⟩
def d22 : TD := ⟨.int .u64, 1, 8, [.int .u64 0], some (.int .u64), false⟩
def d24 : TD := ⟨.struct [(3, 0), (3, 1)], 2, 16, [.int .i64 0, .int .i64 0], some (.pair (.int .i64) (.int .i64)), true⟩
def d25 : TD := ⟨.slice 80, 1, 24, [.slice none 0 0], some (.slice (.pair (.pair (.int .i64) (.int .i64)) (.pair (.pair (.int .u64) (.int .u32)) (.pair (.slice (.pair (.int .i64) (.pair .bool (.pair (.int .i64) .str)))) (.int .u64))))), false⟩
def d26 : TD := ⟨.slice 84, 1, 24, [.slice none 0 0], some (.slice (.pair (.pair (.int .i64) (.int .i64)) (.pair (.int .u64) (.int .u32)))), false⟩
def d28 : TD := ⟨.struct [(25, 0), (26, 1)], 2, 48, [.slice none 0 0, .slice none 0 0], some (.pair (.slice (.pair (.pair (.int .i64) (.int .i64)) (.pair (.pair (.int .u64) (.int .u32)) (.pair (.slice (.pair (.int .i64) (.pair .bool (.pair (.int .i64) .str)))) (.int .u64))))) (.slice (.pair (.pair (.int .i64) (.int .i64)) (.pair (.int .u64) (.int .u32))))), false⟩
def d29 : TD := ⟨.slice 78, 1, 24, [.slice none 0 0], some (.slice (.pair (.pair (.int .u64) (.int .u32)) (.pair (.slice (.pair (.int .i64) (.pair .bool (.pair (.int .i64) .str)))) (.int .u64)))), false⟩
def d31 : TD := ⟨.struct [(3, 0), (3, 1), (3, 2), (22, 3), (22, 4), (22, 5), (22, 6), (22, 7), (22, 8), (22, 9), (3, 10), (4, 11), (4, 12), (4, 13), (24, 14), (28, 16), (29, 18)], 19, 184, [.int .i64 0, .int .i64 0, .int .i64 0, .int .u64 0, .int .u64 0, .int .u64 0, .int .u64 0, .int .u64 0, .int .u64 0, .int .u64 0, .int .i64 0, .bool false, .bool false, .bool false, .int .i64 0, .int .i64 0, .slice none 0 0, .slice none 0 0, .slice none 0 0], some (.pair (.int .i64) (.pair (.int .i64) (.pair (.int .i64) (.pair (.int .u64) (.pair (.int .u64) (.pair (.int .u64) (.pair (.int .u64) (.pair (.int .u64) (.pair (.int .u64) (.pair (.int .u64) (.pair (.int .i64) (.pair .bool (.pair .bool (.pair .bool (.pair (.pair (.int .i64) (.int .i64)) (.pair (.pair (.slice (.pair (.pair (.int .i64) (.int .i64)) (.pair (.pair (.int .u64) (.int .u32)) (.pair (.slice (.pair (.int .i64) (.pair .bool (.pair (.int .i64) .str)))) (.int .u64))))) (.slice (.pair (.pair (.int .i64) (.int .i64)) (.pair (.int .u64) (.int .u32))))) (.slice (.pair (.pair (.int .u64) (.int .u32)) (.pair (.slice (.pair (.int .i64) (.pair .bool (.pair (.int .i64) .str)))) (.int .u64)))))))))))))))))))), false⟩
def d32 : TD := ⟨.slice 5, 1, 24, [.slice none 0 0], some (.slice .byte), false⟩
def d33 : TD := ⟨.int .i64, 1, 8, [.int .i64 0], some (.int .i64), false⟩
def d42 : TD := ⟨.ptr 47, 1, 8, [.pointer none], none, false⟩
def d43 : TD := ⟨.ptr 60, 1, 8, [.pointer none], none, false⟩
def d45 : TD := ⟨.ptr 68, 1, 8, [.pointer none], none, false⟩
def d47 : TD := ⟨.struct [(43, 0), (45, 1), (4, 2)], 3, 24, [.pointer none, .pointer none, .bool false], none, false⟩
def d49 : TD := ⟨.ptr 31, 1, 8, [.pointer none], none, false⟩
def d60 : TD := ⟨.struct [(32, 0)], 1, 24, [.slice none 0 0], some (.pair (.slice .byte) .unit), false⟩
def d68 : TD := ⟨.struct [(32, 0), (33, 1)], 2, 32, [.slice none 0 0, .int .i64 0], some (.pair (.slice .byte) (.int .i64)), false⟩
def d70 : TD := ⟨.int .u32, 1, 4, [.int .u32 0], some (.int .u32), false⟩
def d75 : TD := ⟨.struct [(22, 0), (70, 1)], 2, 16, [.int .u64 0, .int .u32 0], some (.pair (.int .u64) (.int .u32)), true⟩
def d76 : TD := ⟨.slice 109, 1, 24, [.slice none 0 0], some (.slice (.pair (.int .i64) (.pair .bool (.pair (.int .i64) .str)))), false⟩
def d78 : TD := ⟨.struct [(75, 0), (76, 2), (22, 3)], 4, 48, [.int .u64 0, .int .u32 0, .slice none 0 0, .int .u64 0], some (.pair (.pair (.int .u64) (.int .u32)) (.pair (.slice (.pair (.int .i64) (.pair .bool (.pair (.int .i64) .str)))) (.int .u64))), false⟩
def d80 : TD := ⟨.struct [(24, 0), (78, 2)], 6, 64, [.int .i64 0, .int .i64 0, .int .u64 0, .int .u32 0, .slice none 0 0, .int .u64 0], some (.pair (.pair (.int .i64) (.int .i64)) (.pair (.pair (.int .u64) (.int .u32)) (.pair (.slice (.pair (.int .i64) (.pair .bool (.pair (.int .i64) .str)))) (.int .u64)))), false⟩
def d84 : TD := ⟨.struct [(24, 0), (75, 2)], 4, 32, [.int .i64 0, .int .i64 0, .int .u64 0, .int .u32 0], some (.pair (.pair (.int .i64) (.int .i64)) (.pair (.int .u64) (.int .u32))), true⟩
def d92 : TD := ⟨.ptr 22, 1, 8, [.pointer none], none, false⟩
def d95 : TD := ⟨.struct [(3, 0), (1, 1)], 2, 16, [.int .i64 0, .nilFunc], none, false⟩
def d103 : TD := ⟨.slice 95, 1, 24, [.slice none 0 0], none, false⟩
def d105 : TD := ⟨.array 16 70, 16, 64, [.int .u32 0, .int .u32 0, .int .u32 0, .int .u32 0, .int .u32 0, .int .u32 0, .int .u32 0, .int .u32 0, .int .u32 0, .int .u32 0, .int .u32 0, .int .u32 0, .int .u32 0, .int .u32 0, .int .u32 0, .int .u32 0], none, false⟩
def d109 : TD := ⟨.struct [(3, 0), (4, 1), (2, 2), (9, 3)], 4, 40, [.int .i64 0, .bool false, .int .i64 0, .string ⟨#[]⟩], some (.pair (.int .i64) (.pair .bool (.pair (.int .i64) .str))), true⟩
def d114 : TD := ⟨.slice 92, 1, 24, [.slice none 0 0], none, false⟩
def d149 : TD := ⟨.array 8 5, 8, 8, [.int .u8 0, .int .u8 0, .int .u8 0, .int .u8 0, .int .u8 0, .int .u8 0, .int .u8 0, .int .u8 0], none, false⟩
def utab : List TD := [.no, d1, d2, d3, d4, d5, .no, .no, .no, d9, .no, .no, .no, .no, .no, .no, .no, .no, .no, .no, .no, .no, d22, .no, d24, d25, d26, .no, d28, d29, .no, d31, d32, d33, .no, .no, .no, .no, .no, .no, .no, .no, d42, d43, .no, d45, .no, d47, .no, d49, .no, .no, .no, .no, .no, .no, .no, .no, .no, .no, d60, .no, .no, .no, .no, .no, .no, .no, d68, .no, d70, .no, .no, .no, .no, d75, d76, .no, d78, .no, d80, .no, .no, .no, d84, .no, .no, .no, .no, .no, .no, .no, d92, .no, .no, d95, .no, .no, .no, .no, .no, .no, .no, d103, .no, d105, .no, .no, .no, d109, .no, .no, .no, .no, d114, .no, .no, .no, .no, .no, .no, .no, .no, .no, .no, .no, .no, .no, .no, .no, .no, .no, .no, .no, .no, .no, .no, .no, .no, .no, .no, .no, .no, .no, .no, .no, .no, .no, .no, d149]
def U : TEnv := fun t => utab.getD t TD.no
theorem u1 : TD.Holds Try.prog 1 d1 := hFunc (by kernel_rfl) (by kernel_rfl)
theorem u2 : TD.Holds Try.prog 2 d2 := hInt (by kernel_rfl) (by kernel_rfl)
theorem u3 : TD.Holds Try.prog 3 d3 := hInt (by kernel_rfl) (by kernel_rfl)
theorem u4 : TD.Holds Try.prog 4 d4 := hBool (by kernel_rfl) (by kernel_rfl)
theorem u5 : TD.Holds Try.prog 5 d5 := hInt (by kernel_rfl) (by kernel_rfl)
theorem u9 : TD.Holds Try.prog 9 d9 := hString (by kernel_rfl) (by kernel_rfl)
theorem u22 : TD.Holds Try.prog 22 d22 := hInt (by kernel_rfl) (by kernel_rfl)
theorem u24 : TD.Holds Try.prog 24 d24 := hStructE (by kernel_rfl) (by kernel_rfl) (by kernel_rfl) (by kernel_rfl) (by kernel_rfl)
theorem u25 : TD.Holds Try.prog 25 d25 := hSlice (by kernel_rfl) (by kernel_rfl)
theorem u26 : TD.Holds Try.prog 26 d26 := hSlice (by kernel_rfl) (by kernel_rfl)
theorem u28 : TD.Holds Try.prog 28 d28 := hStruct (by kernel_rfl) (by kernel_rfl)
theorem u29 : TD.Holds Try.prog 29 d29 := hSlice (by kernel_rfl) (by kernel_rfl)
theorem u31 : TD.Holds Try.prog 31 d31 := hStruct (by kernel_rfl) (by kernel_rfl)
theorem u32 : TD.Holds Try.prog 32 d32 := hSlice (by kernel_rfl) (by kernel_rfl)
theorem u33 : TD.Holds Try.prog 33 d33 := hInt (by kernel_rfl) (by kernel_rfl)
theorem u42 : TD.Holds Try.prog 42 d42 := hPtr (by kernel_rfl) (by kernel_rfl)
theorem u43 : TD.Holds Try.prog 43 d43 := hPtr (by kernel_rfl) (by kernel_rfl)
theorem u45 : TD.Holds Try.prog 45 d45 := hPtr (by kernel_rfl) (by kernel_rfl)
theorem u47 : TD.Holds Try.prog 47 d47 := hStruct (by kernel_rfl) (by kernel_rfl)
theorem u49 : TD.Holds Try.prog 49 d49 := hPtr (by kernel_rfl) (by kernel_rfl)
theorem u60 : TD.Holds Try.prog 60 d60 := hStruct (by kernel_rfl) (by kernel_rfl)
theorem u68 : TD.Holds Try.prog 68 d68 := hStruct (by kernel_rfl) (by kernel_rfl)
theorem u70 : TD.Holds Try.prog 70 d70 := hInt (by kernel_rfl) (by kernel_rfl)
theorem u75 : TD.Holds Try.prog 75 d75 := hStructE (by kernel_rfl) (by kernel_rfl) (by kernel_rfl) (by kernel_rfl) (by kernel_rfl)
theorem u76 : TD.Holds Try.prog 76 d76 := hSlice (by kernel_rfl) (by kernel_rfl)
theorem u78 : TD.Holds Try.prog 78 d78 := hStruct (by kernel_rfl) (by kernel_rfl)
theorem u80 : TD.Holds Try.prog 80 d80 := hStruct (by kernel_rfl) (by kernel_rfl)
theorem u84 : TD.Holds Try.prog 84 d84 := hStructE (by kernel_rfl) (by kernel_rfl) (by kernel_rfl) (by kernel_rfl) (by kernel_rfl)
theorem u92 : TD.Holds Try.prog 92 d92 := hPtr (by kernel_rfl) (by kernel_rfl)
theorem u95 : TD.Holds Try.prog 95 d95 := hStruct (by kernel_rfl) (by kernel_rfl)
theorem u103 : TD.Holds Try.prog 103 d103 := hSlice (by kernel_rfl) (by kernel_rfl)
theorem u105 : TD.Holds Try.prog 105 d105 := hArray (by kernel_rfl) (by kernel_rfl)
theorem u109 : TD.Holds Try.prog 109 d109 := hStructE (by kernel_rfl) (by kernel_rfl) (by kernel_rfl) (by kernel_rfl) (by kernel_rfl)
theorem u114 : TD.Holds Try.prog 114 d114 := hSlice (by kernel_rfl) (by kernel_rfl)
theorem u149 : TD.Holds Try.prog 149 d149 := hArray (by kernel_rfl) (by kernel_rfl)
theorem U_ok : U.Ok Try.prog := Tab.ok (Tab.skip <| Tab.cons u1 <| Tab.cons u2 <| Tab.cons u3 <| Tab.cons u4 <| Tab.cons u5 <| Tab.skip <| Tab.skip <| Tab.skip <| Tab.cons u9 <| Tab.skip <| Tab.skip <| Tab.skip <| Tab.skip <| Tab.skip <| Tab.skip <| Tab.skip <| Tab.skip <| Tab.skip <| Tab.skip <| Tab.skip <| Tab.skip <| Tab.cons u22 <| Tab.skip <| Tab.cons u24 <| Tab.cons u25 <| Tab.cons u26 <| Tab.skip <| Tab.cons u28 <| Tab.cons u29 <| Tab.skip <| Tab.cons u31 <| Tab.cons u32 <| Tab.cons u33 <| Tab.skip <| Tab.skip <| Tab.skip <| Tab.skip <| Tab.skip <| Tab.skip <| Tab.skip <| Tab.skip <| Tab.cons u42 <| Tab.cons u43 <| Tab.skip <| Tab.cons u45 <| Tab.skip <| Tab.cons u47 <| Tab.skip <| Tab.cons u49 <| Tab.skip <| Tab.skip <| Tab.skip <| Tab.skip <| Tab.skip <| Tab.skip <| Tab.skip <| Tab.skip <| Tab.skip <| Tab.skip <| Tab.cons u60 <| Tab.skip <| Tab.skip <| Tab.skip <| Tab.skip <| Tab.skip <| Tab.skip <| Tab.skip <| Tab.cons u68 <| Tab.skip <| Tab.cons u70 <| Tab.skip <| Tab.skip <| Tab.skip <| Tab.skip <| Tab.cons u75 <| Tab.cons u76 <| Tab.skip <| Tab.cons u78 <| Tab.skip <| Tab.cons u80 <| Tab.skip <| Tab.skip <| Tab.skip <| Tab.cons u84 <| Tab.skip <| Tab.skip <| Tab.skip <| Tab.skip <| Tab.skip <| Tab.skip <| Tab.skip <| Tab.cons u92 <| Tab.skip <| Tab.skip <| Tab.cons u95 <| Tab.skip <| Tab.skip <| Tab.skip <| Tab.skip <| Tab.skip <| Tab.skip <| Tab.skip <| Tab.cons u103 <| Tab.skip <| Tab.cons u105 <| Tab.skip <| Tab.skip <| Tab.skip <| Tab.cons u109 <| Tab.skip <| Tab.skip <| Tab.skip <| Tab.skip <| Tab.cons u114 <| Tab.skip <| Tab.skip <| Tab.skip <| Tab.skip <| Tab.skip <| Tab.skip <| Tab.skip <| Tab.skip <| Tab.skip <| Tab.skip <| Tab.skip <| Tab.skip <| Tab.skip <| Tab.skip <| Tab.skip <| Tab.skip <| Tab.skip <| Tab.skip <| Tab.skip <| Tab.skip <| Tab.skip <| Tab.skip <| Tab.skip <| Tab.skip <| Tab.skip <| Tab.skip <| Tab.skip <| Tab.skip <| Tab.skip <| Tab.skip <| Tab.skip <| Tab.skip <| Tab.skip <| Tab.skip <| Tab.cons u149 <| Tab.nil)
theorem mix : Try.prog.follows .mixedOrders = true := by kernel_rfl
end Go.Hay.Ytpgamibdlinhjaa
