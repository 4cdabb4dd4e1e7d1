/- The types of the program: what is known of them. Conditions: none. -/
import Derived.Test.YtpgamibdlinhjaaGreatProg
import Derived.Test.YtpgamibdlinhjaaGreatHayPl
namespace Go.Hay.YtpgamibdlinhjaaGreat
open Go Go.Hay Go.Proofs
def d1 : TD := ⟨.func, 1, 8, [.nilFunc], none, false⟩
def d2 : TD := ⟨.int .i64, 1, 8, [.int .i64 0], some (.int .i64), false⟩
def d3 : TD := ⟨.int .i64, 1, 8, [.int .i64 0], some (.int .i64), false⟩
def d4 : TD := ⟨.bool, 1, 1, [.bool false], some .bool, false⟩
def d5 : TD := ⟨.int .u8, 1, 1, [.int .u8 0], some .byte, false⟩
def d9 : TD := ⟨.string, 1, 16, [.string ⟨#[]⟩], some .str, false⟩
def d22 : TD := ⟨.int .u64, 1, 8, [.int .u64 0], some (.int .u64), false⟩
def d24 : TD := ⟨.struct [(3, 0), (3, 1)], 2, 16, [.int .i64 0, .int .i64 0], some (.pair (.int .i64) (.int .i64)), true⟩
def d25 : TD := ⟨.slice 95, 1, 24, [.slice none 0 0], some (.slice (.pair (.pair (.int .i64) (.int .i64)) (.pair (.pair (.int .u64) (.int .u32)) (.pair (.slice (.pair (.int .i64) (.pair .bool (.pair (.int .i64) .str)))) (.int .u64))))), false⟩
def d26 : TD := ⟨.slice 99, 1, 24, [.slice none 0 0], some (.slice (.pair (.pair (.int .i64) (.int .i64)) (.pair (.int .u64) (.int .u32)))), false⟩
def d28 : TD := ⟨.struct [(25, 0), (26, 1)], 2, 48, [.slice none 0 0, .slice none 0 0], some (.pair (.slice (.pair (.pair (.int .i64) (.int .i64)) (.pair (.pair (.int .u64) (.int .u32)) (.pair (.slice (.pair (.int .i64) (.pair .bool (.pair (.int .i64) .str)))) (.int .u64))))) (.slice (.pair (.pair (.int .i64) (.int .i64)) (.pair (.int .u64) (.int .u32))))), false⟩
def d29 : TD := ⟨.slice 93, 1, 24, [.slice none 0 0], some (.slice (.pair (.pair (.int .u64) (.int .u32)) (.pair (.slice (.pair (.int .i64) (.pair .bool (.pair (.int .i64) .str)))) (.int .u64)))), false⟩
def d31 : TD := ⟨.struct [(3, 0), (3, 1), (3, 2), (22, 3), (22, 4), (22, 5), (22, 6), (22, 7), (22, 8), (22, 9), (3, 10), (4, 11), (4, 12), (4, 13), (24, 14), (28, 16), (29, 18)], 19, 184, [.int .i64 0, .int .i64 0, .int .i64 0, .int .u64 0, .int .u64 0, .int .u64 0, .int .u64 0, .int .u64 0, .int .u64 0, .int .u64 0, .int .i64 0, .bool false, .bool false, .bool false, .int .i64 0, .int .i64 0, .slice none 0 0, .slice none 0 0, .slice none 0 0], some (.pair (.int .i64) (.pair (.int .i64) (.pair (.int .i64) (.pair (.int .u64) (.pair (.int .u64) (.pair (.int .u64) (.pair (.int .u64) (.pair (.int .u64) (.pair (.int .u64) (.pair (.int .u64) (.pair (.int .i64) (.pair .bool (.pair .bool (.pair .bool (.pair (.pair (.int .i64) (.int .i64)) (.pair (.pair (.slice (.pair (.pair (.int .i64) (.int .i64)) (.pair (.pair (.int .u64) (.int .u32)) (.pair (.slice (.pair (.int .i64) (.pair .bool (.pair (.int .i64) .str)))) (.int .u64))))) (.slice (.pair (.pair (.int .i64) (.int .i64)) (.pair (.int .u64) (.int .u32))))) (.slice (.pair (.pair (.int .u64) (.int .u32)) (.pair (.slice (.pair (.int .i64) (.pair .bool (.pair (.int .i64) .str)))) (.int .u64)))))))))))))))))))), false⟩
def d32 : TD := ⟨.slice 5, 1, 24, [.slice none 0 0], some (.slice .byte), false⟩
def d33 : TD := ⟨.int .i64, 1, 8, [.int .i64 0], some (.int .i64), false⟩
def d42 : TD := ⟨.ptr 47, 1, 8, [.pointer none], none, false⟩
def d43 : TD := ⟨.ptr 75, 1, 8, [.pointer none], none, false⟩
def d45 : TD := ⟨.ptr 83, 1, 8, [.pointer none], none, false⟩
def d47 : TD := ⟨.struct [(43, 0), (45, 1), (4, 2)], 3, 24, [.pointer none, .pointer none, .bool false], none, false⟩
def d49 : TD := ⟨.ptr 31, 1, 8, [.pointer none], none, false⟩
def d57 : TD := ⟨.struct [(32, 0), (4, 1)], 2, 32, [.slice none 0 0, .bool false], some (.pair (.slice .byte) .bool), false⟩
def d68 : TD := ⟨.struct [(32, 0), (3, 1), (33, 2)], 3, 40, [.slice none 0 0, .int .i64 0, .int .i64 0], some (.pair (.slice .byte) (.pair (.int .i64) (.int .i64))), false⟩
def d70 : TD := ⟨.struct [(68, 0)], 3, 40, [.slice none 0 0, .int .i64 0, .int .i64 0], some (.pair (.pair (.slice .byte) (.pair (.int .i64) (.int .i64))) .unit), false⟩
def d75 : TD := ⟨.struct [(32, 0)], 1, 24, [.slice none 0 0], some (.pair (.slice .byte) .unit), false⟩
def d83 : TD := ⟨.struct [(32, 0), (33, 1)], 2, 32, [.slice none 0 0, .int .i64 0], some (.pair (.slice .byte) (.int .i64)), false⟩
def d85 : TD := ⟨.int .u32, 1, 4, [.int .u32 0], some (.int .u32), false⟩
def d90 : TD := ⟨.struct [(22, 0), (85, 1)], 2, 16, [.int .u64 0, .int .u32 0], some (.pair (.int .u64) (.int .u32)), true⟩
def d91 : TD := ⟨.slice 133, 1, 24, [.slice none 0 0], some (.slice (.pair (.int .i64) (.pair .bool (.pair (.int .i64) .str)))), false⟩
def d93 : TD := ⟨.struct [(90, 0), (91, 2), (22, 3)], 4, 48, [.int .u64 0, .int .u32 0, .slice none 0 0, .int .u64 0], some (.pair (.pair (.int .u64) (.int .u32)) (.pair (.slice (.pair (.int .i64) (.pair .bool (.pair (.int .i64) .str)))) (.int .u64))), false⟩
def d95 : TD := ⟨.struct [(24, 0), (93, 2)], 6, 64, [.int .i64 0, .int .i64 0, .int .u64 0, .int .u32 0, .slice none 0 0, .int .u64 0], some (.pair (.pair (.int .i64) (.int .i64)) (.pair (.pair (.int .u64) (.int .u32)) (.pair (.slice (.pair (.int .i64) (.pair .bool (.pair (.int .i64) .str)))) (.int .u64)))), false⟩
def d99 : TD := ⟨.struct [(24, 0), (90, 2)], 4, 32, [.int .i64 0, .int .i64 0, .int .u64 0, .int .u32 0], some (.pair (.pair (.int .i64) (.int .i64)) (.pair (.int .u64) (.int .u32))), true⟩
def d117 : TD := ⟨.ptr 22, 1, 8, [.pointer none], none, false⟩
def d120 : TD := ⟨.struct [(3, 0), (1, 1)], 2, 16, [.int .i64 0, .nilFunc], none, false⟩
def d128 : TD := ⟨.slice 120, 1, 24, [.slice none 0 0], none, false⟩
def d129 : TD := ⟨.array 16 85, 16, 64, [.int .u32 0, .int .u32 0, .int .u32 0, .int .u32 0, .int .u32 0, .int .u32 0, .int .u32 0, .int .u32 0, .int .u32 0, .int .u32 0, .int .u32 0, .int .u32 0, .int .u32 0, .int .u32 0, .int .u32 0, .int .u32 0], none, false⟩
def d133 : TD := ⟨.struct [(3, 0), (4, 1), (2, 2), (9, 3)], 4, 40, [.int .i64 0, .bool false, .int .i64 0, .string ⟨#[]⟩], some (.pair (.int .i64) (.pair .bool (.pair (.int .i64) .str))), true⟩
def d145 : TD := ⟨.slice 117, 1, 24, [.slice none 0 0], none, false⟩
def d183 : TD := ⟨.array 8 5, 8, 8, [.int .u8 0, .int .u8 0, .int .u8 0, .int .u8 0, .int .u8 0, .int .u8 0, .int .u8 0, .int .u8 0], none, false⟩
def utab : List TD := [.no, d1, d2, d3, d4, d5, .no, .no, .no, d9, .no, .no, .no, .no, .no, .no, .no, .no, .no, .no, .no, .no, d22, .no, d24, d25, d26, .no, d28, d29, .no, d31, d32, d33, .no, .no, .no, .no, .no, .no, .no, .no, d42, d43, .no, d45, .no, d47, .no, d49, .no, .no, .no, .no, .no, .no, .no, d57, .no, .no, .no, .no, .no, .no, .no, .no, .no, .no, d68, .no, d70, .no, .no, .no, .no, d75, .no, .no, .no, .no, .no, .no, .no, d83, .no, d85, .no, .no, .no, .no, d90, d91, .no, d93, .no, d95, .no, .no, .no, d99, .no, .no, .no, .no, .no, .no, .no, .no, .no, .no, .no, .no, .no, .no, .no, .no, .no, d117, .no, .no, d120, .no, .no, .no, .no, .no, .no, .no, d128, d129, .no, .no, .no, d133, .no, .no, .no, .no, .no, .no, .no, .no, .no, .no, .no, d145, .no, .no, .no, .no, .no, .no, .no, .no, .no, .no, .no, .no, .no, .no, .no, .no, .no, .no, .no, .no, .no, .no, .no, .no, .no, .no, .no, .no, .no, .no, .no, .no, .no, .no, .no, .no, .no, d183]
def U : TEnv := fun t => utab.getD t TD.no
theorem u1 : TD.Holds Tryz.prog 1 d1 := hFunc (by kernel_rfl) (by kernel_rfl)
theorem u2 : TD.Holds Tryz.prog 2 d2 := hInt (by kernel_rfl) (by kernel_rfl)
theorem u3 : TD.Holds Tryz.prog 3 d3 := hInt (by kernel_rfl) (by kernel_rfl)
theorem u4 : TD.Holds Tryz.prog 4 d4 := hBool (by kernel_rfl) (by kernel_rfl)
theorem u5 : TD.Holds Tryz.prog 5 d5 := hInt (by kernel_rfl) (by kernel_rfl)
theorem u9 : TD.Holds Tryz.prog 9 d9 := hString (by kernel_rfl) (by kernel_rfl)
theorem u22 : TD.Holds Tryz.prog 22 d22 := hInt (by kernel_rfl) (by kernel_rfl)
theorem u24 : TD.Holds Tryz.prog 24 d24 := hStructE (by kernel_rfl) (by kernel_rfl) (by kernel_rfl) (by kernel_rfl) (by kernel_rfl)
theorem u25 : TD.Holds Tryz.prog 25 d25 := hSlice (by kernel_rfl) (by kernel_rfl)
theorem u26 : TD.Holds Tryz.prog 26 d26 := hSlice (by kernel_rfl) (by kernel_rfl)
theorem u28 : TD.Holds Tryz.prog 28 d28 := hStruct (by kernel_rfl) (by kernel_rfl)
theorem u29 : TD.Holds Tryz.prog 29 d29 := hSlice (by kernel_rfl) (by kernel_rfl)
theorem u31 : TD.Holds Tryz.prog 31 d31 := hStruct (by kernel_rfl) (by kernel_rfl)
theorem u32 : TD.Holds Tryz.prog 32 d32 := hSlice (by kernel_rfl) (by kernel_rfl)
theorem u33 : TD.Holds Tryz.prog 33 d33 := hInt (by kernel_rfl) (by kernel_rfl)
theorem u42 : TD.Holds Tryz.prog 42 d42 := hPtr (by kernel_rfl) (by kernel_rfl)
theorem u43 : TD.Holds Tryz.prog 43 d43 := hPtr (by kernel_rfl) (by kernel_rfl)
theorem u45 : TD.Holds Tryz.prog 45 d45 := hPtr (by kernel_rfl) (by kernel_rfl)
theorem u47 : TD.Holds Tryz.prog 47 d47 := hStruct (by kernel_rfl) (by kernel_rfl)
theorem u49 : TD.Holds Tryz.prog 49 d49 := hPtr (by kernel_rfl) (by kernel_rfl)
theorem u57 : TD.Holds Tryz.prog 57 d57 := hStruct (by kernel_rfl) (by kernel_rfl)
theorem u68 : TD.Holds Tryz.prog 68 d68 := hStruct (by kernel_rfl) (by kernel_rfl)
theorem u70 : TD.Holds Tryz.prog 70 d70 := hStruct (by kernel_rfl) (by kernel_rfl)
theorem u75 : TD.Holds Tryz.prog 75 d75 := hStruct (by kernel_rfl) (by kernel_rfl)
theorem u83 : TD.Holds Tryz.prog 83 d83 := hStruct (by kernel_rfl) (by kernel_rfl)
theorem u85 : TD.Holds Tryz.prog 85 d85 := hInt (by kernel_rfl) (by kernel_rfl)
theorem u90 : TD.Holds Tryz.prog 90 d90 := hStructE (by kernel_rfl) (by kernel_rfl) (by kernel_rfl) (by kernel_rfl) (by kernel_rfl)
theorem u91 : TD.Holds Tryz.prog 91 d91 := hSlice (by kernel_rfl) (by kernel_rfl)
theorem u93 : TD.Holds Tryz.prog 93 d93 := hStruct (by kernel_rfl) (by kernel_rfl)
theorem u95 : TD.Holds Tryz.prog 95 d95 := hStruct (by kernel_rfl) (by kernel_rfl)
theorem u99 : TD.Holds Tryz.prog 99 d99 := hStructE (by kernel_rfl) (by kernel_rfl) (by kernel_rfl) (by kernel_rfl) (by kernel_rfl)
theorem u117 : TD.Holds Tryz.prog 117 d117 := hPtr (by kernel_rfl) (by kernel_rfl)
theorem u120 : TD.Holds Tryz.prog 120 d120 := hStruct (by kernel_rfl) (by kernel_rfl)
theorem u128 : TD.Holds Tryz.prog 128 d128 := hSlice (by kernel_rfl) (by kernel_rfl)
theorem u129 : TD.Holds Tryz.prog 129 d129 := hArray (by kernel_rfl) (by kernel_rfl)
theorem u133 : TD.Holds Tryz.prog 133 d133 := hStructE (by kernel_rfl) (by kernel_rfl) (by kernel_rfl) (by kernel_rfl) (by kernel_rfl)
theorem u145 : TD.Holds Tryz.prog 145 d145 := hSlice (by kernel_rfl) (by kernel_rfl)
theorem u183 : TD.Holds Tryz.prog 183 d183 := hArray (by kernel_rfl) (by kernel_rfl)
theorem U_ok : U.Ok Tryz.prog := Tab.ok (Tab.skip <| Tab.cons u1 <| Tab.cons u2 <| Tab.cons u3 <| Tab.cons u4 <| Tab.cons u5 <| Tab.skip <| Tab.skip <| Tab.skip <| Tab.cons u9 <| Tab.skip <| Tab.skip <| Tab.skip <| Tab.skip <| Tab.skip <| Tab.skip <| Tab.skip <| Tab.skip <| Tab.skip <| Tab.skip <| Tab.skip <| Tab.skip <| Tab.cons u22 <| Tab.skip <| Tab.cons u24 <| Tab.cons u25 <| Tab.cons u26 <| Tab.skip <| Tab.cons u28 <| Tab.cons u29 <| Tab.skip <| Tab.cons u31 <| Tab.cons u32 <| Tab.cons u33 <| Tab.skip <| Tab.skip <| Tab.skip <| Tab.skip <| Tab.skip <| Tab.skip <| Tab.skip <| Tab.skip <| Tab.cons u42 <| Tab.cons u43 <| Tab.skip <| Tab.cons u45 <| Tab.skip <| Tab.cons u47 <| Tab.skip <| Tab.cons u49 <| Tab.skip <| Tab.skip <| Tab.skip <| Tab.skip <| Tab.skip <| Tab.skip <| Tab.skip <| Tab.cons u57 <| Tab.skip <| Tab.skip <| Tab.skip <| Tab.skip <| Tab.skip <| Tab.skip <| Tab.skip <| Tab.skip <| Tab.skip <| Tab.skip <| Tab.cons u68 <| Tab.skip <| Tab.cons u70 <| Tab.skip <| Tab.skip <| Tab.skip <| Tab.skip <| Tab.cons u75 <| Tab.skip <| Tab.skip <| Tab.skip <| Tab.skip <| Tab.skip <| Tab.skip <| Tab.skip <| Tab.cons u83 <| Tab.skip <| Tab.cons u85 <| Tab.skip <| Tab.skip <| Tab.skip <| Tab.skip <| Tab.cons u90 <| Tab.cons u91 <| Tab.skip <| Tab.cons u93 <| Tab.skip <| Tab.cons u95 <| Tab.skip <| Tab.skip <| Tab.skip <| Tab.cons u99 <| Tab.skip <| Tab.skip <| Tab.skip <| Tab.skip <| Tab.skip <| Tab.skip <| Tab.skip <| Tab.skip <| Tab.skip <| Tab.skip <| Tab.skip <| Tab.skip <| Tab.skip <| Tab.skip <| Tab.skip <| Tab.skip <| Tab.skip <| Tab.cons u117 <| Tab.skip <| Tab.skip <| Tab.cons u120 <| Tab.skip <| Tab.skip <| Tab.skip <| Tab.skip <| Tab.skip <| Tab.skip <| Tab.skip <| Tab.cons u128 <| Tab.cons u129 <| Tab.skip <| Tab.skip <| Tab.skip <| Tab.cons u133 <| Tab.skip <| Tab.skip <| Tab.skip <| Tab.skip <| Tab.skip <| Tab.skip <| Tab.skip <| Tab.skip <| Tab.skip <| Tab.skip <| Tab.skip <| Tab.cons u145 <| Tab.skip <| Tab.skip <| Tab.skip <| Tab.skip <| Tab.skip <| Tab.skip <| Tab.skip <| Tab.skip <| Tab.skip <| Tab.skip <| Tab.skip <| Tab.skip <| Tab.skip <| Tab.skip <| Tab.skip <| Tab.skip <| Tab.skip <| Tab.skip <| Tab.skip <| Tab.skip <| Tab.skip <| Tab.skip <| Tab.skip <| Tab.skip <| Tab.skip <| Tab.skip <| Tab.skip <| Tab.skip <| Tab.skip <| Tab.skip <| Tab.skip <| Tab.skip <| Tab.skip <| Tab.skip <| Tab.skip <| Tab.skip <| Tab.skip <| Tab.cons u183 <| Tab.nil)
theorem mix : Tryz.prog.follows .mixedOrders = true := by kernel_rfl
end Go.Hay.YtpgamibdlinhjaaGreat
