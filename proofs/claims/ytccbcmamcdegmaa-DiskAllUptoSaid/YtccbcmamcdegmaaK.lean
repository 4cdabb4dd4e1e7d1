/- Contracts of functions of Go's library at this program: the sorted keys of a map, a map's clone. Conditions: none. -/
import Derived.Test.YtccbcmamcdegmaaU
import Derived.Shelf.SortM.Plain
import Derived.Shelf.SortM.SortNone
import Derived.Ground.GgzProg
import Derived.Ground.SlgmProg
import Derived.Ground.SlmcProg
namespace Go.Proofs
open Go.RowKit Go.Maps Go.Sort Go.Shelf
shelf_lay_g SlLaysW.n5 Slmc 5 at Try 51 as Try.clone51
end Go.Proofs
namespace Go.Hay.Ytccbcmamcdegmaa
open Go Go.Hay Go.Proofs
theorem kClone51 [Sites] : (cloneFs 3000000 (.pair (.slice .byte) (.int .i64))).con.Ok Try.prog 51 := clone_ok (ρ := Try.clone51_ren) Try.clone51 rfl (enters_of Try.func51 (by kernel_rfl) rfl) (show Try.clone51_ren.f 5 = 51 by kernel_rfl)
end Go.Hay.Ytccbcmamcdegmaa
namespace Go.Proofs
open Go.RowKit Go.Maps Go.Sort Go.Shelf
shelf_lay_g SlLaysZ.n7 Ggz 7 at Try 58 as Try.keys58
shelf_lay_g SlLaysZ.n6 Ggz 6 at Try 57 as Try.sorted57
shelf_lay_g SlLaysM.n6 Slgm 6 at Try 70 as Try.sort70
theorem Try.sorts57 (m : Nat) : AnyZ.SortsIn Try.prog Try.sorted57_ren Fence.wide m :=
  ⟨fun blk off cap ss W hH hblk hsz => callsIn_wide.2 (AnyM.slices_Sort_string Try.sort70 blk off cap ss W hH hblk hsz),
   fun p cap W => callsIn_wide.2 (AnyM.slices_Sort_string_none Try.sort70 p cap W)⟩
end Go.Proofs
namespace Go.Hay.Ytccbcmamcdegmaa
open Go Go.Hay Go.Proofs
theorem kSorted58 [Sites] : (sortedFs 71 65 9 3000000 (.pair (.slice .byte) (.int .i64))).con.Ok Try.prog 57 :=
  sorted_ok (ρ6 := Try.sorted57_ren) (ρ10 := Try.keys58_ren) Try.sorted57 { Try.keys58 with } (show Try.sorted57_ren.t 26 = 9 by kernel_rfl) rfl rfl rfl Try.sorts57 (enters_of Try.func57 (by kernel_rfl) rfl) (enters_of Try.func70 (by kernel_rfl) rfl) (enters_of Try.func71 (by kernel_rfl) rfl) (show Try.sorted57_ren.f 6 = 57 by kernel_rfl) (show Try.keys58_ren.f 10 = 71 by kernel_rfl)
end Go.Hay.Ytccbcmamcdegmaa
