/-
  No cell of these rows narrows 'for every input' (looked for: loops, veiled, ifaces, maps, wideKeys, modest, calm, conditions, laid).
  DERIVED. THE GIVEN ROWS OF THIS SEAT. 6 by the template 'for every input the law returns true; each argument reads behind the call as it read before'; 0 by the template 'total and deterministic' (their statements: YtfbbfjjmbelfdaaTotals.lean).
  GIVEN WITH THE SEED: the statements are not yours to turn. If you find one false, say at which input.
  Laid BY PROGRAM, IN A SANDBOX (cutbox-rows.mjs): the forced cells as the released guide's own fill.sh prints them over the translation b405ea1817528401… (all of the seat's roots in one cut). By AI agents, Wed Nov 11 2026. No macro, syntax, notation, axiom, sorry.
-/
import Derived.Test.YtfbbfjjmbelfdaaChecked
import GoSem.Claim
import GoSem.ClaimJoined
import GoSem.ClaimMapViews
import Derived.JoinedTies
import Derived.KernelRfl
namespace Go.Proofs.Ytfbbfjjmbelfdaa
/- THE CELL 'sum', in the pinned program and in every row, IS THE sha256 OF THE DUMP (.gsa) THAT YtfbbfjjmbelfdaaProg.lean LOADS. Nothing in Lean hashes anything: it is a label: what it is worth is what the hold of that sum in a sandbox is worth. -/
noncomputable def Try.pinned : Pinned := { name := "ytfbbfjjmbelfdaa", sum := "b405ea1817528401e8b73f52c19e0d6f974711a67fa509a36fee5f341c7c00dc", checked := Try.checked }
namespace Rows
def none {H : Type} : Left H := { results := [], args := [] }

/-- 'hayloftlaw05.NetCounts': WHATEVER THE INPUT: true; the input reads as it did. -/
def netCountsSpec : ChangeSpec := { name := "netCounts", fn := fun _ => fun
  | [d1, d2] => { results := [.lit (.bool true)], args := [d1, d2] }
  | _ => none }
def netCountsRow : OpenClaim := { program := "ytfbbfjjmbelfdaa", sum := "b405ea1817528401e8b73f52c19e0d6f974711a67fa509a36fee5f341c7c00dc", func := "hayloft/hayloftlaw05.NetCounts", spec := "netCounts", apart := false }
def NetCountsSaid : Prop := netCountsRow.holds Try.pinned (OpenSpec.ofChange netCountsSpec)

/-- ITS FALSE NEIGHBOUR: 'it returns false'. Refute it at one input. -/
def netCountsWrong : ChangeSpec := { name := "netCounts", fn := fun _ => fun
  | [d1, d2] => { results := [.lit (.bool false)], args := [d1, d2] }
  | _ => none }
def NetCountsWrongFalsely : Prop := netCountsRow.holds Try.pinned (OpenSpec.ofChange netCountsWrong)

/-- 'hayloftlaw05.NetOrder': WHATEVER THE INPUT: true; the input reads as it did. -/
def netOrderSpec : ChangeSpec := { name := "netOrder", fn := fun _ => fun
  | [d1, d2] => { results := [.lit (.bool true)], args := [d1, d2] }
  | _ => none }
def netOrderRow : OpenClaim := { program := "ytfbbfjjmbelfdaa", sum := "b405ea1817528401e8b73f52c19e0d6f974711a67fa509a36fee5f341c7c00dc", func := "hayloft/hayloftlaw05.NetOrder", spec := "netOrder", apart := false }
def NetOrderSaid : Prop := netOrderRow.holds Try.pinned (OpenSpec.ofChange netOrderSpec)

/-- ITS FALSE NEIGHBOUR: 'it returns false'. Refute it at one input. -/
def netOrderWrong : ChangeSpec := { name := "netOrder", fn := fun _ => fun
  | [d1, d2] => { results := [.lit (.bool false)], args := [d1, d2] }
  | _ => none }
def NetOrderWrongFalsely : Prop := netOrderRow.holds Try.pinned (OpenSpec.ofChange netOrderWrong)

/-- 'hayloftlaw05.NetAll': WHATEVER THE INPUT: true; the input reads as it did. -/
def netAllSpec : ChangeSpec := { name := "netAll", fn := fun _ => fun
  | [d1, d2] => { results := [.lit (.bool true)], args := [d1, d2] }
  | _ => none }
def netAllRow : OpenClaim := { program := "ytfbbfjjmbelfdaa", sum := "b405ea1817528401e8b73f52c19e0d6f974711a67fa509a36fee5f341c7c00dc", func := "hayloft/hayloftlaw05.NetAll", spec := "netAll", unfollowed := true, recurses := true, apart := false }
def NetAllSaid : Prop := netAllRow.holds Try.pinned (OpenSpec.ofChange netAllSpec)

/-- ITS FALSE NEIGHBOUR: 'it returns false'. Refute it at one input. -/
def netAllWrong : ChangeSpec := { name := "netAll", fn := fun _ => fun
  | [d1, d2] => { results := [.lit (.bool false)], args := [d1, d2] }
  | _ => none }
def NetAllWrongFalsely : Prop := netAllRow.holds Try.pinned (OpenSpec.ofChange netAllWrong)

/-- 'hayloftlaw05.NetClones': WHATEVER THE INPUT: true; the input reads as it did. -/
def netClonesSpec : ChangeSpec := { name := "netClones", fn := fun _ => fun
  | [d1, d2] => { results := [.lit (.bool true)], args := [d1, d2] }
  | _ => none }
def netClonesRow : OpenClaim := { program := "ytfbbfjjmbelfdaa", sum := "b405ea1817528401e8b73f52c19e0d6f974711a67fa509a36fee5f341c7c00dc", func := "hayloft/hayloftlaw05.NetClones", spec := "netClones", unfollowed := true, recurses := true, apart := false }
def NetClonesSaid : Prop := netClonesRow.holds Try.pinned (OpenSpec.ofChange netClonesSpec)

/-- ITS FALSE NEIGHBOUR: 'it returns false'. Refute it at one input. -/
def netClonesWrong : ChangeSpec := { name := "netClones", fn := fun _ => fun
  | [d1, d2] => { results := [.lit (.bool false)], args := [d1, d2] }
  | _ => none }
def NetClonesWrongFalsely : Prop := netClonesRow.holds Try.pinned (OpenSpec.ofChange netClonesWrong)

/-- 'hayloftlaw05.NetRange': WHATEVER THE INPUT: true; the input reads as it did. -/
def netRangeSpec : ChangeSpec := { name := "netRange", fn := fun _ => fun
  | [d1, d2, d3] => { results := [.lit (.bool true)], args := [d1, d2, d3] }
  | _ => none }
def netRangeRow : OpenClaim := { program := "ytfbbfjjmbelfdaa", sum := "b405ea1817528401e8b73f52c19e0d6f974711a67fa509a36fee5f341c7c00dc", func := "hayloft/hayloftlaw05.NetRange", spec := "netRange", unfollowed := true, recurses := true, apart := false }
def NetRangeSaid : Prop := netRangeRow.holds Try.pinned (OpenSpec.ofChange netRangeSpec)

/-- ITS FALSE NEIGHBOUR: 'it returns false'. Refute it at one input. -/
def netRangeWrong : ChangeSpec := { name := "netRange", fn := fun _ => fun
  | [d1, d2, d3] => { results := [.lit (.bool false)], args := [d1, d2, d3] }
  | _ => none }
def NetRangeWrongFalsely : Prop := netRangeRow.holds Try.pinned (OpenSpec.ofChange netRangeWrong)

/-- 'hayloftlaw05.NetUndone': WHATEVER THE INPUT: true; the input reads as it did. -/
def netUndoneSpec : ChangeSpec := { name := "netUndone", fn := fun _ => fun
  | [d1, d2, d3] => { results := [.lit (.bool true)], args := [d1, d2, d3] }
  | _ => none }
def netUndoneRow : OpenClaim := { program := "ytfbbfjjmbelfdaa", sum := "b405ea1817528401e8b73f52c19e0d6f974711a67fa509a36fee5f341c7c00dc", func := "hayloft/hayloftlaw05.NetUndone", spec := "netUndone", unfollowed := true, recurses := true, apart := false }
def NetUndoneSaid : Prop := netUndoneRow.holds Try.pinned (OpenSpec.ofChange netUndoneSpec)

/-- ITS FALSE NEIGHBOUR: 'it returns false'. Refute it at one input. -/
def netUndoneWrong : ChangeSpec := { name := "netUndone", fn := fun _ => fun
  | [d1, d2, d3] => { results := [.lit (.bool false)], args := [d1, d2, d3] }
  | _ => none }
def NetUndoneWrongFalsely : Prop := netUndoneRow.holds Try.pinned (OpenSpec.ofChange netUndoneWrong)

/- THE SECOND FORM. 'bulk': how many values and letters a reading holds, each counted each time it is reached (what is shared counts as often as it is met; a slice's spare places count too). A statement '..UptoSaid' is the law's where the arguments, and the package variables that the reading takes, are together of bulk at most 1048576: NARROWER than '..Said'. Prove '..Said' where nothing that the law and all that it calls make is longer than what came in: it says more and counts as full. Else prove '..UptoSaid'. A law counts once. -/
mutual
def uptoBulk {H : Type} : DataW H → Nat
  | .lit (.string bytes) => bytes.length + 1
  | .lit _ => 1
  | .nil => 1
  | .ptr d => uptoBulk d + 1
  | .slice elems spare => uptoBulkAll elems + uptoBulkAll spare + 1
  | .agg parts => uptoBulkAll parts + 1
  | .iface _ d => uptoBulk d + 1
  | .map entries => uptoBulkEntries entries + 1
  | .held _ => 1
def uptoBulkAll {H : Type} : List (DataW H) → Nat
  | [] => 0
  | d :: r => uptoBulk d + uptoBulkAll r
def uptoBulkEntries {H : Type} : List (Lit × DataW H) → Nat
  | [] => 0
  | x :: r => uptoBulkEntry x + uptoBulkEntries r
def uptoBulkEntry {H : Type} : Lit × DataW H → Nat
  | (.string bytes, d) => bytes.length + uptoBulk d + 1
  | (_, d) => uptoBulk d + 1
 end
def uptoSmall : (H : Type) → List (DataW H) → Bool := fun _ ds => decide (uptoBulkAll ds ≤ 1048576)
def OpenSpec.upto (s : _root_.Go.ChangeSpec) : _root_.Go.OpenSpec := { _root_.Go.OpenSpec.ofChange s with cond := some uptoSmall }

/-- 'hayloftlaw05.NetCounts', WHERE WHAT IT READS IS OF BULK AT MOST 1048576: true; the input reads as it did. -/
def netCountsUptoRow : OpenClaim := { program := "ytfbbfjjmbelfdaa", sum := "b405ea1817528401e8b73f52c19e0d6f974711a67fa509a36fee5f341c7c00dc", func := "hayloft/hayloftlaw05.NetCounts", spec := "netCounts", apart := false, narrowed := true }
def NetCountsUptoSaid : Prop := netCountsUptoRow.holds Try.pinned (OpenSpec.upto netCountsSpec)

/-- 'hayloftlaw05.NetOrder', WHERE WHAT IT READS IS OF BULK AT MOST 1048576: true; the input reads as it did. -/
def netOrderUptoRow : OpenClaim := { program := "ytfbbfjjmbelfdaa", sum := "b405ea1817528401e8b73f52c19e0d6f974711a67fa509a36fee5f341c7c00dc", func := "hayloft/hayloftlaw05.NetOrder", spec := "netOrder", apart := false, narrowed := true }
def NetOrderUptoSaid : Prop := netOrderUptoRow.holds Try.pinned (OpenSpec.upto netOrderSpec)

/-- 'hayloftlaw05.NetAll', WHERE WHAT IT READS IS OF BULK AT MOST 1048576: true; the input reads as it did. -/
def netAllUptoRow : OpenClaim := { program := "ytfbbfjjmbelfdaa", sum := "b405ea1817528401e8b73f52c19e0d6f974711a67fa509a36fee5f341c7c00dc", func := "hayloft/hayloftlaw05.NetAll", spec := "netAll", unfollowed := true, recurses := true, apart := false, narrowed := true }
def NetAllUptoSaid : Prop := netAllUptoRow.holds Try.pinned (OpenSpec.upto netAllSpec)

/-- 'hayloftlaw05.NetClones', WHERE WHAT IT READS IS OF BULK AT MOST 1048576: true; the input reads as it did. -/
def netClonesUptoRow : OpenClaim := { program := "ytfbbfjjmbelfdaa", sum := "b405ea1817528401e8b73f52c19e0d6f974711a67fa509a36fee5f341c7c00dc", func := "hayloft/hayloftlaw05.NetClones", spec := "netClones", unfollowed := true, recurses := true, apart := false, narrowed := true }
def NetClonesUptoSaid : Prop := netClonesUptoRow.holds Try.pinned (OpenSpec.upto netClonesSpec)

/-- 'hayloftlaw05.NetRange', WHERE WHAT IT READS IS OF BULK AT MOST 1048576: true; the input reads as it did. -/
def netRangeUptoRow : OpenClaim := { program := "ytfbbfjjmbelfdaa", sum := "b405ea1817528401e8b73f52c19e0d6f974711a67fa509a36fee5f341c7c00dc", func := "hayloft/hayloftlaw05.NetRange", spec := "netRange", unfollowed := true, recurses := true, apart := false, narrowed := true }
def NetRangeUptoSaid : Prop := netRangeUptoRow.holds Try.pinned (OpenSpec.upto netRangeSpec)

/-- 'hayloftlaw05.NetUndone', WHERE WHAT IT READS IS OF BULK AT MOST 1048576: true; the input reads as it did. -/
def netUndoneUptoRow : OpenClaim := { program := "ytfbbfjjmbelfdaa", sum := "b405ea1817528401e8b73f52c19e0d6f974711a67fa509a36fee5f341c7c00dc", func := "hayloft/hayloftlaw05.NetUndone", spec := "netUndone", unfollowed := true, recurses := true, apart := false, narrowed := true }
def NetUndoneUptoSaid : Prop := netUndoneUptoRow.holds Try.pinned (OpenSpec.upto netUndoneSpec)

end Rows
end Go.Proofs.Ytfbbfjjmbelfdaa
