/-
  No cell of these rows narrows 'for every input' (looked for: loops, veiled, ifaces, maps, wideKeys, modest, calm, conditions, laid).
  DERIVED. THE GIVEN ROWS OF THIS SEAT. 6 by the template 'for every input the law returns true; each argument reads behind the call as it read before'; 0 by the template 'total and deterministic' (their statements: YthlojpcjafefjaaTotals.lean).
  GIVEN WITH THE SEED: the statements are not yours to turn. If you find one false, say at which input.
  Laid BY PROGRAM, IN A SANDBOX (cutbox-rows.mjs): the forced cells as the released guide's own fill.sh prints them over the translation 4aac8ac30e70e671… (all of the seat's roots in one cut). By AI agents, Wed Nov 11 2026. No macro, syntax, notation, axiom, sorry.
-/
import Derived.Test.YthlojpcjafefjaaChecked
import GoSem.Claim
import GoSem.ClaimJoined
import GoSem.ClaimMapViews
import Derived.JoinedTies
import Derived.KernelRfl
namespace Go.Proofs.Ythlojpcjafefjaa
/- THE CELL 'sum', in the pinned program and in every row, IS THE sha256 OF THE DUMP (.gsa) THAT YthlojpcjafefjaaProg.lean LOADS. Nothing in Lean hashes anything: it is a label: what it is worth is what the hold of that sum in a sandbox is worth. -/
noncomputable def Try.pinned : Pinned := { name := "ythlojpcjafefjaa", sum := "4aac8ac30e70e67121511df8ce5dacb0e681f19a4202d66c49f4cbbce2cd0c98", checked := Try.checked }
namespace Rows
def none {H : Type} : Left H := { results := [], args := [] }

/-- 'hayloftlaw09.RedoReads': WHATEVER THE INPUT: true; the input reads as it did. -/
def redoReadsSpec : ChangeSpec := { name := "redoReads", fn := fun _ => fun
  | [d1, d2] => { results := [.lit (.bool true)], args := [d1, d2] }
  | _ => none }
def redoReadsRow : OpenClaim := { program := "ythlojpcjafefjaa", sum := "4aac8ac30e70e67121511df8ce5dacb0e681f19a4202d66c49f4cbbce2cd0c98", func := "hayloft/hayloftlaw09.RedoReads", spec := "redoReads", unfollowed := true, recurses := true, apart := false }
def RedoReadsSaid : Prop := redoReadsRow.holds Try.pinned (OpenSpec.ofChange redoReadsSpec)

/-- ITS FALSE NEIGHBOUR: 'it returns false'. Refute it at one input. -/
def redoReadsWrong : ChangeSpec := { name := "redoReads", fn := fun _ => fun
  | [d1, d2] => { results := [.lit (.bool false)], args := [d1, d2] }
  | _ => none }
def RedoReadsWrongFalsely : Prop := redoReadsRow.holds Try.pinned (OpenSpec.ofChange redoReadsWrong)

/-- 'hayloftlaw09.RedoTorn': WHATEVER THE INPUT: true; the input reads as it did. -/
def redoTornSpec : ChangeSpec := { name := "redoTorn", fn := fun _ => fun
  | [d1, d2] => { results := [.lit (.bool true)], args := [d1, d2] }
  | _ => none }
def redoTornRow : OpenClaim := { program := "ythlojpcjafefjaa", sum := "4aac8ac30e70e67121511df8ce5dacb0e681f19a4202d66c49f4cbbce2cd0c98", func := "hayloft/hayloftlaw09.RedoTorn", spec := "redoTorn", unfollowed := true, recurses := true, apart := false }
def RedoTornSaid : Prop := redoTornRow.holds Try.pinned (OpenSpec.ofChange redoTornSpec)

/-- ITS FALSE NEIGHBOUR: 'it returns false'. Refute it at one input. -/
def redoTornWrong : ChangeSpec := { name := "redoTorn", fn := fun _ => fun
  | [d1, d2] => { results := [.lit (.bool false)], args := [d1, d2] }
  | _ => none }
def RedoTornWrongFalsely : Prop := redoTornRow.holds Try.pinned (OpenSpec.ofChange redoTornWrong)

/-- 'hayloftlaw09.RedoRange': WHATEVER THE INPUT: true; the input reads as it did. -/
def redoRangeSpec : ChangeSpec := { name := "redoRange", fn := fun _ => fun
  | [d] => { results := [.lit (.bool true)], args := [d] }
  | _ => none }
def redoRangeRow : OpenClaim := { program := "ythlojpcjafefjaa", sum := "4aac8ac30e70e67121511df8ce5dacb0e681f19a4202d66c49f4cbbce2cd0c98", func := "hayloft/hayloftlaw09.RedoRange", spec := "redoRange", unfollowed := true, recurses := true, apart := false }
def RedoRangeSaid : Prop := redoRangeRow.holds Try.pinned (OpenSpec.ofChange redoRangeSpec)

/-- ITS FALSE NEIGHBOUR: 'it returns false'. Refute it at one input. -/
def redoRangeWrong : ChangeSpec := { name := "redoRange", fn := fun _ => fun
  | [d] => { results := [.lit (.bool false)], args := [d] }
  | _ => none }
def RedoRangeWrongFalsely : Prop := redoRangeRow.holds Try.pinned (OpenSpec.ofChange redoRangeWrong)

/-- 'hayloftlaw09.RedoBatches': WHATEVER THE INPUT: true; the input reads as it did. -/
def redoBatchesSpec : ChangeSpec := { name := "redoBatches", fn := fun _ => fun
  | [d] => { results := [.lit (.bool true)], args := [d] }
  | _ => none }
def redoBatchesRow : OpenClaim := { program := "ythlojpcjafefjaa", sum := "4aac8ac30e70e67121511df8ce5dacb0e681f19a4202d66c49f4cbbce2cd0c98", func := "hayloft/hayloftlaw09.RedoBatches", spec := "redoBatches", unfollowed := true, recurses := true, apart := false }
def RedoBatchesSaid : Prop := redoBatchesRow.holds Try.pinned (OpenSpec.ofChange redoBatchesSpec)

/-- ITS FALSE NEIGHBOUR: 'it returns false'. Refute it at one input. -/
def redoBatchesWrong : ChangeSpec := { name := "redoBatches", fn := fun _ => fun
  | [d] => { results := [.lit (.bool false)], args := [d] }
  | _ => none }
def RedoBatchesWrongFalsely : Prop := redoBatchesRow.holds Try.pinned (OpenSpec.ofChange redoBatchesWrong)

/-- 'hayloftlaw09.RedoSpoilt': WHATEVER THE INPUT: true; the input reads as it did. -/
def redoSpoiltSpec : ChangeSpec := { name := "redoSpoilt", fn := fun _ => fun
  | [d1, d2] => { results := [.lit (.bool true)], args := [d1, d2] }
  | _ => none }
def redoSpoiltRow : OpenClaim := { program := "ythlojpcjafefjaa", sum := "4aac8ac30e70e67121511df8ce5dacb0e681f19a4202d66c49f4cbbce2cd0c98", func := "hayloft/hayloftlaw09.RedoSpoilt", spec := "redoSpoilt", unfollowed := true, recurses := true, apart := false }
def RedoSpoiltSaid : Prop := redoSpoiltRow.holds Try.pinned (OpenSpec.ofChange redoSpoiltSpec)

/-- ITS FALSE NEIGHBOUR: 'it returns false'. Refute it at one input. -/
def redoSpoiltWrong : ChangeSpec := { name := "redoSpoilt", fn := fun _ => fun
  | [d1, d2] => { results := [.lit (.bool false)], args := [d1, d2] }
  | _ => none }
def RedoSpoiltWrongFalsely : Prop := redoSpoiltRow.holds Try.pinned (OpenSpec.ofChange redoSpoiltWrong)

/-- 'hayloftlaw09.RedoCrash': WHATEVER THE INPUT: true; the input reads as it did. -/
def redoCrashSpec : ChangeSpec := { name := "redoCrash", fn := fun _ => fun
  | [d1, d2, d3] => { results := [.lit (.bool true)], args := [d1, d2, d3] }
  | _ => none }
def redoCrashRow : OpenClaim := { program := "ythlojpcjafefjaa", sum := "4aac8ac30e70e67121511df8ce5dacb0e681f19a4202d66c49f4cbbce2cd0c98", func := "hayloft/hayloftlaw09.RedoCrash", spec := "redoCrash", unfollowed := true, recurses := true, apart := false }
def RedoCrashSaid : Prop := redoCrashRow.holds Try.pinned (OpenSpec.ofChange redoCrashSpec)

/-- ITS FALSE NEIGHBOUR: 'it returns false'. Refute it at one input. -/
def redoCrashWrong : ChangeSpec := { name := "redoCrash", fn := fun _ => fun
  | [d1, d2, d3] => { results := [.lit (.bool false)], args := [d1, d2, d3] }
  | _ => none }
def RedoCrashWrongFalsely : Prop := redoCrashRow.holds Try.pinned (OpenSpec.ofChange redoCrashWrong)

/- THE SECOND FORM. 'bulk': how many values and letters a reading holds, each counted each time it is reached (what is shared counts as often as it is met; a slice's spare places count too). A statement '..UptoSaid' is the law's where the arguments, and the package variables that the reading takes, are together of bulk at most 1048576: NARROWER than '..Said'. Prove '..Said' where nothing that the law and all that it calls make is longer than what came in: it says more and counts as full. Else prove '..UptoSaid'. A law counts once. -/
mutual
def uptoBulk {H : Type} : DataW H → Nat
  | .lit (.string bytes) => bytes.length + 1
  | .lit _ => 1
  | .nil => 1
  | .ptr d => uptoBulk d + 1
  | .slice elems spare => uptoBulkAll elems + uptoBulkAll spare + 1
  | .agg parts => uptoBulkAll parts + 1
  | .iface _ d => uptoBulk d + 1
  | .map entries => uptoBulkEntries entries + 1
  | .held _ => 1
def uptoBulkAll {H : Type} : List (DataW H) → Nat
  | [] => 0
  | d :: r => uptoBulk d + uptoBulkAll r
def uptoBulkEntries {H : Type} : List (Lit × DataW H) → Nat
  | [] => 0
  | x :: r => uptoBulkEntry x + uptoBulkEntries r
def uptoBulkEntry {H : Type} : Lit × DataW H → Nat
  | (.string bytes, d) => bytes.length + uptoBulk d + 1
  | (_, d) => uptoBulk d + 1
 end
def uptoSmall : (H : Type) → List (DataW H) → Bool := fun _ ds => decide (uptoBulkAll ds ≤ 1048576)
def OpenSpec.upto (s : _root_.Go.ChangeSpec) : _root_.Go.OpenSpec := { _root_.Go.OpenSpec.ofChange s with cond := some uptoSmall }

/-- 'hayloftlaw09.RedoReads', WHERE WHAT IT READS IS OF BULK AT MOST 1048576: true; the input reads as it did. -/
def redoReadsUptoRow : OpenClaim := { program := "ythlojpcjafefjaa", sum := "4aac8ac30e70e67121511df8ce5dacb0e681f19a4202d66c49f4cbbce2cd0c98", func := "hayloft/hayloftlaw09.RedoReads", spec := "redoReads", unfollowed := true, recurses := true, apart := false, narrowed := true }
def RedoReadsUptoSaid : Prop := redoReadsUptoRow.holds Try.pinned (OpenSpec.upto redoReadsSpec)

/-- 'hayloftlaw09.RedoTorn', WHERE WHAT IT READS IS OF BULK AT MOST 1048576: true; the input reads as it did. -/
def redoTornUptoRow : OpenClaim := { program := "ythlojpcjafefjaa", sum := "4aac8ac30e70e67121511df8ce5dacb0e681f19a4202d66c49f4cbbce2cd0c98", func := "hayloft/hayloftlaw09.RedoTorn", spec := "redoTorn", unfollowed := true, recurses := true, apart := false, narrowed := true }
def RedoTornUptoSaid : Prop := redoTornUptoRow.holds Try.pinned (OpenSpec.upto redoTornSpec)

/-- 'hayloftlaw09.RedoRange', WHERE WHAT IT READS IS OF BULK AT MOST 1048576: true; the input reads as it did. -/
def redoRangeUptoRow : OpenClaim := { program := "ythlojpcjafefjaa", sum := "4aac8ac30e70e67121511df8ce5dacb0e681f19a4202d66c49f4cbbce2cd0c98", func := "hayloft/hayloftlaw09.RedoRange", spec := "redoRange", unfollowed := true, recurses := true, apart := false, narrowed := true }
def RedoRangeUptoSaid : Prop := redoRangeUptoRow.holds Try.pinned (OpenSpec.upto redoRangeSpec)

/-- 'hayloftlaw09.RedoBatches', WHERE WHAT IT READS IS OF BULK AT MOST 1048576: true; the input reads as it did. -/
def redoBatchesUptoRow : OpenClaim := { program := "ythlojpcjafefjaa", sum := "4aac8ac30e70e67121511df8ce5dacb0e681f19a4202d66c49f4cbbce2cd0c98", func := "hayloft/hayloftlaw09.RedoBatches", spec := "redoBatches", unfollowed := true, recurses := true, apart := false, narrowed := true }
def RedoBatchesUptoSaid : Prop := redoBatchesUptoRow.holds Try.pinned (OpenSpec.upto redoBatchesSpec)

/-- 'hayloftlaw09.RedoSpoilt', WHERE WHAT IT READS IS OF BULK AT MOST 1048576: true; the input reads as it did. -/
def redoSpoiltUptoRow : OpenClaim := { program := "ythlojpcjafefjaa", sum := "4aac8ac30e70e67121511df8ce5dacb0e681f19a4202d66c49f4cbbce2cd0c98", func := "hayloft/hayloftlaw09.RedoSpoilt", spec := "redoSpoilt", unfollowed := true, recurses := true, apart := false, narrowed := true }
def RedoSpoiltUptoSaid : Prop := redoSpoiltUptoRow.holds Try.pinned (OpenSpec.upto redoSpoiltSpec)

/-- 'hayloftlaw09.RedoCrash', WHERE WHAT IT READS IS OF BULK AT MOST 1048576: true; the input reads as it did. -/
def redoCrashUptoRow : OpenClaim := { program := "ythlojpcjafefjaa", sum := "4aac8ac30e70e67121511df8ce5dacb0e681f19a4202d66c49f4cbbce2cd0c98", func := "hayloft/hayloftlaw09.RedoCrash", spec := "redoCrash", unfollowed := true, recurses := true, apart := false, narrowed := true }
def RedoCrashUptoSaid : Prop := redoCrashUptoRow.holds Try.pinned (OpenSpec.upto redoCrashSpec)

end Rows
end Go.Proofs.Ythlojpcjafefjaa
