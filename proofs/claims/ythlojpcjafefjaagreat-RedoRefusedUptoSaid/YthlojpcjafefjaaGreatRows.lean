/-
  No cell of these rows narrows 'for every input' (looked for: loops, veiled, ifaces, maps, wideKeys, modest, calm, conditions, laid).
  DERIVED. THE GIVEN ROWS OF THIS SEAT. 2 by the template 'for every input the law returns true; each argument reads behind the call as it read before'; 0 by the template 'total and deterministic' (their statements: YthlojpcjafefjaaGreatTotals.lean).
  GIVEN WITH THE SEED: the statements are not yours to turn. If you find one false, say at which input.
  Laid BY PROGRAM, IN A SANDBOX (cutbox-rows.mjs): the forced cells as the released guide's own fill.sh prints them over the translation b931a249e2cae6a6… (all of the seat's roots in one cut). By AI agents, Wed Nov 11 2026. No macro, syntax, notation, axiom, sorry.
-/
import Derived.Test.YthlojpcjafefjaaGreatChecked
import GoSem.Claim
import GoSem.ClaimJoined
import GoSem.ClaimMapViews
import Derived.JoinedTies
import Derived.KernelRfl
namespace Go.Proofs.YthlojpcjafefjaaGreat
/- THE CELL 'sum', in the pinned program and in every row, IS THE sha256 OF THE DUMP (.gsa) THAT YthlojpcjafefjaaGreatProg.lean LOADS. Nothing in Lean hashes anything: it is a label: what it is worth is what the hold of that sum in a sandbox is worth. -/
noncomputable def Tryz.pinned : Pinned := { name := "ythlojpcjafefjaagreat", sum := "b931a249e2cae6a6865898f6e92d1ea7d1639092d75fb83ce1b212747a6eb03c", checked := Tryz.checked }
namespace Rows
def none {H : Type} : Left H := { results := [], args := [] }

/-- 'hayloftlaw09.RedoRefused': WHATEVER THE INPUT: true; the input reads as it did. -/
def redoRefusedSpec : ChangeSpec := { name := "redoRefused", fn := fun _ => fun
  | [d1, d2, d3] => { results := [.lit (.bool true)], args := [d1, d2, d3] }
  | _ => none }
def redoRefusedRow : OpenClaim := { program := "ythlojpcjafefjaagreat", sum := "b931a249e2cae6a6865898f6e92d1ea7d1639092d75fb83ce1b212747a6eb03c", func := "hayloft/hayloftlaw09.RedoRefused", spec := "redoRefused", unfollowed := true, recurses := true, apart := false }
def RedoRefusedSaid : Prop := redoRefusedRow.holds Tryz.pinned (OpenSpec.ofChange redoRefusedSpec)

/-- ITS FALSE NEIGHBOUR: 'it returns false'. Refute it at one input. -/
def redoRefusedWrong : ChangeSpec := { name := "redoRefused", fn := fun _ => fun
  | [d1, d2, d3] => { results := [.lit (.bool false)], args := [d1, d2, d3] }
  | _ => none }
def RedoRefusedWrongFalsely : Prop := redoRefusedRow.holds Tryz.pinned (OpenSpec.ofChange redoRefusedWrong)

/-- 'hayloftlaw09.RedoAll': WHATEVER THE INPUT: true; the input reads as it did. -/
def redoAllSpec : ChangeSpec := { name := "redoAll", fn := fun _ => fun
  | [d1, d2] => { results := [.lit (.bool true)], args := [d1, d2] }
  | _ => none }
def redoAllRow : OpenClaim := { program := "ythlojpcjafefjaagreat", sum := "b931a249e2cae6a6865898f6e92d1ea7d1639092d75fb83ce1b212747a6eb03c", func := "hayloft/hayloftlaw09.RedoAll", spec := "redoAll", unfollowed := true, recurses := true, apart := false }
def RedoAllSaid : Prop := redoAllRow.holds Tryz.pinned (OpenSpec.ofChange redoAllSpec)

/-- ITS FALSE NEIGHBOUR: 'it returns false'. Refute it at one input. -/
def redoAllWrong : ChangeSpec := { name := "redoAll", fn := fun _ => fun
  | [d1, d2] => { results := [.lit (.bool false)], args := [d1, d2] }
  | _ => none }
def RedoAllWrongFalsely : Prop := redoAllRow.holds Tryz.pinned (OpenSpec.ofChange redoAllWrong)

/- THE SECOND FORM. 'bulk': how many values and letters a reading holds, each counted each time it is reached (what is shared counts as often as it is met; a slice's spare places count too). A statement '..UptoSaid' is the law's where the arguments, and the package variables that the reading takes, are together of bulk at most 1048576: NARROWER than '..Said'. Prove '..Said' where nothing that the law and all that it calls make is longer than what came in: it says more and counts as full. Else prove '..UptoSaid'. A law counts once. -/
mutual
def uptoBulk {H : Type} : DataW H → Nat
  | .lit (.string bytes) => bytes.length + 1
  | .lit _ => 1
  | .nil => 1
  | .ptr d => uptoBulk d + 1
  | .slice elems spare => uptoBulkAll elems + uptoBulkAll spare + 1
  | .agg parts => uptoBulkAll parts + 1
  | .iface _ d => uptoBulk d + 1
  | .map entries => uptoBulkEntries entries + 1
  | .held _ => 1
def uptoBulkAll {H : Type} : List (DataW H) → Nat
  | [] => 0
  | d :: r => uptoBulk d + uptoBulkAll r
def uptoBulkEntries {H : Type} : List (Lit × DataW H) → Nat
  | [] => 0
  | x :: r => uptoBulkEntry x + uptoBulkEntries r
def uptoBulkEntry {H : Type} : Lit × DataW H → Nat
  | (.string bytes, d) => bytes.length + uptoBulk d + 1
  | (_, d) => uptoBulk d + 1
 end
def uptoSmall : (H : Type) → List (DataW H) → Bool := fun _ ds => decide (uptoBulkAll ds ≤ 1048576)
def OpenSpec.upto (s : _root_.Go.ChangeSpec) : _root_.Go.OpenSpec := { _root_.Go.OpenSpec.ofChange s with cond := some uptoSmall }

/-- 'hayloftlaw09.RedoRefused', WHERE WHAT IT READS IS OF BULK AT MOST 1048576: true; the input reads as it did. -/
def redoRefusedUptoRow : OpenClaim := { program := "ythlojpcjafefjaagreat", sum := "b931a249e2cae6a6865898f6e92d1ea7d1639092d75fb83ce1b212747a6eb03c", func := "hayloft/hayloftlaw09.RedoRefused", spec := "redoRefused", unfollowed := true, recurses := true, apart := false, narrowed := true }
def RedoRefusedUptoSaid : Prop := redoRefusedUptoRow.holds Tryz.pinned (OpenSpec.upto redoRefusedSpec)

/-- 'hayloftlaw09.RedoAll', WHERE WHAT IT READS IS OF BULK AT MOST 1048576: true; the input reads as it did. -/
def redoAllUptoRow : OpenClaim := { program := "ythlojpcjafefjaagreat", sum := "b931a249e2cae6a6865898f6e92d1ea7d1639092d75fb83ce1b212747a6eb03c", func := "hayloft/hayloftlaw09.RedoAll", spec := "redoAll", unfollowed := true, recurses := true, apart := false, narrowed := true }
def RedoAllUptoSaid : Prop := redoAllUptoRow.holds Tryz.pinned (OpenSpec.upto redoAllSpec)

end Rows
end Go.Proofs.YthlojpcjafefjaaGreat
