/-
  No cell of these rows narrows 'for every input' (looked for: loops, veiled, ifaces, maps, wideKeys, modest, calm, conditions, laid).
  DERIVED. THE GIVEN ROWS OF THIS SEAT. 6 by the template 'for every input the law returns true; each argument reads behind the call as it read before'; 0 by the template 'total and deterministic' (their statements: YtnaaaldeadjohaaTotals.lean).
  GIVEN WITH THE SEED: the statements are not yours to turn. If you find one false, say at which input.
  Laid BY PROGRAM, IN A SANDBOX (cutbox-rows.mjs): the forced cells as the released guide's own fill.sh prints them over the translation a8aaa7298282142d… (all of the seat's roots in one cut). By AI agents, Wed Nov 11 2026. No macro, syntax, notation, axiom, sorry.
-/
import Derived.Test.YtnaaaldeadjohaaChecked
import GoSem.Claim
import GoSem.ClaimJoined
import GoSem.ClaimMapViews
import Derived.JoinedTies
import Derived.KernelRfl
namespace Go.Proofs.Ytnaaaldeadjohaa
/- THE CELL 'sum', in the pinned program and in every row, IS THE sha256 OF THE DUMP (.gsa) THAT YtnaaaldeadjohaaProg.lean LOADS. Nothing in Lean hashes anything: it is a label: what it is worth is what the hold of that sum in a sandbox is worth. -/
noncomputable def Try.pinned : Pinned := { name := "ytnaaaldeadjohaa", sum := "a8aaa7298282142d8e535d73ce1b3703028ad978f6f68e5660ebac356a9646c1", checked := Try.checked }
namespace Rows
def none {H : Type} : Left H := { results := [], args := [] }

/-- 'hayloftlaw13.CatalogChecks': WHATEVER THE INPUT: true; the input reads as it did. -/
def catalogChecksSpec : ChangeSpec := { name := "catalogChecks", fn := fun _ => fun
  | [d] => { results := [.lit (.bool true)], args := [d] }
  | _ => none }
def catalogChecksRow : OpenClaim := { program := "ytnaaaldeadjohaa", sum := "a8aaa7298282142d8e535d73ce1b3703028ad978f6f68e5660ebac356a9646c1", func := "hayloft/hayloftlaw13.CatalogChecks", spec := "catalogChecks", unfollowed := true, recurses := true, apart := false }
def CatalogChecksSaid : Prop := catalogChecksRow.holds Try.pinned (OpenSpec.ofChange catalogChecksSpec)

/-- ITS FALSE NEIGHBOUR: 'it returns false'. Refute it at one input. -/
def catalogChecksWrong : ChangeSpec := { name := "catalogChecks", fn := fun _ => fun
  | [d] => { results := [.lit (.bool false)], args := [d] }
  | _ => none }
def CatalogChecksWrongFalsely : Prop := catalogChecksRow.holds Try.pinned (OpenSpec.ofChange catalogChecksWrong)

/-- 'hayloftlaw13.CatalogLies': WHATEVER THE INPUT: true; the input reads as it did. -/
def catalogLiesSpec : ChangeSpec := { name := "catalogLies", fn := fun _ => fun
  | [d1, d2, d3] => { results := [.lit (.bool true)], args := [d1, d2, d3] }
  | _ => none }
def catalogLiesRow : OpenClaim := { program := "ytnaaaldeadjohaa", sum := "a8aaa7298282142d8e535d73ce1b3703028ad978f6f68e5660ebac356a9646c1", func := "hayloft/hayloftlaw13.CatalogLies", spec := "catalogLies", unfollowed := true, recurses := true, apart := false }
def CatalogLiesSaid : Prop := catalogLiesRow.holds Try.pinned (OpenSpec.ofChange catalogLiesSpec)

/-- ITS FALSE NEIGHBOUR: 'it returns false'. Refute it at one input. -/
def catalogLiesWrong : ChangeSpec := { name := "catalogLies", fn := fun _ => fun
  | [d1, d2, d3] => { results := [.lit (.bool false)], args := [d1, d2, d3] }
  | _ => none }
def CatalogLiesWrongFalsely : Prop := catalogLiesRow.holds Try.pinned (OpenSpec.ofChange catalogLiesWrong)

/-- 'hayloftlaw13.CatalogSafe': WHATEVER THE INPUT: true; the input reads as it did. -/
def catalogSafeSpec : ChangeSpec := { name := "catalogSafe", fn := fun _ => fun
  | [d1, d2] => { results := [.lit (.bool true)], args := [d1, d2] }
  | _ => none }
def catalogSafeRow : OpenClaim := { program := "ytnaaaldeadjohaa", sum := "a8aaa7298282142d8e535d73ce1b3703028ad978f6f68e5660ebac356a9646c1", func := "hayloft/hayloftlaw13.CatalogSafe", spec := "catalogSafe", unfollowed := true, recurses := true, apart := false }
def CatalogSafeSaid : Prop := catalogSafeRow.holds Try.pinned (OpenSpec.ofChange catalogSafeSpec)

/-- ITS FALSE NEIGHBOUR: 'it returns false'. Refute it at one input. -/
def catalogSafeWrong : ChangeSpec := { name := "catalogSafe", fn := fun _ => fun
  | [d1, d2] => { results := [.lit (.bool false)], args := [d1, d2] }
  | _ => none }
def CatalogSafeWrongFalsely : Prop := catalogSafeRow.holds Try.pinned (OpenSpec.ofChange catalogSafeWrong)

/-- 'hayloftlaw13.CatalogHomes': WHATEVER THE INPUT: true; the input reads as it did. -/
def catalogHomesSpec : ChangeSpec := { name := "catalogHomes", fn := fun _ => fun
  | [d] => { results := [.lit (.bool true)], args := [d] }
  | _ => none }
def catalogHomesRow : OpenClaim := { program := "ytnaaaldeadjohaa", sum := "a8aaa7298282142d8e535d73ce1b3703028ad978f6f68e5660ebac356a9646c1", func := "hayloft/hayloftlaw13.CatalogHomes", spec := "catalogHomes", unfollowed := true, recurses := true, apart := false }
def CatalogHomesSaid : Prop := catalogHomesRow.holds Try.pinned (OpenSpec.ofChange catalogHomesSpec)

/-- ITS FALSE NEIGHBOUR: 'it returns false'. Refute it at one input. -/
def catalogHomesWrong : ChangeSpec := { name := "catalogHomes", fn := fun _ => fun
  | [d] => { results := [.lit (.bool false)], args := [d] }
  | _ => none }
def CatalogHomesWrongFalsely : Prop := catalogHomesRow.holds Try.pinned (OpenSpec.ofChange catalogHomesWrong)

/-- 'hayloftlaw13.CatalogParts': WHATEVER THE INPUT: true; the input reads as it did. -/
def catalogPartsSpec : ChangeSpec := { name := "catalogParts", fn := fun _ => fun
  | [d1, d2, d3] => { results := [.lit (.bool true)], args := [d1, d2, d3] }
  | _ => none }
def catalogPartsRow : OpenClaim := { program := "ytnaaaldeadjohaa", sum := "a8aaa7298282142d8e535d73ce1b3703028ad978f6f68e5660ebac356a9646c1", func := "hayloft/hayloftlaw13.CatalogParts", spec := "catalogParts", unfollowed := true, recurses := true, apart := false }
def CatalogPartsSaid : Prop := catalogPartsRow.holds Try.pinned (OpenSpec.ofChange catalogPartsSpec)

/-- ITS FALSE NEIGHBOUR: 'it returns false'. Refute it at one input. -/
def catalogPartsWrong : ChangeSpec := { name := "catalogParts", fn := fun _ => fun
  | [d1, d2, d3] => { results := [.lit (.bool false)], args := [d1, d2, d3] }
  | _ => none }
def CatalogPartsWrongFalsely : Prop := catalogPartsRow.holds Try.pinned (OpenSpec.ofChange catalogPartsWrong)

/-- 'hayloftlaw13.CatalogCounts': WHATEVER THE INPUT: true; the input reads as it did. -/
def catalogCountsSpec : ChangeSpec := { name := "catalogCounts", fn := fun _ => fun
  | [d1, d2] => { results := [.lit (.bool true)], args := [d1, d2] }
  | _ => none }
def catalogCountsRow : OpenClaim := { program := "ytnaaaldeadjohaa", sum := "a8aaa7298282142d8e535d73ce1b3703028ad978f6f68e5660ebac356a9646c1", func := "hayloft/hayloftlaw13.CatalogCounts", spec := "catalogCounts", unfollowed := true, recurses := true, apart := false }
def CatalogCountsSaid : Prop := catalogCountsRow.holds Try.pinned (OpenSpec.ofChange catalogCountsSpec)

/-- ITS FALSE NEIGHBOUR: 'it returns false'. Refute it at one input. -/
def catalogCountsWrong : ChangeSpec := { name := "catalogCounts", fn := fun _ => fun
  | [d1, d2] => { results := [.lit (.bool false)], args := [d1, d2] }
  | _ => none }
def CatalogCountsWrongFalsely : Prop := catalogCountsRow.holds Try.pinned (OpenSpec.ofChange catalogCountsWrong)

/- THE SECOND FORM. 'bulk': how many values and letters a reading holds, each counted each time it is reached (what is shared counts as often as it is met; a slice's spare places count too). A statement '..UptoSaid' is the law's where the arguments, and the package variables that the reading takes, are together of bulk at most 1048576: NARROWER than '..Said'. Prove '..Said' where nothing that the law and all that it calls make is longer than what came in: it says more and counts as full. Else prove '..UptoSaid'. A law counts once. -/
mutual
def uptoBulk {H : Type} : DataW H → Nat
  | .lit (.string bytes) => bytes.length + 1
  | .lit _ => 1
  | .nil => 1
  | .ptr d => uptoBulk d + 1
  | .slice elems spare => uptoBulkAll elems + uptoBulkAll spare + 1
  | .agg parts => uptoBulkAll parts + 1
  | .iface _ d => uptoBulk d + 1
  | .map entries => uptoBulkEntries entries + 1
  | .held _ => 1
def uptoBulkAll {H : Type} : List (DataW H) → Nat
  | [] => 0
  | d :: r => uptoBulk d + uptoBulkAll r
def uptoBulkEntries {H : Type} : List (Lit × DataW H) → Nat
  | [] => 0
  | x :: r => uptoBulkEntry x + uptoBulkEntries r
def uptoBulkEntry {H : Type} : Lit × DataW H → Nat
  | (.string bytes, d) => bytes.length + uptoBulk d + 1
  | (_, d) => uptoBulk d + 1
 end
def uptoSmall : (H : Type) → List (DataW H) → Bool := fun _ ds => decide (uptoBulkAll ds ≤ 1048576)
def OpenSpec.upto (s : _root_.Go.ChangeSpec) : _root_.Go.OpenSpec := { _root_.Go.OpenSpec.ofChange s with cond := some uptoSmall }

/-- 'hayloftlaw13.CatalogChecks', WHERE WHAT IT READS IS OF BULK AT MOST 1048576: true; the input reads as it did. -/
def catalogChecksUptoRow : OpenClaim := { program := "ytnaaaldeadjohaa", sum := "a8aaa7298282142d8e535d73ce1b3703028ad978f6f68e5660ebac356a9646c1", func := "hayloft/hayloftlaw13.CatalogChecks", spec := "catalogChecks", unfollowed := true, recurses := true, apart := false, narrowed := true }
def CatalogChecksUptoSaid : Prop := catalogChecksUptoRow.holds Try.pinned (OpenSpec.upto catalogChecksSpec)

/-- 'hayloftlaw13.CatalogLies', WHERE WHAT IT READS IS OF BULK AT MOST 1048576: true; the input reads as it did. -/
def catalogLiesUptoRow : OpenClaim := { program := "ytnaaaldeadjohaa", sum := "a8aaa7298282142d8e535d73ce1b3703028ad978f6f68e5660ebac356a9646c1", func := "hayloft/hayloftlaw13.CatalogLies", spec := "catalogLies", unfollowed := true, recurses := true, apart := false, narrowed := true }
def CatalogLiesUptoSaid : Prop := catalogLiesUptoRow.holds Try.pinned (OpenSpec.upto catalogLiesSpec)

/-- 'hayloftlaw13.CatalogSafe', WHERE WHAT IT READS IS OF BULK AT MOST 1048576: true; the input reads as it did. -/
def catalogSafeUptoRow : OpenClaim := { program := "ytnaaaldeadjohaa", sum := "a8aaa7298282142d8e535d73ce1b3703028ad978f6f68e5660ebac356a9646c1", func := "hayloft/hayloftlaw13.CatalogSafe", spec := "catalogSafe", unfollowed := true, recurses := true, apart := false, narrowed := true }
def CatalogSafeUptoSaid : Prop := catalogSafeUptoRow.holds Try.pinned (OpenSpec.upto catalogSafeSpec)

/-- 'hayloftlaw13.CatalogHomes', WHERE WHAT IT READS IS OF BULK AT MOST 1048576: true; the input reads as it did. -/
def catalogHomesUptoRow : OpenClaim := { program := "ytnaaaldeadjohaa", sum := "a8aaa7298282142d8e535d73ce1b3703028ad978f6f68e5660ebac356a9646c1", func := "hayloft/hayloftlaw13.CatalogHomes", spec := "catalogHomes", unfollowed := true, recurses := true, apart := false, narrowed := true }
def CatalogHomesUptoSaid : Prop := catalogHomesUptoRow.holds Try.pinned (OpenSpec.upto catalogHomesSpec)

/-- 'hayloftlaw13.CatalogParts', WHERE WHAT IT READS IS OF BULK AT MOST 1048576: true; the input reads as it did. -/
def catalogPartsUptoRow : OpenClaim := { program := "ytnaaaldeadjohaa", sum := "a8aaa7298282142d8e535d73ce1b3703028ad978f6f68e5660ebac356a9646c1", func := "hayloft/hayloftlaw13.CatalogParts", spec := "catalogParts", unfollowed := true, recurses := true, apart := false, narrowed := true }
def CatalogPartsUptoSaid : Prop := catalogPartsUptoRow.holds Try.pinned (OpenSpec.upto catalogPartsSpec)

/-- 'hayloftlaw13.CatalogCounts', WHERE WHAT IT READS IS OF BULK AT MOST 1048576: true; the input reads as it did. -/
def catalogCountsUptoRow : OpenClaim := { program := "ytnaaaldeadjohaa", sum := "a8aaa7298282142d8e535d73ce1b3703028ad978f6f68e5660ebac356a9646c1", func := "hayloft/hayloftlaw13.CatalogCounts", spec := "catalogCounts", unfollowed := true, recurses := true, apart := false, narrowed := true }
def CatalogCountsUptoSaid : Prop := catalogCountsUptoRow.holds Try.pinned (OpenSpec.upto catalogCountsSpec)

end Rows
end Go.Proofs.Ytnaaaldeadjohaa
