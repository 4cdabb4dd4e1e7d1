/-
  No cell of these rows narrows 'for every input' (looked for: loops, veiled, ifaces, maps, wideKeys, modest, calm, conditions, laid).
  DERIVED. THE GIVEN ROWS OF THIS SEAT. 7 by the template 'for every input the law returns true; each argument reads behind the call as it read before'; 0 by the template 'total and deterministic' (their statements: YtkdcillgnlfabaaTotals.lean).
  GIVEN WITH THE SEED: the statements are not yours to turn. If you find one false, say at which input.
  Laid BY PROGRAM, IN A SANDBOX (cutbox-rows.mjs): the forced cells as the released guide's own fill.sh prints them over the translation 1a6880fd147e6bdb… (all of the seat's roots in one cut). By AI agents, Wed Nov 11 2026. No macro, syntax, notation, axiom, sorry.
-/
import Derived.Test.YtkdcillgnlfabaaChecked
import GoSem.Claim
import GoSem.ClaimJoined
import GoSem.ClaimMapViews
import Derived.JoinedTies
import Derived.KernelRfl
namespace Go.Proofs.Ytkdcillgnlfabaa
/- THE CELL 'sum', in the pinned program and in every row, IS THE sha256 OF THE DUMP (.gsa) THAT YtkdcillgnlfabaaProg.lean LOADS. Nothing in Lean hashes anything: it is a label: what it is worth is what the hold of that sum in a sandbox is worth. -/
noncomputable def Try.pinned : Pinned := { name := "ytkdcillgnlfabaa", sum := "1a6880fd147e6bdb0930e81f0a90f0baf40a28bbd39ff40c4dcf9b1626b98861", checked := Try.checked }
namespace Rows
def none {H : Type} : Left H := { results := [], args := [] }

/-- 'hayloftlaw03.RowsCodes': WHATEVER THE INPUT: true; the input reads as it did. -/
def rowsCodesSpec : ChangeSpec := { name := "rowsCodes", fn := fun _ => fun
  | [d1, d2] => { results := [.lit (.bool true)], args := [d1, d2] }
  | _ => none }
def rowsCodesRow : OpenClaim := { program := "ytkdcillgnlfabaa", sum := "1a6880fd147e6bdb0930e81f0a90f0baf40a28bbd39ff40c4dcf9b1626b98861", func := "hayloft/hayloftlaw03.RowsCodes", spec := "rowsCodes", apart := false }
def RowsCodesSaid : Prop := rowsCodesRow.holds Try.pinned (OpenSpec.ofChange rowsCodesSpec)

/-- ITS FALSE NEIGHBOUR: 'it returns false'. Refute it at one input. -/
def rowsCodesWrong : ChangeSpec := { name := "rowsCodes", fn := fun _ => fun
  | [d1, d2] => { results := [.lit (.bool false)], args := [d1, d2] }
  | _ => none }
def RowsCodesWrongFalsely : Prop := rowsCodesRow.holds Try.pinned (OpenSpec.ofChange rowsCodesWrong)

/-- 'hayloftlaw03.RowsPrefix': WHATEVER THE INPUT: true; the input reads as it did. -/
def rowsPrefixSpec : ChangeSpec := { name := "rowsPrefix", fn := fun _ => fun
  | [d1, d2, d3] => { results := [.lit (.bool true)], args := [d1, d2, d3] }
  | _ => none }
def rowsPrefixRow : OpenClaim := { program := "ytkdcillgnlfabaa", sum := "1a6880fd147e6bdb0930e81f0a90f0baf40a28bbd39ff40c4dcf9b1626b98861", func := "hayloft/hayloftlaw03.RowsPrefix", spec := "rowsPrefix", apart := false }
def RowsPrefixSaid : Prop := rowsPrefixRow.holds Try.pinned (OpenSpec.ofChange rowsPrefixSpec)

/-- ITS FALSE NEIGHBOUR: 'it returns false'. Refute it at one input. -/
def rowsPrefixWrong : ChangeSpec := { name := "rowsPrefix", fn := fun _ => fun
  | [d1, d2, d3] => { results := [.lit (.bool false)], args := [d1, d2, d3] }
  | _ => none }
def RowsPrefixWrongFalsely : Prop := rowsPrefixRow.holds Try.pinned (OpenSpec.ofChange rowsPrefixWrong)

/-- 'hayloftlaw03.RowsHashes': WHATEVER THE INPUT: true; the input reads as it did. -/
def rowsHashesSpec : ChangeSpec := { name := "rowsHashes", fn := fun _ => fun
  | [d1, d2] => { results := [.lit (.bool true)], args := [d1, d2] }
  | _ => none }
def rowsHashesRow : OpenClaim := { program := "ytkdcillgnlfabaa", sum := "1a6880fd147e6bdb0930e81f0a90f0baf40a28bbd39ff40c4dcf9b1626b98861", func := "hayloft/hayloftlaw03.RowsHashes", spec := "rowsHashes", apart := false }
def RowsHashesSaid : Prop := rowsHashesRow.holds Try.pinned (OpenSpec.ofChange rowsHashesSpec)

/-- ITS FALSE NEIGHBOUR: 'it returns false'. Refute it at one input. -/
def rowsHashesWrong : ChangeSpec := { name := "rowsHashes", fn := fun _ => fun
  | [d1, d2] => { results := [.lit (.bool false)], args := [d1, d2] }
  | _ => none }
def RowsHashesWrongFalsely : Prop := rowsHashesRow.holds Try.pinned (OpenSpec.ofChange rowsHashesWrong)

/-- 'hayloftlaw03.RowsOrder': WHATEVER THE INPUT: true; the input reads as it did. -/
def rowsOrderSpec : ChangeSpec := { name := "rowsOrder", fn := fun _ => fun
  | [d1, d2] => { results := [.lit (.bool true)], args := [d1, d2] }
  | _ => none }
def rowsOrderRow : OpenClaim := { program := "ytkdcillgnlfabaa", sum := "1a6880fd147e6bdb0930e81f0a90f0baf40a28bbd39ff40c4dcf9b1626b98861", func := "hayloft/hayloftlaw03.RowsOrder", spec := "rowsOrder", apart := false }
def RowsOrderSaid : Prop := rowsOrderRow.holds Try.pinned (OpenSpec.ofChange rowsOrderSpec)

/-- ITS FALSE NEIGHBOUR: 'it returns false'. Refute it at one input. -/
def rowsOrderWrong : ChangeSpec := { name := "rowsOrder", fn := fun _ => fun
  | [d1, d2] => { results := [.lit (.bool false)], args := [d1, d2] }
  | _ => none }
def RowsOrderWrongFalsely : Prop := rowsOrderRow.holds Try.pinned (OpenSpec.ofChange rowsOrderWrong)

/-- 'hayloftlaw03.RowsApart': WHATEVER THE INPUT: true; the input reads as it did. -/
def rowsApartSpec : ChangeSpec := { name := "rowsApart", fn := fun _ => fun
  | [d1, d2, d3] => { results := [.lit (.bool true)], args := [d1, d2, d3] }
  | _ => none }
def rowsApartRow : OpenClaim := { program := "ytkdcillgnlfabaa", sum := "1a6880fd147e6bdb0930e81f0a90f0baf40a28bbd39ff40c4dcf9b1626b98861", func := "hayloft/hayloftlaw03.RowsApart", spec := "rowsApart", apart := false }
def RowsApartSaid : Prop := rowsApartRow.holds Try.pinned (OpenSpec.ofChange rowsApartSpec)

/-- ITS FALSE NEIGHBOUR: 'it returns false'. Refute it at one input. -/
def rowsApartWrong : ChangeSpec := { name := "rowsApart", fn := fun _ => fun
  | [d1, d2, d3] => { results := [.lit (.bool false)], args := [d1, d2, d3] }
  | _ => none }
def RowsApartWrongFalsely : Prop := rowsApartRow.holds Try.pinned (OpenSpec.ofChange rowsApartWrong)

/-- 'hayloftlaw03.RowsKeys': WHATEVER THE INPUT: true; the input reads as it did. -/
def rowsKeysSpec : ChangeSpec := { name := "rowsKeys", fn := fun _ => fun
  | [d1, d2] => { results := [.lit (.bool true)], args := [d1, d2] }
  | _ => none }
def rowsKeysRow : OpenClaim := { program := "ytkdcillgnlfabaa", sum := "1a6880fd147e6bdb0930e81f0a90f0baf40a28bbd39ff40c4dcf9b1626b98861", func := "hayloft/hayloftlaw03.RowsKeys", spec := "rowsKeys", apart := false }
def RowsKeysSaid : Prop := rowsKeysRow.holds Try.pinned (OpenSpec.ofChange rowsKeysSpec)

/-- ITS FALSE NEIGHBOUR: 'it returns false'. Refute it at one input. -/
def rowsKeysWrong : ChangeSpec := { name := "rowsKeys", fn := fun _ => fun
  | [d1, d2] => { results := [.lit (.bool false)], args := [d1, d2] }
  | _ => none }
def RowsKeysWrongFalsely : Prop := rowsKeysRow.holds Try.pinned (OpenSpec.ofChange rowsKeysWrong)

/-- 'hayloftlaw03.RowsBack': WHATEVER THE INPUT: true; the input reads as it did. -/
def rowsBackSpec : ChangeSpec := { name := "rowsBack", fn := fun _ => fun
  | [d1, d2] => { results := [.lit (.bool true)], args := [d1, d2] }
  | _ => none }
def rowsBackRow : OpenClaim := { program := "ytkdcillgnlfabaa", sum := "1a6880fd147e6bdb0930e81f0a90f0baf40a28bbd39ff40c4dcf9b1626b98861", func := "hayloft/hayloftlaw03.RowsBack", spec := "rowsBack", apart := false }
def RowsBackSaid : Prop := rowsBackRow.holds Try.pinned (OpenSpec.ofChange rowsBackSpec)

/-- ITS FALSE NEIGHBOUR: 'it returns false'. Refute it at one input. -/
def rowsBackWrong : ChangeSpec := { name := "rowsBack", fn := fun _ => fun
  | [d1, d2] => { results := [.lit (.bool false)], args := [d1, d2] }
  | _ => none }
def RowsBackWrongFalsely : Prop := rowsBackRow.holds Try.pinned (OpenSpec.ofChange rowsBackWrong)

/- THE SECOND FORM. 'bulk': how many values and letters a reading holds, each counted each time it is reached (what is shared counts as often as it is met; a slice's spare places count too). A statement '..UptoSaid' is the law's where the arguments, and the package variables that the reading takes, are together of bulk at most 1048576: NARROWER than '..Said'. Prove '..Said' where nothing that the law and all that it calls make is longer than what came in: it says more and counts as full. Else prove '..UptoSaid'. A law counts once. -/
mutual
def uptoBulk {H : Type} : DataW H → Nat
  | .lit (.string bytes) => bytes.length + 1
  | .lit _ => 1
  | .nil => 1
  | .ptr d => uptoBulk d + 1
  | .slice elems spare => uptoBulkAll elems + uptoBulkAll spare + 1
  | .agg parts => uptoBulkAll parts + 1
  | .iface _ d => uptoBulk d + 1
  | .map entries => uptoBulkEntries entries + 1
  | .held _ => 1
def uptoBulkAll {H : Type} : List (DataW H) → Nat
  | [] => 0
  | d :: r => uptoBulk d + uptoBulkAll r
def uptoBulkEntries {H : Type} : List (Lit × DataW H) → Nat
  | [] => 0
  | x :: r => uptoBulkEntry x + uptoBulkEntries r
def uptoBulkEntry {H : Type} : Lit × DataW H → Nat
  | (.string bytes, d) => bytes.length + uptoBulk d + 1
  | (_, d) => uptoBulk d + 1
 end
def uptoSmall : (H : Type) → List (DataW H) → Bool := fun _ ds => decide (uptoBulkAll ds ≤ 1048576)
def OpenSpec.upto (s : _root_.Go.ChangeSpec) : _root_.Go.OpenSpec := { _root_.Go.OpenSpec.ofChange s with cond := some uptoSmall }

/-- 'hayloftlaw03.RowsCodes', WHERE WHAT IT READS IS OF BULK AT MOST 1048576: true; the input reads as it did. -/
def rowsCodesUptoRow : OpenClaim := { program := "ytkdcillgnlfabaa", sum := "1a6880fd147e6bdb0930e81f0a90f0baf40a28bbd39ff40c4dcf9b1626b98861", func := "hayloft/hayloftlaw03.RowsCodes", spec := "rowsCodes", apart := false, narrowed := true }
def RowsCodesUptoSaid : Prop := rowsCodesUptoRow.holds Try.pinned (OpenSpec.upto rowsCodesSpec)

/-- 'hayloftlaw03.RowsPrefix', WHERE WHAT IT READS IS OF BULK AT MOST 1048576: true; the input reads as it did. -/
def rowsPrefixUptoRow : OpenClaim := { program := "ytkdcillgnlfabaa", sum := "1a6880fd147e6bdb0930e81f0a90f0baf40a28bbd39ff40c4dcf9b1626b98861", func := "hayloft/hayloftlaw03.RowsPrefix", spec := "rowsPrefix", apart := false, narrowed := true }
def RowsPrefixUptoSaid : Prop := rowsPrefixUptoRow.holds Try.pinned (OpenSpec.upto rowsPrefixSpec)

/-- 'hayloftlaw03.RowsHashes', WHERE WHAT IT READS IS OF BULK AT MOST 1048576: true; the input reads as it did. -/
def rowsHashesUptoRow : OpenClaim := { program := "ytkdcillgnlfabaa", sum := "1a6880fd147e6bdb0930e81f0a90f0baf40a28bbd39ff40c4dcf9b1626b98861", func := "hayloft/hayloftlaw03.RowsHashes", spec := "rowsHashes", apart := false, narrowed := true }
def RowsHashesUptoSaid : Prop := rowsHashesUptoRow.holds Try.pinned (OpenSpec.upto rowsHashesSpec)

/-- 'hayloftlaw03.RowsOrder', WHERE WHAT IT READS IS OF BULK AT MOST 1048576: true; the input reads as it did. -/
def rowsOrderUptoRow : OpenClaim := { program := "ytkdcillgnlfabaa", sum := "1a6880fd147e6bdb0930e81f0a90f0baf40a28bbd39ff40c4dcf9b1626b98861", func := "hayloft/hayloftlaw03.RowsOrder", spec := "rowsOrder", apart := false, narrowed := true }
def RowsOrderUptoSaid : Prop := rowsOrderUptoRow.holds Try.pinned (OpenSpec.upto rowsOrderSpec)

/-- 'hayloftlaw03.RowsApart', WHERE WHAT IT READS IS OF BULK AT MOST 1048576: true; the input reads as it did. -/
def rowsApartUptoRow : OpenClaim := { program := "ytkdcillgnlfabaa", sum := "1a6880fd147e6bdb0930e81f0a90f0baf40a28bbd39ff40c4dcf9b1626b98861", func := "hayloft/hayloftlaw03.RowsApart", spec := "rowsApart", apart := false, narrowed := true }
def RowsApartUptoSaid : Prop := rowsApartUptoRow.holds Try.pinned (OpenSpec.upto rowsApartSpec)

/-- 'hayloftlaw03.RowsKeys', WHERE WHAT IT READS IS OF BULK AT MOST 1048576: true; the input reads as it did. -/
def rowsKeysUptoRow : OpenClaim := { program := "ytkdcillgnlfabaa", sum := "1a6880fd147e6bdb0930e81f0a90f0baf40a28bbd39ff40c4dcf9b1626b98861", func := "hayloft/hayloftlaw03.RowsKeys", spec := "rowsKeys", apart := false, narrowed := true }
def RowsKeysUptoSaid : Prop := rowsKeysUptoRow.holds Try.pinned (OpenSpec.upto rowsKeysSpec)

/-- 'hayloftlaw03.RowsBack', WHERE WHAT IT READS IS OF BULK AT MOST 1048576: true; the input reads as it did. -/
def rowsBackUptoRow : OpenClaim := { program := "ytkdcillgnlfabaa", sum := "1a6880fd147e6bdb0930e81f0a90f0baf40a28bbd39ff40c4dcf9b1626b98861", func := "hayloft/hayloftlaw03.RowsBack", spec := "rowsBack", apart := false, narrowed := true }
def RowsBackUptoSaid : Prop := rowsBackUptoRow.holds Try.pinned (OpenSpec.upto rowsBackSpec)

end Rows
end Go.Proofs.Ytkdcillgnlfabaa
