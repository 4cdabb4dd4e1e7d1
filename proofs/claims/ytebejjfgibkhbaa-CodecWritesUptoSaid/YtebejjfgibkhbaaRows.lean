/-
  No cell of these rows narrows 'for every input' (looked for: loops, veiled, ifaces, maps, wideKeys, modest, calm, conditions, laid).
  DERIVED. THE GIVEN ROWS OF THIS SEAT. 11 by the template 'for every input the law returns true; each argument reads behind the call as it read before'; 0 by the template 'total and deterministic' (their statements: YtebejjfgibkhbaaTotals.lean).
  GIVEN WITH THE SEED: the statements are not yours to turn. If you find one false, say at which input.
  Laid BY PROGRAM, IN A SANDBOX (cutbox-rows.mjs): the forced cells as the released guide's own fill.sh prints them over the translation ba5ef30f804c0569… (all of the seat's roots in one cut). By AI agents, Wed Nov 11 2026. No macro, syntax, notation, axiom, sorry.
-/
import Derived.Test.YtebejjfgibkhbaaChecked
import GoSem.Claim
import GoSem.ClaimJoined
import GoSem.ClaimMapViews
import Derived.JoinedTies
import Derived.KernelRfl
namespace Go.Proofs.Ytebejjfgibkhbaa
/- THE CELL 'sum', in the pinned program and in every row, IS THE sha256 OF THE DUMP (.gsa) THAT YtebejjfgibkhbaaProg.lean LOADS. Nothing in Lean hashes anything: it is a label: what it is worth is what the hold of that sum in a sandbox is worth. -/
noncomputable def Try.pinned : Pinned := { name := "ytebejjfgibkhbaa", sum := "ba5ef30f804c0569d6f4f2f66741da275cc86041c157ea4d9ff7628a9be98d67", checked := Try.checked }
namespace Rows
def none {H : Type} : Left H := { results := [], args := [] }

/-- 'hayloftlaw01.CodecVars': WHATEVER THE INPUT: true; the input reads as it did. -/
def codecVarsSpec : ChangeSpec := { name := "codecVars", fn := fun _ => fun
  | [d1, d2] => { results := [.lit (.bool true)], args := [d1, d2] }
  | _ => none }
def codecVarsRow : OpenClaim := { program := "ytebejjfgibkhbaa", sum := "ba5ef30f804c0569d6f4f2f66741da275cc86041c157ea4d9ff7628a9be98d67", func := "hayloft/hayloftlaw01.CodecVars", spec := "codecVars", apart := false }
def CodecVarsSaid : Prop := codecVarsRow.holds Try.pinned (OpenSpec.ofChange codecVarsSpec)

/-- ITS FALSE NEIGHBOUR: 'it returns false'. Refute it at one input. -/
def codecVarsWrong : ChangeSpec := { name := "codecVars", fn := fun _ => fun
  | [d1, d2] => { results := [.lit (.bool false)], args := [d1, d2] }
  | _ => none }
def CodecVarsWrongFalsely : Prop := codecVarsRow.holds Try.pinned (OpenSpec.ofChange codecVarsWrong)

/-- 'hayloftlaw01.CodecWrites': WHATEVER THE INPUT: true; the input reads as it did. -/
def codecWritesSpec : ChangeSpec := { name := "codecWrites", fn := fun _ => fun
  | [d] => { results := [.lit (.bool true)], args := [d] }
  | _ => none }
def codecWritesRow : OpenClaim := { program := "ytebejjfgibkhbaa", sum := "ba5ef30f804c0569d6f4f2f66741da275cc86041c157ea4d9ff7628a9be98d67", func := "hayloft/hayloftlaw01.CodecWrites", spec := "codecWrites", apart := false }
def CodecWritesSaid : Prop := codecWritesRow.holds Try.pinned (OpenSpec.ofChange codecWritesSpec)

/-- ITS FALSE NEIGHBOUR: 'it returns false'. Refute it at one input. -/
def codecWritesWrong : ChangeSpec := { name := "codecWrites", fn := fun _ => fun
  | [d] => { results := [.lit (.bool false)], args := [d] }
  | _ => none }
def CodecWritesWrongFalsely : Prop := codecWritesRow.holds Try.pinned (OpenSpec.ofChange codecWritesWrong)

/-- 'hayloftlaw01.CodecReads': WHATEVER THE INPUT: true; the input reads as it did. -/
def codecReadsSpec : ChangeSpec := { name := "codecReads", fn := fun _ => fun
  | [d1, d2] => { results := [.lit (.bool true)], args := [d1, d2] }
  | _ => none }
def codecReadsRow : OpenClaim := { program := "ytebejjfgibkhbaa", sum := "ba5ef30f804c0569d6f4f2f66741da275cc86041c157ea4d9ff7628a9be98d67", func := "hayloft/hayloftlaw01.CodecReads", spec := "codecReads", apart := false }
def CodecReadsSaid : Prop := codecReadsRow.holds Try.pinned (OpenSpec.ofChange codecReadsSpec)

/-- ITS FALSE NEIGHBOUR: 'it returns false'. Refute it at one input. -/
def codecReadsWrong : ChangeSpec := { name := "codecReads", fn := fun _ => fun
  | [d1, d2] => { results := [.lit (.bool false)], args := [d1, d2] }
  | _ => none }
def CodecReadsWrongFalsely : Prop := codecReadsRow.holds Try.pinned (OpenSpec.ofChange codecReadsWrong)

/-- 'hayloftlaw01.CodecBack': WHATEVER THE INPUT: true; the input reads as it did. -/
def codecBackSpec : ChangeSpec := { name := "codecBack", fn := fun _ => fun
  | [d1, d2] => { results := [.lit (.bool true)], args := [d1, d2] }
  | _ => none }
def codecBackRow : OpenClaim := { program := "ytebejjfgibkhbaa", sum := "ba5ef30f804c0569d6f4f2f66741da275cc86041c157ea4d9ff7628a9be98d67", func := "hayloft/hayloftlaw01.CodecBack", spec := "codecBack", apart := false }
def CodecBackSaid : Prop := codecBackRow.holds Try.pinned (OpenSpec.ofChange codecBackSpec)

/-- ITS FALSE NEIGHBOUR: 'it returns false'. Refute it at one input. -/
def codecBackWrong : ChangeSpec := { name := "codecBack", fn := fun _ => fun
  | [d1, d2] => { results := [.lit (.bool false)], args := [d1, d2] }
  | _ => none }
def CodecBackWrongFalsely : Prop := codecBackRow.holds Try.pinned (OpenSpec.ofChange codecBackWrong)

/-- 'hayloftlaw01.CodecPuts': WHATEVER THE INPUT: true; the input reads as it did. -/
def codecPutsSpec : ChangeSpec := { name := "codecPuts", fn := fun _ => fun
  | [d] => { results := [.lit (.bool true)], args := [d] }
  | _ => none }
def codecPutsRow : OpenClaim := { program := "ytebejjfgibkhbaa", sum := "ba5ef30f804c0569d6f4f2f66741da275cc86041c157ea4d9ff7628a9be98d67", func := "hayloft/hayloftlaw01.CodecPuts", spec := "codecPuts", unfollowed := true, recurses := true, apart := false }
def CodecPutsSaid : Prop := codecPutsRow.holds Try.pinned (OpenSpec.ofChange codecPutsSpec)

/-- ITS FALSE NEIGHBOUR: 'it returns false'. Refute it at one input. -/
def codecPutsWrong : ChangeSpec := { name := "codecPuts", fn := fun _ => fun
  | [d] => { results := [.lit (.bool false)], args := [d] }
  | _ => none }
def CodecPutsWrongFalsely : Prop := codecPutsRow.holds Try.pinned (OpenSpec.ofChange codecPutsWrong)

/-- 'hayloftlaw01.CodecItems': WHATEVER THE INPUT: true; the input reads as it did. -/
def codecItemsSpec : ChangeSpec := { name := "codecItems", fn := fun _ => fun
  | [d1, d2, d3] => { results := [.lit (.bool true)], args := [d1, d2, d3] }
  | _ => none }
def codecItemsRow : OpenClaim := { program := "ytebejjfgibkhbaa", sum := "ba5ef30f804c0569d6f4f2f66741da275cc86041c157ea4d9ff7628a9be98d67", func := "hayloft/hayloftlaw01.CodecItems", spec := "codecItems", unfollowed := true, recurses := true, apart := false }
def CodecItemsSaid : Prop := codecItemsRow.holds Try.pinned (OpenSpec.ofChange codecItemsSpec)

/-- ITS FALSE NEIGHBOUR: 'it returns false'. Refute it at one input. -/
def codecItemsWrong : ChangeSpec := { name := "codecItems", fn := fun _ => fun
  | [d1, d2, d3] => { results := [.lit (.bool false)], args := [d1, d2, d3] }
  | _ => none }
def CodecItemsWrongFalsely : Prop := codecItemsRow.holds Try.pinned (OpenSpec.ofChange codecItemsWrong)

/-- 'hayloftlaw01.CodecSums': WHATEVER THE INPUT: true; the input reads as it did. -/
def codecSumsSpec : ChangeSpec := { name := "codecSums", fn := fun _ => fun
  | [d1, d2] => { results := [.lit (.bool true)], args := [d1, d2] }
  | _ => none }
def codecSumsRow : OpenClaim := { program := "ytebejjfgibkhbaa", sum := "ba5ef30f804c0569d6f4f2f66741da275cc86041c157ea4d9ff7628a9be98d67", func := "hayloft/hayloftlaw01.CodecSums", spec := "codecSums", apart := false }
def CodecSumsSaid : Prop := codecSumsRow.holds Try.pinned (OpenSpec.ofChange codecSumsSpec)

/-- ITS FALSE NEIGHBOUR: 'it returns false'. Refute it at one input. -/
def codecSumsWrong : ChangeSpec := { name := "codecSums", fn := fun _ => fun
  | [d1, d2] => { results := [.lit (.bool false)], args := [d1, d2] }
  | _ => none }
def CodecSumsWrongFalsely : Prop := codecSumsRow.holds Try.pinned (OpenSpec.ofChange codecSumsWrong)

/-- 'hayloftlaw01.CodecLists': WHATEVER THE INPUT: true; the input reads as it did. -/
def codecListsSpec : ChangeSpec := { name := "codecLists", fn := fun _ => fun
  | [d1, d2] => { results := [.lit (.bool true)], args := [d1, d2] }
  | _ => none }
def codecListsRow : OpenClaim := { program := "ytebejjfgibkhbaa", sum := "ba5ef30f804c0569d6f4f2f66741da275cc86041c157ea4d9ff7628a9be98d67", func := "hayloft/hayloftlaw01.CodecLists", spec := "codecLists", unfollowed := true, recurses := true, apart := false }
def CodecListsSaid : Prop := codecListsRow.holds Try.pinned (OpenSpec.ofChange codecListsSpec)

/-- ITS FALSE NEIGHBOUR: 'it returns false'. Refute it at one input. -/
def codecListsWrong : ChangeSpec := { name := "codecLists", fn := fun _ => fun
  | [d1, d2] => { results := [.lit (.bool false)], args := [d1, d2] }
  | _ => none }
def CodecListsWrongFalsely : Prop := codecListsRow.holds Try.pinned (OpenSpec.ofChange codecListsWrong)

/-- 'hayloftlaw01.CodecFrames': WHATEVER THE INPUT: true; the input reads as it did. -/
def codecFramesSpec : ChangeSpec := { name := "codecFrames", fn := fun _ => fun
  | [d1, d2] => { results := [.lit (.bool true)], args := [d1, d2] }
  | _ => none }
def codecFramesRow : OpenClaim := { program := "ytebejjfgibkhbaa", sum := "ba5ef30f804c0569d6f4f2f66741da275cc86041c157ea4d9ff7628a9be98d67", func := "hayloft/hayloftlaw01.CodecFrames", spec := "codecFrames", apart := false }
def CodecFramesSaid : Prop := codecFramesRow.holds Try.pinned (OpenSpec.ofChange codecFramesSpec)

/-- ITS FALSE NEIGHBOUR: 'it returns false'. Refute it at one input. -/
def codecFramesWrong : ChangeSpec := { name := "codecFrames", fn := fun _ => fun
  | [d1, d2] => { results := [.lit (.bool false)], args := [d1, d2] }
  | _ => none }
def CodecFramesWrongFalsely : Prop := codecFramesRow.holds Try.pinned (OpenSpec.ofChange codecFramesWrong)

/-- 'hayloftlaw01.CodecUnframes': WHATEVER THE INPUT: true; the input reads as it did. -/
def codecUnframesSpec : ChangeSpec := { name := "codecUnframes", fn := fun _ => fun
  | [d1, d2, d3] => { results := [.lit (.bool true)], args := [d1, d2, d3] }
  | _ => none }
def codecUnframesRow : OpenClaim := { program := "ytebejjfgibkhbaa", sum := "ba5ef30f804c0569d6f4f2f66741da275cc86041c157ea4d9ff7628a9be98d67", func := "hayloft/hayloftlaw01.CodecUnframes", spec := "codecUnframes", apart := false }
def CodecUnframesSaid : Prop := codecUnframesRow.holds Try.pinned (OpenSpec.ofChange codecUnframesSpec)

/-- ITS FALSE NEIGHBOUR: 'it returns false'. Refute it at one input. -/
def codecUnframesWrong : ChangeSpec := { name := "codecUnframes", fn := fun _ => fun
  | [d1, d2, d3] => { results := [.lit (.bool false)], args := [d1, d2, d3] }
  | _ => none }
def CodecUnframesWrongFalsely : Prop := codecUnframesRow.holds Try.pinned (OpenSpec.ofChange codecUnframesWrong)

/-- 'hayloftlaw01.CodecStream': WHATEVER THE INPUT: true; the input reads as it did. -/
def codecStreamSpec : ChangeSpec := { name := "codecStream", fn := fun _ => fun
  | [d1, d2] => { results := [.lit (.bool true)], args := [d1, d2] }
  | _ => none }
def codecStreamRow : OpenClaim := { program := "ytebejjfgibkhbaa", sum := "ba5ef30f804c0569d6f4f2f66741da275cc86041c157ea4d9ff7628a9be98d67", func := "hayloft/hayloftlaw01.CodecStream", spec := "codecStream", apart := false }
def CodecStreamSaid : Prop := codecStreamRow.holds Try.pinned (OpenSpec.ofChange codecStreamSpec)

/-- ITS FALSE NEIGHBOUR: 'it returns false'. Refute it at one input. -/
def codecStreamWrong : ChangeSpec := { name := "codecStream", fn := fun _ => fun
  | [d1, d2] => { results := [.lit (.bool false)], args := [d1, d2] }
  | _ => none }
def CodecStreamWrongFalsely : Prop := codecStreamRow.holds Try.pinned (OpenSpec.ofChange codecStreamWrong)

/- THE SECOND FORM. 'bulk': how many values and letters a reading holds, each counted each time it is reached (what is shared counts as often as it is met; a slice's spare places count too). A statement '..UptoSaid' is the law's where the arguments, and the package variables that the reading takes, are together of bulk at most 1048576: NARROWER than '..Said'. Prove '..Said' where nothing that the law and all that it calls make is longer than what came in: it says more and counts as full. Else prove '..UptoSaid'. A law counts once. -/
mutual
def uptoBulk {H : Type} : DataW H → Nat
  | .lit (.string bytes) => bytes.length + 1
  | .lit _ => 1
  | .nil => 1
  | .ptr d => uptoBulk d + 1
  | .slice elems spare => uptoBulkAll elems + uptoBulkAll spare + 1
  | .agg parts => uptoBulkAll parts + 1
  | .iface _ d => uptoBulk d + 1
  | .map entries => uptoBulkEntries entries + 1
  | .held _ => 1
def uptoBulkAll {H : Type} : List (DataW H) → Nat
  | [] => 0
  | d :: r => uptoBulk d + uptoBulkAll r
def uptoBulkEntries {H : Type} : List (Lit × DataW H) → Nat
  | [] => 0
  | x :: r => uptoBulkEntry x + uptoBulkEntries r
def uptoBulkEntry {H : Type} : Lit × DataW H → Nat
  | (.string bytes, d) => bytes.length + uptoBulk d + 1
  | (_, d) => uptoBulk d + 1
 end
def uptoSmall : (H : Type) → List (DataW H) → Bool := fun _ ds => decide (uptoBulkAll ds ≤ 1048576)
def OpenSpec.upto (s : _root_.Go.ChangeSpec) : _root_.Go.OpenSpec := { _root_.Go.OpenSpec.ofChange s with cond := some uptoSmall }

/-- 'hayloftlaw01.CodecVars', WHERE WHAT IT READS IS OF BULK AT MOST 1048576: true; the input reads as it did. -/
def codecVarsUptoRow : OpenClaim := { program := "ytebejjfgibkhbaa", sum := "ba5ef30f804c0569d6f4f2f66741da275cc86041c157ea4d9ff7628a9be98d67", func := "hayloft/hayloftlaw01.CodecVars", spec := "codecVars", apart := false, narrowed := true }
def CodecVarsUptoSaid : Prop := codecVarsUptoRow.holds Try.pinned (OpenSpec.upto codecVarsSpec)

/-- 'hayloftlaw01.CodecWrites', WHERE WHAT IT READS IS OF BULK AT MOST 1048576: true; the input reads as it did. -/
def codecWritesUptoRow : OpenClaim := { program := "ytebejjfgibkhbaa", sum := "ba5ef30f804c0569d6f4f2f66741da275cc86041c157ea4d9ff7628a9be98d67", func := "hayloft/hayloftlaw01.CodecWrites", spec := "codecWrites", apart := false, narrowed := true }
def CodecWritesUptoSaid : Prop := codecWritesUptoRow.holds Try.pinned (OpenSpec.upto codecWritesSpec)

/-- 'hayloftlaw01.CodecReads', WHERE WHAT IT READS IS OF BULK AT MOST 1048576: true; the input reads as it did. -/
def codecReadsUptoRow : OpenClaim := { program := "ytebejjfgibkhbaa", sum := "ba5ef30f804c0569d6f4f2f66741da275cc86041c157ea4d9ff7628a9be98d67", func := "hayloft/hayloftlaw01.CodecReads", spec := "codecReads", apart := false, narrowed := true }
def CodecReadsUptoSaid : Prop := codecReadsUptoRow.holds Try.pinned (OpenSpec.upto codecReadsSpec)

/-- 'hayloftlaw01.CodecBack', WHERE WHAT IT READS IS OF BULK AT MOST 1048576: true; the input reads as it did. -/
def codecBackUptoRow : OpenClaim := { program := "ytebejjfgibkhbaa", sum := "ba5ef30f804c0569d6f4f2f66741da275cc86041c157ea4d9ff7628a9be98d67", func := "hayloft/hayloftlaw01.CodecBack", spec := "codecBack", apart := false, narrowed := true }
def CodecBackUptoSaid : Prop := codecBackUptoRow.holds Try.pinned (OpenSpec.upto codecBackSpec)

/-- 'hayloftlaw01.CodecPuts', WHERE WHAT IT READS IS OF BULK AT MOST 1048576: true; the input reads as it did. -/
def codecPutsUptoRow : OpenClaim := { program := "ytebejjfgibkhbaa", sum := "ba5ef30f804c0569d6f4f2f66741da275cc86041c157ea4d9ff7628a9be98d67", func := "hayloft/hayloftlaw01.CodecPuts", spec := "codecPuts", unfollowed := true, recurses := true, apart := false, narrowed := true }
def CodecPutsUptoSaid : Prop := codecPutsUptoRow.holds Try.pinned (OpenSpec.upto codecPutsSpec)

/-- 'hayloftlaw01.CodecItems', WHERE WHAT IT READS IS OF BULK AT MOST 1048576: true; the input reads as it did. -/
def codecItemsUptoRow : OpenClaim := { program := "ytebejjfgibkhbaa", sum := "ba5ef30f804c0569d6f4f2f66741da275cc86041c157ea4d9ff7628a9be98d67", func := "hayloft/hayloftlaw01.CodecItems", spec := "codecItems", unfollowed := true, recurses := true, apart := false, narrowed := true }
def CodecItemsUptoSaid : Prop := codecItemsUptoRow.holds Try.pinned (OpenSpec.upto codecItemsSpec)

/-- 'hayloftlaw01.CodecSums', WHERE WHAT IT READS IS OF BULK AT MOST 1048576: true; the input reads as it did. -/
def codecSumsUptoRow : OpenClaim := { program := "ytebejjfgibkhbaa", sum := "ba5ef30f804c0569d6f4f2f66741da275cc86041c157ea4d9ff7628a9be98d67", func := "hayloft/hayloftlaw01.CodecSums", spec := "codecSums", apart := false, narrowed := true }
def CodecSumsUptoSaid : Prop := codecSumsUptoRow.holds Try.pinned (OpenSpec.upto codecSumsSpec)

/-- 'hayloftlaw01.CodecLists', WHERE WHAT IT READS IS OF BULK AT MOST 1048576: true; the input reads as it did. -/
def codecListsUptoRow : OpenClaim := { program := "ytebejjfgibkhbaa", sum := "ba5ef30f804c0569d6f4f2f66741da275cc86041c157ea4d9ff7628a9be98d67", func := "hayloft/hayloftlaw01.CodecLists", spec := "codecLists", unfollowed := true, recurses := true, apart := false, narrowed := true }
def CodecListsUptoSaid : Prop := codecListsUptoRow.holds Try.pinned (OpenSpec.upto codecListsSpec)

/-- 'hayloftlaw01.CodecFrames', WHERE WHAT IT READS IS OF BULK AT MOST 1048576: true; the input reads as it did. -/
def codecFramesUptoRow : OpenClaim := { program := "ytebejjfgibkhbaa", sum := "ba5ef30f804c0569d6f4f2f66741da275cc86041c157ea4d9ff7628a9be98d67", func := "hayloft/hayloftlaw01.CodecFrames", spec := "codecFrames", apart := false, narrowed := true }
def CodecFramesUptoSaid : Prop := codecFramesUptoRow.holds Try.pinned (OpenSpec.upto codecFramesSpec)

/-- 'hayloftlaw01.CodecUnframes', WHERE WHAT IT READS IS OF BULK AT MOST 1048576: true; the input reads as it did. -/
def codecUnframesUptoRow : OpenClaim := { program := "ytebejjfgibkhbaa", sum := "ba5ef30f804c0569d6f4f2f66741da275cc86041c157ea4d9ff7628a9be98d67", func := "hayloft/hayloftlaw01.CodecUnframes", spec := "codecUnframes", apart := false, narrowed := true }
def CodecUnframesUptoSaid : Prop := codecUnframesUptoRow.holds Try.pinned (OpenSpec.upto codecUnframesSpec)

/-- 'hayloftlaw01.CodecStream', WHERE WHAT IT READS IS OF BULK AT MOST 1048576: true; the input reads as it did. -/
def codecStreamUptoRow : OpenClaim := { program := "ytebejjfgibkhbaa", sum := "ba5ef30f804c0569d6f4f2f66741da275cc86041c157ea4d9ff7628a9be98d67", func := "hayloft/hayloftlaw01.CodecStream", spec := "codecStream", apart := false, narrowed := true }
def CodecStreamUptoSaid : Prop := codecStreamUptoRow.holds Try.pinned (OpenSpec.upto codecStreamSpec)

end Rows
end Go.Proofs.Ytebejjfgibkhbaa
