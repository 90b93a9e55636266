/-
  No cell of these rows narrows 'for every input' (looked for: loops, veiled, ifaces, maps, wideKeys, modest, calm, conditions, laid).
  DERIVED. THE GIVEN ROWS OF THIS SEAT. 8 by the template 'for every input the law returns true; each argument reads behind the call as it read before'; 0 by the template 'total and deterministic' (their statements: YtfpcfaapoeeipaaTotals.lean).
  GIVEN WITH THE SEED: the statements are not yours to turn. If you find one false, say at which input.
  Laid BY PROGRAM, IN A SANDBOX (cutbox-rows.mjs): the forced cells as the released guide's own fill.sh prints them over the translation c76b6a6b03d94262… (all of the seat's roots in one cut). By AI agents, Wed Nov 11 2026. No macro, syntax, notation, axiom, sorry.
-/
import Derived.Test.YtfpcfaapoeeipaaChecked
import GoSem.Claim
import GoSem.ClaimJoined
import GoSem.ClaimMapViews
import Derived.JoinedTies
import Derived.KernelRfl
namespace Go.Proofs.Ytfpcfaapoeeipaa
/- THE CELL 'sum', in the pinned program and in every row, IS THE sha256 OF THE DUMP (.gsa) THAT YtfpcfaapoeeipaaProg.lean LOADS. Nothing in Lean hashes anything: it is a label: what it is worth is what the hold of that sum in a sandbox is worth. -/
noncomputable def Try.pinned : Pinned := { name := "ytfpcfaapoeeipaa", sum := "c76b6a6b03d942623fef8ed43738e1a8f0bfe6c3c90f4bb2ad77efe90768f643", checked := Try.checked }
namespace Rows
def none {H : Type} : Left H := { results := [], args := [] }

/-- 'laws.FnExactUniqueLanes': WHATEVER THE INPUT: true; the input reads as it did. -/
def fnExactUniqueLanesSpec : ChangeSpec := { name := "fnExactUniqueLanes", fn := fun _ => fun
  | [d1, d2] => { results := [.lit (.bool true)], args := [d1, d2] }
  | _ => none }
def fnExactUniqueLanesRow : OpenClaim := { program := "ytfpcfaapoeeipaa", sum := "c76b6a6b03d942623fef8ed43738e1a8f0bfe6c3c90f4bb2ad77efe90768f643", func := "loop.example/g01139/laws.FnExactUniqueLanes", spec := "fnExactUniqueLanes", unfollowed := true, recurses := true, apart := false }
def FnExactUniqueLanesSaid : Prop := fnExactUniqueLanesRow.holds Try.pinned (OpenSpec.ofChange fnExactUniqueLanesSpec)

/-- ITS FALSE NEIGHBOUR: 'it returns false'. Refute it at one input. -/
def fnExactUniqueLanesWrong : ChangeSpec := { name := "fnExactUniqueLanes", fn := fun _ => fun
  | [d1, d2] => { results := [.lit (.bool false)], args := [d1, d2] }
  | _ => none }
def FnExactUniqueLanesWrongFalsely : Prop := fnExactUniqueLanesRow.holds Try.pinned (OpenSpec.ofChange fnExactUniqueLanesWrong)

/-- 'laws.FnExactMergeLanes': WHATEVER THE INPUT: true; the input reads as it did. -/
def fnExactMergeLanesSpec : ChangeSpec := { name := "fnExactMergeLanes", fn := fun _ => fun
  | [d1, d2, d3] => { results := [.lit (.bool true)], args := [d1, d2, d3] }
  | _ => none }
def fnExactMergeLanesRow : OpenClaim := { program := "ytfpcfaapoeeipaa", sum := "c76b6a6b03d942623fef8ed43738e1a8f0bfe6c3c90f4bb2ad77efe90768f643", func := "loop.example/g01139/laws.FnExactMergeLanes", spec := "fnExactMergeLanes", unfollowed := true, recurses := true, apart := false }
def FnExactMergeLanesSaid : Prop := fnExactMergeLanesRow.holds Try.pinned (OpenSpec.ofChange fnExactMergeLanesSpec)

/-- ITS FALSE NEIGHBOUR: 'it returns false'. Refute it at one input. -/
def fnExactMergeLanesWrong : ChangeSpec := { name := "fnExactMergeLanes", fn := fun _ => fun
  | [d1, d2, d3] => { results := [.lit (.bool false)], args := [d1, d2, d3] }
  | _ => none }
def FnExactMergeLanesWrongFalsely : Prop := fnExactMergeLanesRow.holds Try.pinned (OpenSpec.ofChange fnExactMergeLanesWrong)

/-- 'laws.FnExactCountAlone': WHATEVER THE INPUT: true; the input reads as it did. -/
def fnExactCountAloneSpec : ChangeSpec := { name := "fnExactCountAlone", fn := fun _ => fun
  | [d1, d2, d3] => { results := [.lit (.bool true)], args := [d1, d2, d3] }
  | _ => none }
def fnExactCountAloneRow : OpenClaim := { program := "ytfpcfaapoeeipaa", sum := "c76b6a6b03d942623fef8ed43738e1a8f0bfe6c3c90f4bb2ad77efe90768f643", func := "loop.example/g01139/laws.FnExactCountAlone", spec := "fnExactCountAlone", unfollowed := true, recurses := true, apart := false }
def FnExactCountAloneSaid : Prop := fnExactCountAloneRow.holds Try.pinned (OpenSpec.ofChange fnExactCountAloneSpec)

/-- ITS FALSE NEIGHBOUR: 'it returns false'. Refute it at one input. -/
def fnExactCountAloneWrong : ChangeSpec := { name := "fnExactCountAlone", fn := fun _ => fun
  | [d1, d2, d3] => { results := [.lit (.bool false)], args := [d1, d2, d3] }
  | _ => none }
def FnExactCountAloneWrongFalsely : Prop := fnExactCountAloneRow.holds Try.pinned (OpenSpec.ofChange fnExactCountAloneWrong)

/-- 'laws.FnMerged': WHATEVER THE INPUT: true; the input reads as it did. -/
def fnMergedSpec : ChangeSpec := { name := "fnMerged", fn := fun _ => fun
  | [d1, d2] => { results := [.lit (.bool true)], args := [d1, d2] }
  | _ => none }
def fnMergedRow : OpenClaim := { program := "ytfpcfaapoeeipaa", sum := "c76b6a6b03d942623fef8ed43738e1a8f0bfe6c3c90f4bb2ad77efe90768f643", func := "loop.example/g01139/laws.FnMerged", spec := "fnMerged", unfollowed := true, recurses := true, apart := false }
def FnMergedSaid : Prop := fnMergedRow.holds Try.pinned (OpenSpec.ofChange fnMergedSpec)

/-- ITS FALSE NEIGHBOUR: 'it returns false'. Refute it at one input. -/
def fnMergedWrong : ChangeSpec := { name := "fnMerged", fn := fun _ => fun
  | [d1, d2] => { results := [.lit (.bool false)], args := [d1, d2] }
  | _ => none }
def FnMergedWrongFalsely : Prop := fnMergedRow.holds Try.pinned (OpenSpec.ofChange fnMergedWrong)

/-- 'laws.FnExactPathOf': WHATEVER THE INPUT: true; the input reads as it did. -/
def fnExactPathOfSpec : ChangeSpec := { name := "fnExactPathOf", fn := fun _ => fun
  | [d1, d2, d3] => { results := [.lit (.bool true)], args := [d1, d2, d3] }
  | _ => none }
def fnExactPathOfRow : OpenClaim := { program := "ytfpcfaapoeeipaa", sum := "c76b6a6b03d942623fef8ed43738e1a8f0bfe6c3c90f4bb2ad77efe90768f643", func := "loop.example/g01139/laws.FnExactPathOf", spec := "fnExactPathOf", unfollowed := true, recurses := true, apart := false }
def FnExactPathOfSaid : Prop := fnExactPathOfRow.holds Try.pinned (OpenSpec.ofChange fnExactPathOfSpec)

/-- ITS FALSE NEIGHBOUR: 'it returns false'. Refute it at one input. -/
def fnExactPathOfWrong : ChangeSpec := { name := "fnExactPathOf", fn := fun _ => fun
  | [d1, d2, d3] => { results := [.lit (.bool false)], args := [d1, d2, d3] }
  | _ => none }
def FnExactPathOfWrongFalsely : Prop := fnExactPathOfRow.holds Try.pinned (OpenSpec.ofChange fnExactPathOfWrong)

/-- 'laws.FnExactRunAlone': WHATEVER THE INPUT: true; the input reads as it did. -/
def fnExactRunAloneSpec : ChangeSpec := { name := "fnExactRunAlone", fn := fun _ => fun
  | [d1, d2, d3] => { results := [.lit (.bool true)], args := [d1, d2, d3] }
  | _ => none }
def fnExactRunAloneRow : OpenClaim := { program := "ytfpcfaapoeeipaa", sum := "c76b6a6b03d942623fef8ed43738e1a8f0bfe6c3c90f4bb2ad77efe90768f643", func := "loop.example/g01139/laws.FnExactRunAlone", spec := "fnExactRunAlone", unfollowed := true, recurses := true, apart := false }
def FnExactRunAloneSaid : Prop := fnExactRunAloneRow.holds Try.pinned (OpenSpec.ofChange fnExactRunAloneSpec)

/-- ITS FALSE NEIGHBOUR: 'it returns false'. Refute it at one input. -/
def fnExactRunAloneWrong : ChangeSpec := { name := "fnExactRunAlone", fn := fun _ => fun
  | [d1, d2, d3] => { results := [.lit (.bool false)], args := [d1, d2, d3] }
  | _ => none }
def FnExactRunAloneWrongFalsely : Prop := fnExactRunAloneRow.holds Try.pinned (OpenSpec.ofChange fnExactRunAloneWrong)

/-- 'laws.FnMaskedLanes': WHATEVER THE INPUT: true; the input reads as it did. -/
def fnMaskedLanesSpec : ChangeSpec := { name := "fnMaskedLanes", fn := fun _ => fun
  | [d1, d2] => { results := [.lit (.bool true)], args := [d1, d2] }
  | _ => none }
def fnMaskedLanesRow : OpenClaim := { program := "ytfpcfaapoeeipaa", sum := "c76b6a6b03d942623fef8ed43738e1a8f0bfe6c3c90f4bb2ad77efe90768f643", func := "loop.example/g01139/laws.FnMaskedLanes", spec := "fnMaskedLanes", unfollowed := true, recurses := true, apart := false }
def FnMaskedLanesSaid : Prop := fnMaskedLanesRow.holds Try.pinned (OpenSpec.ofChange fnMaskedLanesSpec)

/-- ITS FALSE NEIGHBOUR: 'it returns false'. Refute it at one input. -/
def fnMaskedLanesWrong : ChangeSpec := { name := "fnMaskedLanes", fn := fun _ => fun
  | [d1, d2] => { results := [.lit (.bool false)], args := [d1, d2] }
  | _ => none }
def FnMaskedLanesWrongFalsely : Prop := fnMaskedLanesRow.holds Try.pinned (OpenSpec.ofChange fnMaskedLanesWrong)

/-- 'laws.FnExactIsUniform': WHATEVER THE INPUT: true; the input reads as it did. -/
def fnExactIsUniformSpec : ChangeSpec := { name := "fnExactIsUniform", fn := fun _ => fun
  | [d1, d2, d3] => { results := [.lit (.bool true)], args := [d1, d2, d3] }
  | _ => none }
def fnExactIsUniformRow : OpenClaim := { program := "ytfpcfaapoeeipaa", sum := "c76b6a6b03d942623fef8ed43738e1a8f0bfe6c3c90f4bb2ad77efe90768f643", func := "loop.example/g01139/laws.FnExactIsUniform", spec := "fnExactIsUniform", unfollowed := true, recurses := true, apart := false }
def FnExactIsUniformSaid : Prop := fnExactIsUniformRow.holds Try.pinned (OpenSpec.ofChange fnExactIsUniformSpec)

/-- ITS FALSE NEIGHBOUR: 'it returns false'. Refute it at one input. -/
def fnExactIsUniformWrong : ChangeSpec := { name := "fnExactIsUniform", fn := fun _ => fun
  | [d1, d2, d3] => { results := [.lit (.bool false)], args := [d1, d2, d3] }
  | _ => none }
def FnExactIsUniformWrongFalsely : Prop := fnExactIsUniformRow.holds Try.pinned (OpenSpec.ofChange fnExactIsUniformWrong)

/- THE SECOND FORM. 'bulk': how many values and letters a reading holds, each counted each time it is reached (what is shared counts as often as it is met; a slice's spare places count too). A statement '..UptoSaid' is the law's where the arguments, and the package variables that the reading takes, are together of bulk at most 1048576: NARROWER than '..Said'. Prove '..Said' where nothing that the law and all that it calls make is longer than what came in: it says more and counts as full. Else prove '..UptoSaid'. A law counts once. -/
mutual
def uptoBulk {H : Type} : DataW H → Nat
  | .lit (.string bytes) => bytes.length + 1
  | .lit _ => 1
  | .nil => 1
  | .ptr d => uptoBulk d + 1
  | .slice elems spare => uptoBulkAll elems + uptoBulkAll spare + 1
  | .agg parts => uptoBulkAll parts + 1
  | .iface _ d => uptoBulk d + 1
  | .map entries => uptoBulkEntries entries + 1
  | .held _ => 1
def uptoBulkAll {H : Type} : List (DataW H) → Nat
  | [] => 0
  | d :: r => uptoBulk d + uptoBulkAll r
def uptoBulkEntries {H : Type} : List (Lit × DataW H) → Nat
  | [] => 0
  | x :: r => uptoBulkEntry x + uptoBulkEntries r
def uptoBulkEntry {H : Type} : Lit × DataW H → Nat
  | (.string bytes, d) => bytes.length + uptoBulk d + 1
  | (_, d) => uptoBulk d + 1
 end
def uptoSmall : (H : Type) → List (DataW H) → Bool := fun _ ds => decide (uptoBulkAll ds ≤ 1048576)
def OpenSpec.upto (s : _root_.Go.ChangeSpec) : _root_.Go.OpenSpec := { _root_.Go.OpenSpec.ofChange s with cond := some uptoSmall }

/-- 'laws.FnExactUniqueLanes', WHERE WHAT IT READS IS OF BULK AT MOST 1048576: true; the input reads as it did. -/
def fnExactUniqueLanesUptoRow : OpenClaim := { program := "ytfpcfaapoeeipaa", sum := "c76b6a6b03d942623fef8ed43738e1a8f0bfe6c3c90f4bb2ad77efe90768f643", func := "loop.example/g01139/laws.FnExactUniqueLanes", spec := "fnExactUniqueLanes", unfollowed := true, recurses := true, apart := false, narrowed := true }
def FnExactUniqueLanesUptoSaid : Prop := fnExactUniqueLanesUptoRow.holds Try.pinned (OpenSpec.upto fnExactUniqueLanesSpec)

/-- 'laws.FnExactMergeLanes', WHERE WHAT IT READS IS OF BULK AT MOST 1048576: true; the input reads as it did. -/
def fnExactMergeLanesUptoRow : OpenClaim := { program := "ytfpcfaapoeeipaa", sum := "c76b6a6b03d942623fef8ed43738e1a8f0bfe6c3c90f4bb2ad77efe90768f643", func := "loop.example/g01139/laws.FnExactMergeLanes", spec := "fnExactMergeLanes", unfollowed := true, recurses := true, apart := false, narrowed := true }
def FnExactMergeLanesUptoSaid : Prop := fnExactMergeLanesUptoRow.holds Try.pinned (OpenSpec.upto fnExactMergeLanesSpec)

/-- 'laws.FnExactCountAlone', WHERE WHAT IT READS IS OF BULK AT MOST 1048576: true; the input reads as it did. -/
def fnExactCountAloneUptoRow : OpenClaim := { program := "ytfpcfaapoeeipaa", sum := "c76b6a6b03d942623fef8ed43738e1a8f0bfe6c3c90f4bb2ad77efe90768f643", func := "loop.example/g01139/laws.FnExactCountAlone", spec := "fnExactCountAlone", unfollowed := true, recurses := true, apart := false, narrowed := true }
def FnExactCountAloneUptoSaid : Prop := fnExactCountAloneUptoRow.holds Try.pinned (OpenSpec.upto fnExactCountAloneSpec)

/-- 'laws.FnMerged', WHERE WHAT IT READS IS OF BULK AT MOST 1048576: true; the input reads as it did. -/
def fnMergedUptoRow : OpenClaim := { program := "ytfpcfaapoeeipaa", sum := "c76b6a6b03d942623fef8ed43738e1a8f0bfe6c3c90f4bb2ad77efe90768f643", func := "loop.example/g01139/laws.FnMerged", spec := "fnMerged", unfollowed := true, recurses := true, apart := false, narrowed := true }
def FnMergedUptoSaid : Prop := fnMergedUptoRow.holds Try.pinned (OpenSpec.upto fnMergedSpec)

/-- 'laws.FnExactPathOf', WHERE WHAT IT READS IS OF BULK AT MOST 1048576: true; the input reads as it did. -/
def fnExactPathOfUptoRow : OpenClaim := { program := "ytfpcfaapoeeipaa", sum := "c76b6a6b03d942623fef8ed43738e1a8f0bfe6c3c90f4bb2ad77efe90768f643", func := "loop.example/g01139/laws.FnExactPathOf", spec := "fnExactPathOf", unfollowed := true, recurses := true, apart := false, narrowed := true }
def FnExactPathOfUptoSaid : Prop := fnExactPathOfUptoRow.holds Try.pinned (OpenSpec.upto fnExactPathOfSpec)

/-- 'laws.FnExactRunAlone', WHERE WHAT IT READS IS OF BULK AT MOST 1048576: true; the input reads as it did. -/
def fnExactRunAloneUptoRow : OpenClaim := { program := "ytfpcfaapoeeipaa", sum := "c76b6a6b03d942623fef8ed43738e1a8f0bfe6c3c90f4bb2ad77efe90768f643", func := "loop.example/g01139/laws.FnExactRunAlone", spec := "fnExactRunAlone", unfollowed := true, recurses := true, apart := false, narrowed := true }
def FnExactRunAloneUptoSaid : Prop := fnExactRunAloneUptoRow.holds Try.pinned (OpenSpec.upto fnExactRunAloneSpec)

/-- 'laws.FnMaskedLanes', WHERE WHAT IT READS IS OF BULK AT MOST 1048576: true; the input reads as it did. -/
def fnMaskedLanesUptoRow : OpenClaim := { program := "ytfpcfaapoeeipaa", sum := "c76b6a6b03d942623fef8ed43738e1a8f0bfe6c3c90f4bb2ad77efe90768f643", func := "loop.example/g01139/laws.FnMaskedLanes", spec := "fnMaskedLanes", unfollowed := true, recurses := true, apart := false, narrowed := true }
def FnMaskedLanesUptoSaid : Prop := fnMaskedLanesUptoRow.holds Try.pinned (OpenSpec.upto fnMaskedLanesSpec)

/-- 'laws.FnExactIsUniform', WHERE WHAT IT READS IS OF BULK AT MOST 1048576: true; the input reads as it did. -/
def fnExactIsUniformUptoRow : OpenClaim := { program := "ytfpcfaapoeeipaa", sum := "c76b6a6b03d942623fef8ed43738e1a8f0bfe6c3c90f4bb2ad77efe90768f643", func := "loop.example/g01139/laws.FnExactIsUniform", spec := "fnExactIsUniform", unfollowed := true, recurses := true, apart := false, narrowed := true }
def FnExactIsUniformUptoSaid : Prop := fnExactIsUniformUptoRow.holds Try.pinned (OpenSpec.upto fnExactIsUniformSpec)

end Rows
end Go.Proofs.Ytfpcfaapoeeipaa
