/-
  No cell of these rows narrows 'for every input' (looked for: loops, veiled, ifaces, maps, wideKeys, modest, calm, conditions, laid).
  DERIVED. THE GIVEN ROWS OF THIS SEAT. 10 by the template 'for every input the law returns true; each argument reads behind the call as it read before'; 0 by the template 'total and deterministic' (their statements: YtnmkdhoijdoccaaTotals.lean).
  GIVEN WITH THE SEED: the statements are not yours to turn. If you find one false, say at which input.
  Laid BY PROGRAM, IN A SANDBOX (cutbox-rows.mjs): the forced cells as the released guide's own fill.sh prints them over the translation 7e199b6691262241… (all of the seat's roots in one cut). By AI agents, Wed Nov 11 2026. No macro, syntax, notation, axiom, sorry.
-/
import Derived.Test.YtnmkdhoijdoccaaChecked
import GoSem.Claim
import GoSem.ClaimJoined
import GoSem.ClaimMapViews
import Derived.JoinedTies
import Derived.KernelRfl
namespace Go.Proofs.Ytnmkdhoijdoccaa
/- THE CELL 'sum', in the pinned program and in every row, IS THE sha256 OF THE DUMP (.gsa) THAT YtnmkdhoijdoccaaProg.lean LOADS. Nothing in Lean hashes anything: it is a label: what it is worth is what the hold of that sum in a sandbox is worth. -/
noncomputable def Try.pinned : Pinned := { name := "ytnmkdhoijdoccaa", sum := "7e199b6691262241de443c32b716209ed8a390c2365957b68842cab8cc3d98a2", checked := Try.checked }
namespace Rows
def none {H : Type} : Left H := { results := [], args := [] }

/-- 'cadencelaw02.CnfNorms': WHATEVER THE INPUT: true; the input reads as it did. -/
def cnfNormsSpec : ChangeSpec := { name := "cnfNorms", fn := fun _ => fun
  | [d1, d2] => { results := [.lit (.bool true)], args := [d1, d2] }
  | _ => none }
def cnfNormsRow : OpenClaim := { program := "ytnmkdhoijdoccaa", sum := "7e199b6691262241de443c32b716209ed8a390c2365957b68842cab8cc3d98a2", func := "cadence/cadencelaw02.CnfNorms", spec := "cnfNorms", unfollowed := true, recurses := true, apart := false }
def CnfNormsSaid : Prop := cnfNormsRow.holds Try.pinned (OpenSpec.ofChange cnfNormsSpec)

/-- ITS FALSE NEIGHBOUR: 'it returns false'. Refute it at one input. -/
def cnfNormsWrong : ChangeSpec := { name := "cnfNorms", fn := fun _ => fun
  | [d1, d2] => { results := [.lit (.bool false)], args := [d1, d2] }
  | _ => none }
def CnfNormsWrongFalsely : Prop := cnfNormsRow.holds Try.pinned (OpenSpec.ofChange cnfNormsWrong)

/-- 'cadencelaw02.CnfChecks': WHATEVER THE INPUT: true; the input reads as it did. -/
def cnfChecksSpec : ChangeSpec := { name := "cnfChecks", fn := fun _ => fun
  | [d] => { results := [.lit (.bool true)], args := [d] }
  | _ => none }
def cnfChecksRow : OpenClaim := { program := "ytnmkdhoijdoccaa", sum := "7e199b6691262241de443c32b716209ed8a390c2365957b68842cab8cc3d98a2", func := "cadence/cadencelaw02.CnfChecks", spec := "cnfChecks", unfollowed := true, recurses := true, apart := false }
def CnfChecksSaid : Prop := cnfChecksRow.holds Try.pinned (OpenSpec.ofChange cnfChecksSpec)

/-- ITS FALSE NEIGHBOUR: 'it returns false'. Refute it at one input. -/
def cnfChecksWrong : ChangeSpec := { name := "cnfChecks", fn := fun _ => fun
  | [d] => { results := [.lit (.bool false)], args := [d] }
  | _ => none }
def CnfChecksWrongFalsely : Prop := cnfChecksRow.holds Try.pinned (OpenSpec.ofChange cnfChecksWrong)

/-- 'cadencelaw02.CnfCounts': WHATEVER THE INPUT: true; the input reads as it did. -/
def cnfCountsSpec : ChangeSpec := { name := "cnfCounts", fn := fun _ => fun
  | [d] => { results := [.lit (.bool true)], args := [d] }
  | _ => none }
def cnfCountsRow : OpenClaim := { program := "ytnmkdhoijdoccaa", sum := "7e199b6691262241de443c32b716209ed8a390c2365957b68842cab8cc3d98a2", func := "cadence/cadencelaw02.CnfCounts", spec := "cnfCounts", unfollowed := true, recurses := true, apart := false }
def CnfCountsSaid : Prop := cnfCountsRow.holds Try.pinned (OpenSpec.ofChange cnfCountsSpec)

/-- ITS FALSE NEIGHBOUR: 'it returns false'. Refute it at one input. -/
def cnfCountsWrong : ChangeSpec := { name := "cnfCounts", fn := fun _ => fun
  | [d] => { results := [.lit (.bool false)], args := [d] }
  | _ => none }
def CnfCountsWrongFalsely : Prop := cnfCountsRow.holds Try.pinned (OpenSpec.ofChange cnfCountsWrong)

/-- 'cadencelaw02.CnfValues': WHATEVER THE INPUT: true; the input reads as it did. -/
def cnfValuesSpec : ChangeSpec := { name := "cnfValues", fn := fun _ => fun
  | [d1, d2, d3, d4] => { results := [.lit (.bool true)], args := [d1, d2, d3, d4] }
  | _ => none }
def cnfValuesRow : OpenClaim := { program := "ytnmkdhoijdoccaa", sum := "7e199b6691262241de443c32b716209ed8a390c2365957b68842cab8cc3d98a2", func := "cadence/cadencelaw02.CnfValues", spec := "cnfValues", unfollowed := true, recurses := true, apart := false }
def CnfValuesSaid : Prop := cnfValuesRow.holds Try.pinned (OpenSpec.ofChange cnfValuesSpec)

/-- ITS FALSE NEIGHBOUR: 'it returns false'. Refute it at one input. -/
def cnfValuesWrong : ChangeSpec := { name := "cnfValues", fn := fun _ => fun
  | [d1, d2, d3, d4] => { results := [.lit (.bool false)], args := [d1, d2, d3, d4] }
  | _ => none }
def CnfValuesWrongFalsely : Prop := cnfValuesRow.holds Try.pinned (OpenSpec.ofChange cnfValuesWrong)

/-- 'cadencelaw02.CnfResolves': WHATEVER THE INPUT: true; the input reads as it did. -/
def cnfResolvesSpec : ChangeSpec := { name := "cnfResolves", fn := fun _ => fun
  | [d1, d2, d3] => { results := [.lit (.bool true)], args := [d1, d2, d3] }
  | _ => none }
def cnfResolvesRow : OpenClaim := { program := "ytnmkdhoijdoccaa", sum := "7e199b6691262241de443c32b716209ed8a390c2365957b68842cab8cc3d98a2", func := "cadence/cadencelaw02.CnfResolves", spec := "cnfResolves", unfollowed := true, recurses := true, apart := false }
def CnfResolvesSaid : Prop := cnfResolvesRow.holds Try.pinned (OpenSpec.ofChange cnfResolvesSpec)

/-- ITS FALSE NEIGHBOUR: 'it returns false'. Refute it at one input. -/
def cnfResolvesWrong : ChangeSpec := { name := "cnfResolves", fn := fun _ => fun
  | [d1, d2, d3] => { results := [.lit (.bool false)], args := [d1, d2, d3] }
  | _ => none }
def CnfResolvesWrongFalsely : Prop := cnfResolvesRow.holds Try.pinned (OpenSpec.ofChange cnfResolvesWrong)

/-- 'cadencelaw02.CnfSets': WHATEVER THE INPUT: true; the input reads as it did. -/
def cnfSetsSpec : ChangeSpec := { name := "cnfSets", fn := fun _ => fun
  | [d1, d2] => { results := [.lit (.bool true)], args := [d1, d2] }
  | _ => none }
def cnfSetsRow : OpenClaim := { program := "ytnmkdhoijdoccaa", sum := "7e199b6691262241de443c32b716209ed8a390c2365957b68842cab8cc3d98a2", func := "cadence/cadencelaw02.CnfSets", spec := "cnfSets", unfollowed := true, recurses := true, apart := false }
def CnfSetsSaid : Prop := cnfSetsRow.holds Try.pinned (OpenSpec.ofChange cnfSetsSpec)

/-- ITS FALSE NEIGHBOUR: 'it returns false'. Refute it at one input. -/
def cnfSetsWrong : ChangeSpec := { name := "cnfSets", fn := fun _ => fun
  | [d1, d2] => { results := [.lit (.bool false)], args := [d1, d2] }
  | _ => none }
def CnfSetsWrongFalsely : Prop := cnfSetsRow.holds Try.pinned (OpenSpec.ofChange cnfSetsWrong)

/-- 'cadencelaw02.CnfSound': WHATEVER THE INPUT: true; the input reads as it did. -/
def cnfSoundSpec : ChangeSpec := { name := "cnfSound", fn := fun _ => fun
  | [d1, d2, d3, d4] => { results := [.lit (.bool true)], args := [d1, d2, d3, d4] }
  | _ => none }
def cnfSoundRow : OpenClaim := { program := "ytnmkdhoijdoccaa", sum := "7e199b6691262241de443c32b716209ed8a390c2365957b68842cab8cc3d98a2", func := "cadence/cadencelaw02.CnfSound", spec := "cnfSound", unfollowed := true, recurses := true, apart := false }
def CnfSoundSaid : Prop := cnfSoundRow.holds Try.pinned (OpenSpec.ofChange cnfSoundSpec)

/-- ITS FALSE NEIGHBOUR: 'it returns false'. Refute it at one input. -/
def cnfSoundWrong : ChangeSpec := { name := "cnfSound", fn := fun _ => fun
  | [d1, d2, d3, d4] => { results := [.lit (.bool false)], args := [d1, d2, d3, d4] }
  | _ => none }
def CnfSoundWrongFalsely : Prop := cnfSoundRow.holds Try.pinned (OpenSpec.ofChange cnfSoundWrong)

/-- 'cadencelaw02.CnfAssigns': WHATEVER THE INPUT: true; the input reads as it did. -/
def cnfAssignsSpec : ChangeSpec := { name := "cnfAssigns", fn := fun _ => fun
  | [d1, d2] => { results := [.lit (.bool true)], args := [d1, d2] }
  | _ => none }
def cnfAssignsRow : OpenClaim := { program := "ytnmkdhoijdoccaa", sum := "7e199b6691262241de443c32b716209ed8a390c2365957b68842cab8cc3d98a2", func := "cadence/cadencelaw02.CnfAssigns", spec := "cnfAssigns", unfollowed := true, recurses := true, apart := false }
def CnfAssignsSaid : Prop := cnfAssignsRow.holds Try.pinned (OpenSpec.ofChange cnfAssignsSpec)

/-- ITS FALSE NEIGHBOUR: 'it returns false'. Refute it at one input. -/
def cnfAssignsWrong : ChangeSpec := { name := "cnfAssigns", fn := fun _ => fun
  | [d1, d2] => { results := [.lit (.bool false)], args := [d1, d2] }
  | _ => none }
def CnfAssignsWrongFalsely : Prop := cnfAssignsRow.holds Try.pinned (OpenSpec.ofChange cnfAssignsWrong)

/-- 'cadencelaw02.CnfSplits': WHATEVER THE INPUT: true; the input reads as it did. -/
def cnfSplitsSpec : ChangeSpec := { name := "cnfSplits", fn := fun _ => fun
  | [d1, d2, d3] => { results := [.lit (.bool true)], args := [d1, d2, d3] }
  | _ => none }
def cnfSplitsRow : OpenClaim := { program := "ytnmkdhoijdoccaa", sum := "7e199b6691262241de443c32b716209ed8a390c2365957b68842cab8cc3d98a2", func := "cadence/cadencelaw02.CnfSplits", spec := "cnfSplits", unfollowed := true, recurses := true, apart := false }
def CnfSplitsSaid : Prop := cnfSplitsRow.holds Try.pinned (OpenSpec.ofChange cnfSplitsSpec)

/-- ITS FALSE NEIGHBOUR: 'it returns false'. Refute it at one input. -/
def cnfSplitsWrong : ChangeSpec := { name := "cnfSplits", fn := fun _ => fun
  | [d1, d2, d3] => { results := [.lit (.bool false)], args := [d1, d2, d3] }
  | _ => none }
def CnfSplitsWrongFalsely : Prop := cnfSplitsRow.holds Try.pinned (OpenSpec.ofChange cnfSplitsWrong)

/-- 'cadencelaw02.CnfParses': WHATEVER THE INPUT: true; the input reads as it did. -/
def cnfParsesSpec : ChangeSpec := { name := "cnfParses", fn := fun _ => fun
  | [d] => { results := [.lit (.bool true)], args := [d] }
  | _ => none }
def cnfParsesRow : OpenClaim := { program := "ytnmkdhoijdoccaa", sum := "7e199b6691262241de443c32b716209ed8a390c2365957b68842cab8cc3d98a2", func := "cadence/cadencelaw02.CnfParses", spec := "cnfParses", inPlace := ["internal/bytealg.IndexByteString", "internal/bytealg.IndexString"], unfollowed := true, recurses := true, named := ["internal/bytealg.MaxLen"], apart := false }
def CnfParsesSaid : Prop := cnfParsesRow.holds Try.pinned (OpenSpec.ofChange cnfParsesSpec)

/-- ITS FALSE NEIGHBOUR: 'it returns false'. Refute it at one input. -/
def cnfParsesWrong : ChangeSpec := { name := "cnfParses", fn := fun _ => fun
  | [d] => { results := [.lit (.bool false)], args := [d] }
  | _ => none }
def CnfParsesWrongFalsely : Prop := cnfParsesRow.holds Try.pinned (OpenSpec.ofChange cnfParsesWrong)

/- THE SECOND FORM. 'bulk': how many values and letters a reading holds, each counted each time it is reached (what is shared counts as often as it is met; a slice's spare places count too). A statement '..UptoSaid' is the law's where the arguments, and the package variables that the reading takes, are together of bulk at most 1048576: NARROWER than '..Said'. Prove '..Said' where nothing that the law and all that it calls make is longer than what came in: it says more and counts as full. Else prove '..UptoSaid'. A law counts once. -/
mutual
def uptoBulk {H : Type} : DataW H → Nat
  | .lit (.string bytes) => bytes.length + 1
  | .lit _ => 1
  | .nil => 1
  | .ptr d => uptoBulk d + 1
  | .slice elems spare => uptoBulkAll elems + uptoBulkAll spare + 1
  | .agg parts => uptoBulkAll parts + 1
  | .iface _ d => uptoBulk d + 1
  | .map entries => uptoBulkEntries entries + 1
  | .held _ => 1
def uptoBulkAll {H : Type} : List (DataW H) → Nat
  | [] => 0
  | d :: r => uptoBulk d + uptoBulkAll r
def uptoBulkEntries {H : Type} : List (Lit × DataW H) → Nat
  | [] => 0
  | x :: r => uptoBulkEntry x + uptoBulkEntries r
def uptoBulkEntry {H : Type} : Lit × DataW H → Nat
  | (.string bytes, d) => bytes.length + uptoBulk d + 1
  | (_, d) => uptoBulk d + 1
 end
def uptoSmall : (H : Type) → List (DataW H) → Bool := fun _ ds => decide (uptoBulkAll ds ≤ 1048576)
def OpenSpec.upto (s : _root_.Go.ChangeSpec) : _root_.Go.OpenSpec := { _root_.Go.OpenSpec.ofChange s with cond := some uptoSmall }

/-- 'cadencelaw02.CnfNorms', WHERE WHAT IT READS IS OF BULK AT MOST 1048576: true; the input reads as it did. -/
def cnfNormsUptoRow : OpenClaim := { program := "ytnmkdhoijdoccaa", sum := "7e199b6691262241de443c32b716209ed8a390c2365957b68842cab8cc3d98a2", func := "cadence/cadencelaw02.CnfNorms", spec := "cnfNorms", unfollowed := true, recurses := true, apart := false, narrowed := true }
def CnfNormsUptoSaid : Prop := cnfNormsUptoRow.holds Try.pinned (OpenSpec.upto cnfNormsSpec)

/-- 'cadencelaw02.CnfChecks', WHERE WHAT IT READS IS OF BULK AT MOST 1048576: true; the input reads as it did. -/
def cnfChecksUptoRow : OpenClaim := { program := "ytnmkdhoijdoccaa", sum := "7e199b6691262241de443c32b716209ed8a390c2365957b68842cab8cc3d98a2", func := "cadence/cadencelaw02.CnfChecks", spec := "cnfChecks", unfollowed := true, recurses := true, apart := false, narrowed := true }
def CnfChecksUptoSaid : Prop := cnfChecksUptoRow.holds Try.pinned (OpenSpec.upto cnfChecksSpec)

/-- 'cadencelaw02.CnfCounts', WHERE WHAT IT READS IS OF BULK AT MOST 1048576: true; the input reads as it did. -/
def cnfCountsUptoRow : OpenClaim := { program := "ytnmkdhoijdoccaa", sum := "7e199b6691262241de443c32b716209ed8a390c2365957b68842cab8cc3d98a2", func := "cadence/cadencelaw02.CnfCounts", spec := "cnfCounts", unfollowed := true, recurses := true, apart := false, narrowed := true }
def CnfCountsUptoSaid : Prop := cnfCountsUptoRow.holds Try.pinned (OpenSpec.upto cnfCountsSpec)

/-- 'cadencelaw02.CnfValues', WHERE WHAT IT READS IS OF BULK AT MOST 1048576: true; the input reads as it did. -/
def cnfValuesUptoRow : OpenClaim := { program := "ytnmkdhoijdoccaa", sum := "7e199b6691262241de443c32b716209ed8a390c2365957b68842cab8cc3d98a2", func := "cadence/cadencelaw02.CnfValues", spec := "cnfValues", unfollowed := true, recurses := true, apart := false, narrowed := true }
def CnfValuesUptoSaid : Prop := cnfValuesUptoRow.holds Try.pinned (OpenSpec.upto cnfValuesSpec)

/-- 'cadencelaw02.CnfResolves', WHERE WHAT IT READS IS OF BULK AT MOST 1048576: true; the input reads as it did. -/
def cnfResolvesUptoRow : OpenClaim := { program := "ytnmkdhoijdoccaa", sum := "7e199b6691262241de443c32b716209ed8a390c2365957b68842cab8cc3d98a2", func := "cadence/cadencelaw02.CnfResolves", spec := "cnfResolves", unfollowed := true, recurses := true, apart := false, narrowed := true }
def CnfResolvesUptoSaid : Prop := cnfResolvesUptoRow.holds Try.pinned (OpenSpec.upto cnfResolvesSpec)

/-- 'cadencelaw02.CnfSets', WHERE WHAT IT READS IS OF BULK AT MOST 1048576: true; the input reads as it did. -/
def cnfSetsUptoRow : OpenClaim := { program := "ytnmkdhoijdoccaa", sum := "7e199b6691262241de443c32b716209ed8a390c2365957b68842cab8cc3d98a2", func := "cadence/cadencelaw02.CnfSets", spec := "cnfSets", unfollowed := true, recurses := true, apart := false, narrowed := true }
def CnfSetsUptoSaid : Prop := cnfSetsUptoRow.holds Try.pinned (OpenSpec.upto cnfSetsSpec)

/-- 'cadencelaw02.CnfSound', WHERE WHAT IT READS IS OF BULK AT MOST 1048576: true; the input reads as it did. -/
def cnfSoundUptoRow : OpenClaim := { program := "ytnmkdhoijdoccaa", sum := "7e199b6691262241de443c32b716209ed8a390c2365957b68842cab8cc3d98a2", func := "cadence/cadencelaw02.CnfSound", spec := "cnfSound", unfollowed := true, recurses := true, apart := false, narrowed := true }
def CnfSoundUptoSaid : Prop := cnfSoundUptoRow.holds Try.pinned (OpenSpec.upto cnfSoundSpec)

/-- 'cadencelaw02.CnfAssigns', WHERE WHAT IT READS IS OF BULK AT MOST 1048576: true; the input reads as it did. -/
def cnfAssignsUptoRow : OpenClaim := { program := "ytnmkdhoijdoccaa", sum := "7e199b6691262241de443c32b716209ed8a390c2365957b68842cab8cc3d98a2", func := "cadence/cadencelaw02.CnfAssigns", spec := "cnfAssigns", unfollowed := true, recurses := true, apart := false, narrowed := true }
def CnfAssignsUptoSaid : Prop := cnfAssignsUptoRow.holds Try.pinned (OpenSpec.upto cnfAssignsSpec)

/-- 'cadencelaw02.CnfSplits', WHERE WHAT IT READS IS OF BULK AT MOST 1048576: true; the input reads as it did. -/
def cnfSplitsUptoRow : OpenClaim := { program := "ytnmkdhoijdoccaa", sum := "7e199b6691262241de443c32b716209ed8a390c2365957b68842cab8cc3d98a2", func := "cadence/cadencelaw02.CnfSplits", spec := "cnfSplits", unfollowed := true, recurses := true, apart := false, narrowed := true }
def CnfSplitsUptoSaid : Prop := cnfSplitsUptoRow.holds Try.pinned (OpenSpec.upto cnfSplitsSpec)

/-- 'cadencelaw02.CnfParses', WHERE WHAT IT READS IS OF BULK AT MOST 1048576: true; the input reads as it did. -/
def cnfParsesUptoRow : OpenClaim := { program := "ytnmkdhoijdoccaa", sum := "7e199b6691262241de443c32b716209ed8a390c2365957b68842cab8cc3d98a2", func := "cadence/cadencelaw02.CnfParses", spec := "cnfParses", inPlace := ["internal/bytealg.IndexByteString", "internal/bytealg.IndexString"], unfollowed := true, recurses := true, named := ["internal/bytealg.MaxLen"], apart := false, narrowed := true }
def CnfParsesUptoSaid : Prop := cnfParsesUptoRow.holds Try.pinned (OpenSpec.upto cnfParsesSpec)

end Rows
end Go.Proofs.Ytnmkdhoijdoccaa
