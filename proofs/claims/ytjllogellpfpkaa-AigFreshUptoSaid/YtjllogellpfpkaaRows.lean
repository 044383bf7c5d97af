/-
  No cell of these rows narrows 'for every input' (looked for: loops, veiled, ifaces, maps, wideKeys, modest, calm, conditions, laid).
  DERIVED. THE GIVEN ROWS OF THIS SEAT. 3 by the template 'for every input the law returns true; each argument reads behind the call as it read before'; 0 by the template 'total and deterministic' (their statements: YtjllogellpfpkaaTotals.lean).
  GIVEN WITH THE SEED: the statements are not yours to turn. If you find one false, say at which input.
  Laid BY PROGRAM, IN A SANDBOX (cutbox-rows.mjs): the forced cells as the released guide's own fill.sh prints them over the translation 0447ca06dd5cdc69… (all of the seat's roots in one cut). By AI agents, Wed Nov 11 2026. No macro, syntax, notation, axiom, sorry.
-/
import Derived.Test.YtjllogellpfpkaaChecked
import GoSem.Claim
import GoSem.ClaimJoined
import GoSem.ClaimMapViews
import Derived.JoinedTies
import Derived.KernelRfl
namespace Go.Proofs.Ytjllogellpfpkaa
/- THE CELL 'sum', in the pinned program and in every row, IS THE sha256 OF THE DUMP (.gsa) THAT YtjllogellpfpkaaProg.lean LOADS. Nothing in Lean hashes anything: it is a label: what it is worth is what the hold of that sum in a sandbox is worth. -/
noncomputable def Try.pinned : Pinned := { name := "ytjllogellpfpkaa", sum := "0447ca06dd5cdc69fc337399276205032e52f07dcb2ec65f26183af1c8c9df13", checked := Try.checked }
namespace Rows
def none {H : Type} : Left H := { results := [], args := [] }

/-- 'cadencelaw10.AigSims': WHATEVER THE INPUT: true; the input reads as it did. -/
def aigSimsSpec : ChangeSpec := { name := "aigSims", fn := fun _ => fun
  | [d1, d2, d3] => { results := [.lit (.bool true)], args := [d1, d2, d3] }
  | _ => none }
def aigSimsRow : OpenClaim := { program := "ytjllogellpfpkaa", sum := "0447ca06dd5cdc69fc337399276205032e52f07dcb2ec65f26183af1c8c9df13", func := "cadence/cadencelaw10.AigSims", spec := "aigSims", unfollowed := true, recurses := true, plainKeys := false, apart := false }
def AigSimsSaid : Prop := aigSimsRow.holds Try.pinned (OpenSpec.ofChange aigSimsSpec)

/-- ITS FALSE NEIGHBOUR: 'it returns false'. Refute it at one input. -/
def aigSimsWrong : ChangeSpec := { name := "aigSims", fn := fun _ => fun
  | [d1, d2, d3] => { results := [.lit (.bool false)], args := [d1, d2, d3] }
  | _ => none }
def AigSimsWrongFalsely : Prop := aigSimsRow.holds Try.pinned (OpenSpec.ofChange aigSimsWrong)

/-- 'cadencelaw10.AigMeans': WHATEVER THE INPUT: true; the input reads as it did. -/
def aigMeansSpec : ChangeSpec := { name := "aigMeans", fn := fun _ => fun
  | [d1, d2] => { results := [.lit (.bool true)], args := [d1, d2] }
  | _ => none }
def aigMeansRow : OpenClaim := { program := "ytjllogellpfpkaa", sum := "0447ca06dd5cdc69fc337399276205032e52f07dcb2ec65f26183af1c8c9df13", func := "cadence/cadencelaw10.AigMeans", spec := "aigMeans", unfollowed := true, recurses := true, plainKeys := false, apart := false }
def AigMeansSaid : Prop := aigMeansRow.holds Try.pinned (OpenSpec.ofChange aigMeansSpec)

/-- ITS FALSE NEIGHBOUR: 'it returns false'. Refute it at one input. -/
def aigMeansWrong : ChangeSpec := { name := "aigMeans", fn := fun _ => fun
  | [d1, d2] => { results := [.lit (.bool false)], args := [d1, d2] }
  | _ => none }
def AigMeansWrongFalsely : Prop := aigMeansRow.holds Try.pinned (OpenSpec.ofChange aigMeansWrong)

/-- 'cadencelaw10.AigFresh': WHATEVER THE INPUT: true; the input reads as it did. -/
def aigFreshSpec : ChangeSpec := { name := "aigFresh", fn := fun _ => fun
  | [d1, d2] => { results := [.lit (.bool true)], args := [d1, d2] }
  | _ => none }
def aigFreshRow : OpenClaim := { program := "ytjllogellpfpkaa", sum := "0447ca06dd5cdc69fc337399276205032e52f07dcb2ec65f26183af1c8c9df13", func := "cadence/cadencelaw10.AigFresh", spec := "aigFresh", unfollowed := true, recurses := true, plainKeys := false, apart := false }
def AigFreshSaid : Prop := aigFreshRow.holds Try.pinned (OpenSpec.ofChange aigFreshSpec)

/-- ITS FALSE NEIGHBOUR: 'it returns false'. Refute it at one input. -/
def aigFreshWrong : ChangeSpec := { name := "aigFresh", fn := fun _ => fun
  | [d1, d2] => { results := [.lit (.bool false)], args := [d1, d2] }
  | _ => none }
def AigFreshWrongFalsely : Prop := aigFreshRow.holds Try.pinned (OpenSpec.ofChange aigFreshWrong)

/- THE SECOND FORM. 'bulk': how many values and letters a reading holds, each counted each time it is reached (what is shared counts as often as it is met; a slice's spare places count too). A statement '..UptoSaid' is the law's where the arguments, and the package variables that the reading takes, are together of bulk at most 1048576: NARROWER than '..Said'. Prove '..Said' where nothing that the law and all that it calls make is longer than what came in: it says more and counts as full. Else prove '..UptoSaid'. A law counts once. -/
mutual
def uptoBulk {H : Type} : DataW H → Nat
  | .lit (.string bytes) => bytes.length + 1
  | .lit _ => 1
  | .nil => 1
  | .ptr d => uptoBulk d + 1
  | .slice elems spare => uptoBulkAll elems + uptoBulkAll spare + 1
  | .agg parts => uptoBulkAll parts + 1
  | .iface _ d => uptoBulk d + 1
  | .map entries => uptoBulkEntries entries + 1
  | .held _ => 1
def uptoBulkAll {H : Type} : List (DataW H) → Nat
  | [] => 0
  | d :: r => uptoBulk d + uptoBulkAll r
def uptoBulkEntries {H : Type} : List (Lit × DataW H) → Nat
  | [] => 0
  | x :: r => uptoBulkEntry x + uptoBulkEntries r
def uptoBulkEntry {H : Type} : Lit × DataW H → Nat
  | (.string bytes, d) => bytes.length + uptoBulk d + 1
  | (_, d) => uptoBulk d + 1
 end
def uptoSmall : (H : Type) → List (DataW H) → Bool := fun _ ds => decide (uptoBulkAll ds ≤ 1048576)
def OpenSpec.upto (s : _root_.Go.ChangeSpec) : _root_.Go.OpenSpec := { _root_.Go.OpenSpec.ofChange s with cond := some uptoSmall }

/-- 'cadencelaw10.AigSims', WHERE WHAT IT READS IS OF BULK AT MOST 1048576: true; the input reads as it did. -/
def aigSimsUptoRow : OpenClaim := { program := "ytjllogellpfpkaa", sum := "0447ca06dd5cdc69fc337399276205032e52f07dcb2ec65f26183af1c8c9df13", func := "cadence/cadencelaw10.AigSims", spec := "aigSims", unfollowed := true, recurses := true, plainKeys := false, apart := false, narrowed := true }
def AigSimsUptoSaid : Prop := aigSimsUptoRow.holds Try.pinned (OpenSpec.upto aigSimsSpec)

/-- 'cadencelaw10.AigMeans', WHERE WHAT IT READS IS OF BULK AT MOST 1048576: true; the input reads as it did. -/
def aigMeansUptoRow : OpenClaim := { program := "ytjllogellpfpkaa", sum := "0447ca06dd5cdc69fc337399276205032e52f07dcb2ec65f26183af1c8c9df13", func := "cadence/cadencelaw10.AigMeans", spec := "aigMeans", unfollowed := true, recurses := true, plainKeys := false, apart := false, narrowed := true }
def AigMeansUptoSaid : Prop := aigMeansUptoRow.holds Try.pinned (OpenSpec.upto aigMeansSpec)

/-- 'cadencelaw10.AigFresh', WHERE WHAT IT READS IS OF BULK AT MOST 1048576: true; the input reads as it did. -/
def aigFreshUptoRow : OpenClaim := { program := "ytjllogellpfpkaa", sum := "0447ca06dd5cdc69fc337399276205032e52f07dcb2ec65f26183af1c8c9df13", func := "cadence/cadencelaw10.AigFresh", spec := "aigFresh", unfollowed := true, recurses := true, plainKeys := false, apart := false, narrowed := true }
def AigFreshUptoSaid : Prop := aigFreshUptoRow.holds Try.pinned (OpenSpec.upto aigFreshSpec)

end Rows
end Go.Proofs.Ytjllogellpfpkaa
