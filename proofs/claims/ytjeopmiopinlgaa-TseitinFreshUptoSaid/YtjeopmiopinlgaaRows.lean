/-
  No cell of these rows narrows 'for every input' (looked for: loops, veiled, ifaces, maps, wideKeys, modest, calm, conditions, laid).
  DERIVED. THE GIVEN ROWS OF THIS SEAT. 6 by the template 'for every input the law returns true; each argument reads behind the call as it read before'; 0 by the template 'total and deterministic' (their statements: YtjeopmiopinlgaaTotals.lean).
  GIVEN WITH THE SEED: the statements are not yours to turn. If you find one false, say at which input.
  Laid BY PROGRAM, IN A SANDBOX (cutbox-rows.mjs): the forced cells as the released guide's own fill.sh prints them over the translation 1a7ea36e63f870a5… (all of the seat's roots in one cut). By AI agents, Wed Nov 11 2026. No macro, syntax, notation, axiom, sorry.
-/
import Derived.Test.YtjeopmiopinlgaaChecked
import GoSem.Claim
import GoSem.ClaimJoined
import GoSem.ClaimMapViews
import Derived.JoinedTies
import Derived.KernelRfl
namespace Go.Proofs.Ytjeopmiopinlgaa
/- THE CELL 'sum', in the pinned program and in every row, IS THE sha256 OF THE DUMP (.gsa) THAT YtjeopmiopinlgaaProg.lean LOADS. Nothing in Lean hashes anything: it is a label: what it is worth is what the hold of that sum in a sandbox is worth. -/
noncomputable def Try.pinned : Pinned := { name := "ytjeopmiopinlgaa", sum := "1a7ea36e63f870a5037295869a22f09b97d0fe559c4eea484f0364d6292b9067", checked := Try.checked }
namespace Rows
def none {H : Type} : Left H := { results := [], args := [] }

/-- 'cadencelaw12.TseitinEncodes': WHATEVER THE INPUT: true; the input reads as it did. -/
def tseitinEncodesSpec : ChangeSpec := { name := "tseitinEncodes", fn := fun _ => fun
  | [d1, d2, d3] => { results := [.lit (.bool true)], args := [d1, d2, d3] }
  | _ => none }
def tseitinEncodesRow : OpenClaim := { program := "ytjeopmiopinlgaa", sum := "1a7ea36e63f870a5037295869a22f09b97d0fe559c4eea484f0364d6292b9067", func := "cadence/cadencelaw12.TseitinEncodes", spec := "tseitinEncodes", unfollowed := true, recurses := true, plainKeys := false, apart := false }
def TseitinEncodesSaid : Prop := tseitinEncodesRow.holds Try.pinned (OpenSpec.ofChange tseitinEncodesSpec)

/-- ITS FALSE NEIGHBOUR: 'it returns false'. Refute it at one input. -/
def tseitinEncodesWrong : ChangeSpec := { name := "tseitinEncodes", fn := fun _ => fun
  | [d1, d2, d3] => { results := [.lit (.bool false)], args := [d1, d2, d3] }
  | _ => none }
def TseitinEncodesWrongFalsely : Prop := tseitinEncodesRow.holds Try.pinned (OpenSpec.ofChange tseitinEncodesWrong)

/-- 'cadencelaw12.TseitinThere': WHATEVER THE INPUT: true; the input reads as it did. -/
def tseitinThereSpec : ChangeSpec := { name := "tseitinThere", fn := fun _ => fun
  | [d1, d2, d3] => { results := [.lit (.bool true)], args := [d1, d2, d3] }
  | _ => none }
def tseitinThereRow : OpenClaim := { program := "ytjeopmiopinlgaa", sum := "1a7ea36e63f870a5037295869a22f09b97d0fe559c4eea484f0364d6292b9067", func := "cadence/cadencelaw12.TseitinThere", spec := "tseitinThere", unfollowed := true, recurses := true, plainKeys := false, apart := false }
def TseitinThereSaid : Prop := tseitinThereRow.holds Try.pinned (OpenSpec.ofChange tseitinThereSpec)

/-- ITS FALSE NEIGHBOUR: 'it returns false'. Refute it at one input. -/
def tseitinThereWrong : ChangeSpec := { name := "tseitinThere", fn := fun _ => fun
  | [d1, d2, d3] => { results := [.lit (.bool false)], args := [d1, d2, d3] }
  | _ => none }
def TseitinThereWrongFalsely : Prop := tseitinThereRow.holds Try.pinned (OpenSpec.ofChange tseitinThereWrong)

/-- 'cadencelaw12.TseitinFewer': WHATEVER THE INPUT: true; the input reads as it did. -/
def tseitinFewerSpec : ChangeSpec := { name := "tseitinFewer", fn := fun _ => fun
  | [d1, d2] => { results := [.lit (.bool true)], args := [d1, d2] }
  | _ => none }
def tseitinFewerRow : OpenClaim := { program := "ytjeopmiopinlgaa", sum := "1a7ea36e63f870a5037295869a22f09b97d0fe559c4eea484f0364d6292b9067", func := "cadence/cadencelaw12.TseitinFewer", spec := "tseitinFewer", unfollowed := true, recurses := true, plainKeys := false, apart := false }
def TseitinFewerSaid : Prop := tseitinFewerRow.holds Try.pinned (OpenSpec.ofChange tseitinFewerSpec)

/-- ITS FALSE NEIGHBOUR: 'it returns false'. Refute it at one input. -/
def tseitinFewerWrong : ChangeSpec := { name := "tseitinFewer", fn := fun _ => fun
  | [d1, d2] => { results := [.lit (.bool false)], args := [d1, d2] }
  | _ => none }
def TseitinFewerWrongFalsely : Prop := tseitinFewerRow.holds Try.pinned (OpenSpec.ofChange tseitinFewerWrong)

/-- 'cadencelaw12.TseitinFresh': WHATEVER THE INPUT: true; the input reads as it did. -/
def tseitinFreshSpec : ChangeSpec := { name := "tseitinFresh", fn := fun _ => fun
  | [d1, d2] => { results := [.lit (.bool true)], args := [d1, d2] }
  | _ => none }
def tseitinFreshRow : OpenClaim := { program := "ytjeopmiopinlgaa", sum := "1a7ea36e63f870a5037295869a22f09b97d0fe559c4eea484f0364d6292b9067", func := "cadence/cadencelaw12.TseitinFresh", spec := "tseitinFresh", unfollowed := true, recurses := true, plainKeys := false, apart := false }
def TseitinFreshSaid : Prop := tseitinFreshRow.holds Try.pinned (OpenSpec.ofChange tseitinFreshSpec)

/-- ITS FALSE NEIGHBOUR: 'it returns false'. Refute it at one input. -/
def tseitinFreshWrong : ChangeSpec := { name := "tseitinFresh", fn := fun _ => fun
  | [d1, d2] => { results := [.lit (.bool false)], args := [d1, d2] }
  | _ => none }
def TseitinFreshWrongFalsely : Prop := tseitinFreshRow.holds Try.pinned (OpenSpec.ofChange tseitinFreshWrong)

/-- 'cadencelaw12.TseitinLifts': WHATEVER THE INPUT: true; the input reads as it did. -/
def tseitinLiftsSpec : ChangeSpec := { name := "tseitinLifts", fn := fun _ => fun
  | [d1, d2, d3, d4, d5, d6] => { results := [.lit (.bool true)], args := [d1, d2, d3, d4, d5, d6] }
  | _ => none }
def tseitinLiftsRow : OpenClaim := { program := "ytjeopmiopinlgaa", sum := "1a7ea36e63f870a5037295869a22f09b97d0fe559c4eea484f0364d6292b9067", func := "cadence/cadencelaw12.TseitinLifts", spec := "tseitinLifts", unfollowed := true, recurses := true, plainKeys := false, apart := false }
def TseitinLiftsSaid : Prop := tseitinLiftsRow.holds Try.pinned (OpenSpec.ofChange tseitinLiftsSpec)

/-- ITS FALSE NEIGHBOUR: 'it returns false'. Refute it at one input. -/
def tseitinLiftsWrong : ChangeSpec := { name := "tseitinLifts", fn := fun _ => fun
  | [d1, d2, d3, d4, d5, d6] => { results := [.lit (.bool false)], args := [d1, d2, d3, d4, d5, d6] }
  | _ => none }
def TseitinLiftsWrongFalsely : Prop := tseitinLiftsRow.holds Try.pinned (OpenSpec.ofChange tseitinLiftsWrong)

/-- 'cadencelaw12.TseitinBack': WHATEVER THE INPUT: true; the input reads as it did. -/
def tseitinBackSpec : ChangeSpec := { name := "tseitinBack", fn := fun _ => fun
  | [d1, d2, d3] => { results := [.lit (.bool true)], args := [d1, d2, d3] }
  | _ => none }
def tseitinBackRow : OpenClaim := { program := "ytjeopmiopinlgaa", sum := "1a7ea36e63f870a5037295869a22f09b97d0fe559c4eea484f0364d6292b9067", func := "cadence/cadencelaw12.TseitinBack", spec := "tseitinBack", unfollowed := true, recurses := true, plainKeys := false, apart := false }
def TseitinBackSaid : Prop := tseitinBackRow.holds Try.pinned (OpenSpec.ofChange tseitinBackSpec)

/-- ITS FALSE NEIGHBOUR: 'it returns false'. Refute it at one input. -/
def tseitinBackWrong : ChangeSpec := { name := "tseitinBack", fn := fun _ => fun
  | [d1, d2, d3] => { results := [.lit (.bool false)], args := [d1, d2, d3] }
  | _ => none }
def TseitinBackWrongFalsely : Prop := tseitinBackRow.holds Try.pinned (OpenSpec.ofChange tseitinBackWrong)

/- THE SECOND FORM. 'bulk': how many values and letters a reading holds, each counted each time it is reached (what is shared counts as often as it is met; a slice's spare places count too). A statement '..UptoSaid' is the law's where the arguments, and the package variables that the reading takes, are together of bulk at most 1048576: NARROWER than '..Said'. Prove '..Said' where nothing that the law and all that it calls make is longer than what came in: it says more and counts as full. Else prove '..UptoSaid'. A law counts once. -/
mutual
def uptoBulk {H : Type} : DataW H → Nat
  | .lit (.string bytes) => bytes.length + 1
  | .lit _ => 1
  | .nil => 1
  | .ptr d => uptoBulk d + 1
  | .slice elems spare => uptoBulkAll elems + uptoBulkAll spare + 1
  | .agg parts => uptoBulkAll parts + 1
  | .iface _ d => uptoBulk d + 1
  | .map entries => uptoBulkEntries entries + 1
  | .held _ => 1
def uptoBulkAll {H : Type} : List (DataW H) → Nat
  | [] => 0
  | d :: r => uptoBulk d + uptoBulkAll r
def uptoBulkEntries {H : Type} : List (Lit × DataW H) → Nat
  | [] => 0
  | x :: r => uptoBulkEntry x + uptoBulkEntries r
def uptoBulkEntry {H : Type} : Lit × DataW H → Nat
  | (.string bytes, d) => bytes.length + uptoBulk d + 1
  | (_, d) => uptoBulk d + 1
 end
def uptoSmall : (H : Type) → List (DataW H) → Bool := fun _ ds => decide (uptoBulkAll ds ≤ 1048576)
def OpenSpec.upto (s : _root_.Go.ChangeSpec) : _root_.Go.OpenSpec := { _root_.Go.OpenSpec.ofChange s with cond := some uptoSmall }

/-- 'cadencelaw12.TseitinEncodes', WHERE WHAT IT READS IS OF BULK AT MOST 1048576: true; the input reads as it did. -/
def tseitinEncodesUptoRow : OpenClaim := { program := "ytjeopmiopinlgaa", sum := "1a7ea36e63f870a5037295869a22f09b97d0fe559c4eea484f0364d6292b9067", func := "cadence/cadencelaw12.TseitinEncodes", spec := "tseitinEncodes", unfollowed := true, recurses := true, plainKeys := false, apart := false, narrowed := true }
def TseitinEncodesUptoSaid : Prop := tseitinEncodesUptoRow.holds Try.pinned (OpenSpec.upto tseitinEncodesSpec)

/-- 'cadencelaw12.TseitinThere', WHERE WHAT IT READS IS OF BULK AT MOST 1048576: true; the input reads as it did. -/
def tseitinThereUptoRow : OpenClaim := { program := "ytjeopmiopinlgaa", sum := "1a7ea36e63f870a5037295869a22f09b97d0fe559c4eea484f0364d6292b9067", func := "cadence/cadencelaw12.TseitinThere", spec := "tseitinThere", unfollowed := true, recurses := true, plainKeys := false, apart := false, narrowed := true }
def TseitinThereUptoSaid : Prop := tseitinThereUptoRow.holds Try.pinned (OpenSpec.upto tseitinThereSpec)

/-- 'cadencelaw12.TseitinFewer', WHERE WHAT IT READS IS OF BULK AT MOST 1048576: true; the input reads as it did. -/
def tseitinFewerUptoRow : OpenClaim := { program := "ytjeopmiopinlgaa", sum := "1a7ea36e63f870a5037295869a22f09b97d0fe559c4eea484f0364d6292b9067", func := "cadence/cadencelaw12.TseitinFewer", spec := "tseitinFewer", unfollowed := true, recurses := true, plainKeys := false, apart := false, narrowed := true }
def TseitinFewerUptoSaid : Prop := tseitinFewerUptoRow.holds Try.pinned (OpenSpec.upto tseitinFewerSpec)

/-- 'cadencelaw12.TseitinFresh', WHERE WHAT IT READS IS OF BULK AT MOST 1048576: true; the input reads as it did. -/
def tseitinFreshUptoRow : OpenClaim := { program := "ytjeopmiopinlgaa", sum := "1a7ea36e63f870a5037295869a22f09b97d0fe559c4eea484f0364d6292b9067", func := "cadence/cadencelaw12.TseitinFresh", spec := "tseitinFresh", unfollowed := true, recurses := true, plainKeys := false, apart := false, narrowed := true }
def TseitinFreshUptoSaid : Prop := tseitinFreshUptoRow.holds Try.pinned (OpenSpec.upto tseitinFreshSpec)

/-- 'cadencelaw12.TseitinLifts', WHERE WHAT IT READS IS OF BULK AT MOST 1048576: true; the input reads as it did. -/
def tseitinLiftsUptoRow : OpenClaim := { program := "ytjeopmiopinlgaa", sum := "1a7ea36e63f870a5037295869a22f09b97d0fe559c4eea484f0364d6292b9067", func := "cadence/cadencelaw12.TseitinLifts", spec := "tseitinLifts", unfollowed := true, recurses := true, plainKeys := false, apart := false, narrowed := true }
def TseitinLiftsUptoSaid : Prop := tseitinLiftsUptoRow.holds Try.pinned (OpenSpec.upto tseitinLiftsSpec)

/-- 'cadencelaw12.TseitinBack', WHERE WHAT IT READS IS OF BULK AT MOST 1048576: true; the input reads as it did. -/
def tseitinBackUptoRow : OpenClaim := { program := "ytjeopmiopinlgaa", sum := "1a7ea36e63f870a5037295869a22f09b97d0fe559c4eea484f0364d6292b9067", func := "cadence/cadencelaw12.TseitinBack", spec := "tseitinBack", unfollowed := true, recurses := true, plainKeys := false, apart := false, narrowed := true }
def TseitinBackUptoSaid : Prop := tseitinBackUptoRow.holds Try.pinned (OpenSpec.upto tseitinBackSpec)

end Rows
end Go.Proofs.Ytjeopmiopinlgaa
