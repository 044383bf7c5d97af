/- Scripts in memory. -/
import Derived.Test.YtjllogellpfpkaaDoorAigL
set_option linter.unusedVariables false
set_option linter.unusedSimpArgs false
namespace Go.Proofs.YtjllogellpfpkaaDoor
open Go Go.RowKit SL

theorem add_form (ad : Addr) (m k : Nat) (hk : k ≠ 0) : ad.add (m + k) = ⟨(ad.add m).block, (ad.add m).off + k, none⟩ := by
  unfold Addr.add
  rw [if_neg (by omega)]
  split
  · rename_i h; subst h; simp
  · simp [Nat.add_assoc]
def cMade : Cd Mk := ⟨4, fun p => [.int .i64 p.1, .int .i64 p.2.1, .int .i64 p.2.2.1, .int .i64 p.2.2.2], fun _ => rfl, by simp [Value.oneCell'], by decide⟩
def In64 (i : Int) : Prop := -9223372036854775808 ≤ i ∧ i ≤ 9223372036854775807
def MkIn (s : Mk) : Prop := In64 s.1 ∧ In64 s.2.1 ∧ In64 s.2.2.1 ∧ In64 s.2.2.2
end Go.Proofs.YtjllogellpfpkaaDoor
