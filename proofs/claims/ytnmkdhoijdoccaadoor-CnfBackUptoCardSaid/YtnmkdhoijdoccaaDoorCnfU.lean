/- The reference's Under. -/
import Derived.Test.YtnmkdhoijdoccaaDoorCnfS
set_option linter.unusedVariables false
set_option linter.unusedSimpArgs false
namespace Go.Proofs.YtnmkdhoijdoccaaDoor
open Go Go.RowKit SL

def underFrom (m : List Int) : Nat → Int → List (List Int) → Int × Int × Int
  | i, o, [] => if 0 ≤ o then (0, o, 0) else (1, i, 0)
  | i, o, c :: cs => if valM c m = -1 then (-1, i, 0) else underFrom m (i + 1) (if valM c m = 0 ∧ o < 0 then i else o) cs
def underM (vars : Int) (cls : List (List Int)) (m : List Int) : Int × Int × Int :=
  if (checkM vars cls).2 ≠ 0 then (0, 0, (checkM vars cls).2) else underFrom m 0 (-1) cls
theorem valM_vals (c m : List Int) : valM c m = 0 ∨ valM c m = 1 ∨ valM c m = -1 := by
  unfold valM; split
  · simp
  · split <;> simp

theorem checkFrom_vals (vars : Int) : ∀ (cls : List (List Int)) (i all : Nat), (checkFrom vars i all cls).2 = 0 ∨ (checkFrom vars i all cls).2 = 20 ∨ (checkFrom vars i all cls).2 = 22 ∨ (checkFrom vars i all cls).2 = 23
  | [], _, _ => .inl rfl
  | c :: cs, i, all => by
    unfold checkFrom
    split
    · simp
    split
    · simp
    split
    · simp
    · exact checkFrom_vals vars cs _ _
theorem checkM_vals (vars : Int) (cls : List (List Int)) : 0 ≤ (checkM vars cls).2 ∧ (checkM vars cls).2 ≤ 23 := by
  unfold checkM
  split
  · simp
  split
  · simp
  · rcases checkFrom_vals vars cls 0 0 with h | h | h | h <;> rw [h] <;> simp

end Go.Proofs.YtnmkdhoijdoccaaDoor
