/- The reference's Lit, Var, Of, Value: told quietly. -/
import Derived.Test.YtnmkdhoijdoccaaDoorRw2
import Derived.Test.YtnmkdhoijdoccaaDoorProg
import Derived.Test.YtnmkdhoijdoccaaDoorOrd
import Derived.Deep.LoopGhost
import Derived.WalkSmall
set_option linter.unusedVariables false
set_option linter.unusedSimpArgs false
namespace Go.Proofs.YtnmkdhoijdoccaaDoor
open Go Go.RowKit SL

def I64 (k : Int) : Prop := -9223372036854775808 ≤ k ∧ k ≤ 9223372036854775807
def litOk (l : Int) : Bool := l != 0 && decide (-1048576 ≤ l) && decide (l ≤ 1048576)
def varM (l : Int) : Int := if l < 0 then -l else l
theorem litOk_true {l : Int} (h : l ≠ 0) (h1 : -1048576 ≤ l) (h2 : l ≤ 1048576) : litOk l = true := by simp [litOk, h, h1, h2]
theorem litOk_iff {l : Int} : litOk l = true ↔ l ≠ 0 ∧ -1048576 ≤ l ∧ l ≤ 1048576 := by simp [litOk, and_assoc]
theorem rlit_walk (w : World) (l : Int) (h : I64 l) :
    Calls Tryd.prog 54 #[.int .i64 l] w fun e w' => e = .returned (.bool (litOk l)) ∧ w' = w := by
  obtain ⟨h1, h2⟩ := h
  have hL : litOk l = (l != 0 && decide (-1048576 ≤ l) && decide (l ≤ 1048576)) := rfl
  generalize litOk l = L at *
  by_cases e0 : l = 0
  · have d0 : (l != 0) = false := by simp [e0]
    rw [d0] at hL; simp only [Bool.false_and] at hL
    subst hL; clear e0
    go_enter Tryd.func54, Tryd.ntmps54
    go_wp2
    go_ret
    exact ⟨rfl, rfl⟩
  have d0 : (l != 0) = true := by simp [e0]
  by_cases e1 : -1048576 ≤ l
  · have d1 : decide (-1048576 ≤ l) = true := decide_eq_true e1
    by_cases e2 : l ≤ 1048576
    · have d2 : decide (l ≤ 1048576) = true := decide_eq_true e2
      rw [d0, d1, d2] at hL; simp only [Bool.and_self] at hL
      subst hL; clear e0
      go_enter Tryd.func54, Tryd.ntmps54
      go_wp2
      go_ret
      exact ⟨rfl, rfl⟩
    · have d2 : decide (l ≤ 1048576) = false := decide_eq_false e2
      rw [d0, d1, d2] at hL; simp only [Bool.and_false] at hL
      subst hL; clear e0
      go_enter Tryd.func54, Tryd.ntmps54
      go_wp2
      go_ret
      exact ⟨rfl, rfl⟩
  · have d1 : decide (-1048576 ≤ l) = false := decide_eq_false e1
    rw [d0, d1] at hL; simp only [Bool.and_false, Bool.false_and] at hL
    subst hL; clear e0
    go_enter Tryd.func54, Tryd.ntmps54
    go_wp2
    go_ret
    exact ⟨rfl, rfl⟩
theorem rvar_walk (w : World) (l : Int) (h1 : -9223372036854775807 ≤ l) (h2 : l ≤ 9223372036854775807) :
    Calls Tryd.prog 55 #[.int .i64 l] w fun e w' => e = .returned (.int .i64 (varM l)) ∧ w' = w := by
  have hV : varM l = if l < 0 then -l else l := rfl
  generalize varM l = V at *
  by_cases e : l < 0
  · rw [if_pos e] at hV
    have HV := Lib.hid hV; clear hV
    go_enter Tryd.func55, Tryd.ntmps55
    go_wp2
    go_ret
    exact ⟨by rw [HV.out]; rfl, rfl⟩
  · rw [if_neg e] at hV
    have HV := Lib.hid hV; clear hV
    have e' : 0 ≤ l := by omega
    clear e
    go_enter Tryd.func55, Tryd.ntmps55
    go_wp2
    go_ret
    exact ⟨by rw [HV.out]; rfl, rfl⟩

/-- What a literal is under an assignment. -/
def ofM (m : List Int) (l : Int) : Int :=
  if litOk l = true ∧ varM l ≤ m.length then
    let x := m.getD ((varM l).toNat - 1) 0
    if x = 1 ∨ x = -1 then (if l < 0 then -x else x) else 0
  else 0
theorem ofM_vals (m : List Int) (l : Int) : ofM m l = 0 ∨ ofM m l = 1 ∨ ofM m l = -1 := by
  unfold ofM
  split
  · simp only
    split
    · rename_i h; rcases h with h | h <;> split <;> rw [h] <;> simp
    · exact .inl rfl
  · exact .inl rfl

/-- What a clause is under an assignment. -/
def valM (c m : List Int) : Int := if c.any (fun l => ofM m l == 1) then 1 else if c.any (fun l => ofM m l == 0) then 0 else -1

end Go.Proofs.YtnmkdhoijdoccaaDoor
