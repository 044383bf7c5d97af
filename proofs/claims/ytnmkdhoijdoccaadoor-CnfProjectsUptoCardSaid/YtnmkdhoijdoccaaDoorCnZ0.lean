/- What a check says; formulas under an assignment. Plain laws. -/
import Derived.Test.YtnmkdhoijdoccaaDoorCnRc
import Derived.Test.YtnmkdhoijdoccaaDoorCnQ
set_option linter.unusedVariables false
set_option linter.unusedSimpArgs false
namespace Go.Proofs.YtnmkdhoijdoccaaDoor
open Go Go.RowKit SL

theorem checkFrom_zero (vars : Int) : ∀ (cls : List (List Int)) (i all : Nat), all ≤ 4194304 → ((checkFrom vars i all cls).2 = 0 ↔ (∀ c ∈ cls, c.length ≤ 65536 ∧ c.any (badL vars) = false) ∧ all + (cls.map List.length).sum ≤ 4194304)
  | [], i, all, ha => by simp [checkFrom, ha]
  | c :: cs, i, all, ha => by
    unfold checkFrom
    by_cases h1 : 65536 < c.length
    · rw [if_pos h1]
      constructor
      · intro h; cases h
      · intro h; have := (h.1 c List.mem_cons_self).1; omega
    rw [if_neg h1]
    by_cases h2 : c.any (badL vars) = true
    · rw [if_pos h2]
      constructor
      · intro h; cases h
      · intro h; have := (h.1 c List.mem_cons_self).2; rw [h2] at this; cases this
    rw [if_neg h2]
    simp only [List.map_cons, List.sum_cons]
    by_cases h3 : 4194304 < all + c.length
    · rw [if_pos h3]
      constructor
      · intro h; cases h
      · intro h; omega
    rw [if_neg h3, checkFrom_zero vars cs _ _ (by omega)]
    constructor
    · intro h
      refine ⟨fun d hd => ?_, by omega⟩
      rcases List.mem_cons.1 hd with rfl | hd
      · exact ⟨by omega, by simpa using h2⟩
      · exact h.1 d hd
    · intro h
      exact ⟨fun d hd => h.1 d (List.mem_cons_of_mem _ hd), by omega⟩
theorem checkM_zero {vars : Int} {cls : List (List Int)} : (checkM vars cls).2 = 0 ↔ (0 ≤ vars ∧ vars ≤ 1048576) ∧ cls.length ≤ 1048576 ∧ (∀ c ∈ cls, c.length ≤ 65536 ∧ c.any (badL vars) = false) ∧ (cls.map List.length).sum ≤ 4194304 := by
  unfold checkM
  by_cases h1 : vars < 0 ∨ 1048576 < vars
  · rw [if_pos h1]
    constructor
    · intro h; cases h
    · intro h; omega
  rw [if_neg h1]
  by_cases h2 : 1048576 < cls.length
  · rw [if_pos h2]
    constructor
    · intro h; cases h
    · intro h; omega
  rw [if_neg h2, checkFrom_zero vars cls 0 0 (by omega)]
  constructor
  · intro h; exact ⟨by omega, by omega, h.1, by omega⟩
  · intro h; exact ⟨h.2.2.1, by have := h.2.2.2; omega⟩
/-! ### Under -/
def undV (cls : List (List Int)) (m : List Int) : Int := if cls.any (fun c => valM c m == -1) = true then -1 else if cls.any (fun c => valM c m == 0) = true then 0 else 1
theorem underFrom_val (m : List Int) : ∀ (cls : List (List Int)) (i : Nat) (o : Int), (underFrom m i o cls).1 = if cls.any (fun c => valM c m == -1) = true then -1 else if 0 ≤ o ∨ cls.any (fun c => valM c m == 0) = true then 0 else 1
  | [], i, o => by unfold underFrom; by_cases h : 0 ≤ o <;> simp [h]
  | c :: cs, i, o => by
    unfold underFrom
    rcases valM_vals c m with h | h | h
    · rw [if_neg (by rw [h]; decide), underFrom_val m cs]
      simp only [List.any_cons, h]
      by_cases ho : o < 0
      · simp [ho]
      · simp [ho, show 0 ≤ o by omega]
    · rw [if_neg (by rw [h]; decide), underFrom_val m cs]
      simp only [List.any_cons, h]
      simp
    · rw [if_pos h]
      simp [List.any_cons, h]
theorem underM_val {vars : Int} {cls : List (List Int)} (h : (checkM vars cls).2 = 0) (m : List Int) : (underM vars cls m).1 = undV cls m := by
  unfold underM undV
  rw [if_neg (by rw [h]; simp), underFrom_val]
  simp
end Go.Proofs.YtnmkdhoijdoccaaDoor
