/- Plain laws: a sort by the literals' order, then Compact, is the set clause. -/
import Derived.Test.YtnmkdhoijdoccaaCnP
import Derived.Shelf.SlSortCmp.NoneTotal
set_option linter.unusedVariables false
set_option linter.unusedSimpArgs false
namespace Go.Proofs.Ytnmkdhoijdoccaa
open Go Go.RowKit Go.Sort SL

/-- Numbers of a literal's size. -/
abbrev L20 := { x : Int // -1048576 ≤ x ∧ x ≤ 1048576 }
instance : Inhabited L20 := ⟨⟨0, by decide⟩⟩
def cfL (x y : L20) : Int := cfM x.1 y.1
theorem ltL (x y : L20) : ltOf cfL x y = aheadM x.1 y.1 := cfM_lt _ _
theorem swoL : SWO (ltOf cfL) where
  irrefl x := by rw [ltL]; exact aheadM_irrefl _
  trans x y z h1 h2 := by rw [ltL] at *; exact aheadM_trans h1 h2
  ntrans x y z h1 h2 := by rw [ltL] at *; exact aheadM_ntrans h1 h2
theorem totL (x y : L20) (h1 : ltOf cfL x y = false) (h2 : ltOf cfL y x = false) : x = y := by
  rw [ltL] at *
  by_cases e : x.1 = y.1
  · exact Subtype.ext e
  · rcases aheadM_total e with h | h
    · rw [h] at h1; cases h1
    · rw [h] at h2; cases h2
theorem sort_compact (xs : List L20) : Lib.compact ((xs.mergeSort fun x y => !(ltOf cfL) y x).map (·.1)) = setM (xs.map (·.1)) := by
  refine compact_set ((List.mergeSort_perm _ _).map _) ?_
  rw [List.pairwise_map]
  have h := List.pairwise_mergeSort (le := fun x y : L20 => !(ltOf cfL) y x) (fun a b c h1 h2 => by
      simp only [Bool.not_eq_true'] at *
      exact swoL.ntrans _ _ _ h2 h1) (fun a b => by
      rw [ltL, ltL]
      cases h : aheadM b.1 a.1 with
      | false => rfl
      | true => rw [aheadM_asymm h]; rfl) xs
  refine h.imp fun {a b} h => ?_
  simp only [Bool.not_eq_true'] at h
  rw [ltL] at h
  exact h
/-- Literals as such numbers. -/
theorem lits20 (c : List Int) (h : ∀ x ∈ c, litOk x = true) : ∃ xs : List L20, xs.map (·.1) = c := by
  induction c with
  | nil => exact ⟨[], rfl⟩
  | cons x c ih =>
    obtain ⟨xs, hx⟩ := ih fun y hy => h y (List.mem_cons_of_mem _ hy)
    have hl := litOk_iff.1 (h x List.mem_cons_self)
    exact ⟨⟨x, hl.2⟩ :: xs, by simp [hx]⟩
end Go.Proofs.Ytnmkdhoijdoccaa
