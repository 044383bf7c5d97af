/- AigFresh: what it needs beside. -/
import Derived.Test.YtjllogellpfpkaaAigL3
set_option linter.unusedVariables false
set_option linter.unusedSimpArgs false
namespace Go.Proofs.Ytjllogellpfpkaa
open Go Go.RowKit SL

theorem lay_zero {hs ns : Nodes} {ins : List Nat} (hi : ∀ y ∈ ins, y = 0) (K : List Nat) : (layOver hs ins ns K).2 = ns ∧ ∀ y ∈ (layOver hs ins ns K).1, y ≤ 1 := by
  suffices h : ∀ (K : List Nat) (p : List Nat × Nodes), p.2 = ns → (∀ y ∈ p.1, y ≤ 1) → (K.foldl (layStep hs ins) p).2 = ns ∧ ∀ y ∈ (K.foldl (layStep hs ins) p).1, y ≤ 1 from
    h K _ rfl (fun y hy => by rw [(List.mem_replicate.1 hy).2]; exact Nat.zero_le _)
  intro K
  induction K with
  | nil => intro p h1 h2; exact ⟨h1, h2⟩
  | cons n K ih =>
    intro p h1 h2
    rw [List.foldl_cons]
    have h0 : ∀ i, p.1.getD i 0 ≤ 1 := fun i => by
      by_cases h : i < p.1.length
      · simp only [List.getD_eq_getElem?_getD, List.getElem?_eq_getElem h]; exact h2 _ (List.getElem_mem h)
      · simp [List.getD_eq_getElem?_getD, List.getElem?_eq_none (Nat.le_of_not_lt h)]
    have hm : ∀ x, mvL p.1 x ≤ 1 := fun x => by
      have := h0 (x / 2)
      unfold mvL
      split
      · unfold notL; split <;> omega
      · exact this
    have ha : ∀ a b : Nat, a ≤ 1 → b ≤ 1 → (andM p.2 a b).1 ≤ 1 ∧ (andM p.2 a b).2 = p.2 := fun a b ha hb => by
      by_cases c1 : a = 0 ∨ b = 0 ∨ a = notL b
      · rw [andM_0 c1]; exact ⟨Nat.zero_le _, rfl⟩
      · rw [andM_1 c1 (.inl (by omega))]; exact ⟨hb, rfl⟩
    refine ih _ ?_ ?_
    · unfold layStep
      split
      · exact h1
      · show (andM p.2 _ _).2 = ns
        rw [(ha _ _ (hm _) (hm _)).2, h1]
    · intro y hy
      unfold layStep at hy
      split at hy
      · rcases List.mem_or_eq_of_mem_set hy with h | h
        · exact h2 y h
        · rw [h]
          by_cases hl : (nd hs n).2 < ins.length
          · simp only [List.getD_eq_getElem?_getD, List.getElem?_eq_getElem hl]
            have := hi _ (List.getElem_mem hl)
            show ins[(nd hs n).2] ≤ 1
            omega
          · simp [List.getD_eq_getElem?_getD, List.getElem?_eq_none (Nat.le_of_not_lt hl)]
      · rcases List.mem_or_eq_of_mem_set hy with h | h
        · exact h2 y h
        · rw [h]; exact (ha _ _ (hm _) (hm _)).1
theorem layM_zero {ns hs : Nodes} {ins roots : List Nat} (hi : ∀ y ∈ ins, y = 0) : (layM ns hs ins roots).2 = ns ∧ (layM ns hs ins roots).1.length = roots.length := by
  exact ⟨(lay_zero hi _).1, by simp [layM]⟩

theorem arr_int {e : TypeId} {k : IntKind} {v : Value} {xs : List Nat} : Arr (cNat k) e v xs = Arr (cInt k) e v (xs.map fun n : Nat => (n : Int)) := by
  unfold Arr
  rw [List.length_map]
  congr 1
  simp [Cd.all, cNat, cInt, List.flatMap_map]
end Go.Proofs.Ytjllogellpfpkaa
