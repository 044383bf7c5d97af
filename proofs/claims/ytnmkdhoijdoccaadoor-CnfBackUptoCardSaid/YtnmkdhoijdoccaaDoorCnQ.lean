/- Plain laws: set clauses and resolvents under assignments. -/
import Derived.Test.YtnmkdhoijdoccaaDoorCnK
set_option linter.unusedVariables false
set_option linter.unusedSimpArgs false
namespace Go.Proofs.YtnmkdhoijdoccaaDoor
open Go Go.RowKit SL

theorem valM_congr {c c' m : List Int} (h : ∀ x, x ∈ c ↔ x ∈ c') : valM c m = valM c' m := by
  have e1 : c.any (fun l => ofM m l == 1) = c'.any (fun l => ofM m l == 1) := by
    rw [Bool.eq_iff_iff, List.any_eq_true, List.any_eq_true]
    constructor <;> (rintro ⟨x, hx, h1⟩; exact ⟨x, by first | exact (h x).1 hx | exact (h x).2 hx, h1⟩)
  have e2 : c.any (fun l => ofM m l == 0) = c'.any (fun l => ofM m l == 0) := by
    rw [Bool.eq_iff_iff, List.any_eq_true, List.any_eq_true]
    constructor <;> (rintro ⟨x, hx, h1⟩; exact ⟨x, by first | exact (h x).1 hx | exact (h x).2 hx, h1⟩)
  unfold valM
  rw [e1, e2]
theorem valM_set (c m : List Int) : valM (setM c) m = valM c m := valM_congr fun x => setM_mem
theorem ofM_neg (m : List Int) (v : Int) : ofM m (-v) = -(ofM m v) := by
  unfold ofM
  rw [varM_neg]
  by_cases h : litOk v = true ∧ varM v ≤ m.length
  · have hl := litOk_iff.1 h.1
    rw [if_pos h, if_pos ⟨litOk_iff.2 ⟨by omega, by omega, by omega⟩, h.2⟩]
    simp only
    split
    · split <;> split <;> omega
    · rfl
  · rw [if_neg h, if_neg]
    · rfl
    · rintro ⟨h1, h2⟩
      have hl := litOk_iff.1 h1
      exact h ⟨litOk_iff.2 ⟨by omega, by omega, by omega⟩, h2⟩
theorem normE_set {c : List Int} (h : normE c = 0) : normE (setM c) = 0 := by
  obtain ⟨h1, h2⟩ := normE_ok h
  have := setM_len c
  exact normE_of (by omega) fun x hx => h2 x (setM_mem.1 hx)
theorem normS_ok {c : List Int} (h : normE c = 0) : normS c = setM c := if_pos h
theorem normS_bad {c : List Int} (h : normE c ≠ 0) : normS c = [] := if_neg h
theorem normT_ok {c : List Int} (h : normE c = 0) : normT c = twoM (setM c) := if_pos h
theorem normT_bad {c : List Int} (h : normE c ≠ 0) : normT c = false := if_neg h
theorem subM_self_set {c : List Int} (h : normE c = 0) : subM c (setM c) = true ∧ subM (setM c) c = true := by
  unfold subM
  rw [h, normE_set h]
  refine ⟨?_, ?_⟩
  · simp only [beq_self_eq_true, Bool.true_and, List.all_eq_true, List.contains_iff_mem]
    exact fun x hx => setM_mem.2 hx
  · simp only [beq_self_eq_true, Bool.true_and, List.all_eq_true, List.contains_iff_mem]
    exact fun x hx => setM_mem.1 hx
theorem sub_sound {a b m : List Int} (h : subM a b = true) (ha : valM a m = 1) : valM b m = 1 := by
  unfold subM at h
  simp only [Bool.and_eq_true, List.all_eq_true, List.contains_iff_mem] at h
  rw [valM_one] at *
  obtain ⟨l, hl, h1⟩ := ha
  exact ⟨l, h.2 l hl, h1⟩
theorem resM_err {a b : List Int} {v : Int} (h : (resM a b v).2 ≠ 0) : (resM a b v).1 = [] := by
  unfold resM at *
  split
  · rfl
  split
  · rfl
  split
  · rfl
  split
  · rfl
  split
  · rfl
  · rename_i h1 h2 h3 h4 h5
    rw [if_neg h1, if_neg h2, if_neg h3, if_neg h4, if_neg h5] at h
    exact absurd rfl h
theorem resM_ok {a b : List Int} {v : Int} (h : (resM a b v).2 = 0) : (resM a b v).1 = setM (resC a b v) := by
  unfold resM at *
  split at h
  · rename_i h1; exact absurd h h1
  split at h
  · rename_i h1; exact absurd h h1
  split at h
  · cases h
  split at h
  · cases h
  split at h
  · cases h
  · rename_i h1 h2 h3 h4 h5
    rw [if_neg h1, if_neg h2, if_neg h3, if_neg h4, if_neg h5]
theorem res_sound {a b m : List Int} {v : Int} (h : (resM a b v).2 = 0) (ho : ofM m v ≠ 0) (ha : valM a m = 1) (hb : valM b m = 1) : valM (resM a b v).1 m = 1 := by
  rw [resM_ok h, valM_set]
  rw [valM_one] at *
  have hn := ofM_neg m v
  rcases ofM_vals m v with h0 | h0 | h0
  · exact absurd h0 ho
  · obtain ⟨l, hl, h1⟩ := hb
    refine ⟨l, List.mem_append_right _ (List.mem_filter.2 ⟨hl, ?_⟩), h1⟩
    simp only [bne_iff_ne, ne_eq]
    intro e; rw [e, hn, h0] at h1; omega
  · obtain ⟨l, hl, h1⟩ := ha
    refine ⟨l, List.mem_append_left _ (List.mem_filter.2 ⟨hl, ?_⟩), h1⟩
    simp only [bne_iff_ne, ne_eq]
    intro e; rw [e, h0] at h1; omega
end Go.Proofs.YtnmkdhoijdoccaaDoor
