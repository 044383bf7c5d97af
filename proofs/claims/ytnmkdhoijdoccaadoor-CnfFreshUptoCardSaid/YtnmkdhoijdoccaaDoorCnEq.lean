/- Eliminate's steps: plain laws. -/
import Derived.Test.YtnmkdhoijdoccaaDoorCnEl
import Derived.Test.YtnmkdhoijdoccaaDoorPool
set_option linter.unusedVariables false
set_option linter.unusedSimpArgs false
namespace Go.Proofs.YtnmkdhoijdoccaaDoor
open Go SL

def fW (v : Int) (Q : Ent2) : Ent2 := Q.filter fun p => p.2.contains v
def fN (v : Int) (Q : Ent2) : Ent2 := Q.filter fun p => !p.2.contains v && p.2.contains (-v)
def fO (v : Int) (Q : Ent2) : Ent2 := Q.filter fun p => !p.2.contains v && !p.2.contains (-v)
theorem filter_take {α : Type} (p : α → Bool) (Q : List α) {j : Nat} (h : j < Q.length) : (Q.take (j + 1)).filter p = (Q.take j).filter p ++ (if p Q[j] = true then [Q[j]] else []) := by
  rw [List.take_succ_eq_append_getElem h, List.filter_append]
  congr 1
  by_cases hp : p Q[j] = true
  · rw [if_pos hp, List.filter_cons_of_pos hp]; rfl
  · rw [if_neg hp, List.filter_cons_of_neg hp]; rfl
theorem fW_snd (v : Int) (Q : Ent2) : (fW v Q).map Prod.snd = withM v (Q.map Prod.snd) := by unfold fW withM; rw [List.filter_map]; rfl
theorem fN_snd (v : Int) (Q : Ent2) : (fN v Q).map Prod.snd = againM v (Q.map Prod.snd) := by unfold fN againM; rw [List.filter_map]; rfl
theorem fO_snd (v : Int) (Q : Ent2) : (fO v Q).map Prod.snd = restC v (Q.map Prod.snd) := by unfold fO restC; rw [List.filter_map]; rfl
theorem pairs_len (W N : List (List Int)) : (pairsM W N).length = W.length * N.length := by
  unfold pairsM
  induction W with
  | nil => simp
  | cons a W ih => rw [List.flatMap_cons, List.length_append, List.length_map, ih, List.length_cons, Nat.succ_mul]; omega
theorem pairs_drop (W N : List (List Int)) {i : Nat} (h : i < W.length) : pairsM (W.drop i) N = (N.drop 0).map (fun b => (W[i], b)) ++ pairsM (W.drop (i + 1)) N := by
  rw [List.drop_eq_getElem_cons h]; rfl
theorem row_drop (a : List Int) (N : List (List Int)) (r : List (List Int × List Int)) {k : Nat} (h : k < N.length) : (N.drop k).map (fun b => (a, b)) ++ r = (a, N[k]) :: ((N.drop (k + 1)).map (fun b => (a, b)) ++ r) := by
  rw [List.drop_eq_getElem_cons h]; rfl
theorem normE_fit {c : List Int} (h : normE c = 0) : c.length ≤ 65536 ∧ ∀ y ∈ c, litOk y = true := by
  unfold normE at h
  split at h
  · cases h
  split at h
  · cases h
  · rename_i h1 h2
    refine ⟨by omega, fun y hy => ?_⟩
    refine Classical.byContradiction fun hn => h2 (List.any_eq_true.2 ⟨y, hy, ?_⟩)
    cases e : litOk y
    · rfl
    · exact absurd e hn
/-- A resolvent fits. -/
theorem resM_fit {a b : List Int} {v : Int} (h : (resM a b v).2 = 0) : (resM a b v).1.length ≤ 65536 ∧ ∀ y ∈ (resM a b v).1, litOk y = true := by
  unfold resM at *
  split at h
  · rename_i h1; exact absurd h h1
  rename_i h1
  split at h
  · rename_i h2; exact absurd h h2
  rename_i h2
  split at h
  · cases h
  split at h
  · cases h
  split at h
  · cases h
  · rename_i h3 h4 h5
    rw [if_neg h1, if_neg h2, if_neg h3, if_neg h4, if_neg h5]
    refine ⟨by simp only; omega, fun y hy => ?_⟩
    have hy := setM_mem.1 hy
    unfold resC at hy
    rcases List.mem_append.1 hy with hy | hy
    · exact (normE_fit (Decidable.not_not.1 h1)).2 y (List.mem_filter.1 hy).1
    · exact (normE_fit (Decidable.not_not.1 h2)).2 y (List.mem_filter.1 hy).1
/-- What tidied leaves fits. -/
theorem tid_fit {cls : List (List Int)} {k : Nat} (h : ∀ c ∈ cls, c.length ≤ k ∧ ∀ y ∈ c, litOk y = true) : ∀ d ∈ tidM cls, d.length ≤ k ∧ ∀ y ∈ d, litOk y = true := fun d hd => by
  obtain ⟨c, hc, rfl, -⟩ := (tidM_mem cls d).1 hd
  obtain ⟨h1, h2⟩ := h c hc
  exact ⟨by have := setM_len c; omega, fun y hy => h2 y (setM_mem.1 hy)⟩
theorem lit_i64 {c : List Int} (h : ∀ y ∈ c, litOk y = true) : ∀ y ∈ c, I64 y := fun y hy => by
  have := litOk_iff.1 (h y hy)
  exact ⟨by omega, by omega⟩
end Go.Proofs.YtnmkdhoijdoccaaDoor
