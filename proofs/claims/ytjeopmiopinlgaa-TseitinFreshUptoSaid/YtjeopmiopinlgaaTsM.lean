/- The reference's graph over the same nodes: plain. -/
import Derived.Test.YtjeopmiopinlgaaAigH
set_option linter.unusedVariables false
set_option linter.unusedSimpArgs false
namespace Go.Proofs.Ytjeopmiopinlgaa

/-- The reference's nodes: kind and two numbers. -/
def rnodes (ns : Nodes) : List (Nat × Nat × Nat) := (List.range ns.length).map (nodeM ns)
theorem nodeM_snoc {ns : Nodes} {x : Nat × Nat} {n : Nat} (h : n < ns.length) : nodeM (ns ++ [x]) n = nodeM ns n := by
  unfold nodeM
  have : (ns ++ [x]).getD n (0, 0) = ns.getD n (0, 0) := by simp [List.getD_eq_getElem?_getD, List.getElem?_append_left h]
  rw [this]
theorem rnodes_snoc (ns : Nodes) (x : Nat × Nat) : rnodes (ns ++ [x]) = rnodes ns ++ [nodeM (ns ++ [x]) ns.length] := by
  unfold rnodes
  rw [List.length_append, List.length_singleton, List.range_succ, List.map_append]
  congr 1
  exact List.map_congr_left fun n hn => nodeM_snoc (by simpa using hn)
theorem rnodes_gate {ns : Nodes} {a b : Nat} (h : ns.length ≠ 0) (ha : a ≠ mark) : rnodes (ns ++ [(a, b)]) = rnodes ns ++ [(2, a, b)] := by
  rw [rnodes_snoc]
  congr 2
  unfold nodeM
  have : (ns ++ [(a, b)]).getD ns.length (0, 0) = (a, b) := by simp [List.getD_eq_getElem?_getD]
  rw [this, if_neg h, if_neg ha]
theorem rnodes_input {ns : Nodes} {k : Nat} (h : ns.length ≠ 0) : rnodes (ns ++ [(mark, k)]) = rnodes ns ++ [(1, k, 0)] := by
  rw [rnodes_snoc]
  congr 2
  unfold nodeM
  have : (ns ++ [(mark, k)]).getD ns.length (0, 0) = (mark, k) := by simp [List.getD_eq_getElem?_getD]
  rw [this, if_neg h, if_pos rfl]
theorem rnodes_length (ns : Nodes) : (rnodes ns).length = ns.length := by simp [rnodes]
theorem rnodes_get {ns : Nodes} {n : Nat} (h : n < ns.length) : (rnodes ns)[n]? = some (nodeM ns n) := by
  simp [rnodes, h]
/-- What the linear search finds is what the map holds. -/
theorem search_some {ns : Nodes} {a b i : Nat} (hi : i < ns.length) (h : nodeM ns i = (2, a, b)) : ((a, b), 2 * i) ∈ gatesOf ns := by
  unfold nodeM at h
  by_cases h0 : i = 0
  · rw [if_pos h0] at h; simp at h
  rw [if_neg h0] at h
  by_cases hm : (ns.getD i (0, 0)).1 = mark
  · rw [if_pos hm] at h; simp at h
  rw [if_neg hm] at h
  have hg : ns.getD i (0, 0) = (a, b) := by simpa using h
  refine mem_gatesOf.2 ⟨i, ?_, h0, by rw [hg] at hm; exact hm, rfl⟩
  rw [← hg]; simp [List.getD_eq_getElem?_getD, hi]
end Go.Proofs.Ytjeopmiopinlgaa
