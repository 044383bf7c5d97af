/- Clauses of circuits: plain definitions. -/
import Derived.Test.YtjeopmiopinlgaaTsM
set_option linter.unusedVariables false
set_option linter.unusedSimpArgs false
namespace Go.Proofs.Ytjeopmiopinlgaa

/-- Each node's variable, 0 of others. -/
def varsM (n : Nat) (cone : List Nat) : List Nat := cone.zipIdx.foldl (fun v p => v.set p.1 (p.2 + 1)) (List.replicate n 0)
theorem varsM_snoc (n : Nat) (c : List Nat) (m : Nat) : varsM n (c ++ [m]) = (varsM n c).set m (c.length + 1) := by
  unfold varsM
  rw [List.zipIdx_append, List.foldl_append]
  simp
theorem snocInd {α : Type} {P : List α → Prop} (h0 : P []) (hs : ∀ l a, P l → P (l ++ [a])) (l : List α) : P l := by
  have : ∀ l : List α, P l.reverse := fun l => by
    induction l with
    | nil => exact h0
    | cons a l ih => rw [List.reverse_cons]; exact hs _ _ ih
  have h := this l.reverse
  rwa [List.reverse_reverse] at h
theorem varsM_length (n : Nat) (c : List Nat) : (varsM n c).length = n := by
  refine snocInd (P := fun c => (varsM n c).length = n) ?_ ?_ c
  · simp [varsM]
  · intro l a ih; rw [varsM_snoc, List.length_set, ih]
theorem varsM_le (n : Nat) (c : List Nat) : ∀ y ∈ varsM n c, y ≤ c.length := by
  refine snocInd (P := fun c => ∀ y ∈ varsM n c, y ≤ c.length) ?_ ?_ c
  · intro y hy; simp [varsM] at hy; omega
  · intro l a ih y hy
    rw [varsM_snoc] at hy
    rw [List.length_append, List.length_singleton]
    rcases List.mem_or_eq_of_mem_set hy with h | h
    · have := ih y h; omega
    · omega
theorem varsM_getD_le (n : Nat) (c : List Nat) (i : Nat) : (varsM n c).getD i 0 ≤ c.length := by
  by_cases hi : i < (varsM n c).length
  · rw [List.getD_eq_getElem?_getD, List.getElem?_eq_getElem hi]; exact varsM_le n c _ (List.getElem_mem hi)
  · rw [List.getD_eq_getElem?_getD, List.getElem?_eq_none (Nat.le_of_not_lt hi)]; exact Nat.zero_le _
/-- The place of each of the cone's nodes. -/
theorem varsM_at {n : Nat} {c : List Nat} (hd : c.Nodup) (hc : ∀ m ∈ c, m < n) {i : Nat} (hi : i < c.length) : (varsM n c).getD c[i] 0 = i + 1 := by
  revert i
  revert hd hc
  refine snocInd (P := fun c => c.Nodup → (∀ m ∈ c, m < n) → ∀ {i : Nat} (hi : i < c.length), (varsM n c).getD c[i] 0 = i + 1) ?_ ?_ c
  · intro _ _ i hi; simp at hi
  · intro l a ih hd hc i hi
    rw [List.nodup_append] at hd
    rw [varsM_snoc, List.getD_eq_getElem?_getD, List.getElem?_set]
    by_cases hil : i < l.length
    · have e : (l ++ [a])[i] = l[i] := List.getElem_append_left hil
      have hne : a ≠ l[i] := fun h => hd.2.2 _ (List.getElem_mem hil) a (by simp) h.symm
      rw [e, if_neg hne, ← List.getD_eq_getElem?_getD]
      exact ih hd.1 (fun m hm => hc m (by simp [hm])) hil
    · have hi2 : i = l.length := by simp at hi; omega
      subst hi2
      have e : (l ++ [a])[l.length] = a := by simp
      rw [e, if_pos rfl, if_pos (by rw [varsM_length]; exact hc a (by simp))]
      rfl
def litT (vs : List Nat) (x : Nat) : Int := if x % 2 = 1 then -((vs.getD (x / 2) 0 : Nat) : Int) else (vs.getD (x / 2) 0 : Nat)
/-- The clauses of one node, as far as they are wanted. -/
def gateCl (vs wants : List Nat) (ns : Nodes) (n : Nat) : List (List Int) :=
  if (nodeM ns n).1 = 2 then
    (if wants.getD n 0 &&& 1 ≠ 0 then [[-((vs.getD n 0 : Nat) : Int), litT vs (nodeM ns n).2.1], [-((vs.getD n 0 : Nat) : Int), litT vs (nodeM ns n).2.2]] else []) ++
    (if wants.getD n 0 &&& 2 ≠ 0 then [[((vs.getD n 0 : Nat) : Int), -litT vs (nodeM ns n).2.1, -litT vs (nodeM ns n).2.2]] else [])
  else []
def rootCl (vs : List Nat) (r : Nat) : List (List Int) := if r = 0 then [[]] else if r = 1 then [] else [[litT vs r]]
def gatesCl (vs wants : List Nat) (ns : Nodes) (l : List Nat) : List (List Int) := l.flatMap (gateCl vs wants ns)
def rootsCl (vs : List Nat) (l : List Nat) : List (List Int) := l.flatMap (rootCl vs)
def clausesM (ns : Nodes) (wants roots : List Nat) : List (List Int) :=
  gatesCl (varsM ns.length (coneM ns roots)) wants ns (coneM ns roots) ++ rootsCl (varsM ns.length (coneM ns roots)) roots
theorem gatesCl_snoc (vs wants : List Nat) (ns : Nodes) (l : List Nat) (n : Nat) : gatesCl vs wants ns (l ++ [n]) = gatesCl vs wants ns l ++ gateCl vs wants ns n := by simp [gatesCl]
theorem rootsCl_snoc (vs : List Nat) (l : List Nat) (n : Nat) : rootsCl vs (l ++ [n]) = rootsCl vs l ++ rootCl vs n := by simp [rootsCl]
theorem gateCl_length (vs wants : List Nat) (ns : Nodes) (n : Nat) : (gateCl vs wants ns n).length ≤ 3 := by
  unfold gateCl; split
  · split <;> split <;> simp
  · simp
theorem rootCl_length (vs : List Nat) (r : Nat) : (rootCl vs r).length ≤ 1 := by
  unfold rootCl; split
  · simp
  · split <;> simp
theorem gatesCl_length (vs wants : List Nat) (ns : Nodes) (l : List Nat) : (gatesCl vs wants ns l).length ≤ 3 * l.length := by
  induction l with
  | nil => simp [gatesCl]
  | cons n l ih => have := gateCl_length vs wants ns n; simp only [gatesCl, List.flatMap_cons, List.length_append, List.length_cons] at *; omega
theorem rootsCl_length (vs : List Nat) (l : List Nat) : (rootsCl vs l).length ≤ l.length := by
  induction l with
  | nil => simp [rootsCl]
  | cons n l ih => have := rootCl_length vs n; simp only [rootsCl, List.flatMap_cons, List.length_append, List.length_cons] at *; omega
theorem litT_le {vs : List Nat} {k : Nat} (h : ∀ i, vs.getD i 0 ≤ k) (x : Nat) : -(k : Int) ≤ litT vs x ∧ litT vs x ≤ k := by
  have := h (x / 2)
  unfold litT; split <;> omega
/-- Which literals are marked: bit 1 of the even one, bit 2 of the odd one. -/
def markL (w : List Nat) (x : Nat) : List Nat := w.set (x / 2) (w.getD (x / 2) 0 ||| (if x % 2 = 1 then 2 else 1))
def polStep (ns : Nodes) (w : List Nat) (n : Nat) : List Nat :=
  if (nodeM ns n).1 = 2 then
    let w1 := if w.getD n 0 &&& 1 ≠ 0 then markL (markL w (nodeM ns n).2.1) (nodeM ns n).2.2 else w
    if w1.getD n 0 &&& 2 ≠ 0 then markL (markL w1 (notL (nodeM ns n).2.1)) (notL (nodeM ns n).2.2) else w1
  else w
def polarW (ns : Nodes) (roots : List Nat) : List Nat := (coneM ns roots).reverse.foldl (polStep ns) (roots.foldl markL (List.replicate ns.length 0))
def encodeW (ns : Nodes) (cone : List Nat) : List Nat := cone.foldl (fun w n => w.set n 3) (List.replicate ns.length 0)
end Go.Proofs.Ytjeopmiopinlgaa
