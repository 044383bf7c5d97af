/- Cones: the nodes that are met from roots, operands first; and by a stack. Plain definitions and laws. -/
import Derived.Test.YtjllogellpfpkaaDoorAigM
set_option linter.unusedVariables false
set_option linter.unusedSimpArgs false
namespace Go.Proofs.YtjllogellpfpkaaDoor

abbrev Nodes := List (Nat × Nat)
abbrev CS := List Bool × List Nat
def isGate (ns : Nodes) (n : Nat) : Bool := n != 0 && (ns.getD n (0, 0)).1 != mark
def opA (ns : Nodes) (n : Nat) : Nat := (ns.getD n (0, 0)).1 / 2
def opB (ns : Nodes) (n : Nat) : Nat := (ns.getD n (0, 0)).2 / 2
/-- A gate's operands are nodes that stand ahead of it. -/
def Wf (ns : Nodes) : Prop := ns.length ≠ 0 ∧ ∀ n, n < ns.length → isGate ns n = true → opA ns n < n ∧ opB ns n < n
def meet (ns : Nodes) : Nat → Nat → CS → CS
  | 0, _, s => s
  | f + 1, n, s => if s.1.getD n true then s else
    if isGate ns n then ((meet ns f (opB ns n) (meet ns f (opA ns n) (s.1.set n true, s.2))).1, (meet ns f (opB ns n) (meet ns f (opA ns n) (s.1.set n true, s.2))).2 ++ [n])
    else (s.1.set n true, s.2 ++ [n])
def meetAll (ns : Nodes) (roots : List Nat) (s : CS) : CS := roots.foldl (fun s r => meet ns ns.length (r / 2) s) s
def cone0 (ns : Nodes) : CS := ((List.replicate ns.length false).set 0 true, [])
def coneM (ns : Nodes) (roots : List Nat) : List Nat := (meetAll ns roots (cone0 ns)).2

theorem meet_fuel {ns : Nodes} (hw : Wf ns) : ∀ (n f f' : Nat) (s : CS), n < ns.length → n < f → n < f' → meet ns f n s = meet ns f' n s := by
  intro n
  induction n using Nat.strongRecOn with
  | _ n ih =>
    intro f f' s hn hf hf'
    obtain ⟨f, rfl⟩ : ∃ m, f = m + 1 := ⟨f - 1, by omega⟩
    obtain ⟨f', rfl⟩ : ∃ m, f' = m + 1 := ⟨f' - 1, by omega⟩
    simp only [meet]
    split
    · rfl
    · split
      · rename_i hg
        have ho := hw.2 n hn hg
        rw [ih (opA ns n) ho.1 f f' _ (by omega) (by omega) (by omega), ih (opB ns n) ho.2 f f' _ (by omega) (by omega) (by omega)]
      · rfl
/-- Meeting a node: the rule, without fuel. -/
theorem meet_eq {ns : Nodes} (hw : Wf ns) {n : Nat} (hn : n < ns.length) (s : CS) : meet ns ns.length n s =
    if s.1.getD n true then s else
    if isGate ns n then ((meet ns ns.length (opB ns n) (meet ns ns.length (opA ns n) (s.1.set n true, s.2))).1, (meet ns ns.length (opB ns n) (meet ns ns.length (opA ns n) (s.1.set n true, s.2))).2 ++ [n])
    else (s.1.set n true, s.2 ++ [n]) := by
  obtain ⟨f, hf⟩ : ∃ m, ns.length = m + 1 := ⟨ns.length - 1, by omega⟩
  conv => lhs; rw [hf]
  simp only [meet]
  split
  · rfl
  · split
    · rename_i hg
      have ho := hw.2 n hn hg
      rw [meet_fuel hw (opA ns n) f ns.length _ (by omega) (by omega) (by omega), meet_fuel hw (opB ns n) f ns.length _ (by omega) (by omega) (by omega)]
    · rfl

/-- A node on the stack: what is left of it, with so many operands gone through. -/
def resume (ns : Nodes) (p : Nat × Nat) (s : CS) : CS :=
  if isGate ns p.1 = true ∧ p.2 = 0 then let t := meet ns ns.length (opB ns p.1) (meet ns ns.length (opA ns p.1) s); (t.1, t.2 ++ [p.1])
  else if isGate ns p.1 = true ∧ p.2 = 1 then let t := meet ns ns.length (opB ns p.1) s; (t.1, t.2 ++ [p.1])
  else (s.1, s.2 ++ [p.1])
/-- What a stack (its top is the last one) comes to. -/
def finish (ns : Nodes) (st : List (Nat × Nat)) (s : CS) : CS := st.reverse.foldl (fun s p => resume ns p s) s
theorem finish_nil (ns : Nodes) (s : CS) : finish ns [] s = s := rfl
theorem finish_snoc (ns : Nodes) (st : List (Nat × Nat)) (p : Nat × Nat) (s : CS) : finish ns (st ++ [p]) s = finish ns st (resume ns p s) := by
  simp [finish]
theorem meet_push {ns : Nodes} (hw : Wf ns) {n : Nat} (hn : n < ns.length) {s : CS} (h : s.1.getD n true = false) : meet ns ns.length n s = resume ns (n, 0) (s.1.set n true, s.2) := by
  rw [meet_eq hw hn, if_neg (by rw [h]; exact Bool.false_ne_true)]
  unfold resume
  by_cases hg : isGate ns n = true
  · rw [if_pos hg, if_pos ⟨hg, rfl⟩]
  · rw [if_neg hg, if_neg (fun h => hg h.1), if_neg (fun h => hg h.1)]
theorem meet_met {ns : Nodes} (hw : Wf ns) {n : Nat} (hn : n < ns.length) {s : CS} (h : s.1.getD n true = true) : meet ns ns.length n s = s := by
  rw [meet_eq hw hn, if_pos h]
theorem resume_done {ns : Nodes} {p : Nat × Nat} {s : CS} (h : isGate ns p.1 = false ∨ p.2 = 2) : resume ns p s = (s.1, s.2 ++ [p.1]) := by
  unfold resume
  rcases h with h | h
  · simp [h]
  · simp [h]
def opOf (ns : Nodes) (p : Nat × Nat) : Nat := if p.2 = 0 then opA ns p.1 else opB ns p.1
theorem resume_step {ns : Nodes} {p : Nat × Nat} {s : CS} (h : isGate ns p.1 = true) (h2 : p.2 < 2) : resume ns p s = resume ns (p.1, p.2 + 1) (meet ns ns.length (opOf ns p) s) := by
  obtain ⟨n, d⟩ := p
  have : d = 0 ∨ d = 1 := by simp at h2; omega
  rcases this with rfl | rfl <;> simp [resume, opOf, h] <;> simp at h <;> simp [h]
/-- How much is left to do. -/
def owed (st : List (Nat × Nat)) (met : List Bool) : Nat := 4 * met.count false + (st.map fun p => 3 - p.2).sum
theorem count_set {l : List Bool} {n : Nat} (h : l.getD n true = false) : (l.set n true).count false + 1 = l.count false := by
  induction l generalizing n with
  | nil => simp at h
  | cons b l ih =>
    cases n with
    | zero =>
      have : b = false := by simpa using h
      subst this
      simp
    | succ n =>
      have h1 := ih (n := n) (by simpa using h)
      cases b <;> simp <;> omega
theorem owed_snoc (st : List (Nat × Nat)) (p : Nat × Nat) (met : List Bool) : owed (st ++ [p]) met = owed st met + (3 - p.2) := by simp [owed]; omega
theorem owed_set (st : List (Nat × Nat)) {met : List Bool} {z : Nat} (h : met.getD z true = false) : owed st (met.set z true) + 4 = owed st met := by
  have : (met.set z true).count false + 1 = met.count false := count_set h
  unfold owed; omega
theorem meet_length (ns : Nodes) : ∀ (f n : Nat) (s : CS), (meet ns f n s).1.length = s.1.length := by
  intro f
  induction f with
  | zero => intro n s; rfl
  | succ f ih =>
    intro n s
    simp only [meet]
    split
    · rfl
    · split
      · simp [ih]
      · simp
theorem resume_length (ns : Nodes) (p : Nat × Nat) (s : CS) : (resume ns p s).1.length = s.1.length := by
  unfold resume
  split
  · simp [meet_length]
  · split
    · simp [meet_length]
    · rfl
theorem meetAll_snoc (ns : Nodes) (l : List Nat) (r : Nat) (s : CS) : meetAll ns (l ++ [r]) s = meet ns ns.length (r / 2) (meetAll ns l s) := by simp [meetAll]
theorem meetAll_length (ns : Nodes) (l : List Nat) (s : CS) : (meetAll ns l s).1.length = s.1.length := by
  induction l generalizing s with
  | nil => rfl
  | cons r l ih => simp only [meetAll, List.foldl_cons] at *; rw [ih, meet_length]
theorem cone0_count (ns : Nodes) : (meetAll ns ([] : List Nat) (cone0 ns)).2.length + (meetAll ns ([] : List Nat) (cone0 ns)).1.count false ≤ ns.length := by
  simp only [meetAll, List.foldl_nil, cone0, List.length_nil, Nat.zero_add]
  refine Nat.le_trans List.count_le_length ?_
  simp
end Go.Proofs.YtjllogellpfpkaaDoor
