/- What a script makes: plain. -/
import Derived.Test.YtjllogellpfpkaaDoorAigN
set_option linter.unusedVariables false
set_option linter.unusedSimpArgs false
namespace Go.Proofs.YtjllogellpfpkaaDoor

/-- Which one of n is meant, counted round. -/
def roundI (n : Nat) (i : Int) : Nat := if i < 0 then (-(i + 1)).toNat % n else i.toNat % n
theorem roundI_lt {n : Nat} (h : 0 < n) (i : Int) : roundI n i < n := by unfold roundI; split <;> exact Nat.mod_lt _ h
def pickM (l : List Nat) (i : Int) : Nat := if i < 0 then notL (l.getD (roundI l.length i) 0) else l.getD (roundI l.length i) 0
def valueM (v : List Bool) (i : Int) : Bool := (v.getD (roundI v.length i) false) != decide (i < 0)

abbrev Mk := Int × Int × Int × Int
def mk1 (ns : Nodes) (k : Int) (a b c : Nat) : Nat × Nodes :=
  if k = 2 then andM ns a b else if k = 3 then orM ns a b else if k = 4 then xorM ns a b else if k = 5 then muxM ns c a b else if k = 6 then allM ns [a, b, c] else
  (2 * ns.length, ns ++ [(mark, (inputsOf ns).length)])
def mkStep (p : Nodes × List Nat) (s : Mk) : Nodes × List Nat :=
  ((mk1 p.1 s.1 (pickM p.2 s.2.1) (pickM p.2 s.2.2.1) (pickM p.2 s.2.2.2)).2, p.2 ++ [(mk1 p.1 s.1 (pickM p.2 s.2.1) (pickM p.2 s.2.2.1) (pickM p.2 s.2.2.2)).1])
def madeM (script : List Mk) : Nodes × List Nat := script.foldl mkStep ([(0, 0)], [0])
def want1 (k : Int) (a b c x : Bool) : Bool := if k = 2 then a && b else if k = 3 then a || b else if k = 4 then a != b else if k = 5 then (if c then a else b) else if k = 6 then a && b && c else x
def wantStep (row : List Bool) (p : List Bool × Nat) (s : Mk) : List Bool × Nat :=
  (p.1 ++ [want1 s.1 (valueM p.1 s.2.1) (valueM p.1 s.2.2.1) (valueM p.1 s.2.2.2) (row.getD p.2 false)], if s.1 = 2 ∨ s.1 = 3 ∨ s.1 = 4 ∨ s.1 = 5 ∨ s.1 = 6 then p.2 else p.2 + 1)
def wantM (script : List Mk) (row : List Bool) : List Bool × Nat := script.foldl (wantStep row) ([false], 0)

theorem mk1_lt {ns : Nodes} (k : Int) {a b c : Nat} (h0 : ns.length ≠ 0) (ha : a < 2 * ns.length) (hb : b < 2 * ns.length) (hc : c < 2 * ns.length) :
    (mk1 ns k a b c).1 < 2 * (mk1 ns k a b c).2.length ∧ ns.length ≤ (mk1 ns k a b c).2.length ∧ (mk1 ns k a b c).2.length ≤ ns.length + 3 := by
  unfold mk1
  split
  · have := andM_lt ns a b h0 ha hb; omega
  split
  · have := orM_lt ns a b h0 ha hb; omega
  split
  · exact xorM_lt ns a b h0 ha hb
  split
  · exact muxM_lt ns c a b h0 hc ha hb
  split
  · have := allM_lt ns [a, b, c] h0 (by simp [ha, hb, hc]); simpa using this
  · simp
structure MkOk (p : Nodes × List Nat) (j : Nat) : Prop where
  pos : p.1.length ≠ 0
  small : p.1.length ≤ 1 + 3 * j
  len : p.2.length = j + 1
  lits : ∀ y ∈ p.2, y < 2 * p.1.length
theorem pickM_lt {l : List Nat} {n : Nat} (hp : 0 < l.length) (h : ∀ y ∈ l, y < 2 * n) (i : Int) : pickM l i < 2 * n := by
  have hr := roundI_lt hp i
  have hg : l.getD (roundI l.length i) 0 = l[roundI l.length i] := by simp [List.getD_eq_getElem?_getD, hr]
  have := h _ (List.getElem_mem hr)
  unfold pickM
  rw [hg]
  split
  · exact notL_lt2 this
  · exact this
theorem MkOk.step {p : Nodes × List Nat} {j : Nat} (h : MkOk p j) (s : Mk) : MkOk (mkStep p s) (j + 1) := by
  have hp : 0 < p.2.length := by have := h.len; omega
  have k := mk1_lt (ns := p.1) s.1 h.pos (pickM_lt hp h.lits s.2.1) (pickM_lt hp h.lits s.2.2.1) (pickM_lt hp h.lits s.2.2.2)
  have hs := h.small
  refine ⟨?_, ?_, by simp [mkStep, h.len], ?_⟩
  · have := h.pos; simp only [mkStep]; omega
  · simp only [mkStep]; omega
  · intro y hy
    simp only [mkStep] at hy ⊢
    rcases List.mem_append.1 hy with h1 | h1
    · have := h.lits y h1; omega
    · rw [List.mem_singleton.1 h1]; exact k.1
theorem madeM_snoc (l : List Mk) (s : Mk) : madeM (l ++ [s]) = mkStep (madeM l) s := by simp [madeM]
theorem wantM_snoc (l : List Mk) (s : Mk) (row : List Bool) : wantM (l ++ [s]) row = wantStep row (wantM l row) s := by simp [wantM]
theorem madeM_ok (l : List Mk) : MkOk (madeM l) l.length := by
  suffices h : ∀ (k : List Mk) (p : Nodes × List Nat) (j : Nat), MkOk p j → MkOk (k.foldl mkStep p) (j + k.length) by
    have := h l ([(0, 0)], [0]) 0 ⟨by simp, by simp, rfl, by simp⟩
    simpa [madeM] using this
  intro k
  induction k with
  | nil => intro p j h; exact h
  | cons s k ih => intro p j h; rw [List.foldl_cons]; have := ih _ _ (h.step s); simpa [Nat.add_assoc, Nat.add_comm 1] using this
theorem wantM_len (l : List Mk) (row : List Bool) : (wantM l row).1.length = l.length + 1 ∧ (wantM l row).2 ≤ l.length := by
  suffices h : ∀ (k : List Mk) (p : List Bool × Nat), (k.foldl (wantStep row) p).1.length = p.1.length + k.length ∧ (k.foldl (wantStep row) p).2 ≤ p.2 + k.length by
    have := h l ([false], 0); simp only [wantM]; simp at this ⊢; omega
  intro k
  induction k with
  | nil => intro p; simp
  | cons s k ih =>
    intro p
    rw [List.foldl_cons]
    have h1 := ih (wantStep row p s)
    have h2 : (wantStep row p s).1.length = p.1.length + 1 := by simp [wantStep]
    have h3 : (wantStep row p s).2 ≤ p.2 + 1 := by unfold wantStep; dsimp only; split <;> omega
    rw [List.length_cons]
    omega
end Go.Proofs.YtjllogellpfpkaaDoor
