/- Circuits as lists of nodes: plain definitions and laws, without Go. -/
set_option linter.unusedVariables false
set_option linter.unusedSimpArgs false
namespace Go.Proofs.YtjllogellpfpkaaDoor

def mark : Nat := 4294967295
/-- The gates among the nodes, with their literals: what the map holds. -/
def gatesOf (ns : List (Nat × Nat)) : List ((Nat × Nat) × Nat) := ns.zipIdx.filterMap fun (p, i) => if i ≠ 0 ∧ p.1 ≠ mark then some (p, 2 * i) else none
def inputsOf (ns : List (Nat × Nat)) : List Nat := ns.zipIdx.filterMap fun (p, i) => if p.1 = mark then some i else none
/-- Where a key stands in the list, and what stands there. -/
def lookIn (p : Nat × Nat) : List ((Nat × Nat) × Nat) → Nat → Option (Nat × Nat)
  | [], _ => none
  | (q, x) :: m, i => if p = q then some (i, x) else lookIn p m (i + 1)
def notL (l : Nat) : Nat := if l % 2 = 0 then l + 1 else l - 1
def andM (ns : List (Nat × Nat)) (a b : Nat) : Nat × List (Nat × Nat) :=
  if a = 0 ∨ b = 0 ∨ a = notL b then (0, ns) else if a = 1 ∨ a = b then (b, ns) else if b = 1 then (a, ns) else
  match lookIn (a, b) (gatesOf ns) 0 with
  | some (_, x) => (x, ns)
  | none => (2 * ns.length, ns ++ [(a, b)])

theorem inputsOf_snoc_mark (ns : List (Nat × Nat)) (k : Nat) : inputsOf (ns ++ [(mark, k)]) = inputsOf ns ++ [ns.length] := by
  simp [inputsOf, List.zipIdx_append]
theorem gatesOf_snoc_mark (ns : List (Nat × Nat)) (k : Nat) : gatesOf (ns ++ [(mark, k)]) = gatesOf ns := by
  simp [gatesOf, List.zipIdx_append]
theorem gatesOf_snoc (ns : List (Nat × Nat)) (p : Nat × Nat) (h : p.1 ≠ mark) (h0 : ns.length ≠ 0) : gatesOf (ns ++ [p]) = gatesOf ns ++ [(p, 2 * ns.length)] := by
  have h0' : ¬ ns = [] := fun e => h0 (by simp [e])
  simp [gatesOf, List.zipIdx_append, h, h0']
theorem inputsOf_snoc (ns : List (Nat × Nat)) (p : Nat × Nat) (h : p.1 ≠ mark) : inputsOf (ns ++ [p]) = inputsOf ns := by
  simp [inputsOf, List.zipIdx_append, h]
theorem inputsOf_length (ns : List (Nat × Nat)) : (inputsOf ns).length ≤ ns.length := by
  unfold inputsOf
  refine Nat.le_trans (List.length_filterMap_le _ _) ?_
  simp

theorem xor_one (l : Nat) : l ^^^ 1 = notL l := by
  have h1 : (l ^^^ 1) / 2 = l / 2 := by have := Nat.xor_div_two (a := l) (b := 1); simpa using this
  have h2 : (l ^^^ 1) % 2 = (l + 1) % 2 := by
    have := Nat.xor_mod_two_eq_one (a := l) (b := 1)
    omega
  unfold notL
  split <;> omega
theorem notL_lt {l : Nat} (h : l < 4294967296) : notL l < 4294967296 := by unfold notL; split <;> omega
theorem andM_0 {ns : List (Nat × Nat)} {a b : Nat} (h : a = 0 ∨ b = 0 ∨ a = notL b) : andM ns a b = (0, ns) := by unfold andM; rw [if_pos h]
theorem andM_1 {ns : List (Nat × Nat)} {a b : Nat} (h : ¬ (a = 0 ∨ b = 0 ∨ a = notL b)) (h1 : a = 1 ∨ a = b) : andM ns a b = (b, ns) := by unfold andM; rw [if_neg h, if_pos h1]
theorem andM_2 {ns : List (Nat × Nat)} {a b : Nat} (h : ¬ (a = 0 ∨ b = 0 ∨ a = notL b)) (h1 : ¬ (a = 1 ∨ a = b)) (h2 : b = 1) : andM ns a b = (a, ns) := by unfold andM; rw [if_neg h, if_neg h1, if_pos h2]
theorem andM_3 {ns : List (Nat × Nat)} {a b : Nat} (h : ¬ (a = 0 ∨ b = 0 ∨ a = notL b)) (h1 : ¬ (a = 1 ∨ a = b)) (h2 : ¬ b = 1) :
    andM ns a b = match lookIn (a, b) (gatesOf ns) 0 with | some (_, x) => (x, ns) | none => (2 * ns.length, ns ++ [(a, b)]) := by
  conv => lhs; unfold andM
  rw [if_neg h, if_neg h1, if_neg h2]


def orM (ns : List (Nat × Nat)) (a b : Nat) : Nat × List (Nat × Nat) := (notL (andM ns (notL a) (notL b)).1, (andM ns (notL a) (notL b)).2)
def xorM (ns : List (Nat × Nat)) (a b : Nat) : Nat × List (Nat × Nat) :=
  let p := andM ns a b
  let q := andM p.2 (notL a) (notL b)
  andM q.2 (notL p.1) (notL q.1)
def muxM (ns : List (Nat × Nat)) (c a b : Nat) : Nat × List (Nat × Nat) :=
  if a = b then (a, ns) else
  let p := andM ns c a
  let q := andM p.2 (notL c) b
  orM q.2 p.1 q.1
def allFrom (x : Nat) (ns : List (Nat × Nat)) : List Nat → Nat × List (Nat × Nat)
  | [] => (x, ns)
  | y :: l => allFrom (andM ns x y).1 (andM ns x y).2 l
def allM (ns : List (Nat × Nat)) : List Nat → Nat × List (Nat × Nat)
  | [] => (1, ns)
  | y :: l => allFrom y ns l

theorem lookIn_mem {p : Nat × Nat} : ∀ {m : List ((Nat × Nat) × Nat)} {i : Nat} {j x : Nat}, lookIn p m i = some (j, x) → (p, x) ∈ m := by
  intro m
  induction m with
  | nil => intro i j x h; simp [lookIn] at h
  | cons y m ih =>
    intro i j x h
    obtain ⟨q, z⟩ := y
    simp only [lookIn] at h
    split at h
    · rename_i e
      simp only [Option.some.injEq, Prod.mk.injEq] at h
      obtain ⟨rfl, rfl⟩ := h
      subst e
      exact List.mem_cons_self
    · exact List.mem_cons_of_mem _ (ih h)
theorem lookIn_none {p : Nat × Nat} : ∀ {m : List ((Nat × Nat) × Nat)} {i : Nat}, lookIn p m i = none → ∀ x, (p, x) ∉ m := by
  intro m
  induction m with
  | nil => intro i h x hm; cases hm
  | cons y m ih =>
    intro i h x hm
    obtain ⟨q, z⟩ := y
    simp only [lookIn] at h
    split at h
    · cases h
    · rename_i e
      rcases List.mem_cons.1 hm with h1 | h1
      · exact e (by cases h1; rfl)
      · exact ih h x h1
theorem mem_gatesOf {ns : List (Nat × Nat)} {p : Nat × Nat} {x : Nat} : (p, x) ∈ gatesOf ns ↔ ∃ i, ns[i]? = some p ∧ i ≠ 0 ∧ p.1 ≠ mark ∧ x = 2 * i := by
  unfold gatesOf
  rw [List.mem_filterMap]
  constructor
  · rintro ⟨⟨q, i⟩, hm, h⟩
    rw [List.mem_zipIdx_iff_getElem?] at hm
    simp only at hm h
    split at h
    · rename_i hc
      simp only [Option.some.injEq, Prod.mk.injEq] at h
      obtain ⟨rfl, rfl⟩ := h
      exact ⟨i, hm, hc.1, hc.2, rfl⟩
    · cases h
  · rintro ⟨i, hi, h0, hp, rfl⟩
    exact ⟨(p, i), List.mem_zipIdx_iff_getElem?.2 hi, by simp [h0, hp]⟩

/-- What an And makes: at most one node more; its literal is one of the graph's. -/
theorem andM_lt (ns : List (Nat × Nat)) (a b : Nat) (h0 : ns.length ≠ 0) (ha : a < 2 * ns.length) (hb : b < 2 * ns.length) :
    (andM ns a b).1 < 2 * (andM ns a b).2.length ∧ ns.length ≤ (andM ns a b).2.length ∧ (andM ns a b).2.length ≤ ns.length + 1 := by
  unfold andM
  split
  · exact ⟨by simp; omega, by simp, by simp⟩
  split
  · exact ⟨by simpa using hb, by simp, by simp⟩
  split
  · exact ⟨by simpa using ha, by simp, by simp⟩
  cases h : lookIn (a, b) (gatesOf ns) 0 with
  | some y =>
    obtain ⟨j, x⟩ := y
    obtain ⟨i, hi, _, _, rfl⟩ := mem_gatesOf.1 (lookIn_mem h)
    have := (List.getElem?_eq_some_iff.1 hi).1
    exact ⟨by simp; omega, by simp, by simp⟩
  | none => exact ⟨by simp, by simp, by simp⟩
theorem notL_lt2 {l n : Nat} (h : l < 2 * n) : notL l < 2 * n := by unfold notL; split <;> omega
theorem orM_lt (ns : List (Nat × Nat)) (a b : Nat) (h0 : ns.length ≠ 0) (ha : a < 2 * ns.length) (hb : b < 2 * ns.length) :
    (orM ns a b).1 < 2 * (orM ns a b).2.length ∧ ns.length ≤ (orM ns a b).2.length ∧ (orM ns a b).2.length ≤ ns.length + 1 := by
  have h := andM_lt ns (notL a) (notL b) h0 (notL_lt2 ha) (notL_lt2 hb)
  exact ⟨notL_lt2 h.1, h.2⟩
theorem xorM_lt (ns : List (Nat × Nat)) (a b : Nat) (h0 : ns.length ≠ 0) (ha : a < 2 * ns.length) (hb : b < 2 * ns.length) :
    (xorM ns a b).1 < 2 * (xorM ns a b).2.length ∧ ns.length ≤ (xorM ns a b).2.length ∧ (xorM ns a b).2.length ≤ ns.length + 3 := by
  have h1 := andM_lt ns a b h0 ha hb
  have h2 := andM_lt (andM ns a b).2 (notL a) (notL b) (by omega) (by have := notL_lt2 ha; omega) (by have := notL_lt2 hb; omega)
  have h3 := andM_lt (andM (andM ns a b).2 (notL a) (notL b)).2 (notL (andM ns a b).1) (notL (andM (andM ns a b).2 (notL a) (notL b)).1) (by omega) (by have := notL_lt2 h1.1; omega) (notL_lt2 h2.1)
  exact ⟨h3.1, by show _ ≤ (andM _ _ _).2.length; omega, by show (andM _ _ _).2.length ≤ _; omega⟩
theorem muxM_lt (ns : List (Nat × Nat)) (c a b : Nat) (h0 : ns.length ≠ 0) (hc : c < 2 * ns.length) (ha : a < 2 * ns.length) (hb : b < 2 * ns.length) :
    (muxM ns c a b).1 < 2 * (muxM ns c a b).2.length ∧ ns.length ≤ (muxM ns c a b).2.length ∧ (muxM ns c a b).2.length ≤ ns.length + 3 := by
  unfold muxM
  split
  · exact ⟨by simpa using ha, by simp, by simp⟩
  have h1 := andM_lt ns c a h0 hc ha
  have h2 := andM_lt (andM ns c a).2 (notL c) b (by omega) (by have := notL_lt2 hc; omega) (by omega)
  have h3 := orM_lt (andM (andM ns c a).2 (notL c) b).2 (andM ns c a).1 (andM (andM ns c a).2 (notL c) b).1 (by omega) (by omega) h2.1
  exact ⟨h3.1, by show _ ≤ (orM _ _ _).2.length; omega, by show (orM _ _ _).2.length ≤ _; omega⟩
theorem allFrom_lt : ∀ (l : List Nat) (x : Nat) (ns : List (Nat × Nat)) (h0 : ns.length ≠ 0) (hx : x < 2 * ns.length) (hl : ∀ y ∈ l, y < 2 * ns.length),
    (allFrom x ns l).1 < 2 * (allFrom x ns l).2.length ∧ ns.length ≤ (allFrom x ns l).2.length ∧ (allFrom x ns l).2.length ≤ ns.length + l.length
  | [], x, ns, h0, hx, hl => ⟨hx, Nat.le_refl _, Nat.le_refl _⟩
  | y :: l, x, ns, h0, hx, hl => by
    have h1 := andM_lt ns x y h0 hx (hl y List.mem_cons_self)
    have h2 := allFrom_lt l (andM ns x y).1 (andM ns x y).2 (by omega) h1.1 (fun z hz => by have := hl z (List.mem_cons_of_mem _ hz); omega)
    exact ⟨h2.1, by show _ ≤ (allFrom _ _ l).2.length; omega, by show (allFrom _ _ l).2.length ≤ _; simp only [List.length_cons]; omega⟩
theorem allM_lt (ns : List (Nat × Nat)) (l : List Nat) (h0 : ns.length ≠ 0) (hl : ∀ y ∈ l, y < 2 * ns.length) :
    (allM ns l).1 < 2 * (allM ns l).2.length ∧ ns.length ≤ (allM ns l).2.length ∧ (allM ns l).2.length ≤ ns.length + l.length := by
  cases l with
  | nil => exact ⟨by show 1 < 2 * ns.length; omega, by show _ ≤ ns.length; omega, by show ns.length ≤ _; simp⟩
  | cons y l =>
    have h := allFrom_lt l y ns h0 (hl y List.mem_cons_self) (fun z hz => hl z (List.mem_cons_of_mem _ hz))
    exact ⟨h.1, h.2.1, by show (allFrom _ _ l).2.length ≤ _; simp only [List.length_cons]; omega⟩
end Go.Proofs.YtjllogellpfpkaaDoor
