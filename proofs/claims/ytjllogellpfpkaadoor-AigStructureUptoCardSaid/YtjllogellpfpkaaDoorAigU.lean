/- Good graphs: gates behind their operands, no two alike, no constants; inputs with their numbers. Plain laws. -/
import Derived.Test.YtjllogellpfpkaaDoorAigQ
import Derived.Test.YtjllogellpfpkaaDoorAigO
set_option linter.unusedVariables false
set_option linter.unusedSimpArgs false
namespace Go.Proofs.YtjllogellpfpkaaDoor

def nd (ns : Nodes) (n : Nat) : Nat × Nat := ns.getD n (0, 0)
structure GoodG (ns : Nodes) : Prop where
  pos : ns.length ≠ 0
  zero : nd ns 0 = (0, 0)
  gate : ∀ n, n < ns.length → isGate ns n = true → 2 ≤ (nd ns n).1 ∧ 2 ≤ (nd ns n).2 ∧ (nd ns n).1 / 2 ≠ (nd ns n).2 / 2 ∧ (nd ns n).1 / 2 < n ∧ (nd ns n).2 / 2 < n
  uniq : ∀ i j, i < j → j < ns.length → isGate ns i = true → isGate ns j = true → nd ns i ≠ nd ns j
  ins : ∀ n, n < ns.length → n ≠ 0 → isGate ns n = false → (nd ns n).2 < (inputsOf ns).length

theorem nd_old {ns : Nodes} {x : Nat × Nat} {n : Nat} (h : n < ns.length) : nd (ns ++ [x]) n = nd ns n := by
  unfold nd; simp [List.getD_eq_getElem?_getD, List.getElem?_append_left h]
theorem nd_new (ns : Nodes) (x : Nat × Nat) : nd (ns ++ [x]) ns.length = x := by
  unfold nd; simp [List.getD_eq_getElem?_getD]
theorem isGate_nd (ns : Nodes) (n : Nat) : isGate ns n = (n != 0 && (nd ns n).1 != mark) := rfl
theorem isGate_old {ns : Nodes} {x : Nat × Nat} {n : Nat} (h : n < ns.length) : isGate (ns ++ [x]) n = isGate ns n := by
  rw [isGate_nd, isGate_nd, nd_old h]
theorem inputs_mono (ns : Nodes) (x : Nat × Nat) : (inputsOf ns).length ≤ (inputsOf (ns ++ [x])).length := by
  by_cases h : x.1 = mark
  · obtain ⟨a, b⟩ := x; simp only at h; subst h; rw [inputsOf_snoc_mark]; simp
  · rw [inputsOf_snoc _ _ h]; exact Nat.le_refl _

theorem GoodG.wf {ns : Nodes} (h : GoodG ns) : Wf ns := ⟨h.pos, fun n hn hg => ⟨(h.gate n hn hg).2.2.2.1, (h.gate n hn hg).2.2.2.2⟩⟩
theorem GoodG.wfIn {ns : Nodes} (h : GoodG ns) : WfIn ns := fun n hn h0 hg => h.ins n hn h0 hg

theorem good_start : GoodG [(0, 0)] :=
  ⟨by decide, rfl, fun n hn hg => by
    have : n = 0 := by simpa using hn
    subst this; simp [isGate] at hg, fun i j hij hj => by simp at hj; omega, fun n hn h0 => by simp at hn; omega⟩
theorem GoodG.input {ns : Nodes} (h : GoodG ns) : GoodG (ns ++ [(mark, (inputsOf ns).length)]) := by
  have hp : 0 < ns.length := by have := h.pos; omega
  have hnew : isGate (ns ++ [(mark, (inputsOf ns).length)]) ns.length = false := by rw [isGate_nd, nd_new]; simp
  have cut : ∀ n, n < (ns ++ [(mark, (inputsOf ns).length)]).length → isGate (ns ++ [(mark, (inputsOf ns).length)]) n = true → n < ns.length := fun n hn hg => by
    have h1 : n < ns.length + 1 := by simpa using hn
    by_cases h2 : n = ns.length
    · rw [h2, hnew] at hg; cases hg
    · omega
  refine ⟨by simp, by rw [nd_old hp]; exact h.zero, fun n hn hg => ?_, fun i j hij hj hi hjg => ?_, fun n hn h0 hg => ?_⟩
  · have hl := cut n hn hg
    rw [nd_old hl]; exact h.gate n hl (by rw [← isGate_old hl]; exact hg)
  · have hl := cut j hj hjg
    rw [nd_old (by omega), nd_old hl]
    exact h.uniq i j hij hl (by rw [← isGate_old (by omega)]; exact hi) (by rw [← isGate_old hl]; exact hjg)
  · have h1 : n < ns.length + 1 := by simpa using hn
    rw [inputsOf_snoc_mark, List.length_append, List.length_singleton]
    by_cases h2 : n = ns.length
    · rw [h2, nd_new]; simp
    · have hl : n < ns.length := by omega
      rw [nd_old hl]
      have := h.ins n hl h0 (by rw [← isGate_old hl]; exact hg)
      omega
theorem GoodG.and {ns : Nodes} (h : GoodG ns) {a b : Nat} (ha : a < 2 * ns.length) (hb : b < 2 * ns.length) (hl : ns.length ≤ 1073741824) : GoodG (andM ns a b).2 := by
  have hp : 0 < ns.length := by have := h.pos; omega
  by_cases c1 : a = 0 ∨ b = 0 ∨ a = notL b
  · rw [andM_0 c1]; exact h
  by_cases c2 : a = 1 ∨ a = b
  · rw [andM_1 c1 c2]; exact h
  by_cases c3 : b = 1
  · rw [andM_2 c1 c2 c3]; exact h
  rw [andM_3 c1 c2 c3]
  cases hk : lookIn (a, b) (gatesOf ns) 0 with
  | some y => exact h
  | none =>
    have hm : a ≠ mark := by unfold mark; omega
    have hdiv : a / 2 ≠ b / 2 := by
      have h1 : ¬ a = notL b := fun e => c1 (.inr (.inr e))
      have h2 : ¬ a = b := fun e => c2 (.inr e)
      unfold notL at h1
      split at h1 <;> omega
    have hfresh : ∀ i, i < ns.length → isGate ns i = true → nd ns i ≠ (a, b) := fun i hi hg he => by
      refine lookIn_none hk (2 * i) (mem_gatesOf.2 ⟨i, ?_, ?_, hm, rfl⟩)
      · rw [← he]; unfold nd; simp [List.getD_eq_getElem?_getD, hi]
      · rintro rfl; simp [isGate] at hg
    show GoodG (ns ++ [(a, b)])
    refine ⟨by simp, by rw [nd_old hp]; exact h.zero, fun n hn hg => ?_, fun i j hij hj hi hjg => ?_, fun n hn h0 hg => ?_⟩
    · have h1 : n < ns.length + 1 := by simpa using hn
      by_cases h2 : n = ns.length
      · rw [h2, nd_new]
        refine ⟨?_, ?_, hdiv, ?_, ?_⟩ <;> simp only <;> omega
      · have hl : n < ns.length := by omega
        rw [nd_old hl]; exact h.gate n hl (by rw [← isGate_old hl]; exact hg)
    · have h1 : j < ns.length + 1 := by simpa using hj
      have hil : i < ns.length := by omega
      have hig : isGate ns i = true := by rw [← isGate_old hil]; exact hi
      rw [nd_old hil]
      by_cases h2 : j = ns.length
      · rw [h2, nd_new]; exact hfresh i hil hig
      · have hjl : j < ns.length := by omega
        rw [nd_old hjl]
        exact h.uniq i j hij hjl hig (by rw [← isGate_old hjl]; exact hjg)
    · have h1 : n < ns.length + 1 := by simpa using hn
      rw [inputsOf_snoc _ _ (show (a, b).1 ≠ mark from hm)]
      by_cases h2 : n = ns.length
      · rw [isGate_nd, h2, nd_new] at hg
        have hz : ns.length = 0 := by simpa [hm] using hg
        omega
      · have hl : n < ns.length := by omega
        rw [nd_old hl]
        exact h.ins n hl h0 (by rw [← isGate_old hl]; exact hg)

/-- Is the one graph the other's beginning? -/
def Grows (ns ms : Nodes) : Prop := ∃ k, ms = ns ++ k
theorem Grows.refl (ns : Nodes) : Grows ns ns := ⟨[], by simp⟩
theorem Grows.trans {a b c : Nodes} (h : Grows a b) (k : Grows b c) : Grows a c := by
  obtain ⟨x, rfl⟩ := h; obtain ⟨y, rfl⟩ := k; exact ⟨x ++ y, by simp⟩
theorem Grows.le {a b : Nodes} (h : Grows a b) : a.length ≤ b.length := by obtain ⟨x, rfl⟩ := h; simp
theorem Grows.nd {a b : Nodes} (h : Grows a b) {n : Nat} (hn : n < a.length) : nd b n = nd a n := by
  obtain ⟨x, rfl⟩ := h
  unfold Go.Proofs.YtjllogellpfpkaaDoor.nd; simp [List.getD_eq_getElem?_getD, List.getElem?_append_left hn]
theorem Grows.isGate {a b : Nodes} (h : Grows a b) {n : Nat} (hn : n < a.length) : isGate b n = isGate a n := by
  rw [isGate_nd, isGate_nd, h.nd hn]
theorem andM_grows (ns : Nodes) (a b : Nat) : Grows ns (andM ns a b).2 := by
  by_cases c1 : a = 0 ∨ b = 0 ∨ a = notL b
  · rw [andM_0 c1]; exact Grows.refl _
  by_cases c2 : a = 1 ∨ a = b
  · rw [andM_1 c1 c2]; exact Grows.refl _
  by_cases c3 : b = 1
  · rw [andM_2 c1 c2 c3]; exact Grows.refl _
  rw [andM_3 c1 c2 c3]
  cases hk : lookIn (a, b) (gatesOf ns) 0 with
  | some y => exact Grows.refl _
  | none => exact ⟨_, rfl⟩

/-- Values of nodes. -/
def litB (V : Nat → Bool) (x : Nat) : Bool := V (x / 2) != (x % 2 == 1)
structure IsVal (ns : Nodes) (inp : Nat → Bool) (V : Nat → Bool) : Prop where
  zero : V 0 = false
  gate : ∀ n, n < ns.length → isGate ns n = true → V n = (litB V (nd ns n).1 && litB V (nd ns n).2)
  ins : ∀ n, n < ns.length → n ≠ 0 → isGate ns n = false → V n = inp (nd ns n).2
theorem IsVal.back {ns ms : Nodes} {inp V : Nat → Bool} (h : IsVal ms inp V) (g : Grows ns ms) : IsVal ns inp V :=
  ⟨h.zero, fun n hn hg => by rw [← g.nd hn]; exact h.gate n (Nat.lt_of_lt_of_le hn g.le) (by rw [g.isGate hn]; exact hg),
   fun n hn h0 hg => by rw [← g.nd hn]; exact h.ins n (Nat.lt_of_lt_of_le hn g.le) h0 (by rw [g.isGate hn]; exact hg)⟩
theorem litB_0 {V : Nat → Bool} (h : V 0 = false) : litB V 0 = false := by simp [litB, h]
theorem litB_1 {V : Nat → Bool} (h : V 0 = false) : litB V 1 = true := by simp [litB, h]
theorem litB_not (V : Nat → Bool) (x : Nat) : litB V (notL x) = !litB V x := by
  have h1 : notL x / 2 = x / 2 := by unfold notL; split <;> omega
  have h2 : (notL x % 2 == 1) = !(x % 2 == 1) := by
    have : x % 2 = 0 ∨ x % 2 = 1 := by omega
    unfold notL
    rcases this with h | h
    · have e : (x + 1) % 2 = 1 := by omega
      simp [h, e]
    · have e : (x - 1) % 2 = 0 := by omega
      simp [h, e]
  unfold litB
  rw [h1, h2]
  cases V (x / 2) <;> cases (x % 2 == 1) <;> rfl
theorem andM_val {ns : Nodes} {a b : Nat} {inp V : Nat → Bool} (h0 : ns.length ≠ 0) (ha : a < 2 * ns.length) (hl : ns.length ≤ 1073741824) (h : IsVal (andM ns a b).2 inp V) : litB V (andM ns a b).1 = (litB V a && litB V b) := by
  have z := h.zero
  by_cases c1 : a = 0 ∨ b = 0 ∨ a = notL b
  · rw [andM_0 c1]
    show litB V 0 = _
    rw [litB_0 z]
    rcases c1 with rfl | rfl | rfl
    · rw [litB_0 z]; rfl
    · rw [litB_0 z]; simp
    · rw [litB_not]; cases litB V b <;> rfl
  by_cases c2 : a = 1 ∨ a = b
  · rw [andM_1 c1 c2]
    rcases c2 with rfl | rfl
    · rw [litB_1 z]; simp
    · simp
  by_cases c3 : b = 1
  · rw [andM_2 c1 c2 c3, c3, litB_1 z]; simp
  rw [andM_3 c1 c2 c3] at h ⊢
  have hm : a ≠ mark := by unfold mark; omega
  cases hk : lookIn (a, b) (gatesOf ns) 0 with
  | some y =>
    rw [hk] at h
    obtain ⟨j, x⟩ := y
    obtain ⟨i, hi, hi0, -, rfl⟩ := mem_gatesOf.1 (lookIn_mem hk)
    have hil := (List.getElem?_eq_some_iff.1 hi).1
    have hnd : nd ns i = (a, b) := by unfold nd; simp [List.getD_eq_getElem?_getD, hi]
    have hg : isGate ns i = true := by rw [isGate_nd, hnd]; simp [hi0, hm]
    have := h.gate i hil hg
    rw [hnd] at this
    show litB V (2 * i) = _
    rw [← this]
    simp [litB]
  | none =>
    rw [hk] at h
    have hg : isGate (ns ++ [(a, b)]) ns.length = true := by rw [isGate_nd, nd_new]; simp [h0, hm]
    have := h.gate ns.length (by simp) hg
    rw [nd_new] at this
    show litB V (2 * ns.length) = _
    rw [← this]
    simp [litB]
end Go.Proofs.YtjllogellpfpkaaDoor
