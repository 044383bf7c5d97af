/- What scripts make: good graphs, and the values that the script says. Plain laws. -/
import Derived.Test.YtjllogellpfpkaaDoorAigU
set_option linter.unusedVariables false
set_option linter.unusedSimpArgs false
namespace Go.Proofs.YtjllogellpfpkaaDoor

/-- What is made: a literal and a graph that goes on. -/
structure MadeBy (ns : Nodes) (r : Nat × Nodes) (n : Nat) (f : (Nat → Bool) → Bool) : Prop where
  good : GoodG r.2
  grows : Grows ns r.2
  lt : r.1 < 2 * r.2.length
  le : r.2.length ≤ ns.length + n
  same : (inputsOf r.2).length = (inputsOf ns).length
  val : ∀ inp V, IsVal r.2 inp V → litB V r.1 = f V

theorem andM_inputs {ns : Nodes} {a b : Nat} (ha : a < 2 * ns.length) (hl : ns.length ≤ 1073741824) : (inputsOf (andM ns a b).2).length = (inputsOf ns).length := by
  have hm : a ≠ mark := by unfold mark; omega
  by_cases c1 : a = 0 ∨ b = 0 ∨ a = notL b
  · rw [andM_0 c1]
  by_cases c2 : a = 1 ∨ a = b
  · rw [andM_1 c1 c2]
  by_cases c3 : b = 1
  · rw [andM_2 c1 c2 c3]
  rw [andM_3 c1 c2 c3]
  cases hk : lookIn (a, b) (gatesOf ns) 0 with
  | some y => rfl
  | none =>
    show (inputsOf (ns ++ [(a, b)])).length = _
    rw [inputsOf_snoc _ _ (show (a, b).1 ≠ mark from hm)]
theorem and_by {ns : Nodes} {a b : Nat} (h : GoodG ns) (ha : a < 2 * ns.length) (hb : b < 2 * ns.length) (hl : ns.length ≤ 1073741824) : MadeBy ns (andM ns a b) 1 (fun V => litB V a && litB V b) :=
  ⟨h.and ha hb hl, andM_grows _ _ _, (andM_lt ns a b h.pos ha hb).1, (andM_lt ns a b h.pos ha hb).2.2, andM_inputs ha hl, fun inp V k => andM_val h.pos ha hl k⟩
theorem or_by {ns : Nodes} {a b : Nat} (h : GoodG ns) (ha : a < 2 * ns.length) (hb : b < 2 * ns.length) (hl : ns.length ≤ 1073741824) : MadeBy ns (orM ns a b) 1 (fun V => litB V a || litB V b) := by
  have k := and_by h (notL_lt2 ha) (notL_lt2 hb) hl
  refine ⟨k.good, k.grows, notL_lt2 k.lt, k.le, k.same, fun inp V hv => ?_⟩
  show litB V (notL _) = _
  rw [litB_not, k.val inp V hv]
  simp only [litB_not]
  cases litB V a <;> cases litB V b <;> rfl
theorem xor_by {ns : Nodes} {a b : Nat} (h : GoodG ns) (ha : a < 2 * ns.length) (hb : b < 2 * ns.length) (hl : ns.length + 3 ≤ 1073741824) : MadeBy ns (xorM ns a b) 3 (fun V => litB V a != litB V b) := by
  have k1 := and_by h ha hb (by omega)
  have g1 := k1.grows.le
  have l1 := k1.le
  have k2 := and_by k1.good (a := notL a) (b := notL b) (by have := notL_lt2 ha; omega) (by have := notL_lt2 hb; omega) (by omega)
  have g2 := k2.grows.le
  have l2 := k2.le
  have t1 := k1.lt
  have k3 := and_by k2.good (a := notL (andM ns a b).1) (b := notL (andM (andM ns a b).2 (notL a) (notL b)).1) (by have := notL_lt2 k1.lt; omega) (notL_lt2 k2.lt) (by omega)
  have l3 := k3.le
  refine ⟨k3.good, (k1.grows.trans k2.grows).trans k3.grows, k3.lt, ?_, by rw [← k1.same, ← k2.same]; exact k3.same, fun inp V hv => ?_⟩
  · show (andM _ _ _).2.length ≤ _; omega
  · have v3 := k3.val inp V hv
    have v2 := k2.val inp V (hv.back k3.grows)
    have v1 := k1.val inp V (hv.back (k2.grows.trans k3.grows))
    show litB V (andM _ _ _).1 = _
    rw [v3]
    simp only [litB_not, v1, v2]
    cases litB V a <;> cases litB V b <;> rfl
theorem mux_by {ns : Nodes} {c a b : Nat} (h : GoodG ns) (hc : c < 2 * ns.length) (ha : a < 2 * ns.length) (hb : b < 2 * ns.length) (hl : ns.length + 3 ≤ 1073741824) : MadeBy ns (muxM ns c a b) 3 (fun V => if litB V c then litB V a else litB V b) := by
  by_cases hab : a = b
  · unfold muxM
    rw [if_pos hab]
    subst hab
    exact ⟨h, Grows.refl _, ha, (by show ns.length ≤ ns.length + 3; omega), rfl, fun inp V _ => by simp⟩
  have k1 := and_by h hc ha (by omega)
  have g1 := k1.grows.le
  have l1 := k1.le
  have k2 := and_by k1.good (a := notL c) (b := b) (by have := notL_lt2 hc; omega) (by omega) (by omega)
  have g2 := k2.grows.le
  have l2 := k2.le
  have t1 := k1.lt
  have k3 := or_by k2.good (a := (andM ns c a).1) (b := (andM (andM ns c a).2 (notL c) b).1) (by omega) k2.lt (by omega)
  have l3 := k3.le
  unfold muxM
  rw [if_neg hab]
  refine ⟨k3.good, (k1.grows.trans k2.grows).trans k3.grows, k3.lt, ?_, by rw [← k1.same, ← k2.same]; exact k3.same, fun inp V hv => ?_⟩
  · show (orM _ _ _).2.length ≤ _; omega
  · have v3 := k3.val inp V hv
    have v2 := k2.val inp V (hv.back k3.grows)
    have v1 := k1.val inp V (hv.back (k2.grows.trans k3.grows))
    show litB V (orM _ _ _).1 = _
    rw [v3]
    simp only [litB_not, v1, v2]
    cases litB V a <;> cases litB V b <;> cases litB V c <;> rfl
theorem all3_by {ns : Nodes} {a b c : Nat} (h : GoodG ns) (ha : a < 2 * ns.length) (hb : b < 2 * ns.length) (hc : c < 2 * ns.length) (hl : ns.length + 3 ≤ 1073741824) : MadeBy ns (allM ns [a, b, c]) 3 (fun V => litB V a && litB V b && litB V c) := by
  have k1 := and_by h ha hb (by omega)
  have g1 := k1.grows.le
  have l1 := k1.le
  have k2 := and_by k1.good (a := (andM ns a b).1) (b := c) k1.lt (by omega) (by omega)
  have l2 := k2.le
  refine ⟨k2.good, k1.grows.trans k2.grows, k2.lt, ?_, by rw [← k1.same]; exact k2.same, fun inp V hv => ?_⟩
  · show (andM _ _ _).2.length ≤ _; omega
  · have v2 := k2.val inp V hv
    have v1 := k1.val inp V (hv.back k2.grows)
    show litB V (andM _ _ _).1 = _
    rw [v2]
    simp only [v1]

theorem snoc_ind {α : Type} {P : List α → Prop} (h0 : P []) (hs : ∀ l a, P l → P (l ++ [a])) (l : List α) : P l := by
  have key : ∀ n (l : List α), l.length = n → P l := by
    intro n
    induction n with
    | zero => intro l hl; rw [List.length_eq_zero_iff.1 hl]; exact h0
    | succ n ih =>
      intro l hl
      rcases List.eq_nil_or_concat l with h | ⟨k, a, h⟩
      · rw [h]; exact h0
      · rw [h, List.concat_eq_append]; exact hs k a (ih k (by rw [h] at hl; simpa using hl))
  exact key _ l rfl
def isIn (k : Int) : Prop := ¬ (k = 2 ∨ k = 3 ∨ k = 4 ∨ k = 5 ∨ k = 6)
instance (k : Int) : Decidable (isIn k) := by unfold isIn; infer_instance
theorem mk1_by {ns : Nodes} (h : GoodG ns) (k : Int) {a b c : Nat} (ha : a < 2 * ns.length) (hb : b < 2 * ns.length) (hc : c < 2 * ns.length) (hl : ns.length + 3 ≤ 1073741824) :
    GoodG (mk1 ns k a b c).2 ∧ Grows ns (mk1 ns k a b c).2 ∧ (inputsOf (mk1 ns k a b c).2).length = (inputsOf ns).length + (if k = 2 ∨ k = 3 ∨ k = 4 ∨ k = 5 ∨ k = 6 then 0 else 1) ∧
      ∀ inp V, IsVal (mk1 ns k a b c).2 inp V → litB V (mk1 ns k a b c).1 = want1 k (litB V a) (litB V b) (litB V c) (inp (inputsOf ns).length) := by
  by_cases h2 : k = 2
  · subst h2
    have m := and_by h ha hb (by omega)
    have e : mk1 ns 2 a b c = andM ns a b := by simp [mk1]
    rw [e]
    exact ⟨m.good, m.grows, by rw [m.same]; rfl, fun inp V hv => by rw [m.val inp V hv]; simp [want1]⟩
  by_cases h3 : k = 3
  · subst h3
    have m := or_by h ha hb (by omega)
    have e : mk1 ns 3 a b c = orM ns a b := by simp [mk1]
    rw [e]
    exact ⟨m.good, m.grows, by rw [m.same]; rfl, fun inp V hv => by rw [m.val inp V hv]; simp [want1]⟩
  by_cases h4 : k = 4
  · subst h4
    have m := xor_by h ha hb hl
    have e : mk1 ns 4 a b c = xorM ns a b := by simp [mk1]
    rw [e]
    exact ⟨m.good, m.grows, by rw [m.same]; rfl, fun inp V hv => by rw [m.val inp V hv]; simp [want1]⟩
  by_cases h5 : k = 5
  · subst h5
    have m := mux_by h hc ha hb hl
    have e : mk1 ns 5 a b c = muxM ns c a b := by simp [mk1]
    rw [e]
    exact ⟨m.good, m.grows, by rw [m.same]; rfl, fun inp V hv => by rw [m.val inp V hv]; simp [want1]⟩
  by_cases h6 : k = 6
  · subst h6
    have m := all3_by h ha hb hc hl
    have e : mk1 ns 6 a b c = allM ns [a, b, c] := by simp [mk1]
    rw [e]
    exact ⟨m.good, m.grows, by rw [m.same]; rfl, fun inp V hv => by rw [m.val inp V hv]; simp [want1]⟩
  have e : mk1 ns k a b c = (2 * ns.length, ns ++ [(mark, (inputsOf ns).length)]) := by simp [mk1, h2, h3, h4, h5, h6]
  rw [e, if_neg (by simp [h2, h3, h4, h5, h6])]
  refine ⟨h.input, ⟨_, rfl⟩, by rw [inputsOf_snoc_mark]; simp, fun inp V hv => ?_⟩
  have hng : isGate (ns ++ [(mark, (inputsOf ns).length)]) ns.length = false := by rw [isGate_nd, nd_new]; simp
  have := hv.ins ns.length (by simp) h.pos hng
  rw [nd_new] at this
  simp [litB, this, want1, h2, h3, h4, h5, h6]

theorem madeM_good (l : List Mk) (hl : l.length ≤ 300000000) : GoodG (madeM l).1 ∧ (∀ inp V, IsVal (madeM l).1 inp V → ∀ row : List Bool, (∀ i, inp i = row.getD i false) →
    (wantM l row).1 = (madeM l).2.map (litB V) ∧ (wantM l row).2 = (inputsOf (madeM l).1).length) := by
  revert hl
  refine snoc_ind (P := fun l => l.length ≤ 300000000 → GoodG (madeM l).1 ∧ (∀ inp V, IsVal (madeM l).1 inp V → ∀ row : List Bool, (∀ i, inp i = row.getD i false) →
    (wantM l row).1 = (madeM l).2.map (litB V) ∧ (wantM l row).2 = (inputsOf (madeM l).1).length)) ?_ ?_ l
  · intro _; exact ⟨good_start, fun inp V hv row hr => ⟨by simp [wantM, madeM, litB, hv.zero], rfl⟩⟩
  · intro l s ih hl
    simp only [List.length_append, List.length_singleton] at hl
    obtain ⟨g, hv⟩ := ih (by omega)
    have ok := madeM_ok l
    have hp : 0 < (madeM l).2.length := by have := ok.len; omega
    have ha := pickM_lt hp ok.lits s.2.1
    have hb := pickM_lt hp ok.lits s.2.2.1
    have hc := pickM_lt hp ok.lits s.2.2.2
    obtain ⟨m1, m2, m3, m4⟩ := mk1_by g s.1 ha hb hc (by have := ok.small; omega)
    rw [madeM_snoc]
    refine ⟨m1, fun inp V hV row hr => ?_⟩
    rw [wantM_snoc]
    obtain ⟨w1, w2⟩ := hv inp V (hV.back m2) row hr
    have pv : ∀ i : Int, valueM ((madeM l).2.map (litB V)) i = litB V (pickM (madeM l).2 i) := fun i => by
      have hr := roundI_lt hp i
      unfold valueM pickM
      rw [List.length_map]
      have e : ((madeM l).2.map (litB V)).getD (roundI (madeM l).2.length i) false = litB V ((madeM l).2.getD (roundI (madeM l).2.length i) 0) := by
        simp [List.getD_eq_getElem?_getD, hr]
      rw [e]
      by_cases hi : i < 0
      · rw [if_pos hi, litB_not, show decide (i < 0) = true from by simp [hi]]
        cases litB V ((madeM l).2.getD (roundI (madeM l).2.length i) 0) <;> rfl
      · rw [if_neg hi, show decide (i < 0) = false from by simp [hi]]
        cases litB V ((madeM l).2.getD (roundI (madeM l).2.length i) 0) <;> rfl
    have h4 := m4 inp V hV
    refine ⟨?_, ?_⟩
    · simp only [wantStep, mkStep, w1, w2, pv, List.map_append, List.map_cons, List.map_nil, ← hr, h4]
    · simp only [wantStep, mkStep, w2, m3]
      split <;> simp_all
end Go.Proofs.YtjllogellpfpkaaDoor
