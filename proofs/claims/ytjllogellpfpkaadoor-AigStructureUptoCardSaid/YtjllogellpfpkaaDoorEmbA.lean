/- Graphs within graphs: a map of nodes that keeps operands and inputs. Plain laws. -/
import Derived.Test.YtjllogellpfpkaaDoorAigV
set_option linter.unusedVariables false
set_option linter.unusedSimpArgs false
namespace Go.Proofs.YtjllogellpfpkaaDoor

/-- A literal's image. -/
def emL (f : Nat → Nat) (x : Nat) : Nat := 2 * f (x / 2) + x % 2
structure Emb (f : Nat → Nat) (ns hs : Nodes) : Prop where
  zero : f 0 = 0
  lt : ∀ n, n < ns.length → f n < hs.length
  inj : ∀ m n, m < ns.length → n < ns.length → f m = f n → m = n
  isg : ∀ n, n < ns.length → isGate hs (f n) = isGate ns n
  gate : ∀ n, n < ns.length → isGate ns n = true → nd hs (f n) = (emL f (nd ns n).1, emL f (nd ns n).2)
  ins : inputsOf hs = (inputsOf ns).map f

theorem emL_div (f : Nat → Nat) (x : Nat) : emL f x / 2 = f (x / 2) := by unfold emL; omega
theorem emL_mod (f : Nat → Nat) (x : Nat) : emL f x % 2 = x % 2 := by unfold emL; omega
theorem emL_congr {f f' : Nat → Nat} {x : Nat} (h : f' (x / 2) = f (x / 2)) : emL f' x = emL f x := by unfold emL; rw [h]
theorem notL_div (x : Nat) : notL x / 2 = x / 2 := by unfold notL; split <;> omega
theorem notL_mod (x : Nat) : notL x % 2 = 1 - x % 2 := by unfold notL; split <;> omega
theorem lit_eq {x y : Nat} (h1 : x / 2 = y / 2) (h2 : x % 2 = y % 2) : x = y := by omega
theorem emL_notL (f : Nat → Nat) (x : Nat) : emL f (notL x) = notL (emL f x) := by
  refine lit_eq ?_ ?_
  · rw [emL_div, notL_div, notL_div, emL_div]
  · rw [emL_mod, notL_mod, notL_mod, emL_mod]
theorem getElem?_nd {ns : Nodes} {n : Nat} (h : n < ns.length) : ns[n]? = some (nd ns n) := by
  unfold nd; simp [List.getD_eq_getElem?_getD, h]
theorem isGate_iff {ns : Nodes} {n : Nat} : isGate ns n = true ↔ n ≠ 0 ∧ (nd ns n).1 ≠ mark := by
  rw [isGate_nd]; simp
theorem GoodG.same {ns : Nodes} (g : GoodG ns) {i j : Nat} (hi : i < ns.length) (hj : j < ns.length) (gi : isGate ns i = true) (gj : isGate ns j = true) (h : nd ns i = nd ns j) : i = j := by
  rcases Nat.lt_trichotomy i j with h1 | h1 | h1
  · exact absurd h (g.uniq i j h1 hj gi gj)
  · exact h1
  · exact absurd h.symm (g.uniq j i h1 hi gj gi)
theorem mem_gates {ns : Nodes} {p : Nat × Nat} {x : Nat} (h : (p, x) ∈ gatesOf ns) : ∃ i, i < ns.length ∧ isGate ns i = true ∧ nd ns i = p ∧ x = 2 * i := by
  obtain ⟨i, hi, h0, hp, rfl⟩ := mem_gatesOf.1 h
  have hl := (List.getElem?_eq_some_iff.1 hi).1
  have e := getElem?_nd hl
  rw [hi] at e
  have e := (Option.some.inj e).symm
  exact ⟨i, hl, isGate_iff.2 ⟨h0, by rw [e]; exact hp⟩, e, rfl⟩
theorem gates_mem {ns : Nodes} {i : Nat} (hl : i < ns.length) (hg : isGate ns i = true) : (nd ns i, 2 * i) ∈ gatesOf ns :=
  mem_gatesOf.2 ⟨i, getElem?_nd hl, (isGate_iff.1 hg).1, (isGate_iff.1 hg).2, rfl⟩
/-- A gate of a good graph is found. -/
theorem andM_found {hs : Nodes} (g : GoodG hs) {k : Nat} (hk : k < hs.length) (hg : isGate hs k = true) : andM hs (nd hs k).1 (nd hs k).2 = (2 * k, hs) := by
  obtain ⟨h1, h2, h3, h4, h5⟩ := g.gate k hk hg
  have c1 : ¬ ((nd hs k).1 = 0 ∨ (nd hs k).2 = 0 ∨ (nd hs k).1 = notL (nd hs k).2) := by
    rintro (h | h | h)
    · omega
    · omega
    · have := notL_div (nd hs k).2; rw [← h] at this; exact h3 this
  have c2 : ¬ ((nd hs k).1 = 1 ∨ (nd hs k).1 = (nd hs k).2) := by
    rintro (h | h)
    · omega
    · exact h3 (by rw [h])
  have c3 : ¬ (nd hs k).2 = 1 := by omega
  rw [andM_3 c1 c2 c3]
  cases hl : lookIn ((nd hs k).1, (nd hs k).2) (gatesOf hs) 0 with
  | none => exact absurd (gates_mem hk hg) (lookIn_none hl _)
  | some y =>
    obtain ⟨j, x⟩ := y
    obtain ⟨i, hi, gi, e, rfl⟩ := mem_gates (lookIn_mem hl)
    have : i = k := g.same hi hk gi hg e
    subst this; rfl

theorem mem_inputs {ns : Nodes} {n : Nat} (h : n ∈ inputsOf ns) : n < ns.length ∧ (nd ns n).1 = mark := by
  unfold inputsOf at h
  obtain ⟨⟨p, i⟩, hm, hp⟩ := List.mem_filterMap.1 h
  rw [List.mem_zipIdx_iff_getElem?] at hm
  simp only at hm hp
  split at hp
  · rename_i hc
    obtain rfl := Option.some.inj hp
    have hl := (List.getElem?_eq_some_iff.1 hm).1
    refine ⟨hl, ?_⟩
    have e := getElem?_nd hl
    rw [hm] at e
    rw [← Option.some.inj e]; exact hc
  · cases hp
theorem inputs_lt {ns : Nodes} {n : Nat} (h : n ∈ inputsOf ns) : n < ns.length := (mem_inputs h).1

section
variable {f : Nat → Nat} {ns hs : Nodes}
theorem Emb.inj' (E : Emb f ns hs) {x y : Nat} (hx : x < 2 * ns.length) (hy : y < 2 * ns.length) : emL f x = emL f y ↔ x = y :=
  ⟨fun h => by
    have h1 := congrArg (· / 2) h
    have h2 := congrArg (· % 2) h
    simp only [emL_div, emL_mod] at h1 h2
    exact lit_eq (E.inj _ _ (by omega) (by omega) h1) h2, fun h => by rw [h]⟩
theorem Emb.at0 (E : Emb f ns hs) {x : Nat} (hx : x < 2 * ns.length) : emL f x = 0 ↔ x = 0 := by
  have := E.inj' (x := x) (y := 0) hx (by omega)
  rwa [show emL f 0 = 0 by simp [emL, E.zero]] at this
theorem Emb.at1 (E : Emb f ns hs) {x : Nat} (hx : x < 2 * ns.length) : emL f x = 1 ↔ x = 1 := by
  have := E.inj' (x := x) (y := 1) hx (by omega)
  rwa [show emL f 1 = 1 by simp [emL, E.zero]] at this
theorem Emb.litlt (E : Emb f ns hs) {x : Nat} (hx : x < 2 * ns.length) : emL f x < 2 * hs.length := by
  have := E.lt (x / 2) (by omega); unfold emL; omega

/-- One And in both. -/
theorem andM_emb (E : Emb f ns hs) (gn : GoodG ns) (gh : GoodG hs) {a b : Nat} (ha : a < 2 * ns.length) (hb : b < 2 * ns.length) (hl : ns.length ≤ 1073741824) (hl2 : hs.length ≤ 1073741824) :
    ∃ f', (∀ n, n < ns.length → f' n = f n) ∧ Emb f' (andM ns a b).2 (andM hs (emL f a) (emL f b)).2 ∧ emL f' (andM ns a b).1 = (andM hs (emL f a) (emL f b)).1 := by
  have hpos := gn.pos
  have i1 : (emL f a = 0 ∨ emL f b = 0 ∨ emL f a = notL (emL f b)) ↔ (a = 0 ∨ b = 0 ∨ a = notL b) := by
    rw [E.at0 ha, E.at0 hb, ← emL_notL, E.inj' ha (notL_lt2 hb)]
  have i2 : (emL f a = 1 ∨ emL f a = emL f b) ↔ (a = 1 ∨ a = b) := by rw [E.at1 ha, E.inj' ha hb]
  have i3 : emL f b = 1 ↔ b = 1 := E.at1 hb
  by_cases c1 : a = 0 ∨ b = 0 ∨ a = notL b
  · rw [andM_0 c1, andM_0 (i1.2 c1)]
    exact ⟨f, fun _ _ => rfl, E, by simp [emL, E.zero]⟩
  by_cases c2 : a = 1 ∨ a = b
  · rw [andM_1 c1 c2, andM_1 (fun h => c1 (i1.1 h)) (i2.2 c2)]
    exact ⟨f, fun _ _ => rfl, E, rfl⟩
  by_cases c3 : b = 1
  · rw [andM_2 c1 c2 c3, andM_2 (fun h => c1 (i1.1 h)) (fun h => c2 (i2.1 h)) (i3.2 c3)]
    exact ⟨f, fun _ _ => rfl, E, rfl⟩
  have ma : a ≠ mark := by unfold mark; omega
  have hmx : emL f a ≠ mark := by have := E.litlt ha; unfold mark; omega
  -- the one graph one gate longer
  have hgN : isGate (ns ++ [(a, b)]) ns.length = true := isGate_iff.2 ⟨hpos, by rw [nd_new]; exact ma⟩
  have hop : ∀ n, n < ns.length → isGate ns n = true → (nd ns n).1 / 2 < ns.length ∧ (nd ns n).2 / 2 < ns.length := fun n hn hg => by
    have := gn.gate n hn hg; omega
  rw [andM_3 c1 c2 c3, andM_3 (fun h => c1 (i1.1 h)) (fun h => c2 (i2.1 h)) (fun h => c3 (i3.1 h))]
  cases hk : lookIn (a, b) (gatesOf ns) 0 with
  | some y =>
    obtain ⟨j, x⟩ := y
    obtain ⟨i, hi, gi, e, rfl⟩ := mem_gates (lookIn_mem hk)
    have gj : isGate hs (f i) = true := by rw [E.isg i hi]; exact gi
    have ej := E.gate i hi gi
    rw [e] at ej
    simp only at ej
    cases hk2 : lookIn (emL f a, emL f b) (gatesOf hs) 0 with
    | none =>
      have := gates_mem (E.lt i hi) gj
      rw [ej] at this
      exact absurd this (lookIn_none hk2 _)
    | some y2 =>
      obtain ⟨j2, x2⟩ := y2
      obtain ⟨i2, hi2, gi2, e2, rfl⟩ := mem_gates (lookIn_mem hk2)
      have : i2 = f i := gh.same hi2 (E.lt i hi) gi2 gj (e2.trans ej.symm)
      subst this
      exact ⟨f, fun _ _ => rfl, E, by simp [emL]⟩
  | none =>
    have hnew : ∀ m, m < ns.length → isGate ns m = true → nd ns m ≠ (a, b) := fun m hm gm e => by
      have := gates_mem hm gm
      rw [e] at this
      exact lookIn_none hk _ this
    cases hk2 : lookIn (emL f a, emL f b) (gatesOf hs) 0 with
    | some y2 =>
      obtain ⟨j2, x2⟩ := y2
      obtain ⟨i2, hi2, gi2, e2, rfl⟩ := mem_gates (lookIn_mem hk2)
      have hfar : ∀ m, m < ns.length → f m ≠ i2 := fun m hm e => by
        subst e
        have gm : isGate ns m = true := by rw [← E.isg m hm]; exact gi2
        have := E.gate m hm gm
        rw [e2] at this
        injection this with h1 h2
        refine hnew m hm gm ?_
        have b1 := hop m hm gm
        have k1 := (E.inj' ha (y := (nd ns m).1) (by omega)).1 h1
        have k2 := (E.inj' hb (y := (nd ns m).2) (by omega)).1 h2
        rw [k1, k2]
      refine ⟨fun n => if n = ns.length then i2 else f n, fun n hn => by (try simp only); rw [if_neg (by omega)], ⟨?_, ?_, ?_, ?_, ?_, ?_⟩, ?_⟩
      · rw [if_neg (by omega)]; exact E.zero
      · intro n hn
        simp only [List.length_append, List.length_singleton] at hn
        try simp only
        split
        · exact hi2
        · exact E.lt n (by omega)
      · intro m n hm hn
        simp only [List.length_append, List.length_singleton] at hm hn
        try simp only
        split <;> split
        · intro _; omega
        · intro h; exact absurd h.symm (hfar n (by omega))
        · intro h; exact absurd h (hfar m (by omega))
        · intro h; exact E.inj m n (by omega) (by omega) h
      · intro n hn
        simp only [List.length_append, List.length_singleton] at hn
        try simp only
        split
        · rename_i h; subst h; rw [hgN]; exact gi2
        · rw [isGate_old (by omega)]; exact E.isg n (by omega)
      · intro n hn hg
        simp only [List.length_append, List.length_singleton] at hn
        try simp only
        by_cases h : n = ns.length
        · subst h
          rw [if_pos rfl, nd_new, e2]
          try simp only
          rw [emL_congr (f := f) (f' := fun n => if n = ns.length then i2 else f n) (x := a) (by (try simp only); rw [if_neg (by omega)]), emL_congr (f := f) (f' := fun n => if n = ns.length then i2 else f n) (x := b) (by (try simp only); rw [if_neg (by omega)])]
        · rw [if_neg h]
          have hn' : n < ns.length := by omega
          rw [isGate_old hn'] at hg
          rw [nd_old hn', E.gate n hn' hg]
          have b1 := hop n hn' hg
          rw [emL_congr (f := f) (f' := fun n => if n = ns.length then i2 else f n) (x := (nd ns n).1) (by (try simp only); rw [if_neg (by omega)]), emL_congr (f := f) (f' := fun n => if n = ns.length then i2 else f n) (x := (nd ns n).2) (by (try simp only); rw [if_neg (by omega)])]
      · rw [inputsOf_snoc _ _ (show (a, b).1 ≠ mark from ma), E.ins]
        refine List.map_congr_left fun n hn => ?_
        have := inputs_lt hn
        (try simp only); rw [if_neg (by omega)]
      · simp [emL]
    | none =>
      refine ⟨fun n => if n = ns.length then hs.length else f n, fun n hn => by (try simp only); rw [if_neg (by omega)], ⟨?_, ?_, ?_, ?_, ?_, ?_⟩, ?_⟩
      · rw [if_neg (by omega)]; exact E.zero
      · intro n hn
        simp only [List.length_append, List.length_singleton] at hn ⊢
        split
        · omega
        · have := E.lt n (by omega); omega
      · intro m n hm hn
        simp only [List.length_append, List.length_singleton] at hm hn
        try simp only
        split <;> split
        · intro _; omega
        · intro h; have := E.lt n (by omega); omega
        · intro h; have := E.lt m (by omega); omega
        · intro h; exact E.inj m n (by omega) (by omega) h
      · intro n hn
        simp only [List.length_append, List.length_singleton] at hn
        try simp only
        split
        · rename_i h; subst h
          rw [hgN]
          exact isGate_iff.2 ⟨gh.pos, by rw [nd_new]; exact hmx⟩
        · have := E.lt n (by omega)
          rw [isGate_old (by omega), isGate_old (by omega)]; exact E.isg n (by omega)
      · intro n hn hg
        simp only [List.length_append, List.length_singleton] at hn
        try simp only
        by_cases h : n = ns.length
        · subst h
          rw [if_pos rfl, nd_new, nd_new]
          try simp only
          rw [emL_congr (f := f) (f' := fun n => if n = ns.length then hs.length else f n) (x := a) (by (try simp only); rw [if_neg (by omega)]), emL_congr (f := f) (f' := fun n => if n = ns.length then hs.length else f n) (x := b) (by (try simp only); rw [if_neg (by omega)])]
        · rw [if_neg h]
          have hn' : n < ns.length := by omega
          have hfl := E.lt n hn'
          rw [isGate_old hn'] at hg
          rw [nd_old hn', nd_old hfl, E.gate n hn' hg]
          have b1 := hop n hn' hg
          rw [emL_congr (f := f) (f' := fun n => if n = ns.length then hs.length else f n) (x := (nd ns n).1) (by (try simp only); rw [if_neg (by omega)]), emL_congr (f := f) (f' := fun n => if n = ns.length then hs.length else f n) (x := (nd ns n).2) (by (try simp only); rw [if_neg (by omega)])]
      · rw [inputsOf_snoc _ _ (show (a, b).1 ≠ mark from ma), inputsOf_snoc _ _ (show (emL f a, emL f b).1 ≠ mark from hmx), E.ins]
        refine List.map_congr_left fun n hn => ?_
        have := inputs_lt hn
        (try simp only); rw [if_neg (by omega)]
      · simp [emL]
end
end Go.Proofs.YtjllogellpfpkaaDoor
