/- Which literals are wanted: the marks are just those. Plain laws. -/
import Derived.Test.YtjeopmiopinlgaaTsI
import Derived.Test.YtjeopmiopinlgaaAigU
set_option linter.unusedVariables false
set_option linter.unusedSimpArgs false
namespace Go.Proofs.Ytjeopmiopinlgaa

/-- Is the literal marked? -/
def hasL (W : List Nat) (x : Nat) : Bool := (W.getD (x / 2) 0 &&& (if x % 2 = 1 then 2 else 1)) != 0
theorem bits_or : ∀ b : Nat, b < 4 → ((b ||| 1) &&& 1 = 1) ∧ ((b ||| 1) &&& 2 = b &&& 2) ∧ ((b ||| 2) &&& 1 = b &&& 1) ∧ ((b ||| 2) &&& 2 = 2) := by decide
theorem hasL_mark {W : List Nat} (h : ∀ y ∈ W, y < 4) {y : Nat} (hy : y / 2 < W.length) (x : Nat) : hasL (markL W y) x = (hasL W x || decide (x = y)) := by
  unfold hasL markL
  by_cases e : x / 2 = y / 2
  · have hg : (W.set (y / 2) (W.getD (y / 2) 0 ||| (if y % 2 = 1 then 2 else 1))).getD (x / 2) 0 = W.getD (y / 2) 0 ||| (if y % 2 = 1 then 2 else 1) := by
      rw [e, List.getD_eq_getElem?_getD, List.getElem?_set, if_pos rfl, if_pos hy]; rfl
    rw [hg, e]
    obtain ⟨q1, q2, q3, q4⟩ := bits_or (W.getD (y / 2) 0) (getD_lt4 h _)
    by_cases hx1 : x % 2 = 1 <;> by_cases hy1 : y % 2 = 1
    · rw [if_pos hx1, if_pos hy1, q4, decide_eq_true (by omega)]; simp
    · rw [if_pos hx1, if_neg hy1, q2, decide_eq_false (by omega), Bool.or_false]
    · rw [if_neg hx1, if_pos hy1, q3, decide_eq_false (by omega), Bool.or_false]
    · rw [if_neg hx1, if_neg hy1, q1, decide_eq_true (by omega)]; simp
  · have hg : (W.set (y / 2) (W.getD (y / 2) 0 ||| (if y % 2 = 1 then 2 else 1))).getD (x / 2) 0 = W.getD (x / 2) 0 := by
      rw [List.getD_eq_getElem?_getD, List.getElem?_set, if_neg (Ne.symm e), ← List.getD_eq_getElem?_getD]
    rw [hg, decide_eq_false (fun h => e (by rw [h])), Bool.or_false]
theorem hasL_even (W : List Nat) (n : Nat) : (W.getD n 0 &&& 1 ≠ 0) ↔ hasL W (2 * n) = true := by
  unfold hasL
  rw [show (2 * n) / 2 = n by omega, if_neg (by omega)]; simp
theorem hasL_odd (W : List Nat) (n : Nat) : (W.getD n 0 &&& 2 ≠ 0) ↔ hasL W (2 * n + 1) = true := by
  unfold hasL
  rw [show (2 * n + 1) / 2 = n by omega, if_pos (by omega)]; simp
theorem hasL_zero (n x : Nat) : hasL (List.replicate n 0) x = false := by
  unfold hasL
  have : (List.replicate n 0).getD (x / 2) 0 = 0 := by
    rw [List.getD_eq_getElem?_getD, List.getElem?_replicate]; split <;> rfl
  rw [this]; simp

inductive Wanted (ns : Nodes) (roots : List Nat) : Nat → Prop
  | root {r : Nat} : r ∈ roots → Wanted ns roots r
  | a {n : Nat} : n < ns.length → isGate ns n = true → Wanted ns roots (2 * n) → Wanted ns roots (nd ns n).1
  | b {n : Nat} : n < ns.length → isGate ns n = true → Wanted ns roots (2 * n) → Wanted ns roots (nd ns n).2
  | na {n : Nat} : n < ns.length → isGate ns n = true → Wanted ns roots (2 * n + 1) → Wanted ns roots (notL (nd ns n).1)
  | nb {n : Nat} : n < ns.length → isGate ns n = true → Wanted ns roots (2 * n + 1) → Wanted ns roots (notL (nd ns n).2)

theorem notL_div (x : Nat) : notL x / 2 = x / 2 := by unfold notL; split <;> omega

/-- One step back. -/
theorem polStep_has {ns : Nodes} (hw : Wf ns) {W : List Nat} (h : ∀ y ∈ W, y < 4) (hl : W.length = ns.length) {n : Nat} (hn : n < ns.length) (x : Nat) :
    hasL (polStep ns W n) x = true ↔ hasL W x = true ∨ (isGate ns n = true ∧ ((hasL W (2 * n) = true ∧ (x = (nd ns n).1 ∨ x = (nd ns n).2)) ∨ (hasL W (2 * n + 1) = true ∧ (x = notL (nd ns n).1 ∨ x = notL (nd ns n).2)))) := by
  by_cases hg : isGate ns n = true
  · have hng : nodeM ns n = (2, (nd ns n).1, (nd ns n).2) := nodeM_gate hg
    have ho := hw.2 n hn hg
    have hA : (nd ns n).1 / 2 < n := ho.1
    have hB : (nd ns n).2 / 2 < n := ho.2
    have hps : polStep ns W n = if (nodeM ns n).1 = 2 then
              (if (if W.getD n 0 &&& 1 ≠ 0 then markL (markL W (nodeM ns n).2.1) (nodeM ns n).2.2 else W).getD n 0 &&& 2 ≠ 0 then markL (markL (if W.getD n 0 &&& 1 ≠ 0 then markL (markL W (nodeM ns n).2.1) (nodeM ns n).2.2 else W) (notL (nodeM ns n).2.1)) (notL (nodeM ns n).2.2)
                else (if W.getD n 0 &&& 1 ≠ 0 then markL (markL W (nodeM ns n).2.1) (nodeM ns n).2.2 else W)) else W := rfl
    rw [hps, hng]
    simp only [if_true]
    generalize (nd ns n).1 = A at *
    generalize (nd ns n).2 = B at *
    have hnA := notL_div A
    have hnB := notL_div B
    have key : ∀ W1 : List Nat, (∀ y ∈ W1, y < 4) → W1.length = ns.length → ∀ a b, a / 2 < n → b / 2 < n → ∀ x, hasL (markL (markL W1 a) b) x = (hasL W1 x || decide (x = a) || decide (x = b)) := by
      intro W1 h1 hl1 a b ha hb x
      rw [hasL_mark (markL_lt h1 a) (by rw [markL_length]; omega), hasL_mark h1 (by omega)]
    have k1 := key W h hl A B hA hB
    have l1 : ∀ y ∈ markL (markL W A) B, y < 4 := markL_lt (markL_lt h A) B
    have ll1 : (markL (markL W A) B).length = ns.length := by rw [markL_length, markL_length]; exact hl
    by_cases b1 : W.getD n 0 &&& 1 ≠ 0
    · rw [if_pos b1]
      have b1' := (hasL_even W n).1 b1
      have hodd : hasL (markL (markL W A) B) (2 * n + 1) = hasL W (2 * n + 1) := by
        rw [k1, decide_eq_false (by omega), decide_eq_false (by omega)]; simp
      by_cases b2 : (markL (markL W A) B).getD n 0 &&& 2 ≠ 0
      · rw [if_pos b2]
        have b2' := (hasL_odd _ n).1 b2
        rw [hodd] at b2'
        rw [key _ l1 ll1 _ _ (by omega) (by omega), k1]
        simp [hg, b1', b2', or_assoc]
      · rw [if_neg b2]
        have b2' : hasL W (2 * n + 1) = false := by rw [← hodd, ← Bool.not_eq_true]; exact fun q => b2 ((hasL_odd _ n).2 q)
        rw [k1]
        simp [hg, b1', b2', or_assoc]
    · rw [if_neg b1]
      have b1' : hasL W (2 * n) = false := by rw [← Bool.not_eq_true]; exact fun q => b1 ((hasL_even W n).2 q)
      by_cases b2 : W.getD n 0 &&& 2 ≠ 0
      · rw [if_pos b2]
        have b2' := (hasL_odd _ n).1 b2
        rw [key _ h hl _ _ (by omega) (by omega)]
        simp [hg, b1', b2', or_assoc]
      · rw [if_neg b2]
        have b2' : hasL W (2 * n + 1) = false := by rw [← Bool.not_eq_true]; exact fun q => b2 ((hasL_odd _ n).2 q)
        simp [hg, b1', b2']
  · have e : polStep ns W n = W := by unfold polStep; rw [if_neg (nodeM_not (by simpa using hg))]
    rw [e]
    simp [hg]
theorem marks_has {n : Nat} (l : List Nat) : ∀ (W : List Nat), (∀ y ∈ W, y < 4) → W.length = n → (∀ y ∈ l, y / 2 < n) → ∀ x, hasL (l.foldl markL W) x = true ↔ hasL W x = true ∨ x ∈ l := by
  induction l with
  | nil => intro W _ _ _ x; simp
  | cons y l ih =>
    intro W h hl hy x
    rw [List.foldl_cons, ih _ (markL_lt h y) (by rw [markL_length]; exact hl) (fun z hz => hy z (List.mem_cons_of_mem _ hz)), hasL_mark h (by rw [hl]; exact hy y List.mem_cons_self)]
    simp [or_assoc]

section
variable {ns : Nodes} {roots : List Nat}
theorem polFrom_has_sub (hw : Wf ns) {W : List Nat} (h : ∀ y ∈ W, y < 4) (hl : W.length = ns.length) : ∀ (l1 l2 : List Nat), (∀ m ∈ l1, m < ns.length) → (∀ m ∈ l2, m < ns.length) → ∀ x,
    (hasL (polFrom ns W l2) x = true → hasL (polFrom ns W (l1 ++ l2)) x = true) ∧ (hasL (polFrom ns W (l1 ++ l2)) x = true → hasL (polFrom ns W l2) x = true ∨ ∃ m ∈ l1, isGate ns m = true ∧ (x / 2 = opA ns m ∨ x / 2 = opB ns m))
  | [], l2, _, _, x => ⟨fun h => h, fun h => .inl h⟩
  | m :: l1, l2, h1, h2, x => by
    have ih := polFrom_has_sub hw h hl l1 l2 (fun q hq => h1 q (List.mem_cons_of_mem _ hq)) h2 x
    rw [List.cons_append, polFrom_cons]
    have hs := polStep_has hw (polFrom_lt ns h (l1 ++ l2)) (by rw [polFrom_length]; exact hl) (h1 m List.mem_cons_self) x
    constructor
    · intro q; exact hs.2 (.inl (ih.1 q))
    · intro q
      rcases hs.1 q with q | ⟨hg, q⟩
      · rcases ih.2 q with q | ⟨k, hk, q⟩
        · exact .inl q
        · exact .inr ⟨k, List.mem_cons_of_mem _ hk, q⟩
      · refine .inr ⟨m, List.mem_cons_self, hg, ?_⟩
        have e1 : opA ns m = (nd ns m).1 / 2 := rfl
        have e2 : opB ns m = (nd ns m).2 / 2 := rfl
        rw [e1, e2]
        rcases q with ⟨_, q | q⟩ | ⟨_, q | q⟩
        · exact .inl (by rw [q])
        · exact .inr (by rw [q])
        · exact .inl (by rw [q, notL_div])
        · exact .inr (by rw [q, notL_div])
theorem wanted_cone (hw : Wf ns) (hx : ∀ r ∈ roots, r < 2 * ns.length) {x : Nat} (h : Wanted ns roots x) : x / 2 = 0 ∨ x / 2 ∈ coneM ns roots := by
  obtain ⟨hli, hr⟩ := coneM_lined hw roots hx
  have ops : ∀ n, isGate ns n = true → (n = 0 ∨ n ∈ coneM ns roots) → (opA ns n = 0 ∨ opA ns n ∈ coneM ns roots) ∧ (opB ns n = 0 ∨ opB ns n ∈ coneM ns roots) := by
    intro n hg hn
    rcases hn with hn | hn
    · subst hn; simp [isGate] at hg
    · obtain ⟨i, hi, he⟩ := List.getElem_of_mem hn
      have hA := (hli.at hi).2.2.2
      rw [he] at hA
      exact ⟨(hA hg).1.imp id List.mem_of_mem_take, (hA hg).2.imp id List.mem_of_mem_take⟩
  induction h with
  | root h => exact hr _ h
  | a hn hg _ ih => exact (ops _ hg (by rwa [show (2 * _) / 2 = _ from Nat.mul_div_cancel_left _ (by decide)] at ih)).1
  | b hn hg _ ih => exact (ops _ hg (by rwa [show (2 * _) / 2 = _ from Nat.mul_div_cancel_left _ (by decide)] at ih)).2
  | @na n hn hg _ ih => rw [notL_div]; exact (ops _ hg (by rwa [show (2 * n + 1) / 2 = n by omega] at ih)).1
  | @nb n hn hg _ ih => rw [notL_div]; exact (ops _ hg (by rwa [show (2 * n + 1) / 2 = n by omega] at ih)).2
/-- THE MARKS: just what is wanted. -/
theorem polar_has (hw : Wf ns) (hx : ∀ r ∈ roots, r < 2 * ns.length) (x : Nat) : hasL (polarW ns roots) x = true ↔ Wanted ns roots x := by
  have hli := (coneM_lined hw roots hx).1
  have hK : ∀ m ∈ coneM ns roots, m < ns.length := fun m hm => (hli.mem m hm).2
  have z4 : ∀ y ∈ List.replicate ns.length 0, y < 4 := fun y hy => by rw [(List.mem_replicate.1 hy).2]; decide
  have hW4 := marks_lt roots z4
  have hWl : (roots.foldl markL (List.replicate ns.length 0)).length = ns.length := by rw [marks_length, List.length_replicate]
  have hW : ∀ x, hasL (roots.foldl markL (List.replicate ns.length 0)) x = true ↔ x ∈ roots := fun x => by
    rw [marks_has (n := ns.length) roots _ z4 (by simp) (fun y hy => by have := hx y hy; omega), hasL_zero]; simp
  rw [show polarW ns roots = polFrom ns (roots.foldl markL (List.replicate ns.length 0)) (coneM ns roots) from rfl]
  generalize roots.foldl markL (List.replicate ns.length 0) = W at *
  constructor
  · have key : ∀ l : List Nat, (∀ m ∈ l, m < ns.length) → ∀ x, hasL (polFrom ns W l) x = true → Wanted ns roots x := by
      intro l
      induction l with
      | nil => intro _ x h; exact .root ((hW x).1 h)
      | cons n l ih =>
        intro hl x h
        rw [polFrom_cons] at h
        have hn := hl n List.mem_cons_self
        have ih' := ih fun m hm => hl m (List.mem_cons_of_mem _ hm)
        rcases (polStep_has hw (polFrom_lt ns hW4 l) (by rw [polFrom_length]; exact hWl) hn x).1 h with h | ⟨hg, ⟨q, rfl | rfl⟩ | ⟨q, rfl | rfl⟩⟩
        · exact ih' x h
        · exact .a hn hg (ih' _ q)
        · exact .b hn hg (ih' _ q)
        · exact .na hn hg (ih' _ q)
        · exact .nb hn hg (ih' _ q)
    exact key _ hK x
  · have step : ∀ n, n < ns.length → isGate ns n = true → n ∈ coneM ns roots → ∀ y, y / 2 = n → hasL (polFrom ns W (coneM ns roots)) y = true → ∃ l1 l2, coneM ns roots = l1 ++ n :: l2 ∧ hasL (polFrom ns W l2) y = true := by
      intro n hn hg hnK y hy h
      obtain ⟨i, hi, he⟩ := List.getElem_of_mem hnK
      have hsplit : coneM ns roots = (coneM ns roots).take i ++ n :: (coneM ns roots).drop (i + 1) := by
        rw [← he, ← List.drop_eq_getElem_cons hi, List.take_append_drop]
      refine ⟨_, _, hsplit, ?_⟩
      have hmem2 : ∀ m ∈ (coneM ns roots).drop (i + 1), m < ns.length := fun m hm => hK m (List.mem_of_mem_drop hm)
      have h' : hasL (polFrom ns W (((coneM ns roots).take i ++ [n]) ++ (coneM ns roots).drop (i + 1))) y = true := by
        rw [List.append_assoc, List.singleton_append, ← hsplit]; exact h
      rcases (polFrom_has_sub hw hW4 hWl _ _ (fun m hm => by
          rcases List.mem_append.1 hm with hm | hm
          · exact hK m (List.mem_of_mem_take hm)
          · rw [List.mem_singleton.1 hm]; exact hn) hmem2 y).2 h' with h1 | ⟨m, hm, hgm, h1⟩
      · exact h1
      · exfalso
        rw [hy] at h1
        rcases List.mem_append.1 hm with hm | hm
        · obtain ⟨j, hj, hje⟩ := List.getElem_of_mem hm
          have hj2 : j < i := by simp at hj; omega
          have hj3 : j < (coneM ns roots).length := by omega
          have hje2 : (coneM ns roots)[j] = m := by rw [← hje]; simp
          have hA := (hli.at hj3).2.2.2
          rw [hje2] at hA
          have hnot : n ∉ (coneM ns roots).take j := by
            intro hin
            have h2 := (hli.at hi).2.2.1
            rw [he] at h2
            exact h2 (List.take_subset_take_left _ (by omega : j ≤ i) hin)
          have hn0 : n ≠ 0 := (hli.mem n hnK).1
          rcases h1 with h1 | h1
          · rcases (hA hgm).1 with q | q
            · exact hn0 (by rw [h1, q])
            · exact hnot (by rw [h1]; exact q)
          · rcases (hA hgm).2 with q | q
            · exact hn0 (by rw [h1, q])
            · exact hnot (by rw [h1]; exact q)
        · rw [List.mem_singleton.1 hm] at h1
          have ho := hw.2 n hn hg
          omega
    have fin : ∀ n, n < ns.length → isGate ns n = true → ∀ y, y / 2 = n → (n = 0 ∨ n ∈ coneM ns roots) → hasL (polFrom ns W (coneM ns roots)) y = true → ∀ z, (∀ W' : List Nat, (∀ q ∈ W', q < 4) → W'.length = ns.length → hasL W' y = true → hasL (polStep ns W' n) z = true) → hasL (polFrom ns W (coneM ns roots)) z = true := by
      intro n hn hg y hy hnK h z hz
      have hnK' : n ∈ coneM ns roots := by
        rcases hnK with e | e
        · subst e; simp [isGate] at hg
        · exact e
      obtain ⟨l1, l2, hsp, h2⟩ := step n hn hg hnK' y hy h
      have h3 := hz _ (polFrom_lt ns hW4 l2) (by rw [polFrom_length]; exact hWl) h2
      rw [← polFrom_cons] at h3
      rw [hsp]
      exact (polFrom_has_sub hw hW4 hWl l1 (n :: l2) (fun m hm => hK m (by rw [hsp]; simp [hm])) (fun m hm => hK m (by rw [hsp]; exact List.mem_append.2 (.inr hm))) z).1 h3
    intro h
    induction h with
    | @root r h =>
      have := (polFrom_has_sub hw hW4 hWl (coneM ns roots) [] hK (fun _ h => by cases h) r).1 ((hW r).2 h)
      rwa [List.append_nil] at this
    | @a n hn hg hq ih =>
      have hc := wanted_cone hw hx hq
      rw [show (2 * n) / 2 = n by omega] at hc
      exact fin n hn hg (2 * n) (by omega) hc ih _ fun W' h4 hl hh => (polStep_has hw h4 hl hn _).2 (.inr ⟨hg, .inl ⟨hh, .inl rfl⟩⟩)
    | @b n hn hg hq ih =>
      have hc := wanted_cone hw hx hq
      rw [show (2 * n) / 2 = n by omega] at hc
      exact fin n hn hg (2 * n) (by omega) hc ih _ fun W' h4 hl hh => (polStep_has hw h4 hl hn _).2 (.inr ⟨hg, .inl ⟨hh, .inr rfl⟩⟩)
    | @na n hn hg hq ih =>
      have hc := wanted_cone hw hx hq
      rw [show (2 * n + 1) / 2 = n by omega] at hc
      exact fin n hn hg (2 * n + 1) (by omega) hc ih _ fun W' h4 hl hh => (polStep_has hw h4 hl hn _).2 (.inr ⟨hg, .inr ⟨hh, .inl rfl⟩⟩)
    | @nb n hn hg hq ih =>
      have hc := wanted_cone hw hx hq
      rw [show (2 * n + 1) / 2 = n by omega] at hc
      exact fin n hn hg (2 * n + 1) (by omega) hc ih _ fun W' h4 hl hh => (polStep_has hw h4 hl hn _).2 (.inr ⟨hg, .inr ⟨hh, .inr rfl⟩⟩)
end
end Go.Proofs.Ytjeopmiopinlgaa
