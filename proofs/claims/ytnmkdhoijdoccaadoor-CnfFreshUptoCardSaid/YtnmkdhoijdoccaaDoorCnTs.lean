/- Tidy formulas: what stands in them, tidied again, under an assignment of all variables. Plain laws. -/
import Derived.Test.YtnmkdhoijdoccaaDoorCnT
import Derived.Test.YtnmkdhoijdoccaaDoorCnZ0
set_option linter.unusedVariables false
set_option linter.unusedSimpArgs false
namespace Go.Proofs.YtnmkdhoijdoccaaDoor
open Go

theorem snocInd {α : Type} {P : List α → Prop} (h0 : P []) (hs : ∀ l a, P l → P (l ++ [a])) (l : List α) : P l := by
  have key : ∀ n (l : List α), l.length = n → P l := by
    intro n
    induction n with
    | zero => intro l hl; rw [List.length_eq_zero_iff.1 hl]; exact h0
    | succ n ih =>
      intro l hl
      rcases List.eq_nil_or_concat l with h | ⟨k, a, h⟩
      · rw [h]; exact h0
      · rw [h, List.concat_eq_append]; exact hs k a (ih k (by rw [h] at hl; simpa using hl))
  exact key _ l rfl
theorem tidM_mem (cls : List (List Int)) : ∀ d, d ∈ tidM cls ↔ ∃ c ∈ cls, d = setM c ∧ twoM (setM c) = false := by
  refine snocInd (P := fun cls => ∀ d, d ∈ tidM cls ↔ ∃ c ∈ cls, d = setM c ∧ twoM (setM c) = false) ?_ ?_ cls
  · intro d; simp [tidM]
  · intro l a ih d
    rw [tidM_snoc]
    unfold tidyStep
    constructor
    · intro h
      split at h
      · obtain ⟨c, hc, k⟩ := (ih d).1 h
        exact ⟨c, List.mem_append_left _ hc, k⟩
      · rename_i hn
        rcases List.mem_append.1 h with h | h
        · obtain ⟨c, hc, k⟩ := (ih d).1 h
          exact ⟨c, List.mem_append_left _ hc, k⟩
        · refine ⟨a, by simp, List.mem_singleton.1 h, ?_⟩
          cases ht : twoM (setM a) with
          | false => rfl
          | true => exact absurd (.inl ht) hn
    · rintro ⟨c, hc, hd, ht⟩
      rcases List.mem_append.1 hc with hc | hc
      · have := (ih d).2 ⟨c, hc, hd, ht⟩
        split
        · exact this
        · exact List.mem_append_left _ this
      · obtain rfl := List.mem_singleton.1 hc
        split
        · rename_i hn
          rcases hn with hn | hn
          · rw [ht] at hn; cases hn
          · rw [hd]; exact hn
        · rw [hd]; simp
theorem tidM_nodup (cls : List (List Int)) : (tidM cls).Nodup := by
  refine snocInd (P := fun cls => (tidM cls).Nodup) (by simp [tidM]) ?_ cls
  intro l a ih
  rw [tidM_snoc]
  unfold tidyStep
  split
  · exact ih
  · rename_i hn
    rw [List.nodup_append]
    refine ⟨ih, by simp, ?_⟩
    intro x hx y hy e
    rw [List.mem_singleton.1 hy] at e
    exact hn (.inr (e ▸ hx))
theorem tidM_fix (L : List (List Int)) : (∀ c ∈ L, setM c = c ∧ twoM c = false) → L.Nodup → tidM L = L := by
  refine snocInd (P := fun L => (∀ c ∈ L, setM c = c ∧ twoM c = false) → L.Nodup → tidM L = L) (fun _ _ => rfl) ?_ L
  intro l a ih h1 h2
  rw [List.nodup_append] at h2
  rw [tidM_snoc, ih (fun c hc => h1 c (List.mem_append_left _ hc)) h2.1]
  obtain ⟨k1, k2⟩ := h1 a (by simp)
  unfold tidyStep
  rw [k1, if_neg]
  rintro (h | h)
  · rw [k2] at h; cases h
  · exact h2.2.2 a h a (by simp) rfl
theorem tidM_idem (cls : List (List Int)) : tidM (tidM cls) = tidM cls := by
  refine tidM_fix _ (fun c hc => ?_) (tidM_nodup cls)
  obtain ⟨d, _, rfl, ht⟩ := (tidM_mem cls c).1 hc
  exact ⟨setM_idem d, ht⟩
theorem tidM_sum (cls : List (List Int)) : ((tidM cls).map List.length).sum ≤ (cls.map List.length).sum := by
  refine snocInd (P := fun cls => ((tidM cls).map List.length).sum ≤ (cls.map List.length).sum) (by simp [tidM]) ?_ cls
  intro l a ih
  rw [tidM_snoc]
  unfold tidyStep
  have hs := setM_len a
  split
  · simp only [List.map_append, List.sum_append, List.map_cons, List.map_nil, List.sum_cons, List.sum_nil]; omega
  · simp only [List.map_append, List.sum_append, List.map_cons, List.map_nil, List.sum_cons, List.sum_nil]; omega
theorem any_set (c : List Int) (p : Int → Bool) : (setM c).any p = c.any p := by
  cases h : c.any p with
  | true =>
    obtain ⟨x, hx, hp⟩ := List.any_eq_true.1 h
    exact List.any_eq_true.2 ⟨x, setM_mem.2 hx, hp⟩
  | false =>
    cases h2 : (setM c).any p with
    | false => rfl
    | true =>
      obtain ⟨x, hx, hp⟩ := List.any_eq_true.1 h2
      rw [List.any_eq_true.2 ⟨x, setM_mem.1 hx, hp⟩] at h; cases h
theorem check_tid {vars : Int} {cls : List (List Int)} (h : (checkM vars cls).2 = 0) : (checkM vars (tidM cls)).2 = 0 := by
  rw [checkM_zero] at *
  obtain ⟨h1, h2, h3, h4⟩ := h
  have hl := tidM_len cls
  have hs := tidM_sum cls
  refine ⟨h1, by omega, fun d hd => ?_, by omega⟩
  obtain ⟨c, hc, rfl, -⟩ := (tidM_mem cls d).1 hd
  obtain ⟨k1, k2⟩ := h3 c hc
  have := setM_len c
  exact ⟨by omega, by rw [any_set]; exact k2⟩
/-- Every literal has a value. -/
def FullM (cls : List (List Int)) (m : List Int) : Prop := ∀ c ∈ cls, ∀ x ∈ c, ofM m x = 1 ∨ ofM m x = -1
theorem valM_fullv {c m : List Int} (h : ∀ x ∈ c, ofM m x = 1 ∨ ofM m x = -1) : valM c m = 1 ∨ valM c m = -1 := by
  by_cases h1 : ∃ l ∈ c, ofM m l = 1
  · exact .inl (valM_one.2 h1)
  · refine .inr (valM_neg.2 fun l hl => (h l hl).resolve_left fun e => h1 ⟨l, hl, e⟩)
theorem valM_two {c m : List Int} (h : ∀ x ∈ c, ofM m x = 1 ∨ ofM m x = -1) (ht : twoM c = true) : valM c m = 1 := by
  unfold twoM at ht
  obtain ⟨x, hx, hx2⟩ := List.any_eq_true.1 ht
  have hn : -x ∈ c := List.contains_iff_mem.1 hx2
  refine valM_one.2 ?_
  rcases h x hx with h1 | h1
  · exact ⟨x, hx, h1⟩
  · refine ⟨-x, hn, ?_⟩
    rw [ofM_neg, h1]; rfl
theorem und_full {cls : List (List Int)} {m : List Int} (h : FullM cls m) : undV cls m = if cls.any (fun c => valM c m == -1) = true then -1 else 1 := by
  unfold undV
  split
  · rfl
  · rw [if_neg]
    intro h0
    obtain ⟨c, hc, h1⟩ := List.any_eq_true.1 h0
    have h1 := eq_of_beq h1
    rcases valM_fullv (h c hc) with h2 | h2 <;> omega
theorem full_tid {cls : List (List Int)} {m : List Int} (h : FullM cls m) : FullM (tidM cls) m := fun d hd x hx => by
  obtain ⟨c, hc, rfl, -⟩ := (tidM_mem cls d).1 hd
  exact h c hc x (setM_mem.1 hx)
theorem und_tid {cls : List (List Int)} {m : List Int} (h : FullM cls m) : undV (tidM cls) m = undV cls m := by
  rw [und_full h, und_full (full_tid h)]
  have key : (tidM cls).any (fun c => valM c m == -1) = true ↔ cls.any (fun c => valM c m == -1) = true := by
    rw [List.any_eq_true, List.any_eq_true]
    constructor
    · rintro ⟨d, hd, hv⟩
      obtain ⟨c, hc, rfl, -⟩ := (tidM_mem cls d).1 hd
      exact ⟨c, hc, by rw [← valM_set]; exact hv⟩
    · rintro ⟨c, hc, hv⟩
      refine ⟨setM c, (tidM_mem cls _).2 ⟨c, hc, rfl, ?_⟩, by rw [valM_set]; exact hv⟩
      cases ht : twoM (setM c) with
      | false => rfl
      | true =>
        have h1 := valM_two (c := setM c) (m := m) (fun x hx => h c hc x (setM_mem.1 hx)) ht
        rw [valM_set] at h1
        have hv := eq_of_beq hv
        omega
  by_cases hb : cls.any (fun c => valM c m == -1) = true
  · rw [if_pos hb, if_pos (key.2 hb)]
  · rw [if_neg hb, if_neg (fun h => hb (key.1 h))]
theorem und_full_ne {cls : List (List Int)} {m : List Int} (h : FullM cls m) : undV cls m ≠ 0 := by
  rw [und_full h]; split <;> decide
end Go.Proofs.YtnmkdhoijdoccaaDoor
