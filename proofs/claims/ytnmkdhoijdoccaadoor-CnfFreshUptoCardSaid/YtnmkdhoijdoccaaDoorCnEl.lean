/- Eliminate: plain definitions; what is left of a variable resolved away. -/
import Derived.Test.YtnmkdhoijdoccaaDoorCnTs
set_option linter.unusedVariables false
set_option linter.unusedSimpArgs false
namespace Go.Proofs.YtnmkdhoijdoccaaDoor
open Go

def resAll (v : Int) : List (List Int × List Int) → List (List Int) → List (List Int) × Int
  | [], out => (out, 0)
  | (a, b) :: r, out => if (resM a b v).2 ≠ 0 then ([], (resM a b v).2) else resAll v r (out ++ [(resM a b v).1])
def pairsM (W A : List (List Int)) : List (List Int × List Int) := W.flatMap fun a => A.map fun b => (a, b)
def withM (v : Int) (T : List (List Int)) : List (List Int) := T.filter fun c => c.contains v
def againM (v : Int) (T : List (List Int)) : List (List Int) := T.filter fun c => !c.contains v && c.contains (-v)
def restC (v : Int) (T : List (List Int)) : List (List Int) := T.filter fun c => !c.contains v && !c.contains (-v)
def elimM (vars : Int) (cls : List (List Int)) (v : Int) : Int × List (List Int) × Int :=
  if (checkM vars cls).2 ≠ 0 then (0, [], (checkM vars cls).2) else if v < 1 ∨ vars < v then (0, [], 20) else
  if 1048576 < (withM v (tidM cls)).length * (againM v (tidM cls)).length then (0, [], 23) else
  if (resAll v (pairsM (withM v (tidM cls)) (againM v (tidM cls))) (restC v (tidM cls))).2 ≠ 0 then (0, [], (resAll v (pairsM (withM v (tidM cls)) (againM v (tidM cls))) (restC v (tidM cls))).2) else
  if (checkM vars (tidM (resAll v (pairsM (withM v (tidM cls)) (againM v (tidM cls))) (restC v (tidM cls))).1)).2 ≠ 0 then (0, [], (checkM vars (tidM (resAll v (pairsM (withM v (tidM cls)) (againM v (tidM cls))) (restC v (tidM cls))).1)).2) else
  (vars, tidM (resAll v (pairsM (withM v (tidM cls)) (againM v (tidM cls))) (restC v (tidM cls))).1, 0)
theorem resAll_ok (v : Int) : ∀ (l : List (List Int × List Int)) (out : List (List Int)), (resAll v l out).2 = 0 → (resAll v l out).1 = out ++ l.map (fun p => setM (resC p.1 p.2 v)) ∧ ∀ p ∈ l, (resM p.1 p.2 v).2 = 0
  | [], out, _ => ⟨by simp [resAll], fun p hp => nomatch hp⟩
  | (a, b) :: r, out, h => by
    unfold resAll at h ⊢
    by_cases h1 : (resM a b v).2 ≠ 0
    · rw [if_pos h1] at h; exact absurd h h1
    · rw [if_neg h1] at h ⊢
      have h1 : (resM a b v).2 = 0 := Decidable.not_not.1 h1
      obtain ⟨k1, k2⟩ := resAll_ok v r _ h
      refine ⟨by rw [k1, resM_ok h1]; simp, fun p hp => ?_⟩
      rcases List.mem_cons.1 hp with rfl | hp
      · exact h1
      · exact k2 p hp
theorem mem_pairs {W A : List (List Int)} {p : List Int × List Int} : p ∈ pairsM W A ↔ p.1 ∈ W ∧ p.2 ∈ A := by
  unfold pairsM
  rw [List.mem_flatMap]
  constructor
  · rintro ⟨a, ha, hp⟩
    obtain ⟨b, hb, rfl⟩ := List.mem_map.1 hp
    exact ⟨ha, hb⟩
  · rintro ⟨h1, h2⟩
    exact ⟨p.1, h1, List.mem_map.2 ⟨p.2, h2, rfl⟩⟩
theorem und_one {cls : List (List Int)} {m : List Int} : undV cls m = 1 ↔ ∀ c ∈ cls, valM c m = 1 := by
  unfold undV
  constructor
  · intro h c hc
    split at h
    · cases h
    · rename_i h1
      split at h
      · cases h
      · rename_i h2
        rcases valM_vals c m with k | k | k
        · exact absurd (List.any_eq_true.2 ⟨c, hc, by simp [k]⟩) h2
        · exact k
        · exact absurd (List.any_eq_true.2 ⟨c, hc, by simp [k]⟩) h1
  · intro h
    rw [if_neg, if_neg]
    · intro h2
      obtain ⟨c, hc, k⟩ := List.any_eq_true.1 h2
      have := eq_of_beq k
      rw [h c hc] at this; cases this
    · intro h2
      obtain ⟨c, hc, k⟩ := List.any_eq_true.1 h2
      have := eq_of_beq k
      rw [h c hc] at this; cases this
theorem all_tid {cls : List (List Int)} {m : List Int} (h : FullM cls m) : (∀ c ∈ tidM cls, valM c m = 1) ↔ ∀ c ∈ cls, valM c m = 1 := by
  rw [← und_one, ← und_one, und_tid h]
/-- A literal of another variable. -/
theorem ofM_other {m : List Int} {i : Nat} {e x : Int} (h : ∀ k : Nat, k = i → (varM x).toNat - 1 ≠ k) : ofM (m.set i e) x = ofM m x := by
  unfold ofM
  rw [List.length_set]
  have : (m.set i e).getD ((varM x).toNat - 1) 0 = m.getD ((varM x).toNat - 1) 0 := by
    simp [List.getD_eq_getElem?_getD, List.getElem?_set, Ne.symm (h i rfl)]
  rw [this]
theorem ofM_this {m : List Int} {v e : Int} (hv : 1 ≤ v) (hv2 : v ≤ 1048576) (hl : v.toNat ≤ m.length) (he : e = 1 ∨ e = -1) : ofM (m.set (v.toNat - 1) e) v = e := by
  have h1 : litOk v = true := litOk_iff.2 ⟨by omega, by omega, by omega⟩
  have h2 : varM v = v := by unfold varM; split <;> omega
  unfold ofM
  rw [List.length_set, h2, if_pos ⟨h1, by omega⟩]
  have : (m.set (v.toNat - 1) e).getD (v.toNat - 1) 0 = e := by simp [List.getD_eq_getElem?_getD, show v.toNat - 1 < m.length by omega]
  simp only [this, he, if_true]
  rw [if_neg (by omega)]
theorem valM_same {c m m' : List Int} (h : ∀ x ∈ c, ofM m' x = ofM m x) : valM c m' = valM c m := by
  unfold valM
  have e : ∀ k : Int, c.any (fun l => ofM m' l == k) = c.any (fun l => ofM m l == k) := fun k => by
    rw [Bool.eq_iff_iff, List.any_eq_true, List.any_eq_true]
    constructor
    · rintro ⟨x, hx, hk⟩; exact ⟨x, hx, by rw [← h x hx]; exact hk⟩
    · rintro ⟨x, hx, hk⟩; exact ⟨x, hx, by rw [h x hx]; exact hk⟩
  rw [e 1, e 0]

section
variable {T : List (List Int)} {m : List Int} {v : Int}
/-- What the law's assignments are: each literal has a value, v's is the one that was put. -/
structure Puts (T : List (List Int)) (m m' : List Int) (v e : Int) : Prop where
  full : FullM T m'
  this : ofM m' v = e
  other : ∀ x, x ≠ v → x ≠ -v → ofM m' x = ofM m x
theorem proj_main {m1 m2 : List Int} (hT : ∀ c ∈ T, twoM c = false) (f : FullM T m) (p1 : Puts T m m1 v 1) (p2 : Puts T m m2 v (-1)) :
    (∀ d, d ∈ restC v T ∨ (∃ a ∈ withM v T, ∃ b ∈ againM v T, d = setM (resC a b v)) → valM d m = 1) ↔ (∀ c ∈ T, valM c m1 = 1) ∨ (∀ c ∈ T, valM c m2 = 1) := by
  have hno : ∀ c ∈ T, v ∈ c → -v ∉ c := fun c hc h1 h2 => by
    have : twoM c = true := List.any_eq_true.2 ⟨v, h1, List.contains_iff_mem.2 h2⟩
    rw [hT c hc] at this; cases this
  have n1 : ofM m1 (-v) = -1 := by rw [ofM_neg, p1.this]
  have n2 : ofM m2 (-v) = 1 := by rw [ofM_neg, p2.this]; rfl
  have rest_same : ∀ c ∈ restC v T, ∀ m', (∀ x, x ≠ v → x ≠ -v → ofM m' x = ofM m x) → valM c m' = valM c m := fun c hc m' ho => by
    obtain ⟨h1, h2⟩ := List.mem_filter.1 hc
    simp only [Bool.and_eq_true, Bool.not_eq_true'] at h2
    refine valM_same fun x hx => ho x ?_ ?_
    · rintro rfl; rw [List.contains_iff_mem.2 hx] at h2; cases h2.1
    · rintro rfl; rw [List.contains_iff_mem.2 hx] at h2; cases h2.2
  constructor
  · intro h
    by_cases hA : ∀ c ∈ T, valM c m1 = 1
    · exact .inl hA
    refine .inr fun c2 hc2 => ?_
    rcases valM_fullv (p2.full c2 hc2) with k | k
    · exact k
    exfalso
    -- a clause that is false under v
    have ⟨c1, hc1, k1⟩ : ∃ c1 ∈ T, valM c1 m1 = -1 := by
      refine Classical.byContradiction fun hn => hA fun c hc => ?_
      rcases valM_fullv (p1.full c hc) with k | k
      · exact k
      · exact absurd ⟨c, hc, k⟩ hn
    rw [valM_neg] at k k1
    have v1 : v ∉ c1 := fun hv => by have := k1 v hv; rw [p1.this] at this; omega
    have v2 : -v ∉ c2 := fun hv => by have := k (-v) hv; rw [n2] at this; omega
    have w1 : -v ∈ c1 := by
      refine Classical.byContradiction fun hn => ?_
      have hr : c1 ∈ restC v T := List.mem_filter.2 ⟨hc1, by simp [v1, hn]⟩
      have h1 := h c1 (.inl hr)
      rw [← rest_same c1 hr m1 p1.other, valM_one] at h1
      obtain ⟨x, hx, hx1⟩ := h1
      have := k1 x hx; omega
    have w2 : v ∈ c2 := by
      refine Classical.byContradiction fun hn => ?_
      have hr : c2 ∈ restC v T := List.mem_filter.2 ⟨hc2, by simp [v2, hn]⟩
      have h1 := h c2 (.inl hr)
      rw [← rest_same c2 hr m2 p2.other, valM_one] at h1
      obtain ⟨x, hx, hx1⟩ := h1
      have := k x hx; omega
    have hres := h _ (.inr ⟨c2, List.mem_filter.2 ⟨hc2, by simp [w2]⟩, c1, List.mem_filter.2 ⟨hc1, by simp [v1, w1]⟩, rfl⟩)
    rw [valM_set, valM_one] at hres
    obtain ⟨x, hx, hx1⟩ := hres
    rcases List.mem_append.1 hx with hx | hx
    · obtain ⟨hx2, hx3⟩ := List.mem_filter.1 hx
      simp only [bne_iff_ne, ne_eq] at hx3
      have := k x hx2
      rw [p2.other x hx3 (fun e => v2 (e ▸ hx2))] at this; omega
    · obtain ⟨hx2, hx3⟩ := List.mem_filter.1 hx
      simp only [bne_iff_ne, ne_eq] at hx3
      have := k1 x hx2
      rw [p1.other x (fun e => v1 (e ▸ hx2)) hx3] at this; omega
  · intro h d hd
    rcases hd with hd | ⟨a, ha, b, hb, rfl⟩
    · have hdT := (List.mem_filter.1 hd).1
      rcases h with h | h
      · rw [← rest_same d hd m1 p1.other]; exact h d hdT
      · rw [← rest_same d hd m2 p2.other]; exact h d hdT
    · obtain ⟨ha1, ha2⟩ := List.mem_filter.1 ha
      obtain ⟨hb1, hb2⟩ := List.mem_filter.1 hb
      simp only [Bool.and_eq_true, Bool.not_eq_true', List.contains_iff_mem] at ha2 hb2
      have hvb : v ∉ b := fun hv => by have := hb2.1; rw [List.contains_iff_mem.2 hv] at this; cases this
      rw [valM_set, valM_one]
      rcases h with h | h
      · obtain ⟨x, hx, hx1⟩ := valM_one.1 (h b hb1)
        have hxv : x ≠ -v := fun e => by rw [e, n1] at hx1; omega
        exact ⟨x, List.mem_append_right _ (List.mem_filter.2 ⟨hx, by simpa using hxv⟩), by rw [← p1.other x (fun e => hvb (e ▸ hx)) hxv]; exact hx1⟩
      · obtain ⟨x, hx, hx1⟩ := valM_one.1 (h a ha1)
        have hxv : x ≠ v := fun e => by rw [e, p2.this] at hx1; omega
        exact ⟨x, List.mem_append_left _ (List.mem_filter.2 ⟨hx, by simpa using hxv⟩), by rw [← p2.other x hxv (fun e => hno a ha1 ha2 (e ▸ hx))]; exact hx1⟩
end
end Go.Proofs.YtnmkdhoijdoccaaDoor
