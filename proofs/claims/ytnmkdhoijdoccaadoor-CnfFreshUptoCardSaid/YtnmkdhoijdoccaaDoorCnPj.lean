/- What is left of a variable resolved away: the plain law of CnfProjects. -/
import Derived.Test.YtnmkdhoijdoccaaDoorCnRow
set_option linter.unusedVariables false
set_option linter.unusedSimpArgs false
namespace Go.Proofs.YtnmkdhoijdoccaaDoor
open Go

abbrev outM (v : Int) (cls : List (List Int)) : List (List Int) × Int := resAll v (pairsM (withM v (tidM cls)) (againM v (tidM cls))) (restC v (tidM cls))
theorem elim_ok {n v : Int} {cls : List (List Int)} (hE : (elimM n cls v).2.2 = 0) : (checkM n cls).2 = 0 ∧ 1 ≤ v ∧ v ≤ n ∧ (outM v cls).2 = 0 ∧ (checkM n (tidM (outM v cls).1)).2 = 0 ∧ elimM n cls v = (n, tidM (outM v cls).1, 0) := by
  unfold elimM at hE ⊢
  by_cases h1 : (checkM n cls).2 ≠ 0
  · rw [if_pos h1] at hE; exact absurd hE h1
  rw [if_neg h1] at hE ⊢
  by_cases h2 : v < 1 ∨ n < v
  · rw [if_pos h2] at hE; exact absurd hE (by decide)
  rw [if_neg h2] at hE ⊢
  by_cases h3 : 1048576 < (withM v (tidM cls)).length * (againM v (tidM cls)).length
  · rw [if_pos h3] at hE; exact absurd hE (by decide)
  rw [if_neg h3] at hE ⊢
  by_cases h4 : (resAll v (pairsM (withM v (tidM cls)) (againM v (tidM cls))) (restC v (tidM cls))).2 ≠ 0
  · rw [if_pos h4] at hE; exact absurd hE h4
  rw [if_neg h4] at hE ⊢
  by_cases h5 : (checkM n (tidM (resAll v (pairsM (withM v (tidM cls)) (againM v (tidM cls))) (restC v (tidM cls))).1)).2 ≠ 0
  · rw [if_pos h5] at hE; exact absurd hE h5
  rw [if_neg h5] at hE ⊢
  exact ⟨Decidable.not_not.1 h1, by omega, by omega, Decidable.not_not.1 h4, Decidable.not_not.1 h5, rfl⟩
theorem elim_bad {n v : Int} {cls : List (List Int)} (hE : (elimM n cls v).2.2 ≠ 0) : (elimM n cls v).2.1 = [] ∧ (elimM n cls v).1 = 0 := by
  unfold elimM at hE ⊢
  split; · exact ⟨rfl, rfl⟩
  split; · exact ⟨rfl, rfl⟩
  split; · exact ⟨rfl, rfl⟩
  split; · exact ⟨rfl, rfl⟩
  split; · exact ⟨rfl, rfl⟩
  rename_i h1 h2 h3 h4 h5
  rw [if_neg h1, if_neg h2, if_neg h3, if_neg h4, if_neg h5] at hE
  exact absurd rfl hE
theorem tid_two {cls : List (List Int)} : ∀ c ∈ tidM cls, twoM c = false := fun d hd => by
  obtain ⟨c, hc, rfl, ht⟩ := (tidM_mem cls d).1 hd
  exact ht
theorem out_mem {v : Int} {cls : List (List Int)} (h : (outM v cls).2 = 0) (d : List Int) : d ∈ (outM v cls).1 ↔ d ∈ restC v (tidM cls) ∨ ∃ a ∈ withM v (tidM cls), ∃ b ∈ againM v (tidM cls), d = setM (resC a b v) := by
  rw [(resAll_ok v _ _ h).1, List.mem_append, List.mem_map]
  constructor
  · rintro (h | ⟨p, hp, rfl⟩)
    · exact .inl h
    · obtain ⟨h1, h2⟩ := mem_pairs.1 hp
      exact .inr ⟨_, h1, _, h2, rfl⟩
  · rintro (h | ⟨a, ha, b, hb, rfl⟩)
    · exact .inl h
    · exact .inr ⟨(a, b), mem_pairs.2 ⟨ha, hb⟩, rfl⟩
theorem mem_resC {a b : List Int} {v x : Int} : x ∈ resC a b v ↔ (x ∈ a ∧ x ≠ v) ∨ (x ∈ b ∧ x ≠ -v) := by
  unfold resC
  rw [List.mem_append, List.mem_filter, List.mem_filter]
  simp only [bne_iff_ne, ne_eq]
theorem out_lits {v : Int} {cls : List (List Int)} (h : (outM v cls).2 = 0) {d : List Int} (hd : d ∈ (outM v cls).1) : (∀ x ∈ d, ∃ c ∈ tidM cls, x ∈ c) ∧ v ∉ d ∧ -v ∉ d := by
  rcases (out_mem h d).1 hd with h1 | ⟨a, ha, b, hb, rfl⟩
  · obtain ⟨k1, k2⟩ := List.mem_filter.1 h1
    simp only [Bool.and_eq_true, Bool.not_eq_true'] at k2
    refine ⟨fun x hx => ⟨d, k1, hx⟩, fun e => ?_, fun e => ?_⟩
    · rw [List.contains_iff_mem.2 e] at k2; cases k2.1
    · rw [List.contains_iff_mem.2 e] at k2; cases k2.2
  · obtain ⟨a1, a2⟩ := List.mem_filter.1 ha
    obtain ⟨b1, b2⟩ := List.mem_filter.1 hb
    simp only [Bool.and_eq_true, Bool.not_eq_true', List.contains_iff_mem] at a2 b2
    refine ⟨fun x hx => ?_, fun e => ?_, fun e => ?_⟩
    · rcases mem_resC.1 (setM_mem.1 hx) with ⟨h, -⟩ | ⟨h, -⟩
      · exact ⟨a, a1, h⟩
      · exact ⟨b, b1, h⟩
    · rcases mem_resC.1 (setM_mem.1 e) with ⟨-, h⟩ | ⟨h, -⟩
      · exact h rfl
      · have := b2.1; rw [List.contains_iff_mem.2 h] at this; cases this
    · rcases mem_resC.1 (setM_mem.1 e) with ⟨h, -⟩ | ⟨-, h⟩
      · have : twoM a = true := List.any_eq_true.2 ⟨v, a2, List.contains_iff_mem.2 h⟩
        rw [tid_two a a1] at this; cases this
      · exact h rfl
theorem whole1_set {n : Nat} {m : List Int} (hm : Whole1 n m) (i : Nat) {e : Int} (he : e = 1 ∨ e = -1) : Whole1 n (m.set i e) :=
  ⟨by rw [List.length_set]; exact hm.1, fun y hy => by
    rcases List.mem_or_eq_of_mem_set hy with h | h
    · exact hm.2 y h
    · rw [h]; exact he⟩
theorem puts_of {n v : Int} {cls : List (List Int)} {m : List Int} (hc : (checkM n cls).2 = 0) (h1 : 1 ≤ v) (h2 : v ≤ n) (hm : Whole1 n.toNat m) {e : Int} (he : e = 1 ∨ e = -1) : Puts (tidM cls) m (m.set (v.toNat - 1) e) v e := by
  obtain ⟨q1, q2, q3, -⟩ := checkM_ok hc
  have hl : v.toNat ≤ m.length := by rw [hm.1]; omega
  refine ⟨whole1_full (check_tid hc) (whole1_set hm _ he), ofM_this h1 (by omega) hl he, fun x x1 x2 => ?_⟩
  by_cases hx : litOk x = true
  · refine ofM_other fun k hk e => ?_
    obtain ⟨p1, p2, p3⟩ := litOk_iff.1 hx
    subst hk
    unfold varM at e
    split at e <;> omega
  · unfold ofM
    rw [if_neg (fun q => hx q.1), if_neg (fun q => hx q.1)]
theorem proj_plain {n v : Int} {cls : List (List Int)} (hE : (elimM n cls v).2.2 = 0) : (checkM n cls).2 = 0 ∧ 1 ≤ v ∧ v ≤ n ∧ (elimM n cls v).1 = n ∧ (checkM n (elimM n cls v).2.1).2 = 0 ∧ (∀ d ∈ (elimM n cls v).2.1, d.contains v = false ∧ d.contains (-v) = false) ∧
    (∀ m, Whole1 n.toNat m → (undV (elimM n cls v).2.1 m = 1 ↔ undV cls (m.set (v.toNat - 1) 1) = 1 ∨ undV cls (m.set (v.toNat - 1) (-1)) = 1)) ∧ (∀ d ∈ (elimM n cls v).2.1, ∀ x ∈ d, ∃ c ∈ cls, x ∈ c) := by
  obtain ⟨h1, h2, h3, h4, h5, h6⟩ := elim_ok hE
  rw [h6]
  refine ⟨h1, h2, h3, rfl, h5, fun d hd => ?_, fun m hm => ?_, fun d hd x hx => ?_⟩
  · obtain ⟨c, hc, rfl, -⟩ := (tidM_mem _ d).1 hd
    obtain ⟨-, k1, k2⟩ := out_lits h4 hc
    refine ⟨?_, ?_⟩
    · rw [Bool.eq_false_iff]; exact fun e => k1 (setM_mem.1 (List.contains_iff_mem.1 e))
    · rw [Bool.eq_false_iff]; exact fun e => k2 (setM_mem.1 (List.contains_iff_mem.1 e))
  · have hf : FullM (tidM cls) m := whole1_full (check_tid h1) hm
    have hfo : FullM (outM v cls).1 m := fun d hd x hx => by
      obtain ⟨c, hc, hxc⟩ := (out_lits h4 hd).1 x hx
      exact hf c hc x hxc
    have w1 : FullM cls (m.set (v.toNat - 1) 1) := whole1_full h1 (whole1_set hm _ (.inl rfl))
    have w2 : FullM cls (m.set (v.toNat - 1) (-1)) := whole1_full h1 (whole1_set hm _ (.inr rfl))
    rw [und_one, und_one, und_one, all_tid hfo, ← all_tid w1, ← all_tid w2, ← proj_main tid_two hf (puts_of h1 h2 h3 hm (.inl rfl)) (puts_of h1 h2 h3 hm (.inr rfl))]
    constructor
    · exact fun h d hd => h d ((out_mem h4 d).2 hd)
    · exact fun h d hd => h d ((out_mem h4 d).1 hd)
  · obtain ⟨c, hc, rfl, -⟩ := (tidM_mem _ d).1 hd
    obtain ⟨c2, hc2, hx2⟩ := (out_lits h4 hc).1 x (setM_mem.1 hx)
    obtain ⟨c3, hc3, rfl, -⟩ := (tidM_mem _ c2).1 hc2
    exact ⟨c3, hc3, setM_mem.1 hx2⟩
end Go.Proofs.YtnmkdhoijdoccaaDoor
