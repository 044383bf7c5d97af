/- Plain laws of cnf: what Norm, Resolve, Subsumes, Assign, Count come to. -/
import Derived.Test.YtnmkdhoijdoccaaDoorCnP
import Derived.Test.YtnmkdhoijdoccaaDoorCnfU
set_option linter.unusedVariables false
set_option linter.unusedSimpArgs false
namespace Go.Proofs.YtnmkdhoijdoccaaDoor
open Go Go.RowKit SL

def normE (c : List Int) : Int := if 65536 < c.length then 22 else if c.any (fun l => !litOk l) = true then 20 else 0
def normS (c : List Int) : List Int := if normE c = 0 then setM c else []
def normT (c : List Int) : Bool := if normE c = 0 then twoM (setM c) else false
def resC (a b : List Int) (v : Int) : List Int := a.filter (· != v) ++ b.filter (· != -v)
def resM (a b : List Int) (v : Int) : List Int × Int :=
  if normE a ≠ 0 then ([], normE a) else if normE b ≠ 0 then ([], normE b) else if v < 1 ∨ 1048576 < v then ([], 20) else
  if (a.contains v && b.contains (-v)) = false then ([], 22) else if 65536 < (setM (resC a b v)).length then ([], 22) else (setM (resC a b v), 0)
def subM (a b : List Int) : Bool := normE a == 0 && normE b == 0 && a.all (fun x => b.contains x)
def cutM (l : Int) (cls : List (List Int)) : List (List Int) := (cls.filter (fun c => !c.contains l)).map (fun c => c.filter (· != -l))
def assignM (vars : Int) (cls : List (List Int)) (l : Int) : Int × List (List Int) × Int :=
  if (checkM vars cls).2 ≠ 0 then (0, [], (checkM vars cls).2) else if litOk l = false ∨ vars < varM l then (0, [], 20) else (vars, cutM l cls, 0)

theorem normE_vals (c : List Int) : normE c = 0 ∨ normE c = 20 ∨ normE c = 22 := by
  unfold normE
  split
  · simp
  · split <;> simp
theorem normE_ok {c : List Int} (h : normE c = 0) : c.length ≤ 65536 ∧ ∀ x ∈ c, litOk x = true := by
  unfold normE at h
  split at h
  · cases h
  split at h
  · cases h
  · rename_i h1 h2
    refine ⟨by omega, fun x hx => ?_⟩
    cases hl : litOk x with
    | true => rfl
    | false => exact absurd (List.any_eq_true.2 ⟨x, hx, by simp [hl]⟩) h2
theorem normE_of {c : List Int} (h1 : c.length ≤ 65536) (h2 : ∀ x ∈ c, litOk x = true) : normE c = 0 := by
  unfold normE
  rw [if_neg (by omega), if_neg]
  intro h
  obtain ⟨x, hx, hl⟩ := List.any_eq_true.1 h
  rw [h2 x hx] at hl; cases hl
theorem setM_congr {c c' : List Int} (h : ∀ z, z ∈ c ↔ z ∈ c') : setM c = setM c' := setM_eq (setM_srt c) fun z => by rw [setM_mem, h]
theorem setM_idem (c : List Int) : setM (setM c) = setM c := setM_congr fun z => setM_mem
theorem contains_set (c : List Int) (x : Int) : (setM c).contains x = c.contains x := by
  rw [Bool.eq_iff_iff, List.contains_iff_mem, List.contains_iff_mem, setM_mem]
theorem resC_set (a b : List Int) (v : Int) : setM (resC (setM a) (setM b) v) = setM (resC a b v) := by
  refine setM_congr fun z => ?_
  unfold resC
  simp only [List.mem_append, List.mem_filter, setM_mem]

/-! ### Counting -/
def goodM (cls : List (List Int)) (m : List Int) : Bool := cls.all fun c => valM c m == 1
def countP (cls : List (List Int)) : Nat → List Int → Nat
  | 0, pre => if cls.any (fun c => valM c pre == -1) = true then 0 else if goodM cls pre = true then 1 else 0
  | k + 1, pre => if cls.any (fun c => valM c pre == -1) = true then 0 else if goodM cls pre = true then 2 ^ (k + 1) else countP cls k (pre ++ [1]) + countP cls k (pre ++ [-1])
def exts : Nat → List (List Int)
  | 0 => [[]]
  | k + 1 => (exts k).map (1 :: ·) ++ (exts k).map (-1 :: ·)
theorem exts_succ (k : Nat) : exts (k + 1) = (exts k).map (1 :: ·) ++ (exts k).map (-1 :: ·) := rfl
theorem exts_length : ∀ k, (exts k).length = 2 ^ k
  | 0 => rfl
  | k + 1 => by simp [exts, exts_length k, Nat.pow_succ]; omega
theorem ofM_ext {m a : List Int} {l : Int} (h : ofM m l ≠ 0) : ofM (m ++ a) l = ofM m l := by
  unfold ofM at h ⊢
  by_cases h1 : litOk l = true ∧ varM l ≤ m.length
  · rw [if_pos h1]
    obtain ⟨h2, h3⟩ := h1
    have hlb := litOk_iff.1 h2
    have hv : 1 ≤ varM l := by unfold varM; split <;> omega
    rw [if_pos ⟨h2, by rw [List.length_append]; omega⟩]
    have : (m ++ a).getD ((varM l).toNat - 1) 0 = m.getD ((varM l).toNat - 1) 0 := by
      rw [List.getD_eq_getElem?_getD, List.getD_eq_getElem?_getD, List.getElem?_append_left (by omega)]
    rw [this]
  · rw [if_neg h1] at h; exact absurd rfl h
theorem valM_one {c m : List Int} : valM c m = 1 ↔ ∃ l ∈ c, ofM m l = 1 := by
  unfold valM
  constructor
  · intro h
    split at h
    · rename_i h1; simpa using h1
    · split at h <;> cases h
  · rintro ⟨l, hl, h⟩
    rw [if_pos (List.any_eq_true.2 ⟨l, hl, by simp [h]⟩)]
theorem valM_neg {c m : List Int} : valM c m = -1 ↔ ∀ l ∈ c, ofM m l = -1 := by
  unfold valM
  constructor
  · intro h
    split at h
    · cases h
    · split at h
      · cases h
      · rename_i h1 h2
        intro l hl
        rcases ofM_vals m l with h3 | h3 | h3
        · exact absurd (List.any_eq_true.2 ⟨l, hl, by simp [h3]⟩) h2
        · exact absurd (List.any_eq_true.2 ⟨l, hl, by simp [h3]⟩) h1
        · exact h3
  · intro h
    rw [if_neg, if_neg]
    · intro h1; obtain ⟨l, hl, h2⟩ := List.any_eq_true.1 h1; rw [h l hl] at h2; cases h2
    · intro h1; obtain ⟨l, hl, h2⟩ := List.any_eq_true.1 h1; rw [h l hl] at h2; cases h2
theorem valM_ext1 {c m : List Int} (a : List Int) (h : valM c m = 1) : valM c (m ++ a) = 1 := by
  rw [valM_one] at *
  obtain ⟨l, hl, h⟩ := h
  exact ⟨l, hl, by rw [ofM_ext (by rw [h]; decide), h]⟩
theorem valM_ext_neg {c m : List Int} (a : List Int) (h : valM c m = -1) : valM c (m ++ a) = -1 := by
  rw [valM_neg] at *
  intro l hl
  rw [ofM_ext (by rw [h l hl]; decide), h l hl]
theorem goodM_ext {cls : List (List Int)} {m : List Int} (a : List Int) (h : goodM cls m = true) : goodM cls (m ++ a) = true := by
  unfold goodM at *
  rw [List.all_eq_true] at *
  intro c hc
  have := h c hc
  simp only [beq_iff_eq] at *
  exact valM_ext1 a this
theorem goodM_bad {cls : List (List Int)} {m : List Int} (a : List Int) (h : cls.any (fun c => valM c m == -1) = true) : goodM cls (m ++ a) = false := by
  obtain ⟨c, hc, h1⟩ := List.any_eq_true.1 h
  simp only [beq_iff_eq] at h1
  cases hg : goodM cls (m ++ a) with
  | false => rfl
  | true =>
    unfold goodM at hg
    have := List.all_eq_true.1 hg c hc
    simp only [beq_iff_eq] at this
    rw [valM_ext_neg a h1] at this; cases this
theorem count_all {α : Type} (p : α → Bool) : ∀ (l : List α), (∀ x ∈ l, p x = true) → l.countP p = l.length
  | [], _ => rfl
  | x :: l, h => by rw [List.countP_cons_of_pos (h x List.mem_cons_self), count_all p l fun y hy => h y (List.mem_cons_of_mem _ hy)]; rfl
theorem count_none {α : Type} (p : α → Bool) : ∀ (l : List α), (∀ x ∈ l, p x = false) → l.countP p = 0
  | [], _ => rfl
  | x :: l, h => by rw [List.countP_cons_of_neg (by rw [h x List.mem_cons_self]; simp), count_none p l fun y hy => h y (List.mem_cons_of_mem _ hy)]
theorem countP_exts (cls : List (List Int)) : ∀ (k : Nat) (pre : List Int), countP cls k pre = (exts k).countP fun a => goodM cls (pre ++ a)
  | 0, pre => by
    unfold countP exts
    by_cases h : cls.any (fun c => valM c pre == -1) = true
    · rw [if_pos h, count_none _ _ fun a _ => goodM_bad a h]
    · rw [if_neg h]
      simp only [List.countP_cons, List.countP_nil, List.append_nil]
      split <;> simp_all
  | k + 1, pre => by
    unfold countP
    by_cases h : cls.any (fun c => valM c pre == -1) = true
    · rw [if_pos h, count_none _ _ fun a _ => goodM_bad a h]
    rw [if_neg h]
    by_cases g : goodM cls pre = true
    · rw [if_pos g, count_all _ _ fun a _ => goodM_ext a g, exts_length]
    · rw [if_neg g, countP_exts cls k, countP_exts cls k, exts_succ]
      rw [List.countP_append, List.countP_map, List.countP_map]
      simp [Function.comp_def]
def bitsM (n x : Nat) : List Int := (List.range n).map fun v => if x.testBit v then 1 else -1
theorem bitsM_succ (n x : Nat) : bitsM (n + 1) x = (if x % 2 = 1 then 1 else -1) :: bitsM n (x / 2) := by
  unfold bitsM
  rw [List.range_succ_eq_map, List.map_cons, List.map_map]
  congr 1
  · simp
  · refine List.map_congr_left fun v _ => ?_
    simp [Nat.testBit_succ]
theorem count_range2 (p : Nat → Bool) : ∀ m, (List.range (2 * m)).countP p = (List.range m).countP (fun y => p (2 * y)) + (List.range m).countP (fun y => p (2 * y + 1))
  | 0 => rfl
  | m + 1 => by
    rw [show 2 * (m + 1) = 2 * m + 1 + 1 by omega, List.range_succ, List.range_succ, List.range_succ, List.countP_append, List.countP_append, List.countP_append, List.countP_append, count_range2 p m]
    simp only [List.countP_singleton]
    omega
theorem count_bits : ∀ (n : Nat) (q : List Int → Bool), (List.range (2 ^ n)).countP (fun x => q (bitsM n x)) = (exts n).countP q
  | 0, q => by simp [exts, bitsM, List.range_succ]
  | n + 1, q => by
    rw [Nat.pow_succ, Nat.mul_comm, count_range2]
    have e0 : ∀ y, bitsM (n + 1) (2 * y) = -1 :: bitsM n y := fun y => by rw [bitsM_succ]; simp
    have e1 : ∀ y, bitsM (n + 1) (2 * y + 1) = 1 :: bitsM n y := fun y => by rw [bitsM_succ, if_pos (by omega)]; congr 2; omega
    simp only [e0, e1]
    rw [count_bits n (fun a => q (-1 :: a)), count_bits n (fun a => q (1 :: a))]
    rw [exts_succ, List.countP_append, List.countP_map, List.countP_map]
    simp only [Function.comp_def]
    omega
/-- The models of a formula, in both ways. -/
theorem count_models (cls : List (List Int)) (n : Nat) : countP cls n [] = (List.range (2 ^ n)).countP fun x => goodM cls (bitsM n x) := by
  rw [countP_exts, count_bits n (goodM cls)]; rfl
theorem countP_le (cls : List (List Int)) (k : Nat) (pre : List Int) : countP cls k pre ≤ 2 ^ k := by
  rw [countP_exts, ← exts_length k]; exact List.countP_le_length
end Go.Proofs.YtnmkdhoijdoccaaDoor
