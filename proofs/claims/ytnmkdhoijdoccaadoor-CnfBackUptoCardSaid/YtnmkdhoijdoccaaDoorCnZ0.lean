/- What a check says; formulas under an assignment. Plain laws. -/
import Derived.Test.YtnmkdhoijdoccaaDoorCnCt
import Derived.Lib.RabinKarpLaws
import Derived.Test.YtnmkdhoijdoccaaDoorCnQ
/- The reference's Count. -/
set_option linter.unusedVariables false
set_option linter.unusedSimpArgs false
namespace Go.Proofs.YtnmkdhoijdoccaaDoor
open Go Go.RowKit SL

theorem underFrom_one (m : List Int) : ∀ (cls : List (List Int)) (i : Nat) (o : Int), o < 0 → ((underFrom m i o cls).1 = 1 ↔ goodM cls m = true)
  | [], i, o, ho => by
    unfold underFrom
    rw [if_neg (by omega)]
    simp [goodM]
  | c :: cs, i, o, ho => by
    have hg : goodM (c :: cs) m = (valM c m == 1 && goodM cs m) := by simp [goodM]
    unfold underFrom
    rcases valM_vals c m with h | h | h
    · rw [if_neg (by rw [h]; decide), hg, h]
      have key : ∀ (cs : List (List Int)) (i : Nat) (o : Int), 0 ≤ o → (underFrom m i o cs).1 ≠ 1 := by
        intro cs
        induction cs with
        | nil => intro i o ho; unfold underFrom; rw [if_pos ho]; simp
        | cons d ds ih =>
          intro i o ho
          unfold underFrom
          split
          · simp
          · exact ih _ _ (by split <;> omega)
      constructor
      · intro h1; exact absurd h1 (key cs _ _ (by rw [if_pos ⟨rfl, ho⟩]; omega))
      · intro h1; simp at h1
    · rw [if_neg (by rw [h]; decide), hg, h, if_neg (fun h1 => absurd h1.1 (by decide))]
      have := underFrom_one m cs (i + 1) o ho
      simpa using this
    · rw [if_pos h, hg, h]
      constructor
      · intro h1; cases h1
      · intro h1; simp at h1
theorem underM_one {vars : Int} {cls : List (List Int)} (h : (checkM vars cls).2 = 0) (m : List Int) : ((underM vars cls m).1 = 1 ↔ goodM cls m = true) := by
  unfold underM
  rw [if_neg (by rw [h]; simp)]
  exact underFrom_one m cls 0 (-1) (by decide)
theorem wrap64_pow {m : Nat} (h : m ≤ 20) : wrap64 (2 ^ m) = ((2 ^ m : Nat) : Int) := by
  have h1 : (2 : Nat) ^ m ≤ 2 ^ 20 := Nat.pow_le_pow_right (by decide) h
  have h2 : (2 : Int) ^ m = ((2 ^ m : Nat) : Int) := by simp
  rw [h2]
  generalize (2 : Nat) ^ m = p at *
  unfold wrap64
  omega
theorem bit_int (x t : Nat) (h : x ≤ 1048576) : bits BinOp.and IntKind.i64 ((x : Int) / 2 ^ t) 1 = ((x / 2 ^ t % 2 : Nat) : Int) := by
  have h2 : (2 : Int) ^ t = ((2 ^ t : Nat) : Int) := by simp
  have h3 : x / 2 ^ t ≤ x := Nat.div_le_self _ _
  rw [h2, show (x : Int) / ((2 ^ t : Nat) : Int) = ((x / 2 ^ t : Nat) : Int) from (Int.natCast_ediv x (2 ^ t)).symm]
  exact and_one _ (by omega)
theorem bitsM_len (n x : Nat) : (bitsM n x).length = n := by simp [bitsM]
theorem bitsM_take (n x t : Nat) (h : t < n) : (bitsM n x).take (t + 1) = (bitsM n x).take t ++ [if x / 2 ^ t % 2 = 1 then 1 else -1] := by
  rw [List.take_succ_eq_append_getElem (by rw [bitsM_len]; exact h)]
  congr 1
  simp [bitsM, Nat.testBit_eq_decide_div_mod_eq]
theorem set_take_succ {M : List Int} {t : Nat} (y : Int) (h : t < M.length) : (M.set t y).take (t + 1) = M.take t ++ [y] := by
  rw [List.take_succ_eq_append_getElem (by rw [List.length_set]; exact h), List.take_set_of_le (Nat.le_refl _), List.getElem_set_self]

end Go.Proofs.YtnmkdhoijdoccaaDoor
set_option linter.unusedVariables false
set_option linter.unusedSimpArgs false
namespace Go.Proofs.YtnmkdhoijdoccaaDoor
open Go Go.RowKit SL

theorem checkFrom_zero (vars : Int) : ∀ (cls : List (List Int)) (i all : Nat), all ≤ 4194304 → ((checkFrom vars i all cls).2 = 0 ↔ (∀ c ∈ cls, c.length ≤ 65536 ∧ c.any (badL vars) = false) ∧ all + (cls.map List.length).sum ≤ 4194304)
  | [], i, all, ha => by simp [checkFrom, ha]
  | c :: cs, i, all, ha => by
    unfold checkFrom
    by_cases h1 : 65536 < c.length
    · rw [if_pos h1]
      constructor
      · intro h; cases h
      · intro h; have := (h.1 c List.mem_cons_self).1; omega
    rw [if_neg h1]
    by_cases h2 : c.any (badL vars) = true
    · rw [if_pos h2]
      constructor
      · intro h; cases h
      · intro h; have := (h.1 c List.mem_cons_self).2; rw [h2] at this; cases this
    rw [if_neg h2]
    simp only [List.map_cons, List.sum_cons]
    by_cases h3 : 4194304 < all + c.length
    · rw [if_pos h3]
      constructor
      · intro h; cases h
      · intro h; omega
    rw [if_neg h3, checkFrom_zero vars cs _ _ (by omega)]
    constructor
    · intro h
      refine ⟨fun d hd => ?_, by omega⟩
      rcases List.mem_cons.1 hd with rfl | hd
      · exact ⟨by omega, by simpa using h2⟩
      · exact h.1 d hd
    · intro h
      exact ⟨fun d hd => h.1 d (List.mem_cons_of_mem _ hd), by omega⟩
theorem checkM_zero {vars : Int} {cls : List (List Int)} : (checkM vars cls).2 = 0 ↔ (0 ≤ vars ∧ vars ≤ 1048576) ∧ cls.length ≤ 1048576 ∧ (∀ c ∈ cls, c.length ≤ 65536 ∧ c.any (badL vars) = false) ∧ (cls.map List.length).sum ≤ 4194304 := by
  unfold checkM
  by_cases h1 : vars < 0 ∨ 1048576 < vars
  · rw [if_pos h1]
    constructor
    · intro h; cases h
    · intro h; omega
  rw [if_neg h1]
  by_cases h2 : 1048576 < cls.length
  · rw [if_pos h2]
    constructor
    · intro h; cases h
    · intro h; omega
  rw [if_neg h2, checkFrom_zero vars cls 0 0 (by omega)]
  constructor
  · intro h; exact ⟨by omega, by omega, h.1, by omega⟩
  · intro h; exact ⟨h.2.2.1, by have := h.2.2.2; omega⟩
/-! ### Under -/
def undV (cls : List (List Int)) (m : List Int) : Int := if cls.any (fun c => valM c m == -1) = true then -1 else if cls.any (fun c => valM c m == 0) = true then 0 else 1
theorem underFrom_val (m : List Int) : ∀ (cls : List (List Int)) (i : Nat) (o : Int), (underFrom m i o cls).1 = if cls.any (fun c => valM c m == -1) = true then -1 else if 0 ≤ o ∨ cls.any (fun c => valM c m == 0) = true then 0 else 1
  | [], i, o => by unfold underFrom; by_cases h : 0 ≤ o <;> simp [h]
  | c :: cs, i, o => by
    unfold underFrom
    rcases valM_vals c m with h | h | h
    · rw [if_neg (by rw [h]; decide), underFrom_val m cs]
      simp only [List.any_cons, h]
      by_cases ho : o < 0
      · simp [ho]
      · simp [ho, show 0 ≤ o by omega]
    · rw [if_neg (by rw [h]; decide), underFrom_val m cs]
      simp only [List.any_cons, h]
      simp
    · rw [if_pos h]
      simp [List.any_cons, h]
theorem underM_val {vars : Int} {cls : List (List Int)} (h : (checkM vars cls).2 = 0) (m : List Int) : (underM vars cls m).1 = undV cls m := by
  unfold underM undV
  rw [if_neg (by rw [h]; simp), underFrom_val]
  simp
end Go.Proofs.YtnmkdhoijdoccaaDoor
