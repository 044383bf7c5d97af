/- The reference's Count. -/
import Derived.Test.YtnmkdhoijdoccaaDoorCnCt
import Derived.Lib.RabinKarpLaws
set_option linter.unusedVariables false
set_option linter.unusedSimpArgs false
namespace Go.Proofs.YtnmkdhoijdoccaaDoor
open Go Go.RowKit SL

theorem underFrom_one (m : List Int) : ∀ (cls : List (List Int)) (i : Nat) (o : Int), o < 0 → ((underFrom m i o cls).1 = 1 ↔ goodM cls m = true)
  | [], i, o, ho => by
    unfold underFrom
    rw [if_neg (by omega)]
    simp [goodM]
  | c :: cs, i, o, ho => by
    have hg : goodM (c :: cs) m = (valM c m == 1 && goodM cs m) := by simp [goodM]
    unfold underFrom
    rcases valM_vals c m with h | h | h
    · rw [if_neg (by rw [h]; decide), hg, h]
      have key : ∀ (cs : List (List Int)) (i : Nat) (o : Int), 0 ≤ o → (underFrom m i o cs).1 ≠ 1 := by
        intro cs
        induction cs with
        | nil => intro i o ho; unfold underFrom; rw [if_pos ho]; simp
        | cons d ds ih =>
          intro i o ho
          unfold underFrom
          split
          · simp
          · exact ih _ _ (by split <;> omega)
      constructor
      · intro h1; exact absurd h1 (key cs _ _ (by rw [if_pos ⟨rfl, ho⟩]; omega))
      · intro h1; simp at h1
    · rw [if_neg (by rw [h]; decide), hg, h, if_neg (fun h1 => absurd h1.1 (by decide))]
      have := underFrom_one m cs (i + 1) o ho
      simpa using this
    · rw [if_pos h, hg, h]
      constructor
      · intro h1; cases h1
      · intro h1; simp at h1
theorem underM_one {vars : Int} {cls : List (List Int)} (h : (checkM vars cls).2 = 0) (m : List Int) : ((underM vars cls m).1 = 1 ↔ goodM cls m = true) := by
  unfold underM
  rw [if_neg (by rw [h]; simp)]
  exact underFrom_one m cls 0 (-1) (by decide)
theorem wrap64_pow {m : Nat} (h : m ≤ 20) : wrap64 (2 ^ m) = ((2 ^ m : Nat) : Int) := by
  have h1 : (2 : Nat) ^ m ≤ 2 ^ 20 := Nat.pow_le_pow_right (by decide) h
  have h2 : (2 : Int) ^ m = ((2 ^ m : Nat) : Int) := by simp
  rw [h2]
  generalize (2 : Nat) ^ m = p at *
  unfold wrap64
  omega
theorem bit_int (x t : Nat) (h : x ≤ 1048576) : bits BinOp.and IntKind.i64 ((x : Int) / 2 ^ t) 1 = ((x / 2 ^ t % 2 : Nat) : Int) := by
  have h2 : (2 : Int) ^ t = ((2 ^ t : Nat) : Int) := by simp
  have h3 : x / 2 ^ t ≤ x := Nat.div_le_self _ _
  rw [h2, show (x : Int) / ((2 ^ t : Nat) : Int) = ((x / 2 ^ t : Nat) : Int) from (Int.natCast_ediv x (2 ^ t)).symm]
  exact and_one _ (by omega)
theorem bitsM_len (n x : Nat) : (bitsM n x).length = n := by simp [bitsM]
theorem bitsM_take (n x t : Nat) (h : t < n) : (bitsM n x).take (t + 1) = (bitsM n x).take t ++ [if x / 2 ^ t % 2 = 1 then 1 else -1] := by
  rw [List.take_succ_eq_append_getElem (by rw [bitsM_len]; exact h)]
  congr 1
  simp [bitsM, Nat.testBit_eq_decide_div_mod_eq]
theorem set_take_succ {M : List Int} {t : Nat} (y : Int) (h : t < M.length) : (M.set t y).take (t + 1) = M.take t ++ [y] := by
  rw [List.take_succ_eq_append_getElem (by rw [List.length_set]; exact h), List.take_set_of_le (Nat.le_refl _), List.getElem_set_self]

end Go.Proofs.YtnmkdhoijdoccaaDoor
