/- Keys and tidy formulas: plain definitions and laws. -/
import Derived.Test.YtnmkdhoijdoccaaDoorCnQ
import Derived.Lib.ItoaNum
import Derived.Lib.ItoaMem
import Derived.Lib.ItoaLen
set_option linter.unusedVariables false
set_option linter.unusedSimpArgs false
namespace Go.Proofs.YtnmkdhoijdoccaaDoor
open Go

/-! ### The texts of numbers -/
theorem dec_byte : ∀ (u : Nat), ∀ b ∈ Lib.decDigits u, 48 ≤ b.toNat ∧ b.toNat ≤ 57 := by
  intro u
  induction u using Nat.strongRecOn with
  | _ u ih =>
    intro b hb
    rw [Lib.decDigits] at hb
    have key : ∀ d : Nat, d < 10 → 48 ≤ (UInt8.ofNat (48 + d)).toNat ∧ (UInt8.ofNat (48 + d)).toNat ≤ 57 := fun d hd => by
      have : (UInt8.ofNat (48 + d)).toNat = 48 + d := by rw [UInt8.toNat_ofNat']; omega
      omega
    split at hb
    · rename_i h
      rw [List.mem_singleton.1 hb]; exact key u h
    · rename_i h
      rcases List.mem_append.1 hb with hb | hb
      · exact ih (u / 10) (by omega) b hb
      · rw [List.mem_singleton.1 hb]; exact key (u % 10) (by omega)
/-- What the digits say. -/
def undec (l : List UInt8) : Nat := l.foldl (fun n b => 10 * n + (b.toNat - 48)) 0
theorem undec_dec : ∀ (u : Nat), undec (Lib.decDigits u) = u := by
  intro u
  induction u using Nat.strongRecOn with
  | _ u ih =>
    rw [Lib.decDigits]
    have key : ∀ d : Nat, d < 10 → (UInt8.ofNat (48 + d)).toNat - 48 = d := fun d hd => by
      have : (UInt8.ofNat (48 + d)).toNat = 48 + d := by rw [UInt8.toNat_ofNat']; omega
      omega
    split
    · rename_i h
      simp only [undec, List.foldl_cons, List.foldl_nil, key u h]; omega
    · rename_i h
      have h1 := ih (u / 10) (by omega)
      unfold undec at h1 ⊢
      rw [List.foldl_append, h1]
      simp only [List.foldl_cons, List.foldl_nil, key (u % 10) (by omega)]; omega
theorem dec_inj {a b : Nat} (h : Lib.decDigits a = Lib.decDigits b) : a = b := by rw [← undec_dec a, ← undec_dec b, h]
theorem itoa_inj {a b : Int} (h : Lib.itoa a = Lib.itoa b) : a = b := by
  unfold Lib.itoa at h
  by_cases ha : a < 0 <;> by_cases hb : b < 0
  · rw [if_pos ha, if_pos hb] at h
    have := dec_inj (List.cons.inj h).2; omega
  · rw [if_pos ha, if_neg hb] at h
    have := dec_byte b.toNat 45 (by rw [← h]; exact List.mem_cons_self)
    exact absurd this.1 (by decide)
  · rw [if_neg ha, if_pos hb] at h
    have := dec_byte a.toNat 45 (by rw [h]; exact List.mem_cons_self)
    exact absurd this.1 (by decide)
  · rw [if_neg ha, if_neg hb] at h
    have := dec_inj h; omega
theorem itoa_no32 (a : Int) : (32 : UInt8) ∉ Lib.itoa a := by
  unfold Lib.itoa
  split
  · intro h
    rcases List.mem_cons.1 h with h | h
    · exact absurd h (by decide)
    · have := dec_byte _ _ h; exact absurd this.1 (by decide)
  · intro h
    have := dec_byte _ _ h; exact absurd this.1 (by decide)
/-- A set clause as a text. -/
def keyM (c : List Int) : List UInt8 := c.flatMap fun l => Lib.itoa l ++ [32]
theorem keyM_snoc (c : List Int) (l : Int) : keyM (c ++ [l]) = keyM c ++ (Lib.itoa l ++ [32]) := by simp [keyM]
theorem split32 {a b x y : List UInt8} (ha : (32 : UInt8) ∉ a) (hb : (32 : UInt8) ∉ b) (h : a ++ 32 :: x = b ++ 32 :: y) : a = b ∧ x = y := by
  induction a generalizing b with
  | nil =>
    cases b with
    | nil => exact ⟨rfl, (List.cons.inj h).2⟩
    | cons c b => exact absurd (List.mem_cons.2 (.inl (List.cons.inj h).1)) hb
  | cons c a ih =>
    cases b with
    | nil => exact absurd (List.mem_cons.2 (.inl (List.cons.inj h).1.symm)) ha
    | cons d b =>
      obtain ⟨h1, h2⟩ := List.cons.inj h
      obtain ⟨h3, h4⟩ := ih (fun m => ha (List.mem_cons_of_mem _ m)) (fun m => hb (List.mem_cons_of_mem _ m)) h2
      exact ⟨by rw [h1, h3], h4⟩
theorem keyM_inj : ∀ {c d : List Int}, keyM c = keyM d → c = d
  | [], [], _ => rfl
  | [], y :: d, h => by
    have := congrArg List.length h
    simp [keyM] at this
  | x :: c, [], h => by
    have := congrArg List.length h
    simp [keyM] at this
  | x :: c, y :: d, h => by
    have e : ∀ (z : Int) (r : List Int), keyM (z :: r) = Lib.itoa z ++ 32 :: keyM r := fun z r => by simp [keyM]
    rw [e, e] at h
    obtain ⟨h1, h2⟩ := split32 (itoa_no32 x) (itoa_no32 y) h
    rw [itoa_inj h1, keyM_inj h2]
theorem keyM_len {c : List Int} (hI : ∀ x ∈ c, I64 x) : (keyM c).length ≤ 22 * c.length := by
  induction c with
  | nil => simp [keyM]
  | cons x c ih =>
    have e : keyM (x :: c) = Lib.itoa x ++ 32 :: keyM c := by simp [keyM]
    have hx := hI x List.mem_cons_self
    have h1 := Lib.itoa_length_le x hx.1 hx.2
    have h2 := ih fun y hy => hI y (List.mem_cons_of_mem _ hy)
    rw [e, List.length_append, List.length_cons, List.length_cons]
    omega

/-! ### Tidy -/
def tidyStep (out : List (List Int)) (c : List Int) : List (List Int) := if twoM (setM c) = true ∨ setM c ∈ out then out else out ++ [setM c]
def tidM (cls : List (List Int)) : List (List Int) := cls.foldl tidyStep []
theorem tidM_take_succ (cls : List (List Int)) (j : Nat) (h : j < cls.length) : tidM (cls.take (j + 1)) = tidyStep (tidM (cls.take j)) cls[j] := by
  unfold tidM; rw [List.take_succ_eq_append_getElem h, List.foldl_append]; rfl
theorem tidM_snoc (cls : List (List Int)) (c : List Int) : tidM (cls ++ [c]) = tidyStep (tidM cls) c := by unfold tidM; rw [List.foldl_append]; rfl
theorem tidyStep_len (out : List (List Int)) (c : List Int) : (tidyStep out c).length ≤ out.length + 1 := by unfold tidyStep; split <;> simp
theorem tidM_len (cls : List (List Int)) : (tidM cls).length ≤ cls.length := by
  suffices h : ∀ (l out : List (List Int)), (l.foldl tidyStep out).length ≤ out.length + l.length by have := h cls []; simpa [tidM] using this
  intro l
  induction l with
  | nil => intro out; simp
  | cons c l ih => intro out; have h1 := ih (tidyStep out c); have h2 := tidyStep_len out c; rw [List.foldl_cons, List.length_cons]; omega
def tidyM (vars : Int) (cls : List (List Int)) : Int × List (List Int) × Int := if (checkM vars cls).2 ≠ 0 then (0, [], (checkM vars cls).2) else (vars, tidM cls, 0)
end Go.Proofs.YtnmkdhoijdoccaaDoor
