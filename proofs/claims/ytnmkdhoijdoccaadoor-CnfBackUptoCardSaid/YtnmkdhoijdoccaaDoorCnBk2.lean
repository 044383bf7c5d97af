/- The gaps: what is put between (plain). -/
import Derived.Test.YtnmkdhoijdoccaaDoorCnBk1
import Derived.Laws.BitsLemmas
set_option linter.unusedVariables false
set_option linter.unusedSimpArgs false
namespace Go.Proofs.YtnmkdhoijdoccaaDoor
open Go

theorem and3 (x : Int) : 0 ≤ bits .and .i64 x 3 ∧ bits .and .i64 x 3 ≤ 3 := by
  have h3 : (BitVec.ofInt 64 3).toNat = 2 ^ 2 - 1 := by decide
  have key : (BitVec.ofInt 64 x &&& BitVec.ofInt 64 3).toNat = (x % ((2 ^ 64 : Nat) : Int)).toNat % 2 ^ 2 := by
    rw [BitVec.toNat_and, BitVec.toNat_ofInt, h3, Nat.and_two_pow_sub_one_eq_mod]
  have e : bits .and .i64 x 3 = IntKind.i64.wrap ((BitVec.ofInt 64 x &&& BitVec.ofInt 64 3).toNat : Nat) := rfl
  rw [e, key, IntKind.wrap_i64]
  omega
def kM (gaps : List Int) (m : Nat) : Nat := if gaps = [] then 0 else (bits .and .i64 (gaps.getD (m % gaps.length) 0) 3).toNat
theorem kM_le (gaps : List Int) (m : Nat) : kM gaps m ≤ 3 := by
  unfold kM
  split
  · omega
  · have := and3 (gaps.getD (m % gaps.length) 0); omega
def sepK (k m : Nat) (b : UInt8) : List UInt8 :=
  if b = 10 ∨ (m < 4 ∧ k < 2) then (if k = 2 then [13, b] else if k = 3 then [32, 9, b] else [b]) else if m < 4 then [9, 32] else
  (if k = 1 then [10] else if k = 2 then [10, 10, 99, 32, 49, 32, 50, 32, 48, 10] else if k = 3 then [32, 13, 9, 32] else [32])
def sepT (gaps : List Int) (m : Nat) (b : UInt8) : List UInt8 := sepK (kM gaps m) m b
theorem told_nil : told [] = [] := rfl
theorem told_c : told [99, 32, 49, 32, 50, 32, 48] = [] := by
  unfold told
  rw [if_pos]
  rw [wordsB_wdsL]
  rfl
theorem sep_puts (gaps : List Int) : Puts2 (sepT gaps) := by
  refine ⟨fun n hn => ?_, fun n hn => ?_, fun n hn => ?_⟩
  · unfold sepT
    have hk := kM_le gaps n
    generalize kM gaps n = k at *
    unfold sepK
    by_cases h : k < 2
    · rw [if_pos (.inr ⟨by omega, h⟩), if_neg (by omega), if_neg (by omega)]
      exact ⟨by simp, by decide⟩
    · rw [if_neg (by rintro (e | ⟨-, e⟩); · exact absurd e (by decide)
                     · exact h e), if_pos (by omega)]
      exact ⟨by simp, by decide⟩
  · unfold sepT
    generalize kM gaps n = k at *
    unfold sepK
    rw [if_pos (.inl rfl)]
    split
    · exact ⟨[13], rfl, by decide⟩
    · split
      · exact ⟨[32, 9], rfl, by decide⟩
      · exact ⟨[], rfl, by decide⟩
  · unfold sepT
    generalize kM gaps n = k at *
    unfold sepK
    rw [if_neg (by rintro (e | ⟨e, -⟩); · exact absurd e (by decide)
                   · omega), if_neg (by omega)]
    split
    · exact .inr ⟨[], [], rfl, by decide, (fun l h => nomatch h), rfl⟩
    · split
      · refine .inr ⟨[], [[], [99, 32, 49, 32, 50, 32, 48]], rfl, by decide, by decide, ?_⟩
        rw [List.flatMap_cons, List.flatMap_cons, told_nil, told_c]; rfl
      · split
        · exact .inl ⟨by simp, by decide⟩
        · exact .inl ⟨by simp, by decide⟩
def cBeg : List UInt8 := [99, 32, 98, 101, 103, 105, 110, 10]
def gapT (gaps : List Int) (S : List UInt8) : List UInt8 := cBeg ++ trS (sepT gaps) 0 S
theorem parse_gaps {n : Int} {cls : List (List Int)} (hc : (checkM n cls).2 = 0) (gaps : List Int) : parseM (mkB (gapT gaps (printM n cls).1)) = (n, cls, 0, 0) := by
  have := parse_put hc (sep_puts gaps) [[99, 32, 98, 101, 103, 105, 110]] (by decide) (fun l hl => by
    rw [List.mem_singleton.1 hl]
    exact .inr (by rw [wordsB_wdsL]; rfl))
  unfold gapT printM
  rw [if_neg (by rw [hc]; decide)]
  exact this
theorem sepK_len (k m : Nat) (b : UInt8) : (sepK k m b).length ≤ 10 := by
  unfold sepK
  repeat' split
  all_goals simp
theorem trS_len (σ : Nat → UInt8 → List UInt8) (h : ∀ n b, (σ n b).length ≤ 10) : ∀ (l : List UInt8) (n : Nat), (trS σ n l).length ≤ 10 * l.length
  | [], n => by simp [trS]
  | b :: r, n => by
    rw [trS]
    have ih := trS_len σ h r
    split
    · have := h n b; have := ih (n + 1); simp only [List.length_append, List.length_cons]; omega
    · have := ih n; simp only [List.length_cons]; omega
theorem itoa_short {l : Int} (h1 : -1048576 ≤ l) (h2 : l ≤ 1048576) : (Lib.itoa l).length ≤ 8 := by
  unfold Lib.itoa
  split
  · rw [List.length_cons, Lib.decDigits_length]
    have := nd_le 6 l.natAbs (by omega)
    omega
  · rw [Lib.decDigits_length]
    have := nd_le 6 l.toNat (by omega)
    omega
theorem keyM_short : ∀ {c : List Int}, (∀ l ∈ c, -1048576 ≤ l ∧ l ≤ 1048576) → (keyM c).length ≤ 9 * c.length
  | [], _ => by simp [keyM]
  | l :: c, h => by
    have e : keyM (l :: c) = Lib.itoa l ++ 32 :: keyM c := by simp [keyM]
    have h1 := itoa_short (h l List.mem_cons_self).1 (h l List.mem_cons_self).2
    have h2 := keyM_short (c := c) fun x hx => h x (List.mem_cons_of_mem _ hx)
    rw [e]
    simp only [List.length_append, List.length_cons]
    omega
theorem bodyT_short : ∀ {cls : List (List Int)}, (∀ c ∈ cls, ∀ l ∈ c, -1048576 ≤ l ∧ l ≤ 1048576) → (bodyT cls).length ≤ 11 * (cls.map fun c => c.length + 1).sum
  | [], _ => by simp [bodyT]
  | c :: cls, h => by
    have e : bodyT (c :: cls) = keyM c ++ [48, 10] ++ bodyT cls := by simp [bodyT, clT]
    have h1 := keyM_short (h c List.mem_cons_self)
    have h2 := bodyT_short (cls := cls) fun x hx => h x (List.mem_cons_of_mem _ hx)
    rw [e, List.map_cons, List.sum_cons]
    simp only [List.length_append, List.length_cons, List.length_nil]
    omega
theorem print_short {n : Int} {cls : List (List Int)} (hn : I64 n) (hc : (checkM n cls).2 = 0) (hs : (cls.map fun c => c.length + 1).sum ≤ 1048576) : (printM n cls).1.length ≤ 11534400 := by
  unfold printM
  rw [if_neg (by rw [hc]; decide)]
  obtain ⟨-, -, v3, hl⟩ := checkM_ok hc
  have h1 := headT_len hn v3
  have h2 := bodyT_short (cls := cls) fun c hcc l hll => by
    obtain ⟨q1, q2, q3⟩ := litOk_iff.1 ((hl c hcc).2 l hll).1
    exact ⟨q2, q3⟩
  simp only [List.length_append]
  omega
theorem gapT_len (gaps : List Int) (S : List UInt8) : (gapT gaps S).length ≤ 8 + 10 * S.length := by
  have := trS_len (sepT gaps) (fun n b => sepK_len _ _ _) S 0
  unfold gapT
  rw [List.length_append]
  have : cBeg.length = 8 := rfl
  omega
end Go.Proofs.YtnmkdhoijdoccaaDoor
