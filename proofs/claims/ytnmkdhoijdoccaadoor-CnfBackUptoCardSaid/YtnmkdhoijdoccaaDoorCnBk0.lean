/- What is printed is read again: numbers, words, lines (plain). -/
import Derived.Test.YtnmkdhoijdoccaaDoorCnPw
import Derived.Test.YtnmkdhoijdoccaaDoorCnT
import Derived.Lib.Strings
set_option linter.unusedVariables false
set_option linter.unusedSimpArgs false
namespace Go.Proofs.YtnmkdhoijdoccaaDoor
open Go

/-! ### numbers -/
theorem digM_app : ∀ (a b : List UInt8) (n : Nat), digM (a ++ b) n = (digM a n).bind (digM b)
  | [], b, n => rfl
  | x :: a, b, n => by
    rw [List.cons_append, digM, digM]
    split
    · exact digM_app a b _
    · rfl
theorem dig_byte {u : Nat} (h : u < 10) : (UInt8.ofNat (48 + u)).toNat = 48 + u := by
  rw [UInt8.toNat_ofNat']; omega
theorem digM_dec (u : Nat) : digM (Lib.decDigits u) 0 = some u := by
  induction u using Nat.strongRecOn with
  | _ u ih =>
    rw [Lib.decDigits]
    by_cases h : u < 10
    · rw [dif_pos h]
      simp only [digM, dig_byte h]
      rw [if_pos (by omega)]
      congr 1; omega
    · rw [dif_neg h, digM_app, ih (u / 10) (by omega)]
      simp only [Option.bind_some, digM, dig_byte (show u % 10 < 10 by omega)]
      rw [if_pos (by omega)]
      congr 1; omega
theorem dec_digit (u : Nat) : ∀ b ∈ Lib.decDigits u, 48 ≤ b.toNat ∧ b.toNat ≤ 57 := by
  induction u using Nat.strongRecOn with
  | _ u ih =>
    intro b hb
    rw [Lib.decDigits] at hb
    by_cases h : u < 10
    · rw [dif_pos h, List.mem_singleton] at hb
      rw [hb, dig_byte h]; omega
    · rw [dif_neg h, List.mem_append, List.mem_singleton] at hb
      rcases hb with hb | hb
      · exact ih (u / 10) (by omega) b hb
      · rw [hb, dig_byte (by omega)]; omega
theorem dec_ne (u : Nat) : Lib.decDigits u ≠ [] := by
  rw [Lib.decDigits]
  by_cases h : u < 10
  · rw [dif_pos h]; simp
  · rw [dif_neg h]; simp
theorem dec_head {u : Nat} (h0 : 0 < u) : (Lib.decDigits u).head? ≠ some 48 := by
  induction u using Nat.strongRecOn with
  | _ u ih =>
    rw [Lib.decDigits]
    by_cases h : u < 10
    · rw [dif_pos h]
      intro e
      have e2 : UInt8.ofNat (48 + u) = 48 := by simpa using e
      have := congrArg UInt8.toNat e2
      rw [dig_byte h] at this
      have k : (48 : UInt8).toNat = 48 := rfl
      omega
    · rw [dif_neg h]
      have := ih (u / 10) (by omega) (by omega)
      have hne := dec_ne (u / 10)
      cases hd : Lib.decDigits (u / 10) with
      | nil => exact absurd hd hne
      | cons x t => rw [hd] at this; simpa using this
theorem nd_le : ∀ (k u : Nat), u < 10 ^ (k + 1) → Lib.nDigits u ≤ k + 1
  | 0, u, h => by rw [Lib.nDigits_small (by simpa using h)]; exact Nat.le_refl _
  | k + 1, u, h => by
    by_cases h1 : u < 10
    · rw [Lib.nDigits_small h1]; omega
    · rw [Lib.nDigits_big h1]
      have := nd_le k (u / 10) (by rw [Nat.pow_succ] at h; omega)
      omega
theorem natM_dec {u : Nat} (h : u < 1000000000) {neg : Bool} (h0 : neg = true → 0 < u) : natM (Lib.decDigits u) neg = (if neg = true then -(u : Int) else u, true) := by
  by_cases hz : u = 0
  · subst hz
    have hn : neg = false := by cases neg with
      | false => rfl
      | true => exact absurd (h0 rfl) (by omega)
    subst hn
    rw [Lib.decDigits, dif_pos (by decide)]
    rfl
  · have hd := dec_head (show 0 < u by omega)
    unfold natM
    rw [if_neg (fun e => hd (by rw [e]; rfl)), if_neg, digM_dec]
    · rfl
    · rintro (e | e | e)
      · have := List.length_pos_iff.2 (dec_ne u); omega
      · rw [Lib.decDigits_length] at e
        have := nd_le 8 u h
        omega
      · exact hd e
theorem dec_nopre (u : Nat) : Lib.hasPrefix (Lib.decDigits u) [45] = false := by
  unfold Lib.hasPrefix
  cases hd : Lib.decDigits u with
  | nil => rfl
  | cons b t =>
    have hb := dec_digit u b (by rw [hd]; exact List.mem_cons_self)
    have : (45 : UInt8) ≠ b := fun e => by rw [← e] at hb; exact absurd hb.1 (by decide)
    simp [List.isPrefixOf, this]
theorem numM_itoa {n : Int} (h1 : -1000000000 < n) (h2 : n < 1000000000) : numM (mkB (Lib.itoa n)) true = (n, true) := by
  unfold numM
  rw [data_mkB]
  unfold Lib.itoa
  by_cases h : n < 0
  · rw [if_pos h, if_pos ⟨rfl, by simp [Lib.hasPrefix, List.isPrefixOf]⟩]
    have e : Lib.trimPrefix (45 :: Lib.decDigits n.natAbs) [45] = Lib.decDigits n.natAbs := by
      unfold Lib.trimPrefix
      rw [if_pos (by simp [Lib.hasPrefix, List.isPrefixOf])]; rfl
    rw [e, natM_dec (by omega) (fun _ => by omega), if_pos rfl]
    congr 1; omega
  · rw [if_neg h, if_neg (by rintro ⟨-, e⟩; rw [dec_nopre] at e; cases e), natM_dec (by omega) (fun e => by cases e), if_neg (by decide)]
    congr 1; omega
theorem numM_itoa0 {n : Int} (h1 : 0 ≤ n) (h2 : n < 1000000000) : numM (mkB (Lib.itoa n)) false = (n, true) := by
  unfold numM
  rw [if_neg (by rintro ⟨e, -⟩; cases e), data_mkB]
  unfold Lib.itoa
  rw [if_neg (by omega), natM_dec (by omega) (fun e => by cases e), if_neg (by decide)]
  congr 1; omega
theorem itoa_sep {n : Int} : ∀ b ∈ Lib.itoa n, sepB b = false ∧ b ≠ 10 := fun b hb => by
  have key : ∀ u : Nat, ∀ b ∈ Lib.decDigits u, sepB b = false ∧ b ≠ 10 := fun u b hb => by
    have h := dec_digit u b hb
    have k : ∀ c : UInt8, c.toNat < 48 → b ≠ c := fun c hc e => by rw [e] at h; omega
    refine ⟨?_, k 10 (by decide)⟩
    unfold sepB
    simp only [Bool.or_eq_false_iff, beq_eq_false_iff_ne, ne_eq]
    exact ⟨⟨k 32 (by decide), k 9 (by decide)⟩, k 13 (by decide)⟩
  unfold Lib.itoa at hb
  split at hb
  · rcases List.mem_cons.1 hb with rfl | hb
    · exact ⟨by decide, by decide⟩
    · exact key _ b hb
  · exact key _ b hb
theorem itoa_ne (n : Int) : Lib.itoa n ≠ [] := by
  unfold Lib.itoa
  split
  · simp
  · exact dec_ne _
theorem itoa_c (n : Int) : mkB (Lib.itoa n) ≠ ⟨#[99]⟩ := fun e => by
  have e2 : Lib.itoa n = [99] := by
    have := congrArg (fun s : ByteArray => s.data.toList) e
    simpa [mkB] using this
  have key : ∀ u : Nat, Lib.decDigits u ≠ [99] := fun u e => by
    have := dec_digit u 99 (by rw [e]; exact List.mem_cons_self)
    exact absurd this.2 (by decide)
  unfold Lib.itoa at e2
  split at e2
  · exact absurd (List.cons.inj e2).1 (by decide)
  · exact key _ e2

/-! ### words, as lists -/
def wdsL (cur : List UInt8) : List UInt8 → List (List UInt8)
  | [] => if cur = [] then [] else [cur]
  | b :: t => if sepB b = true then (if cur = [] then wdsL [] t else cur :: wdsL [] t) else wdsL (cur ++ [b]) t
theorem wdsL_word : ∀ (w cur t : List UInt8), (∀ b ∈ w, sepB b = false) → wdsL cur (w ++ t) = wdsL (cur ++ w) t
  | [], cur, t, _ => by simp
  | b :: w, cur, t, h => by
    rw [List.cons_append, wdsL, if_neg (by rw [h b List.mem_cons_self]; decide), wdsL_word w _ t (fun x hx => h x (List.mem_cons_of_mem _ hx)), List.append_assoc]; rfl
theorem wdsL_seps : ∀ (sp t : List UInt8), (∀ b ∈ sp, sepB b = true) → wdsL [] (sp ++ t) = wdsL [] t
  | [], t, _ => rfl
  | b :: sp, t, h => by
    rw [List.cons_append, wdsL, if_pos (h b List.mem_cons_self), if_pos rfl]
    exact wdsL_seps sp t (fun x hx => h x (List.mem_cons_of_mem _ hx))
theorem wdsL_one {w : List UInt8} (hw : w ≠ []) (h : ∀ b ∈ w, sepB b = false) (sp : List UInt8) (hs : ∀ b ∈ sp, sepB b = true) (hne : sp ≠ []) (t : List UInt8) : wdsL [] (w ++ (sp ++ t)) = w :: wdsL [] t := by
  rw [wdsL_word w [] _ h, List.nil_append]
  cases sp with
  | nil => exact absurd rfl hne
  | cons b sp =>
    rw [List.cons_append, wdsL, if_pos (hs b List.mem_cons_self), if_neg hw, wdsL_seps sp t (fun x hx => hs x (List.mem_cons_of_mem _ hx))]
theorem wdsL_last {w : List UInt8} (hw : w ≠ []) (h : ∀ b ∈ w, sepB b = false) : wdsL [] w = [w] := by
  have := wdsL_word w [] [] h
  rw [List.append_nil, List.nil_append] at this
  rw [this, wdsL, if_neg hw]
theorem goW_wdsL (s : ByteArray) : ∀ (k i fr : Nat), s.size = i + k → fr ≤ i →
    (goW s k i fr).map (fun x => s.extract x.1 x.2) = (wdsL ((s.data.toList.drop fr).take (i - fr)) (s.data.toList.drop i)).map mkB
  | 0, i, fr, h, hf => by
    have hd : s.data.toList.drop i = [] := List.drop_eq_nil_of_le (by rw [← Lib.size_eq]; omega)
    rw [hd, goW, wdsL]
    by_cases hlt : fr < i
    · have hne : (s.data.toList.drop fr).take (i - fr) ≠ [] := fun e => by
        have := congrArg List.length e
        rw [List.length_take, List.length_drop, ← Lib.size_eq, List.length_nil] at this
        omega
      rw [if_pos hlt, if_neg hne, List.map_singleton, List.map_singleton, Lib.extract_eq]; rfl
    · have : i - fr = 0 := by omega
      rw [if_neg hlt, this, List.take_zero, if_pos rfl]; rfl
  | k + 1, i, fr, h, hf => by
    have hi : i < s.size := by omega
    have hi2 : i < s.data.toList.length := by rw [← Lib.size_eq]; exact hi
    have hg : s.get! i = s.data.toList[i] := by
      have h2 : i < s.data.size := hi
      show s.data[i]! = _
      rw [getElem!_pos s.data i h2]; rfl
    rw [goW, hg, List.drop_eq_getElem_cons hi2, wdsL]
    cases hs : sepB s.data.toList[i] with
    | true =>
      rw [if_pos rfl, if_pos rfl]
      have ih := goW_wdsL s k (i + 1) (i + 1) (by omega) (Nat.le_refl _)
      rw [Nat.sub_self, List.take_zero] at ih
      by_cases hlt : fr < i
      · have hne : (s.data.toList.drop fr).take (i - fr) ≠ [] := fun e => by
          have := congrArg List.length e
          rw [List.length_take, List.length_drop, ← Lib.size_eq, List.length_nil] at this
          omega
        rw [if_pos hlt, if_neg hne, List.map_cons, List.map_cons, ih, Lib.extract_eq]; rfl
      · have : i - fr = 0 := by omega
        rw [if_neg hlt, this, List.take_zero, if_pos rfl, ih]
    | false =>
      rw [if_neg (by decide), if_neg (by decide), goW_wdsL s k (i + 1) fr (by omega) (by omega)]
      have e : i + 1 - fr = (i - fr) + 1 := by omega
      have hx : (s.data.toList.drop fr)[i - fr]? = some s.data.toList[i] := by
        rw [List.getElem?_drop, show fr + (i - fr) = i by omega, List.getElem?_eq_getElem hi2]
      rw [e, List.take_add_one, hx]; rfl
theorem wordsB_wdsL (s : ByteArray) : wordsB s = (wdsL [] s.data.toList).map mkB := by
  unfold wordsB
  rw [goW_wdsL s s.size 0 0 (by omega) (Nat.le_refl _)]
  simp

/-! ### lines -/
theorem lnsL_word : ∀ (w cur t : List UInt8), (10 : UInt8) ∉ w → lnsL cur (w ++ 10 :: t) = (cur ++ w) :: lnsL [] t
  | [], cur, t, _ => by rw [List.nil_append, lnsL, if_pos rfl, List.append_nil]
  | b :: w, cur, t, h => by
    have hb : b ≠ 10 := fun e => h (by rw [e]; exact List.mem_cons_self)
    rw [List.cons_append, lnsL, if_neg hb, lnsL_word w _ t (fun e => h (List.mem_cons_of_mem _ e)), List.append_assoc]; rfl
/-- A text of whole lines. -/
def textL (ls : List (List UInt8)) : List UInt8 := ls.flatMap fun l => l ++ [10]
theorem lnsL_text : ∀ (ls : List (List UInt8)), (∀ l ∈ ls, (10 : UInt8) ∉ l) → lnsL [] (textL ls) = ls
  | [], _ => rfl
  | l :: ls, h => by
    have e : textL (l :: ls) = l ++ 10 :: textL ls := by simp [textL]
    rw [e, lnsL_word l [] _ (h l List.mem_cons_self), lnsL_text ls (fun x hx => h x (List.mem_cons_of_mem _ hx))]; rfl
theorem linesB_text {ls : List (List UInt8)} (h : ∀ l ∈ ls, (10 : UInt8) ∉ l) : linesB (mkB (textL ls)) = ls.map mkB := by
  unfold linesB
  rw [data_mkB, lnsL_text ls h]

/-! ### a body: lines whose words are a stream, comments and empty lines among them -/
theorem wordsM_app : ∀ (a b : List ByteArray) (s s1 : Rst), wordsM s a = (s1, 0) → wordsM s (a ++ b) = wordsM s1 b
  | [], b, s, s1, h => by
    have : s = s1 := congrArg Prod.fst h
    rw [this]; rfl
  | x :: a, b, s, s1, h => by
    rw [wordsM] at h
    rw [List.cons_append, wordsM]
    by_cases e : (wordM s x).2 ≠ 0
    · rw [if_pos e] at h; rw [h] at e; exact absurd rfl e
    · rw [if_neg e] at h ⊢
      exact wordsM_app a b _ s1 h
theorem wordsM_split : ∀ (a b : List ByteArray) (s s2 : Rst), wordsM s (a ++ b) = (s2, 0) → ∃ s1, wordsM s a = (s1, 0) ∧ wordsM s1 b = (s2, 0)
  | [], b, s, s2, h => ⟨s, rfl, h⟩
  | x :: a, b, s, s2, h => by
    rw [List.cons_append, wordsM] at h
    by_cases e : (wordM s x).2 ≠ 0
    · rw [if_pos e] at h; rw [h] at e; exact absurd rfl e
    · rw [if_neg e] at h
      obtain ⟨s1, h1, h2⟩ := wordsM_split a b _ s2 h
      exact ⟨s1, by rw [wordsM, if_neg e]; exact h1, h2⟩
theorem wordsM_begun (ws : List ByteArray) (s : Rst) : (wordsM s ws).1.begun = s.begun := by
  induction ws generalizing s with
  | nil => rfl
  | cons w ws ih =>
    rw [wordsM]
    split
    · exact wordM_begun s w
    · rw [ih, wordM_begun]
/-- Words of a line that is no comment; a comment gives none. -/
def told (l : List UInt8) : List ByteArray := if (wordsB (mkB l))[0]? = some ⟨#[99]⟩ then [] else wordsB (mkB l)
theorem body_lines : ∀ (ls : List (List UInt8)) (s s' : Rst) (a : Nat), s.begun = true → wordsM s (ls.flatMap told) = (s', 0) → linesM s a (ls.map mkB) = (s', a + ls.length, 0)
  | [], s, s', a, _, h => by
    have : s = s' := congrArg Prod.fst h
    rw [this]; rfl
  | l :: ls, s, s', a, hb, h => by
    rw [List.flatMap_cons] at h
    obtain ⟨s1, h1, h2⟩ := wordsM_split _ _ _ _ h
    have hl : lineM s (wordsB (mkB l)) = (s1, 0) := by
      unfold lineM
      unfold told at h1
      by_cases hc : (wordsB (mkB l))[0]? = some ⟨#[99]⟩
      · rw [if_pos hc] at h1
        rw [if_pos (.inr hc)]
        exact h1
      · rw [if_neg hc] at h1
        by_cases hn : wordsB (mkB l) = []
        · rw [if_pos (.inl hn)]
          rw [hn] at h1
          exact h1
        · rw [if_neg (by rintro (e | e); · exact hn e
                         · exact hc e), if_neg (by rw [hb]; decide)]
          exact h1
    have hb1 : s1.begun = true := by
      have := lineM_begun s hb (wordsB (mkB l))
      rw [hl] at this; exact this
    rw [List.map_cons, linesM, hl, if_neg (by simp), body_lines ls s1 s' (a + 1) hb1 h2, List.length_cons]
    congr 2; omega
where
  lineM_begun (s : Rst) (hb : s.begun = true) (w : List ByteArray) : (lineM s w).1.begun = true := by
    unfold lineM
    split
    · exact hb
    · rw [if_neg (by rw [hb]; decide), wordsM_begun]; exact hb

/-! ### a clause's words -/
def wdsC (c : List Int) : List ByteArray := c.map (fun l => mkB (Lib.itoa l)) ++ [mkB [48]]
theorem wordM_lit {s : Rst} {l : Int} (h1 : (s.cls.length : Int) ≠ s.many) (h2 : l ≠ 0) (h3 : s.opn.length < 65536) (h4 : varM l ≤ s.vars) (h5 : s.lits ≠ 4194304) (hs : -1000000000 < l ∧ l < 1000000000) :
    wordM s (mkB (Lib.itoa l)) = ({ s with opn := s.opn ++ [l], inner := true, lits := s.lits + 1 }, 0) := by
  unfold wordM
  rw [numM_itoa hs.1 hs.2, if_neg (by simp), if_neg h1, if_neg h2, if_neg (by omega), if_neg (by simp only; omega), if_neg h5]
theorem wordM_end {s : Rst} (h1 : (s.cls.length : Int) ≠ s.many) : wordM s (mkB [48]) = ({ s with cls := s.cls ++ [s.opn], opn := [], inner := false }, 0) := by
  have e : numM (mkB [48]) true = (0, true) := by
    have := numM_itoa (n := 0) (by decide) (by decide)
    rw [show Lib.itoa 0 = [48] from by unfold Lib.itoa; rw [if_neg (by decide)]; show Lib.decDigits 0 = _; rw [Lib.decDigits, dif_pos (by decide)]; rfl] at this
    exact this
  unfold wordM
  rw [e, if_neg (by simp), if_neg h1, if_pos rfl]
theorem wordsM_clause : ∀ (c : List Int) (s : Rst), (s.cls.length : Int) < s.many → s.opn.length + c.length ≤ 65536 → (∀ l ∈ c, l ≠ 0 ∧ varM l ≤ s.vars ∧ -1000000000 < l ∧ l < 1000000000) → s.lits + c.length ≤ 4194304 →
    wordsM s (wdsC c) = ({ s with cls := s.cls ++ [s.opn ++ c], opn := [], inner := false, lits := s.lits + c.length }, 0)
  | [], s, h1, _, _, _ => by
    show wordsM s [mkB [48]] = _
    rw [wordsM, wordM_end (by omega), if_neg (by simp), wordsM, List.append_nil]
    simp
  | l :: c, s, h1, h2, h3, h4 => by
    obtain ⟨k1, k2, k3, k4⟩ := h3 l List.mem_cons_self
    simp only [List.length_cons] at h2 h4
    show wordsM s (mkB (Lib.itoa l) :: wdsC c) = _
    rw [wordsM, wordM_lit (by omega) k1 (by omega) k2 (by omega) ⟨k3, k4⟩, if_neg (by simp)]
    show wordsM { s with opn := s.opn ++ [l], inner := true, lits := s.lits + 1 } (wdsC c) = _
    rw [wordsM_clause c { s with opn := s.opn ++ [l], inner := true, lits := s.lits + 1 } h1 (by simp only [List.length_append, List.length_singleton]; omega) (fun x hx => h3 x (List.mem_cons_of_mem _ hx)) (by simp only; omega)]
    simp only [List.append_assoc, List.cons_append, List.nil_append, List.length_cons]
    congr 2
    omega
end Go.Proofs.YtnmkdhoijdoccaaDoor
