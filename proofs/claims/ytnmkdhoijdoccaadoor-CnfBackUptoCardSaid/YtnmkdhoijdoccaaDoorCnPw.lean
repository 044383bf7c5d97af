/- Text that is read: lines, words, numbers, the state machine (plain). -/
import Derived.Test.YtnmkdhoijdoccaaDoorCnP
import Derived.Lib.FieldsP
import Derived.Lib.CutLaws
import Derived.Lib.MapLaws
set_option linter.unusedVariables false
set_option linter.unusedSimpArgs false
namespace Go.Proofs.YtnmkdhoijdoccaaDoor
open Go

/-! ### numbers -/
def digM : List UInt8 → Nat → Option Nat
  | [], n => some n
  | b :: t, n => if 48 ≤ b.toNat ∧ b.toNat ≤ 57 then digM t (10 * n + (b.toNat - 48)) else none
def digR (neg : Bool) : Option Nat → Int × Bool
  | none => (0, false)
  | some n => (if neg = true then -(n : Int) else n, true)
def natM (w : List UInt8) (neg : Bool) : Int × Bool :=
  if w = [48] then (0, !neg) else if w.length < 1 ∨ 9 < w.length ∨ w.head? = some 48 then (0, false) else
    digR neg (digM w 0)
def numM (w : ByteArray) (signed : Bool) : Int × Bool :=
  if signed = true ∧ Lib.hasPrefix w.data.toList [45] = true then natM (Lib.trimPrefix w.data.toList [45]) true else natM w.data.toList false
theorem digM_lt : ∀ (w : List UInt8) (n m k : Nat), digM w n = some m → n < 10 ^ k → m < 10 ^ (k + w.length)
  | [], n, m, k, h, hn => by
    simp only [digM, Option.some.injEq] at h
    subst h; simpa using hn
  | b :: t, n, m, k, h, hn => by
    unfold digM at h
    split at h
    · rename_i hb
      have := digM_lt t (10 * n + (b.toNat - 48)) m (k + 1) h (by rw [Nat.pow_succ]; omega)
      rw [List.length_cons, show k + (t.length + 1) = k + 1 + t.length by omega]
      exact this
    · cases h
theorem natM_small (w : List UInt8) (neg : Bool) : -1000000000 < (natM w neg).1 ∧ (natM w neg).1 < 1000000000 := by
  unfold natM
  split; · exact ⟨by simp, by simp⟩
  split; · exact ⟨by simp, by simp⟩
  rename_i h
  cases hn : digM w 0 with
  | none => exact ⟨by simp [digR], by simp [digR]⟩
  | some n =>
    have h1 := digM_lt w 0 n 0 hn (by decide)
    have h2 : (10 : Nat) ^ (0 + w.length) ≤ 10 ^ 9 := Nat.pow_le_pow_right (by decide) (by omega)
    have h3 : (n : Int) < 1000000000 := by omega
    show -1000000000 < (if neg = true then -(n : Int) else (n : Int)) ∧ (if neg = true then -(n : Int) else (n : Int)) < 1000000000
    split <;> omega
theorem numM_small (w : ByteArray) (signed : Bool) : -1000000000 < (numM w signed).1 ∧ (numM w signed).1 < 1000000000 := by
  unfold numM; split <;> exact natM_small _ _

/-! ### lines -/
def lnsL (cur : List UInt8) : List UInt8 → List (List UInt8)
  | [] => if cur = [] then [] else [cur]
  | b :: t => if b = 10 then cur :: lnsL [] t else lnsL (cur ++ [b]) t
def mkB (l : List UInt8) : ByteArray := ⟨l.toArray⟩
def linesB (s : ByteArray) : List ByteArray := (lnsL [] s.data.toList).map mkB
theorem lnsL_cut : ∀ (l cur : List UInt8), (l ≠ [] ∨ cur ≠ []) → lnsL cur l = (cur ++ (Lib.cut l [10]).1) :: lnsL [] (Lib.cut l [10]).2.1
  | [], cur, h => by
    have hc : cur ≠ [] := h.resolve_left (by simp)
    simp [lnsL, Lib.cut, Lib.index, hc]
  | b :: t, cur, _ => by
    by_cases hb : b = 10
    · subst hb
      simp [lnsL, Lib.cut, Lib.index, List.isPrefixOf]
    · have ih := lnsL_cut t (cur ++ [b]) (.inr (by simp))
      have hp : List.isPrefixOf [(10 : UInt8)] (b :: t) = false := by simp [List.isPrefixOf, Ne.symm hb]
      have hi : Lib.index (b :: t) [10] = if Lib.index t [10] == -1 then -1 else Lib.index t [10] + 1 := by
        conv => lhs; unfold Lib.index
        rw [hp]; simp
      have hge := Lib.index_ge t [10]
      have hl : lnsL cur (b :: t) = lnsL (cur ++ [b]) t := by rw [lnsL, if_neg hb]
      rw [hl, ih]
      unfold Lib.cut
      rw [hi]
      by_cases hm : Lib.index t [10] = -1
      · rw [hm]; simp
      · have h0 : 0 ≤ Lib.index t [10] := by omega
        have e : (Lib.index t [10] == -1) = false := by simp [hm]
        rw [e]
        have h1 : (0 : Int) ≤ Lib.index t [10] + 1 := by omega
        have h2 : (Lib.index t [10] + 1).toNat = (Lib.index t [10]).toNat + 1 := by omega
        simp [h0, h1, h2]
theorem lnsL_len : ∀ (l cur : List UInt8), (lnsL cur l).length ≤ l.length + 1
  | [], cur => by unfold lnsL; split <;> simp
  | b :: t, cur => by
    unfold lnsL
    split
    · have := lnsL_len t []; simp only [List.length_cons]; omega
    · have := lnsL_len t (cur ++ [b]); simp only [List.length_cons]; omega
theorem mkB_data (s : ByteArray) : mkB s.data.toList = s := by cases s; rfl
theorem data_mkB (l : List UInt8) : (mkB l).data.toList = l := rfl
theorem lnsL_small : ∀ (l cur : List UInt8), ∀ x ∈ lnsL cur l, x.length ≤ cur.length + l.length
  | [], cur, x, hx => by
    unfold lnsL at hx
    split at hx
    · cases hx
    · rw [List.mem_singleton.1 hx]; simp
  | b :: t, cur, x, hx => by
    unfold lnsL at hx
    split at hx
    · rcases List.mem_cons.1 hx with rfl | hx
      · simp
      · have := lnsL_small t [] x hx; simp only [List.length_cons, List.length_nil] at *; omega
    · have := lnsL_small t (cur ++ [b]) x hx; simp only [List.length_append, List.length_cons, List.length_nil] at *; omega
theorem linesB_len (s : ByteArray) : (linesB s).length ≤ s.size + 1 := by
  unfold linesB
  rw [List.length_map]
  have := lnsL_len s.data.toList []
  rwa [← Lib.size_eq] at this
theorem linesB_small (s : ByteArray) : ∀ x ∈ linesB s, x.size ≤ s.size := fun x hx => by
  unfold linesB at hx
  obtain ⟨y, hy, rfl⟩ := List.mem_map.1 hx
  have := lnsL_small _ _ y hy
  rw [Lib.size_eq (mkB y), Lib.size_eq s, data_mkB]
  simpa using this
theorem cut_len (l : List UInt8) : (Lib.cut l [10]).1.length ≤ l.length ∧ (l ≠ [] → (Lib.cut l [10]).2.1.length < l.length) := by
  unfold Lib.cut
  split
  · rename_i h
    refine ⟨by simp; omega, fun hl => ?_⟩
    have := List.length_pos_iff.2 hl
    simp only [List.length_drop, List.length_singleton]
    omega
  · exact ⟨Nat.le_refl _, fun hl => by simpa using List.length_pos_iff.2 hl⟩
theorem linesB_cut (s : ByteArray) (h : s.size ≠ 0) : linesB s = mkB (Lib.cut s.data.toList [10]).1 :: linesB (mkB (Lib.cut s.data.toList [10]).2.1) := by
  have hs : s.data.toList ≠ [] := fun e => h (by
    have : s.data.toList.length = 0 := by rw [e]; rfl
    simpa using this)
  unfold linesB
  rw [lnsL_cut _ _ (.inl hs), List.map_cons, List.nil_append, data_mkB]
theorem linesB_nil (s : ByteArray) (h : s.size = 0) : linesB s = [] := by
  have hs : s.data.toList = [] := List.eq_nil_of_length_eq_zero (by simpa using h)
  unfold linesB
  rw [hs]; rfl

/-! ### words -/
def sepB (b : UInt8) : Bool := b == 32 || b == 9 || b == 13
def goW (s : ByteArray) : Nat → Nat → Nat → List (Nat × Nat)
  | 0, i, fr => if fr < i then [(fr, i)] else []
  | k + 1, i, fr => if sepB (s.get! i) = true then (if fr < i then (fr, i) :: goW s k (i + 1) (i + 1) else goW s k (i + 1) (i + 1)) else goW s k (i + 1) fr
def wordsB (s : ByteArray) : List ByteArray := (goW s s.size 0 0).map fun x => s.extract x.1 x.2
/-- The closure's answer. -/
def sepR (r : Nat) : Bool := r == 32 || r == 9 || r == 13
theorem dec_high (s : ByteArray) (i : Nat) (hi : i < s.size) (hb : 128 ≤ (s.get! i).toNat) : 128 ≤ (Utf8.decode s i).1 ∧ i + (Utf8.decode s i).2 ≤ s.size ∧ 1 ≤ (Utf8.decode s i).2 ∧ ∀ j, i ≤ j → j < i + (Utf8.decode s i).2 → 128 ≤ (s.get! j).toNat := by
  rw [Lib.decode_at]
  have hd := Lib.decodeN_shape (s.size - i) (s.get! i).toNat (s.get! (i + 1)).toNat (s.get! (i + 2)).toNat (s.get! (i + 3)).toNat
  rcases hd with ⟨h, -⟩ | ⟨-, h1, h2, h3, e⟩ | ⟨-, h1, h2, h3, h4, -, e⟩ | ⟨-, h1, h2, h3, h4, h5, -, e⟩ | e
  · omega
  · rw [e]
    refine ⟨h3, by simp only; omega, by simp, fun j j1 j2 => ?_⟩
    simp only at j2
    obtain rfl | rfl : j = i ∨ j = i + 1 := by omega
    · exact hb
    · omega
  · rw [e]
    refine ⟨by simp only; omega, by simp only; omega, by simp, fun j j1 j2 => ?_⟩
    simp only at j2
    obtain rfl | rfl | rfl : j = i ∨ j = i + 1 ∨ j = i + 2 := by omega
    · exact hb
    · omega
    · omega
  · rw [e]
    refine ⟨by simp only; omega, by simp only; omega, by simp, fun j j1 j2 => ?_⟩
    simp only at j2
    obtain rfl | rfl | rfl | rfl : j = i ∨ j = i + 1 ∨ j = i + 2 ∨ j = i + 3 := by omega
    · exact hb
    · omega
    · omega
    · omega
  · rw [e]
    refine ⟨by decide, by simp only; omega, by simp, fun j j1 j2 => ?_⟩
    simp only at j2
    obtain rfl : j = i := by omega
    exact hb
theorem sepB_high {b : UInt8} (h : 128 ≤ b.toNat) : sepB b = false := by
  have k : ∀ c : UInt8, c.toNat < 128 → (b == c) = false := fun c hc => by
    rw [beq_eq_false_iff_ne]; rintro rfl; omega
  unfold sepB
  rw [k 32 (by decide), k 9 (by decide), k 13 (by decide)]; rfl
theorem goW_skip (s : ByteArray) (fr : Nat) : ∀ (d i : Nat), i + d ≤ s.size → (∀ j, i ≤ j → j < i + d → 128 ≤ (s.get! j).toNat) → goW s (s.size - i) i fr = goW s (s.size - (i + d)) (i + d) fr
  | 0, i, _, _ => rfl
  | d + 1, i, h, hb => by
    have e : s.size - i = (s.size - (i + 1)) + 1 := by omega
    have hg : goW s (s.size - (i + 1) + 1) i fr = goW s (s.size - (i + 1)) (i + 1) fr := by
      rw [goW, if_neg (by rw [sepB_high (hb i (Nat.le_refl _) (by omega))]; decide)]
    rw [e, hg]
    rw [goW_skip s fr d (i + 1) (by omega) (fun j j1 j2 => hb j (by omega) (by omega)), show i + 1 + d = i + (d + 1) by omega]
theorem sepR_low {b : UInt8} : sepR b.toNat = sepB b := by
  unfold sepR sepB
  have k : ∀ c : UInt8, (b.toNat == c.toNat) = (b == c) := fun c => by
    rw [Bool.eq_iff_iff, beq_iff_eq, beq_iff_eq]
    exact ⟨fun h => UInt8.toNat_inj.1 h, fun h => by rw [h]⟩
  rw [← k 32, ← k 9, ← k 13]; rfl
theorem spans_goW (s : ByteArray) : ∀ (f pos : Nat) (st : Option Nat) (acc : List (Nat × Nat)), s.size ≤ pos + f → pos ≤ s.size → (∀ a, st = some a → a < pos) →
    Lib.closeSpans s (Lib.spansFromP sepR s f pos st acc) = acc ++ goW s (s.size - pos) pos (st.getD pos)
  | 0, pos, st, acc, h1, h2, h3 => by
    obtain rfl : pos = s.size := by omega
    unfold Lib.spansFromP Lib.closeSpans
    rw [Nat.sub_self]
    cases st with
    | none => simp [goW]
    | some a => simp [goW, h3 a rfl]
  | f + 1, pos, st, acc, h1, h2, h3 => by
    by_cases hp : pos < s.size
    · unfold Lib.spansFromP
      rw [if_pos hp]
      have e : s.size - pos = (s.size - (pos + 1)) + 1 := by omega
      by_cases hb : (s.get! pos).toNat < 128
      · have hd : Utf8.decode s pos = ((s.get! pos).toNat, 1) := by
          rw [Lib.decode_at]; unfold Lib.decodeN; rw [if_pos hb]
        rw [hd, sepR_low]
        cases hs : sepB (s.get! pos) with
        | true =>
          simp only [if_true]
          cases st with
          | none =>
            simp only
            rw [spans_goW s f (pos + 1) none acc (by omega) (by omega) (fun a h => by cases h), e]
            conv => rhs; unfold goW
            simp [hs]
          | some a =>
            simp only
            rw [spans_goW s f (pos + 1) none _ (by omega) (by omega) (fun a h => by cases h), e]
            conv => rhs; unfold goW
            simp [hs, h3 a rfl]
        | false =>
          simp only [Bool.false_eq_true, if_false]
          cases st with
          | none =>
            simp only
            rw [spans_goW s f (pos + 1) (some pos) acc (by omega) (by omega) (fun a h => by injection h with h; omega), e]
            conv => rhs; unfold goW
            simp [hs]
          | some a =>
            simp only
            rw [spans_goW s f (pos + 1) (some a) acc (by omega) (by omega) (fun c h => by injection h with h; have := h3 a rfl; omega), e]
            conv => rhs; unfold goW
            simp [hs]
      · obtain ⟨d1, d2, d3, d4⟩ := dec_high s pos hp (by omega)
        have hr : sepR (Utf8.decode s pos).1 = false := by
          unfold sepR
          simp only [Bool.or_eq_false_iff, beq_eq_false_iff_ne, ne_eq]
          omega
        rw [hr]
        simp only [Bool.false_eq_true, if_false]
        cases st with
        | none =>
          simp only
          rw [spans_goW s f _ (some pos) acc (by omega) d2 (fun a h => by injection h with h; omega)]
          simp only [Option.getD_some, Option.getD_none]
          rw [goW_skip s pos _ pos d2 d4]
        | some a =>
          simp only
          have ha := h3 a rfl
          rw [spans_goW s f _ (some a) acc (by omega) d2 (fun c h => by injection h with h; omega)]
          simp only [Option.getD_some]
          rw [goW_skip s a _ pos d2 d4]
    · rw [Lib.spansFromP_end _ _ _ _ _ _ hp]
      obtain rfl : pos = s.size := by omega
      unfold Lib.closeSpans
      rw [Nat.sub_self]
      cases st with
      | none => simp [goW]
      | some a => simp [goW, h3 a rfl]
theorem fields_words (s : ByteArray) : Lib.goFieldsP sepR s = wordsB s := by
  unfold Lib.goFieldsP wordsB Lib.spansOfP
  rw [spans_goW s s.size 0 none [] (by omega) (Nat.zero_le _) (fun a h => by cases h)]
  rfl
theorem goW_len (s : ByteArray) : ∀ (k i fr : Nat), (goW s k i fr).length ≤ k + 1
  | 0, i, fr => by unfold goW; split <;> simp
  | k + 1, i, fr => by
    unfold goW
    split
    · split
      · have := goW_len s k (i + 1) (i + 1); simp only [List.length_cons]; omega
      · have := goW_len s k (i + 1) (i + 1); omega
    · have := goW_len s k (i + 1) fr; omega
theorem wordsB_len (s : ByteArray) : (wordsB s).length ≤ s.size + 1 := by unfold wordsB; rw [List.length_map]; exact goW_len s s.size 0 0

/-! ### the state machine -/
structure Rst where
  vars : Int
  cls : List (List Int)
  begun : Bool
  many : Int
  lits : Int
  opn : List Int
  inner : Bool
def Rst.init : Rst := ⟨0, [], false, 0, 0, [], false⟩
/-- The head's line: error, variables, clauses. -/
def headM (w : List ByteArray) : Int × Int × Int :=
  if w.length ≠ 4 ∨ w[0]? ≠ some ⟨#[112]⟩ ∨ w[1]? ≠ some ⟨#[99, 110, 102]⟩ then (3, 0, 0) else
  if (numM (w.getD 2 ⟨#[]⟩) false).2 = false ∨ (numM (w.getD 3 ⟨#[]⟩) false).2 = false then (3, 0, 0) else
  if 1048576 < (numM (w.getD 2 ⟨#[]⟩) false).1 then (21, 0, 0) else if 1048576 < (numM (w.getD 3 ⟨#[]⟩) false).1 then (23, 0, 0) else
  (0, (numM (w.getD 2 ⟨#[]⟩) false).1, (numM (w.getD 3 ⟨#[]⟩) false).1)
def wordM (s : Rst) (w : ByteArray) : Rst × Int :=
  if (numM w true).2 = false then (s, 3) else if (s.cls.length : Int) = s.many then (s, 23) else
  if (numM w true).1 = 0 then ({ s with cls := s.cls ++ [s.opn], opn := [], inner := false }, 0) else
  if s.opn.length = 65536 then (s, 22) else if s.vars < varM (numM w true).1 then (s, 20) else if s.lits = 4194304 then (s, 23) else
  ({ s with opn := s.opn ++ [(numM w true).1], inner := true, lits := s.lits + 1 }, 0)
def wordsM : Rst → List ByteArray → Rst × Int
  | s, [] => (s, 0)
  | s, w :: ws => if (wordM s w).2 ≠ 0 then wordM s w else wordsM (wordM s w).1 ws
def headS (s : Rst) (U : Int × Int × Int) : Rst := if U.1 ≠ 0 then s else { s with begun := true, vars := U.2.1, many := U.2.2 }
theorem headS_bad {s : Rst} {U : Int × Int × Int} (h : U.1 ≠ 0) : headS s U = s := if_pos h
theorem headS_ok {s : Rst} {U : Int × Int × Int} (h : U.1 = 0) : headS s U = { s with begun := true, vars := U.2.1, many := U.2.2 } := if_neg (by rw [h]; decide)
def lineM (s : Rst) (w : List ByteArray) : Rst × Int :=
  if w = [] ∨ w[0]? = some ⟨#[99]⟩ then (s, 0) else
  if s.begun = false then (headS s (headM w), (headM w).1) else wordsM s w
theorem lineM_nil {s : Rst} {w : List ByteArray} (h : w = [] ∨ w[0]? = some ⟨#[99]⟩) : lineM s w = (s, 0) := if_pos h
def linesM : Rst → Nat → List ByteArray → Rst × Nat × Int
  | s, at', [] => (s, at', 0)
  | s, at', l :: ls => if (lineM s (wordsB l)).2 ≠ 0 then ((lineM s (wordsB l)).1, at' + 1, (lineM s (wordsB l)).2) else linesM (lineM s (wordsB l)).1 (at' + 1) ls
/-- Variables, clauses, line, error. -/
def parseM (text : ByteArray) : Int × List (List Int) × Int × Int :=
  let r := linesM Rst.init 0 (linesB text)
  if r.2.2 ≠ 0 then (0, [], (r.2.1 : Int), r.2.2) else if r.1.begun = false ∨ (r.1.cls.length : Int) < r.1.many ∨ r.1.inner = true then (0, [], (r.2.1 : Int) + 1, 3) else (r.1.vars, r.1.cls, 0, 0)
structure Rst.Ok (s : Rst) : Prop where
  len : (s.cls.length : Int) ≤ s.many
  many : s.many ≤ 1048576
  opn : s.opn.length ≤ 65536
  lits : 0 ≤ s.lits ∧ s.lits ≤ 4194304
  vars : -1000000000 < s.vars ∧ s.vars ≤ 1048576
theorem Rst.init_ok : Rst.init.Ok := ⟨by decide, by decide, by decide, by decide, by decide⟩
theorem wordM_ok {s : Rst} (h : s.Ok) (w : ByteArray) : (wordM s w).1.Ok := by
  obtain ⟨h1, h2, h3, h4, h5⟩ := h
  unfold wordM
  split; · exact ⟨h1, h2, h3, h4, h5⟩
  split; · exact ⟨h1, h2, h3, h4, h5⟩
  split
  · exact ⟨by simp only [List.length_append, List.length_singleton]; omega, h2, by simp, h4, h5⟩
  split; · exact ⟨h1, h2, h3, h4, h5⟩
  split; · exact ⟨h1, h2, h3, h4, h5⟩
  split; · exact ⟨h1, h2, h3, h4, h5⟩
  exact ⟨h1, h2, by simp only [List.length_append, List.length_singleton]; omega, by simp only; omega, h5⟩
theorem headM_ok {w : List ByteArray} (h : (headM w).1 = 0) : (-1000000000 < (headM w).2.1 ∧ (headM w).2.1 ≤ 1048576) ∧ (headM w).2.2 ≤ 1048576 ∧ 0 ≤ (headM w).2.2 := by
  have n0 : ∀ x : ByteArray, 0 ≤ (numM x false).1 := fun x => by
    unfold numM
    rw [if_neg (by rintro ⟨h, -⟩; cases h)]
    unfold natM
    split; · exact Int.le_refl _
    split; · exact Int.le_refl _
    cases digM x.data.toList 0 with
    | none => exact Int.le_refl _
    | some n => exact Int.natCast_nonneg n
  unfold headM at h ⊢
  split at h; · cases h
  split at h; · cases h
  split at h; · cases h
  split at h; · cases h
  rename_i h1 h2 h3 h4
  rw [if_neg h1, if_neg h2, if_neg h3, if_neg h4]
  have k1 := numM_small (w.getD 2 ⟨#[]⟩) false
  have k2 := n0 (w.getD 3 ⟨#[]⟩)
  exact ⟨⟨k1.1, Int.not_lt.1 h3⟩, Int.not_lt.1 h4, k2⟩
/-- Behind the head no clause is read yet. -/
structure Rst.Inv (s : Rst) : Prop where
  ok : s.Ok
  none : s.begun = false → s.cls = [] ∧ s.opn = []
theorem Rst.init_inv : Rst.init.Inv := ⟨Rst.init_ok, fun _ => ⟨rfl, rfl⟩⟩
theorem wordM_begun (s : Rst) (w : ByteArray) : (wordM s w).1.begun = s.begun := by
  unfold wordM
  split; · rfl
  split; · rfl
  split; · rfl
  split; · rfl
  split; · rfl
  split; · rfl
  rfl
theorem wordsM_inv : ∀ (ws : List ByteArray) {s : Rst}, s.Ok → s.begun = true → (wordsM s ws).1.Ok ∧ (wordsM s ws).1.begun = true
  | [], s, h, hb => ⟨h, hb⟩
  | w :: ws, s, h, hb => by
    unfold wordsM
    split
    · exact ⟨wordM_ok h w, by rw [wordM_begun]; exact hb⟩
    · exact wordsM_inv ws (wordM_ok h w) (by rw [wordM_begun]; exact hb)
theorem lineM_inv {s : Rst} (h : s.Inv) (w : List ByteArray) : (lineM s w).1.Inv := by
  unfold lineM
  split; · exact h
  split
  · rename_i hb
    by_cases e : (headM w).1 = 0
    · rw [headS_ok e]
      obtain ⟨k1, k2, k3⟩ := headM_ok e
      obtain ⟨c1, c2⟩ := h.none hb
      exact ⟨⟨by simp only [c1]; simpa using k3, k2, by simp only [c2]; decide, h.ok.lits, k1⟩, fun e => by cases e⟩
    · rw [headS_bad e]; exact h
  · rename_i hb
    obtain ⟨h1, h2⟩ := wordsM_inv w h.ok (by simpa using hb)
    exact ⟨h1, fun e => by rw [h2] at e; cases e⟩
end Go.Proofs.YtnmkdhoijdoccaaDoor
