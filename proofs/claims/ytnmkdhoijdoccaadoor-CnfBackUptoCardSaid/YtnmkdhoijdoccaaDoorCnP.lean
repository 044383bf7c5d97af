/- Plain laws of set clauses: one order, one sorted list of the same literals. -/
import Derived.Test.YtnmkdhoijdoccaaDoorCnfR
import Derived.Lib.SlicesCompact
set_option linter.unusedVariables false
set_option linter.unusedSimpArgs false
namespace Go.Proofs.YtnmkdhoijdoccaaDoor
open Go Go.RowKit SL

def aheadM (a b : Int) : Bool := if varM a = varM b then decide (b < a) else decide (varM a < varM b)
theorem varM_eq {a b : Int} (h : varM a = varM b) : a = b ∨ a = -b := by unfold varM at h; split at h <;> split at h <;> omega
theorem varM_neg (a : Int) : varM (-a) = varM a := by unfold varM; split <;> split <;> omega
theorem aheadM_iff {a b : Int} : aheadM a b = true ↔ varM a < varM b ∨ (varM a = varM b ∧ b < a) := by
  unfold aheadM
  split <;> simp <;> omega
theorem aheadM_irrefl (a : Int) : aheadM a a = false := by simp [aheadM]
theorem aheadM_trans {a b c : Int} (h : aheadM a b = true) (k : aheadM b c = true) : aheadM a c = true := by
  rw [aheadM_iff] at *; omega
theorem aheadM_asymm {a b : Int} (h : aheadM a b = true) : aheadM b a = false := by
  cases hb : aheadM b a with
  | false => rfl
  | true => rw [aheadM_iff] at *; omega
theorem aheadM_total {a b : Int} (h : a ≠ b) : aheadM a b = true ∨ aheadM b a = true := by
  rw [aheadM_iff, aheadM_iff]
  by_cases e : varM a = varM b
  · omega
  · omega
theorem aheadM_ntrans {a b c : Int} (h : aheadM a b = false) (k : aheadM b c = false) : aheadM a c = false := by
  cases hb : aheadM a c with
  | false => rfl
  | true =>
    exfalso
    by_cases e : a = b
    · subst e; rw [hb] at k; cases k
    · rcases aheadM_total e with h1 | h1
      · rw [h1] at h; cases h
      · have := aheadM_trans h1 hb; rw [this] at k; cases k

def cfM (x y : Int) : Int := if varM x = varM y then y - x else varM x - varM y
theorem cfM_lt (x y : Int) : decide (cfM x y < 0) = aheadM x y := by
  rw [Bool.eq_iff_iff, decide_eq_true_iff, aheadM_iff]
  unfold cfM
  split <;> omega
def Srt (l : List Int) : Prop := l.Pairwise fun a b => aheadM a b = true
theorem srt_unique : ∀ {l l' : List Int}, Srt l → Srt l' → (∀ x, x ∈ l ↔ x ∈ l') → l = l'
  | [], [], _, _, _ => rfl
  | [], b :: t, _, _, h => absurd ((h b).2 List.mem_cons_self) (by simp)
  | a :: t, [], _, _, h => absurd ((h a).1 List.mem_cons_self) (by simp)
  | a :: t, b :: t', h1, h2, h => by
    have h1' := List.pairwise_cons.1 h1
    have h2' := List.pairwise_cons.1 h2
    have e : a = b := by
      rcases List.mem_cons.1 ((h a).1 List.mem_cons_self) with e | m
      · exact e
      rcases List.mem_cons.1 ((h b).2 List.mem_cons_self) with e | m'
      · exact e.symm
      have := aheadM_asymm (h1'.1 b m')
      rw [h2'.1 a m] at this; cases this
    subst e
    congr 1
    refine srt_unique h1'.2 h2'.2 fun x => ⟨fun m => ?_, fun m => ?_⟩
    · rcases List.mem_cons.1 ((h x).1 (List.mem_cons_of_mem _ m)) with e | m'
      · subst e; have := h1'.1 x m; rw [aheadM_irrefl] at this; cases this
      · exact m'
    · rcases List.mem_cons.1 ((h x).2 (List.mem_cons_of_mem _ m)) with e | m'
      · subst e; have := h2'.1 x m; rw [aheadM_irrefl] at this; cases this
      · exact m'
/-- A literal put where it belongs. -/
def insM (x : Int) : List Int → List Int
  | [] => [x]
  | y :: t => if x = y then y :: t else if aheadM x y = true then x :: y :: t else y :: insM x t
theorem insM_mem (x : Int) : ∀ (l : List Int) (z : Int), z ∈ insM x l ↔ z = x ∨ z ∈ l
  | [], z => by simp [insM]
  | y :: t, z => by
    unfold insM
    split
    · rename_i e; subst e; simp
    split
    · simp
    · simp only [List.mem_cons, insM_mem x t z]
      constructor
      · rintro (h | h | h) <;> simp [h]
      · rintro (h | h | h) <;> simp [h]
theorem insM_srt (x : Int) : ∀ {l : List Int}, Srt l → Srt (insM x l)
  | [], _ => by simp [insM, Srt]
  | y :: t, h => by
    have h' := List.pairwise_cons.1 h
    unfold insM
    split
    · exact h
    split
    · rename_i hx
      refine List.pairwise_cons.2 ⟨fun z hz => ?_, h⟩
      rcases List.mem_cons.1 hz with rfl | hz
      · exact hx
      · exact aheadM_trans hx (h'.1 z hz)
    · rename_i hne hx
      refine List.pairwise_cons.2 ⟨fun z hz => ?_, insM_srt x h'.2⟩
      rcases (insM_mem x t z).1 hz with rfl | hz
      · rcases aheadM_total hne with h1 | h1
        · exact absurd h1 hx
        · exact h1
      · exact h'.1 z hz
/-- The set clause. -/
def setM (c : List Int) : List Int := c.foldl (fun l x => insM x l) []
theorem foldl_ins_mem : ∀ (c l : List Int) (z : Int), z ∈ c.foldl (fun l x => insM x l) l ↔ z ∈ c ∨ z ∈ l
  | [], l, z => by simp
  | x :: c, l, z => by
    rw [List.foldl_cons, foldl_ins_mem c _ z, insM_mem]
    simp only [List.mem_cons]
    constructor
    · rintro (h | h | h) <;> simp [h]
    · rintro ((h | h) | h) <;> simp [h]
theorem foldl_ins_srt : ∀ (c : List Int) {l : List Int}, Srt l → Srt (c.foldl (fun l x => insM x l) l)
  | [], _, h => h
  | x :: c, _, h => foldl_ins_srt c (insM_srt x h)
theorem setM_mem {c : List Int} {z : Int} : z ∈ setM c ↔ z ∈ c := by unfold setM; rw [foldl_ins_mem]; simp
theorem setM_srt (c : List Int) : Srt (setM c) := foldl_ins_srt c List.Pairwise.nil
theorem setM_eq {c s : List Int} (h : Srt s) (hm : ∀ z, z ∈ s ↔ z ∈ c) : s = setM c := srt_unique h (setM_srt c) fun z => by rw [hm, setM_mem]
theorem setM_take_succ (c : List Int) (i : Nat) (h : i < c.length) : setM (c.take (i + 1)) = insM c[i] (setM (c.take i)) := by
  unfold setM
  rw [List.take_succ_eq_append_getElem h, List.foldl_append]; rfl
theorem insM_has {x : Int} {l : List Int} (hs : Srt l) (h : x ∈ l) : insM x l = l :=
  srt_unique (insM_srt x hs) hs fun z => by
    rw [insM_mem]
    constructor
    · rintro (rfl | h1)
      · exact h
      · exact h1
    · exact .inr
theorem insM_len (x : Int) : ∀ l : List Int, (insM x l).length ≤ l.length + 1
  | [] => by simp [insM]
  | y :: t => by
    unfold insM
    split
    · simp
    split
    · simp
    · simp only [List.length_cons]; have := insM_len x t; omega
theorem foldl_ins_len : ∀ (c l : List Int), (c.foldl (fun l x => insM x l) l).length ≤ c.length + l.length
  | [], l => by simp
  | x :: c, l => by
    rw [List.foldl_cons]
    have h1 := foldl_ins_len c (insM x l)
    have h2 := insM_len x l
    simp only [List.length_cons]; omega
theorem setM_len (c : List Int) : (setM c).length ≤ c.length := by have := foldl_ins_len c []; rwa [List.length_nil, Nat.add_zero] at this
/-- Put between those ahead of it and the others. -/
theorem insM_between {x : Int} {A B : List Int} (hs : Srt (A ++ B)) (hx : x ∉ A ++ B) (hB : ∀ b ∈ B, aheadM x b = true) (hA : ∀ a, A.getLast? = some a → aheadM x a = false) : A ++ x :: B = insM x (A ++ B) := by
  refine srt_unique ?_ (insM_srt x hs) fun z => by rw [insM_mem]; simp only [List.mem_append, List.mem_cons]; constructor <;> (rintro (h | h | h) <;> simp [h])
  have hs' := List.pairwise_append.1 hs
  refine List.pairwise_append.2 ⟨hs'.1, List.pairwise_cons.2 ⟨hB, hs'.2.1⟩, fun a ha b hb => ?_⟩
  rcases List.mem_cons.1 hb with rfl | hb
  · have hne : A ≠ [] := by rintro rfl; simp at ha
    have hl := List.getLast?_eq_some_getLast hne
    have h1 := hA _ hl
    have hm := List.getLast_mem hne
    have h2 : aheadM (A.getLast hne) b = true := by
      rcases aheadM_total (a := b) (b := A.getLast hne) (fun e => hx (by rw [e]; exact List.mem_append_left _ hm)) with h | h
      · rw [h1] at h; cases h
      · exact h
    have hsp : A = A.dropLast ++ [A.getLast hne] := (List.dropLast_concat_getLast hne).symm
    rw [hsp] at ha
    rcases List.mem_append.1 ha with ha | ha
    · have h3 := hs'.1
      rw [hsp] at h3
      exact aheadM_trans ((List.pairwise_append.1 h3).2.2 a ha _ (by simp)) h2
    · simp at ha; subst ha; exact h2
  · exact hs'.2.2 a ha b hb

/-- Is a variable there both ways? -/
def twoM (s : List Int) : Bool := s.any fun x => s.contains (-x)
def adjM : List Int → Bool
  | x :: y :: t => y == -x || adjM (y :: t)
  | _ => false
theorem adj_two : ∀ {s : List Int}, Srt s → (∀ x ∈ s, x ≠ 0) → adjM s = twoM s
  | [], _, _ => rfl
  | [x], _, h0 => by
    have := h0 x (by simp)
    simp [adjM, twoM]; omega
  | x :: y :: t, hs, h0 => by
    have hs' := List.pairwise_cons.1 hs
    have ih := adj_two hs'.2 (fun z hz => h0 z (List.mem_cons_of_mem _ hz))
    have hx0 := h0 x (by simp)
    unfold adjM
    rw [ih]
    have hxy := hs'.1 y (by simp)
    by_cases e : y = -x
    · subst e
      simp [twoM]
    · have e1 : (y == -x) = false := by simp [e]
      rw [e1, Bool.false_or]
      have hnot : -x ∉ y :: t := fun hm => by
        rcases List.mem_cons.1 hm with h | h
        · exact e h.symm
        · have hyt := (List.pairwise_cons.1 hs'.2).1 _ h
          rw [aheadM_iff] at hyt hxy
          rw [varM_neg] at hyt
          rcases hxy with h1 | ⟨h1, h2⟩
          · omega
          · rcases varM_eq h1 with h3 | h3
            · omega
            · exact e (by omega)
      have hnx : x ∉ y :: t := fun hm => by have := hs'.1 x hm; rw [aheadM_irrefl] at this; cases this
      unfold twoM
      rw [Bool.eq_iff_iff, List.any_eq_true, List.any_eq_true]
      constructor
      · rintro ⟨z, hz, hc⟩
        refine ⟨z, List.mem_cons_of_mem _ hz, ?_⟩
        rw [List.contains_iff_mem] at *
        exact List.mem_cons_of_mem _ hc
      · rintro ⟨z, hz, hc⟩
        rw [List.contains_iff_mem] at hc
        rcases List.mem_cons.1 hz with rfl | hz
        · rcases List.mem_cons.1 hc with h | h
          · omega
          · exact absurd h hnot
        · refine ⟨z, hz, ?_⟩
          rw [List.contains_iff_mem]
          rcases List.mem_cons.1 hc with h | h
          · exact absurd (by rw [show -x = z by omega]; exact hz) hnot
          · exact h

/-- What compact leaves of a list in order. -/
theorem compact_upto {d : Array Int} (hs : ∀ i j, i < j → j < d.size → aheadM d[j]! d[i]! = false) : ∀ m, m ≤ d.size → Srt (Lib.compactUpTo d m) ∧ (∀ z, z ∈ Lib.compactUpTo d m ↔ ∃ j, j < m ∧ d[j]! = z)
  | 0, _ => by simp [Lib.compactUpTo, Srt]
  | m + 1, hm => by
    obtain ⟨h1, h2⟩ := compact_upto hs m (by omega)
    rw [Lib.compactUpTo_succ]
    by_cases hk : Lib.keeps d m = true
    · rw [if_pos hk]
      refine ⟨List.pairwise_append.2 ⟨h1, by simp, fun a ha b hb => ?_⟩, fun z => ?_⟩
      · simp at hb; subst hb
        obtain ⟨j, hj, rfl⟩ := (h2 a).1 ha
        have hk' : m = 0 ∨ d[m]! ≠ d[m - 1]! := by simpa [Lib.keeps] using hk
        have hne : d[m]! ≠ d[m - 1]! := hk'.resolve_left (by omega)
        have p1 := hs (m - 1) m (by omega) (by omega)
        have p2 : aheadM d[m - 1]! d[m]! = true := (aheadM_total (Ne.symm hne)).resolve_right (by rw [p1]; simp)
        by_cases e : j = m - 1
        · subst e; exact p2
        · have p3 := hs j (m - 1) (by omega) (by omega)
          by_cases e2 : d[j]! = d[m - 1]!
          · rw [e2]; exact p2
          · exact aheadM_trans ((aheadM_total e2).resolve_right (by rw [p3]; simp)) p2
      · rw [List.mem_append, h2]
        constructor
        · rintro (⟨j, hj, rfl⟩ | h)
          · exact ⟨j, by omega, rfl⟩
          · simp at h; subst h; exact ⟨m, by omega, rfl⟩
        · rintro ⟨j, hj, rfl⟩
          by_cases e : j = m
          · subst e; right; simp
          · left; exact ⟨j, by omega, rfl⟩
    · rw [if_neg hk, List.append_nil]
      refine ⟨h1, fun z => ?_⟩
      rw [h2]
      have hk' : ¬ (m = 0 ∨ d[m]! ≠ d[m - 1]!) := by simpa [Lib.keeps] using hk
      have hm0 : m ≠ 0 := fun h => hk' (.inl h)
      have heq : d[m]! = d[m - 1]! := Decidable.not_not.1 fun h => hk' (.inr h)
      constructor
      · rintro ⟨j, hj, rfl⟩; exact ⟨j, by omega, rfl⟩
      · rintro ⟨j, hj, rfl⟩
        by_cases e : j = m
        · subst e; exact ⟨j - 1, by omega, heq.symm⟩
        · exact ⟨j, by omega, rfl⟩
theorem compact_set {c s : List Int} (hp : s.Perm c) (hs : s.Pairwise fun a b => aheadM b a = false) : Lib.compact s = setM c := by
  have hh : ∀ i j, i < j → j < s.toArray.size → aheadM s.toArray[j]! s.toArray[i]! = false := fun i j hij hj => by
    have hj' : j < s.length := by simpa using hj
    have := List.pairwise_iff_getElem.1 hs i j (by omega) hj' hij
    rw [getElem!_pos _ j (by simpa using hj'), getElem!_pos _ i (by simp; omega)]
    simpa using this
  obtain ⟨h1, h2⟩ := compact_upto hh s.length (by simp)
  refine setM_eq h1 fun z => ?_
  rw [← hp.mem_iff]
  refine (h2 z).trans ?_
  constructor
  · rintro ⟨j, hj, rfl⟩
    rw [getElem!_pos _ j (by simpa using hj)]
    simp
  · intro h
    obtain ⟨j, hj, rfl⟩ := List.getElem_of_mem h
    exact ⟨j, hj, by rw [getElem!_pos _ j (by simpa using hj)]; simp⟩
end Go.Proofs.YtnmkdhoijdoccaaDoor
