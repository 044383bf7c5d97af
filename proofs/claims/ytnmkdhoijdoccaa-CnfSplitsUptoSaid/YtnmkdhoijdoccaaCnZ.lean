/- Plain laws: Assign under the literal; twice the models. -/
import Derived.Test.YtnmkdhoijdoccaaCnRc
import Derived.Test.YtnmkdhoijdoccaaCnQ
import Derived.Test.YtnmkdhoijdoccaaCnAs
set_option linter.unusedVariables false
set_option linter.unusedSimpArgs false
namespace Go.Proofs.Ytnmkdhoijdoccaa
open Go Go.RowKit SL

theorem checkFrom_zero (vars : Int) : ∀ (cls : List (List Int)) (i all : Nat), all ≤ 4194304 → ((checkFrom vars i all cls).2 = 0 ↔ (∀ c ∈ cls, c.length ≤ 65536 ∧ c.any (badL vars) = false) ∧ all + (cls.map List.length).sum ≤ 4194304)
  | [], i, all, ha => by simp [checkFrom, ha]
  | c :: cs, i, all, ha => by
    unfold checkFrom
    by_cases h1 : 65536 < c.length
    · rw [if_pos h1]
      constructor
      · intro h; cases h
      · intro h; have := (h.1 c List.mem_cons_self).1; omega
    rw [if_neg h1]
    by_cases h2 : c.any (badL vars) = true
    · rw [if_pos h2]
      constructor
      · intro h; cases h
      · intro h; have := (h.1 c List.mem_cons_self).2; rw [h2] at this; cases this
    rw [if_neg h2]
    simp only [List.map_cons, List.sum_cons]
    by_cases h3 : 4194304 < all + c.length
    · rw [if_pos h3]
      constructor
      · intro h; cases h
      · intro h; omega
    rw [if_neg h3, checkFrom_zero vars cs _ _ (by omega)]
    constructor
    · intro h
      refine ⟨fun d hd => ?_, by omega⟩
      rcases List.mem_cons.1 hd with rfl | hd
      · exact ⟨by omega, by simpa using h2⟩
      · exact h.1 d hd
    · intro h
      exact ⟨fun d hd => h.1 d (List.mem_cons_of_mem _ hd), by omega⟩
theorem checkM_zero {vars : Int} {cls : List (List Int)} : (checkM vars cls).2 = 0 ↔ (0 ≤ vars ∧ vars ≤ 1048576) ∧ cls.length ≤ 1048576 ∧ (∀ c ∈ cls, c.length ≤ 65536 ∧ c.any (badL vars) = false) ∧ (cls.map List.length).sum ≤ 4194304 := by
  unfold checkM
  by_cases h1 : vars < 0 ∨ 1048576 < vars
  · rw [if_pos h1]
    constructor
    · intro h; cases h
    · intro h; omega
  rw [if_neg h1]
  by_cases h2 : 1048576 < cls.length
  · rw [if_pos h2]
    constructor
    · intro h; cases h
    · intro h; omega
  rw [if_neg h2, checkFrom_zero vars cls 0 0 (by omega)]
  constructor
  · intro h; exact ⟨by omega, by omega, h.1, by omega⟩
  · intro h; exact ⟨h.2.2.1, by have := h.2.2.2; omega⟩
theorem cutM_mem {l : Int} {cls : List (List Int)} {d : List Int} : d ∈ cutM l cls ↔ ∃ c ∈ cls, l ∉ c ∧ d = c.filter (· != -l) := by
  unfold cutM
  simp only [List.mem_map, List.mem_filter]
  constructor
  · rintro ⟨c, ⟨h1, h2⟩, rfl⟩
    refine ⟨c, h1, ?_, rfl⟩
    intro hl
    rw [List.contains_iff_mem.2 hl] at h2; cases h2
  · rintro ⟨c, h1, h2, rfl⟩
    refine ⟨c, ⟨h1, ?_⟩, rfl⟩
    cases hc : c.contains l with
    | false => rfl
    | true => exact absurd (List.contains_iff_mem.1 hc) h2
theorem cutM_cons (l : Int) (c : List Int) (cs : List (List Int)) : cutM l (c :: cs) = (if c.contains l = true then [] else [c.filter (· != -l)]) ++ cutM l cs := by
  unfold cutM
  cases hx : c.contains l
  · rw [List.filter_cons_of_pos (by rw [hx]; rfl)]; rfl
  · rw [List.filter_cons_of_neg (by rw [hx]; decide)]; rfl
theorem cutM_sum (l : Int) : ∀ cls : List (List Int), ((cutM l cls).map List.length).sum ≤ (cls.map List.length).sum
  | [] => by simp [cutM]
  | c :: cs => by
    rw [cutM_cons, List.map_append, List.sum_append]
    have ih := cutM_sum l cs
    simp only [List.map_cons, List.sum_cons]
    split
    · simp; omega
    · have := List.length_filter_le (· != -l) c
      simp; omega
theorem check_cut {vars : Int} {cls : List (List Int)} (l : Int) (h : (checkM vars cls).2 = 0) : (checkM vars (cutM l cls)).2 = 0 := by
  rw [checkM_zero] at *
  obtain ⟨h1, h2, h3, h4⟩ := h
  have hl := cutM_len l cls
  have hs := cutM_sum l cls
  refine ⟨h1, by omega, fun d hd => ?_, by omega⟩
  obtain ⟨c, hc, -, rfl⟩ := cutM_mem.1 hd
  obtain ⟨k1, k2⟩ := h3 c hc
  have := List.length_filter_le (· != -l) c
  refine ⟨by omega, ?_⟩
  cases hb : (c.filter (· != -l)).any (badL vars) with
  | false => rfl
  | true =>
    obtain ⟨x, hx, hx2⟩ := List.any_eq_true.1 hb
    rw [List.any_eq_true.2 ⟨x, (List.mem_filter.1 hx).1, hx2⟩] at k2; cases k2

/-! ### Under -/
def undV (cls : List (List Int)) (m : List Int) : Int := if cls.any (fun c => valM c m == -1) = true then -1 else if cls.any (fun c => valM c m == 0) = true then 0 else 1
theorem underFrom_val (m : List Int) : ∀ (cls : List (List Int)) (i : Nat) (o : Int), (underFrom m i o cls).1 = if cls.any (fun c => valM c m == -1) = true then -1 else if 0 ≤ o ∨ cls.any (fun c => valM c m == 0) = true then 0 else 1
  | [], i, o => by unfold underFrom; by_cases h : 0 ≤ o <;> simp [h]
  | c :: cs, i, o => by
    unfold underFrom
    rcases valM_vals c m with h | h | h
    · rw [if_neg (by rw [h]; decide), underFrom_val m cs]
      simp only [List.any_cons, h]
      by_cases ho : o < 0
      · simp [ho]
      · simp [ho, show 0 ≤ o by omega]
    · rw [if_neg (by rw [h]; decide), underFrom_val m cs]
      simp only [List.any_cons, h]
      simp
    · rw [if_pos h]
      simp [List.any_cons, h]
theorem underM_val {vars : Int} {cls : List (List Int)} (h : (checkM vars cls).2 = 0) (m : List Int) : (underM vars cls m).1 = undV cls m := by
  unfold underM undV
  rw [if_neg (by rw [h]; simp), underFrom_val]
  simp
theorem valM_cut {c m : List Int} {l : Int} (h : ofM m l = 1) : valM (c.filter (· != -l)) m = valM c m := by
  have hn := ofM_neg m l
  have key : ∀ k : Int, k ≠ -1 → (c.filter (· != -l)).any (fun x => ofM m x == k) = c.any (fun x => ofM m x == k) := fun k hk => by
    rw [Bool.eq_iff_iff, List.any_eq_true, List.any_eq_true]
    constructor
    · rintro ⟨x, hx, h1⟩; exact ⟨x, (List.mem_filter.1 hx).1, h1⟩
    · rintro ⟨x, hx, h1⟩
      refine ⟨x, List.mem_filter.2 ⟨hx, ?_⟩, h1⟩
      simp only [bne_iff_ne, ne_eq]
      intro e
      rw [e, hn, h] at h1
      exact hk (by have := h1; simp at this; omega)
  unfold valM
  rw [key 1 (by decide), key 0 (by decide)]
theorem valM_has {c m : List Int} {l : Int} (hl : l ∈ c) (h : ofM m l = 1) : valM c m = 1 := valM_one.2 ⟨l, hl, h⟩
theorem any_cut {cls : List (List Int)} {m : List Int} {l : Int} (h : ofM m l = 1) (k : Int) (hk : k ≠ 1) : (cutM l cls).any (fun c => valM c m == k) = cls.any (fun c => valM c m == k) := by
  rw [Bool.eq_iff_iff, List.any_eq_true, List.any_eq_true]
  constructor
  · rintro ⟨d, hd, h1⟩
    obtain ⟨c, hc, -, rfl⟩ := cutM_mem.1 hd
    rw [valM_cut h] at h1
    exact ⟨c, hc, h1⟩
  · rintro ⟨c, hc, h1⟩
    refine ⟨_, cutM_mem.2 ⟨c, hc, fun hl => ?_, rfl⟩, by rw [valM_cut h]; exact h1⟩
    rw [valM_has hl h] at h1
    exact hk (by have := h1; simp at this; omega)
theorem undV_cut {cls : List (List Int)} {m : List Int} {l : Int} (h : ofM m l = 1) : undV (cutM l cls) m = undV cls m := by
  unfold undV
  rw [any_cut h (-1) (by decide), any_cut h 0 (by decide)]
theorem goodM_cut {cls : List (List Int)} {m : List Int} {l : Int} (h : ofM m l = 1) : goodM (cutM l cls) m = goodM cls m := by
  unfold goodM
  rw [Bool.eq_iff_iff, List.all_eq_true, List.all_eq_true]
  constructor
  · intro hd c hc
    by_cases hl : l ∈ c
    · rw [valM_has hl h]; rfl
    · have := hd _ (cutM_mem.2 ⟨c, hc, hl, rfl⟩)
      rwa [valM_cut h] at this
  · intro hd d hd2
    obtain ⟨c, hc, -, rfl⟩ := cutM_mem.1 hd2
    rw [valM_cut h]
    exact hd c hc

/-! ### Twice the models -/
theorem exts_mem : ∀ (n : Nat) (a : List Int), a ∈ exts n → a.length = n ∧ ∀ y ∈ a, y = 1 ∨ y = -1
  | 0, a, h => by simp [exts] at h; subst h; simp
  | n + 1, a, h => by
    rw [exts_succ, List.mem_append] at h
    rcases h with h | h <;>
    · obtain ⟨b, hb, rfl⟩ := List.mem_map.1 h
      obtain ⟨h1, h2⟩ := exts_mem n b hb
      refine ⟨by simp [h1], fun y hy => ?_⟩
      rcases List.mem_cons.1 hy with rfl | hy
      · simp
      · exact h2 y hy
theorem count_split (q1 q2 p : List Int → Bool) : ∀ (l : List (List Int)), (∀ a ∈ l, (q1 a = true ∧ q2 a = false) ∨ (q1 a = false ∧ q2 a = true)) → l.countP p = l.countP (fun a => q1 a && p a) + l.countP (fun a => q2 a && p a)
  | [], _ => rfl
  | a :: l, h => by
    have ih := count_split q1 q2 p l fun b hb => h b (List.mem_cons_of_mem _ hb)
    simp only [List.countP_cons]
    rw [ih]
    rcases h a List.mem_cons_self with ⟨h1, h2⟩ | ⟨h1, h2⟩ <;> simp only [h1, h2, Bool.true_and, Bool.false_and] <;> (cases p a <;> simp <;> omega)
theorem exts_flip : ∀ (n v : Nat) (p : List Int → Bool), v < n → (∀ a : List Int, p (a.set v 1) = p (a.set v (-1))) → (exts n).countP (fun a => a.getD v 0 == 1 && p a) = (exts n).countP (fun a => a.getD v 0 == -1 && p a)
  | 0, v, p, hv, _ => by omega
  | n + 1, 0, p, hv, hp => by
    rw [exts_succ, List.countP_append, List.countP_append, List.countP_map, List.countP_map, List.countP_map, List.countP_map]
    simp only [Function.comp_def, List.getD_cons_zero]
    have e : ∀ a, p (1 :: a) = p (-1 :: a) := fun a => by simpa using hp (1 :: a)
    simp [e]
  | n + 1, v + 1, p, hv, hp => by
    rw [exts_succ, List.countP_append, List.countP_append, List.countP_map, List.countP_map, List.countP_map, List.countP_map]
    simp only [Function.comp_def, List.getD_cons_succ]
    rw [exts_flip n v (fun a => p (1 :: a)) (by omega) (fun a => by simpa using hp (1 :: a)), exts_flip n v (fun a => p (-1 :: a)) (by omega) (fun a => by simpa using hp (-1 :: a))]
theorem ofM_at {a : List Int} {l : Int} {n : Nat} (hl : litOk l = true) (hv : varM l ≤ n) (ha : a.length = n) (hb : ∀ y ∈ a, y = 1 ∨ y = -1) : ofM a l = if l < 0 then -(a.getD ((varM l).toNat - 1) 0) else a.getD ((varM l).toNat - 1) 0 := by
  have hlb := litOk_iff.1 hl
  have h1 : 1 ≤ varM l := by unfold varM; split <;> omega
  have hi : (varM l).toNat - 1 < a.length := by omega
  have hg : a.getD ((varM l).toNat - 1) 0 = a[(varM l).toNat - 1] := by simp [List.getD_eq_getElem?_getD, hi]
  unfold ofM
  rw [if_pos ⟨hl, by rw [ha]; exact hv⟩]
  simp only
  rw [if_pos (by rw [hg]; exact hb _ (List.getElem_mem hi))]
theorem ofM_set {a : List Int} {x l : Int} (hl : litOk l = true) (h : varM x ≠ varM l) (y z : Int) : ofM (a.set ((varM l).toNat - 1) y) x = ofM (a.set ((varM l).toNat - 1) z) x := by
  have hlb := litOk_iff.1 hl
  have h1 : 1 ≤ varM l := by unfold varM; split <;> omega
  unfold ofM
  rw [List.length_set, List.length_set]
  by_cases hx : litOk x = true ∧ varM x ≤ a.length
  · have hxb := litOk_iff.1 hx.1
    have h2 : 1 ≤ varM x := by unfold varM; split <;> omega
    rw [if_pos hx, if_pos hx]
    have hne : (varM l).toNat - 1 ≠ (varM x).toNat - 1 := by omega
    rw [List.getD_eq_getElem?_getD, List.getD_eq_getElem?_getD, List.getElem?_set_ne hne, List.getElem?_set_ne hne]
  · rw [if_neg hx, if_neg hx]
theorem goodM_free {cls : List (List Int)} {l : Int} (hl : litOk l = true) (a : List Int) (y z : Int) : goodM (cutM l cls) (a.set ((varM l).toNat - 1) y) = goodM (cutM l cls) (a.set ((varM l).toNat - 1) z) := by
  unfold goodM
  have key : ∀ d ∈ cutM l cls, valM d (a.set ((varM l).toNat - 1) y) = valM d (a.set ((varM l).toNat - 1) z) := fun d hd => by
    obtain ⟨c, hc, hlc, rfl⟩ := cutM_mem.1 hd
    have k : ∀ k : Int, (c.filter (· != -l)).any (fun x => ofM (a.set ((varM l).toNat - 1) y) x == k) = (c.filter (· != -l)).any (fun x => ofM (a.set ((varM l).toNat - 1) z) x == k) := fun k => by
      rw [Bool.eq_iff_iff, List.any_eq_true, List.any_eq_true]
      have e : ∀ x ∈ c.filter (· != -l), ofM (a.set ((varM l).toNat - 1) y) x = ofM (a.set ((varM l).toNat - 1) z) x := fun x hx => by
        obtain ⟨h1, h2⟩ := List.mem_filter.1 hx
        refine ofM_set hl (fun e => ?_) y z
        rcases varM_eq e with e | e
        · exact hlc (e ▸ h1)
        · simp [e] at h2
      constructor
      · rintro ⟨x, hx, h1⟩; exact ⟨x, hx, by rw [← e x hx]; exact h1⟩
      · rintro ⟨x, hx, h1⟩; exact ⟨x, hx, by rw [e x hx]; exact h1⟩
    unfold valM
    rw [k 1, k 0]
  rw [Bool.eq_iff_iff, List.all_eq_true, List.all_eq_true]
  constructor
  · intro h d hd; rw [← key d hd]; exact h d hd
  · intro h d hd; rw [key d hd]; exact h d hd
theorem count_cut {cls : List (List Int)} {l : Int} {n : Nat} (hl : litOk l = true) (hv : varM l ≤ n) :
    (exts n).countP (goodM (cutM l cls)) = 2 * (exts n).countP (fun a => ofM a l == 1 && goodM cls a) := by
  have hlb := litOk_iff.1 hl
  have h1 : 1 ≤ varM l := by unfold varM; split <;> omega
  have hvn : (varM l).toNat - 1 < n := by omega
  have hfl := exts_flip n ((varM l).toNat - 1) (goodM (cutM l cls)) hvn (fun a => goodM_free hl a 1 (-1))
  have hsp := count_split (fun a => a.getD ((varM l).toNat - 1) 0 == 1) (fun a => a.getD ((varM l).toNat - 1) 0 == -1) (goodM (cutM l cls)) (exts n) (fun a ha => by
    obtain ⟨k1, k2⟩ := exts_mem n a ha
    have hi : (varM l).toNat - 1 < a.length := by omega
    have hg : a.getD ((varM l).toNat - 1) 0 = a[(varM l).toNat - 1] := by simp [List.getD_eq_getElem?_getD, hi]
    rw [hg]
    rcases k2 _ (List.getElem_mem hi) with e | e <;> simp [e])
  have hag : (exts n).countP (fun a => ofM a l == 1 && goodM cls a) = (exts n).countP (fun a => ofM a l == 1 && goodM (cutM l cls) a) := by
    refine List.countP_congr fun a ha => ?_
    by_cases h : ofM a l = 1
    · rw [goodM_cut h]
    · have : (ofM a l == 1) = false := by simp [h]
      simp only [this, Bool.false_and]
  rw [hag]
  by_cases hneg : l < 0
  · have : (exts n).countP (fun a => ofM a l == 1 && goodM (cutM l cls) a) = (exts n).countP (fun a => a.getD ((varM l).toNat - 1) 0 == -1 && goodM (cutM l cls) a) := by
      refine List.countP_congr fun a ha => ?_
      obtain ⟨k1, k2⟩ := exts_mem n a ha
      rw [ofM_at hl hv k1 k2, if_pos hneg]
      have e : (-(a.getD ((varM l).toNat - 1) 0) == 1) = (a.getD ((varM l).toNat - 1) 0 == -1) := by
        rw [Bool.eq_iff_iff]; simp only [beq_iff_eq]; omega
      rw [e]
    rw [this]; omega
  · have : (exts n).countP (fun a => ofM a l == 1 && goodM (cutM l cls) a) = (exts n).countP (fun a => a.getD ((varM l).toNat - 1) 0 == 1 && goodM (cutM l cls) a) := by
      refine List.countP_congr fun a ha => ?_
      obtain ⟨k1, k2⟩ := exts_mem n a ha
      rw [ofM_at hl hv k1 k2, if_neg hneg]
    rw [this]; omega
theorem litOk_neg {l : Int} (h : litOk l = true) : litOk (-l) = true := by
  have := litOk_iff.1 h; exact litOk_iff.2 ⟨by omega, by omega, by omega⟩
/-- The models with a literal and without it. -/
theorem splits_count {cls : List (List Int)} {l : Int} {n : Nat} (hl : litOk l = true) (hv : varM l ≤ n) :
    countP (cutM l cls) n [] + countP (cutM (-l) cls) n [] = 2 * countP cls n [] := by
  rw [countP_exts, countP_exts, countP_exts]
  simp only [List.nil_append]
  have e1 := count_cut (cls := cls) hl hv
  have e2 := count_cut (cls := cls) (litOk_neg hl) (by rw [varM_neg]; exact hv)
  have hsp := count_split (fun a => ofM a l == 1) (fun a => ofM a (-l) == 1) (goodM cls) (exts n) (fun a ha => by
    obtain ⟨k1, k2⟩ := exts_mem n a ha
    have hlb := litOk_iff.1 hl
    have h1 : 1 ≤ varM l := by unfold varM; split <;> omega
    have hi : (varM l).toNat - 1 < a.length := by omega
    have hg : a.getD ((varM l).toNat - 1) 0 = a[(varM l).toNat - 1] := by simp [List.getD_eq_getElem?_getD, hi]
    have ho := ofM_at hl hv k1 k2
    rw [hg] at ho
    rw [ofM_neg, ho]
    rcases k2 _ (List.getElem_mem hi) with e | e <;> rw [e] <;> split <;> simp)
  have e1' : (exts n).countP (fun a => goodM (cutM l cls) a) = (exts n).countP (goodM (cutM l cls)) := rfl
  have e2' : (exts n).countP (fun a => goodM (cutM (-l) cls) a) = (exts n).countP (goodM (cutM (-l) cls)) := rfl
  have e3' : (exts n).countP (fun a => goodM cls a) = (exts n).countP (goodM cls) := rfl
  rw [e1', e2', e3', e1, e2, hsp]
  omega
end Go.Proofs.Ytnmkdhoijdoccaa
