/- A printed formula, other blanks, lines, comments between, is read as it was (plain). -/
import Derived.Test.YtnmkdhoijdoccaaDoorCnBk0
import Derived.Test.YtnmkdhoijdoccaaDoorCnPm
import Derived.Test.YtnmkdhoijdoccaaDoorCnZ0
set_option linter.unusedVariables false
set_option linter.unusedSimpArgs false
namespace Go.Proofs.YtnmkdhoijdoccaaDoor
open Go

def litSum (cls : List (List Int)) : Nat := (cls.map List.length).sum
theorem wordsM_body : ∀ (cls : List (List Int)) (s : Rst), (s.cls.length : Int) + cls.length ≤ s.many → s.opn = [] → s.inner = false → (∀ c ∈ cls, c.length ≤ 65536 ∧ ∀ l ∈ c, l ≠ 0 ∧ varM l ≤ s.vars ∧ -1000000000 < l ∧ l < 1000000000) → s.lits + litSum cls ≤ 4194304 →
    wordsM s (cls.flatMap wdsC) = ({ s with cls := s.cls ++ cls, lits := s.lits + litSum cls }, 0)
  | [], s, _, _, _, _, _ => by simp [wordsM, litSum]
  | c :: cls, s, h1, h2, h3, h4, h5 => by
    simp only [List.length_cons] at h1
    have hs : litSum (c :: cls) = c.length + litSum cls := by simp [litSum]
    rw [hs] at h5 ⊢
    obtain ⟨k1, k2⟩ := h4 c List.mem_cons_self
    have e := wordsM_clause c s (by omega) (by rw [h2]; simpa using k1) k2 (by omega)
    rw [List.flatMap_cons, wordsM_app _ _ _ _ e]
    rw [wordsM_body cls { s with cls := s.cls ++ [s.opn ++ c], opn := [], inner := false, lits := s.lits + c.length } (by simp only [List.length_append, List.length_singleton]; omega) rfl rfl (fun d hd => h4 d (List.mem_cons_of_mem _ hd)) (by simp only; omega)]
    rw [h2]
    simp only [List.nil_append, List.append_assoc, List.singleton_append, h3]
    congr 2
    omega
theorem lits_ok {n : Int} {cls : List (List Int)} (hc : (checkM n cls).2 = 0) : ∀ c ∈ cls, c.length ≤ 65536 ∧ ∀ l ∈ c, l ≠ 0 ∧ varM l ≤ n ∧ -1000000000 < l ∧ l < 1000000000 := fun c hcc => by
  obtain ⟨-, -, -, h⟩ := checkM_ok hc
  obtain ⟨h1, h2⟩ := h c hcc
  refine ⟨h1, fun l hl => ?_⟩
  obtain ⟨k1, k2⟩ := h2 l hl
  obtain ⟨q1, q2, q3⟩ := litOk_iff.1 k1
  exact ⟨q1, k2, by omega, by omega⟩
/-- Lines ahead of the head, the head, the body. -/
theorem parse_lines {n : Int} {cls : List (List Int)} (hc : (checkM n cls).2 = 0) (pre : List (List UInt8)) (hd : List UInt8) (ls : List (List UInt8)) (hn : ∀ l ∈ pre ++ hd :: ls, (10 : UInt8) ∉ l) (hp : ∀ l ∈ pre, wordsB (mkB l) = [] ∨ (wordsB (mkB l))[0]? = some ⟨#[99]⟩)
    (hh : wordsB (mkB hd) = [⟨#[112]⟩, ⟨#[99, 110, 102]⟩, mkB (Lib.itoa n), mkB (Lib.itoa cls.length)]) (hb : ls.flatMap told = cls.flatMap wdsC) : parseM (mkB (textL (pre ++ hd :: ls))) = (n, cls, 0, 0) := by
  obtain ⟨v1, v2, v3, -⟩ := checkM_ok hc
  have hsum := (checkM_zero.1 hc).2.2.2
  have hpre : ∀ (ls2 : List (List UInt8)) (a : Nat) (rest : List ByteArray), (∀ l ∈ ls2, wordsB (mkB l) = [] ∨ (wordsB (mkB l))[0]? = some ⟨#[99]⟩) → linesM Rst.init a (ls2.map mkB ++ rest) = linesM Rst.init (a + ls2.length) rest := by
    intro ls2
    induction ls2 with
    | nil => intro a rest _; rfl
    | cons l ls2 ih =>
      intro a rest h
      rw [List.map_cons, List.cons_append, linesM]
      have e : lineM Rst.init (wordsB (mkB l)) = (Rst.init, 0) := if_pos (h l List.mem_cons_self)
      rw [e, if_neg (by simp), ih (a + 1) rest (fun x hx => h x (List.mem_cons_of_mem _ hx)), List.length_cons]
      congr 1; omega
  have hH : headM (wordsB (mkB hd)) = (0, n, (cls.length : Int)) := by
    rw [hh]
    have e1 := numM_itoa0 (n := n) (by omega) (by omega)
    have e2 := numM_itoa0 (n := (cls.length : Int)) (by omega) (by omega)
    unfold headM
    rw [if_neg (by rintro (h | h | h); · exact h rfl
                   · exact h rfl
                   · exact h rfl)]
    show (if (numM (mkB (Lib.itoa n)) false).2 = false ∨ (numM (mkB (Lib.itoa cls.length)) false).2 = false then ((3 : Int), (0 : Int), (0 : Int)) else if 1048576 < (numM (mkB (Lib.itoa n)) false).1 then (21, 0, 0) else
      if 1048576 < (numM (mkB (Lib.itoa cls.length)) false).1 then (23, 0, 0) else (0, (numM (mkB (Lib.itoa n)) false).1, (numM (mkB (Lib.itoa cls.length)) false).1)) = _
    rw [e1, e2, if_neg (by simp), if_neg (by simp only; omega), if_neg (by simp only; omega)]
  have hl : lineM Rst.init (wordsB (mkB hd)) = ({ Rst.init with begun := true, vars := n, many := (cls.length : Int) }, 0) := by
    unfold lineM
    rw [if_neg, if_pos (show Rst.init.begun = false from rfl), hH, headS_ok rfl]
    rw [hh]
    rintro (e | e)
    · cases e
    · exact absurd (Option.some.inj e) (by intro e2; exact absurd (congrArg (fun s : ByteArray => s.data.toList) e2) (by decide))
  have hw := wordsM_body cls { Rst.init with begun := true, vars := n, many := (cls.length : Int) } (by simp [Rst.init]) rfl rfl (lits_ok hc) (by show (0 : Int) + ((cls.map List.length).sum : Nat) ≤ 4194304; omega)
  rw [← hb] at hw
  have hB := body_lines ls _ _ (0 + pre.length + 1) rfl hw
  have hL := (show linesM Rst.init 0 (linesB (mkB (textL (pre ++ hd :: ls)))) = linesM { Rst.init with begun := true, vars := n, many := (cls.length : Int) } (0 + pre.length + 1) (ls.map mkB) from by
    rw [linesB_text hn, List.map_append, List.map_cons, hpre pre 0 _ hp, linesM, hl, if_neg (by simp)]).trans hB
  unfold parseM
  simp only [hL]
  rw [if_neg (by simp), if_neg]
  · simp [Rst.init]
  · simp [Rst.init]

/-! ### blanks between words -/
/-- What may stand between two words of the body: blanks; or the line's end and lines that tell nothing. -/
def SepOk (sp : List UInt8) : Prop := (sp ≠ [] ∧ ∀ b ∈ sp, sepB b = true) ∨ ∃ bl D, sp = bl ++ 10 :: textL D ∧ (∀ b ∈ bl, sepB b = true) ∧ (∀ l ∈ D, (10 : UInt8) ∉ l) ∧ D.flatMap told = []
structure Part (X : List UInt8) (W : List ByteArray) : Prop where
  ex : ∃ (D : List (List UInt8)) (cur : List UInt8) (V : List (List UInt8)), X = textL D ++ cur ∧ (∀ l ∈ D, (10 : UInt8) ∉ l) ∧ (10 : UInt8) ∉ cur ∧ (∀ t, wdsL [] (cur ++ t) = V ++ wdsL [] t) ∧ W = D.flatMap told ++ V.map mkB ∧ ∀ v ∈ V, mkB v ≠ ⟨#[99]⟩
structure Wrd (w : List UInt8) : Prop where
  ne : w ≠ []
  sep : ∀ b ∈ w, sepB b = false
  no10 : (10 : UInt8) ∉ w
  noc : mkB w ≠ ⟨#[99]⟩
theorem itoa_wrd (n : Int) : Wrd (Lib.itoa n) := ⟨itoa_ne n, fun b hb => (itoa_sep b hb).1, fun h => (itoa_sep _ h).2 rfl, itoa_c n⟩
theorem sep_no10 {sp : List UInt8} (h : ∀ b ∈ sp, sepB b = true) : (10 : UInt8) ∉ sp := fun e => by have := h _ e; exact absurd this (by decide)
theorem textL_app (a b : List (List UInt8)) : textL (a ++ b) = textL a ++ textL b := by unfold textL; rw [List.flatMap_append]
theorem part_nil : Part [] [] := ⟨[], [], [], rfl, (fun l h => nomatch h), List.not_mem_nil, (fun t => rfl), rfl, (fun v h => nomatch h)⟩
theorem told_words {l : List UInt8} {V : List (List UInt8)} (h : wdsL [] l = V) (hc : ∀ v ∈ V, mkB v ≠ ⟨#[99]⟩) : told l = V.map mkB := by
  have hw : wordsB (mkB l) = V.map mkB := by rw [wordsB_wdsL, data_mkB, h]
  unfold told
  rw [hw, if_neg]
  intro e
  rw [List.getElem?_map] at e
  obtain ⟨v, hv, hv2⟩ := Option.map_eq_some_iff.1 e
  exact hc v (List.mem_of_getElem? hv) hv2
theorem wdsL_blank {bl : List UInt8} (h : ∀ b ∈ bl, sepB b = true) : wdsL [] bl = [] := by
  have := wdsL_seps bl [] h
  rw [List.append_nil] at this
  rw [this]; rfl
theorem Part.close {X : List UInt8} {W : List ByteArray} (h : Part X W) {w : List UInt8} (hw : Wrd w) {bl : List UInt8} (hb : ∀ b ∈ bl, sepB b = true) {D2 : List (List UInt8)} (h2 : ∀ l ∈ D2, (10 : UInt8) ∉ l) (h3 : D2.flatMap told = []) :
    ∃ D, X ++ w ++ (bl ++ 10 :: textL D2) = textL D ∧ (∀ l ∈ D, (10 : UInt8) ∉ l) ∧ D.flatMap told = W ++ [mkB w] := by
  obtain ⟨D, cur, V, rfl, k1, k2, k3, rfl, k4⟩ := h.ex
  have hwd : wdsL [] (cur ++ (w ++ bl)) = V ++ [w] := by
    rw [k3]
    congr 1
    by_cases e : bl = []
    · subst e; rw [List.append_nil]; exact wdsL_last hw.ne hw.sep
    · have := wdsL_one hw.ne hw.sep bl hb e []
      rw [List.append_nil] at this
      rw [this]; rfl
  have ht := told_words hwd (fun v hv => by
    rcases List.mem_append.1 hv with hv | hv
    · exact k4 v hv
    · rw [List.mem_singleton.1 hv]; exact hw.noc)
  refine ⟨D ++ (cur ++ (w ++ bl)) :: D2, ?_, ?_, ?_⟩
  · rw [textL_app]
    simp [textL]
  · intro l hl
    rcases List.mem_append.1 hl with hl | hl
    · exact k1 l hl
    · rcases List.mem_cons.1 hl with rfl | hl
      · simp only [List.mem_append, not_or]
        exact ⟨k2, hw.no10, sep_no10 hb⟩
      · exact h2 l hl
  · rw [List.flatMap_append, List.flatMap_cons, h3, ht]
    simp
theorem Part.step {X : List UInt8} {W : List ByteArray} (h : Part X W) {w : List UInt8} (hw : Wrd w) {sp : List UInt8} (hs : SepOk sp) : Part (X ++ w ++ sp) (W ++ [mkB w]) := by
  rcases hs with ⟨hne, hs⟩ | ⟨bl, D2, rfl, hb, h2, h3⟩
  · obtain ⟨D, cur, V, rfl, k1, k2, k3, rfl, k4⟩ := h.ex
    refine ⟨D, cur ++ (w ++ sp), V ++ [w], by simp, k1, ?_, fun t => ?_, by simp, fun v hv => ?_⟩
    · simp only [List.mem_append, not_or]
      exact ⟨k2, hw.no10, sep_no10 hs⟩
    · rw [List.append_assoc, List.append_assoc, k3, wdsL_one hw.ne hw.sep sp hs hne t]
      simp
    · rcases List.mem_append.1 hv with hv | hv
      · exact k4 v hv
      · rw [List.mem_singleton.1 hv]; exact hw.noc
  · obtain ⟨D, e, k1, k2⟩ := h.close hw hb h2 h3
    exact ⟨D, [], [], by rw [e, List.append_nil], k1, List.not_mem_nil, (fun t => rfl), by rw [k2]; simp, (fun v h => nomatch h)⟩

/-! ### the text put otherwise -/
/-- Each blank and each line's end put otherwise, by its number. -/
def trS (σ : Nat → UInt8 → List UInt8) : Nat → List UInt8 → List UInt8
  | _, [] => []
  | n, b :: r => if b = 32 ∨ b = 10 then σ n b ++ trS σ (n + 1) r else b :: trS σ n r
theorem trS_word (σ : Nat → UInt8 → List UInt8) : ∀ (w r : List UInt8) (n : Nat), (∀ b ∈ w, sepB b = false ∧ b ≠ 10) → trS σ n (w ++ r) = w ++ trS σ n r
  | [], r, n, _ => rfl
  | b :: w, r, n, h => by
    have hb := h b List.mem_cons_self
    have h32 : b ≠ 32 := fun e => by rw [e] at hb; exact absurd hb.1 (by decide)
    rw [List.cons_append, trS, if_neg (by rintro (e | e); · exact h32 e
                                          · exact hb.2 e), trS_word σ w r n (fun x hx => h x (List.mem_cons_of_mem _ hx))]; rfl
theorem trS_id : ∀ (l : List UInt8) (n : Nat), trS (fun _ b => [b]) n l = l
  | [], n => rfl
  | b :: r, n => by
    rw [trS]
    split
    · rw [trS_id r]; rfl
    · rw [trS_id r]
structure Puts2 (σ : Nat → UInt8 → List UInt8) : Prop where
  head : ∀ n, n < 3 → σ n 32 ≠ [] ∧ ∀ b ∈ σ n 32, sepB b = true
  nl : ∀ n, 3 ≤ n → ∃ bl, σ n 10 = bl ++ [10] ∧ ∀ b ∈ bl, sepB b = true
  body : ∀ n, 4 ≤ n → SepOk (σ n 32)
theorem body_lits {σ : Nat → UInt8 → List UInt8} (hσ : Puts2 σ) : ∀ (c : List Int) (n : Nat) (X r : List UInt8) (W : List ByteArray), 4 ≤ n → Part X W →
    ∃ X', X ++ trS σ n (keyM c ++ r) = X' ++ trS σ (n + c.length) r ∧ Part X' (W ++ c.map (fun l => mkB (Lib.itoa l)))
  | [], n, X, r, W, hn, h => ⟨X, by simp [keyM], by simpa using h⟩
  | l :: c, n, X, r, W, hn, h => by
    have e : keyM (l :: c) ++ r = Lib.itoa l ++ (32 :: (keyM c ++ r)) := by simp [keyM]
    have h2 := h.step (itoa_wrd l) (hσ.body n hn)
    obtain ⟨X', k1, k2⟩ := body_lits hσ c (n + 1) _ r _ (by omega) h2
    refine ⟨X', ?_, ?_⟩
    · rw [e, trS_word σ _ _ n (fun b hb => itoa_sep b hb), trS, if_pos (.inl rfl)]
      rw [List.length_cons, show n + (c.length + 1) = n + 1 + c.length by omega, ← k1]
      simp
    · rw [List.map_cons]
      simpa using k2
theorem body_all {σ : Nat → UInt8 → List UInt8} (hσ : Puts2 σ) : ∀ (cls : List (List Int)) (n : Nat), 4 ≤ n → ∃ D, trS σ n (bodyT cls) = textL D ∧ (∀ l ∈ D, (10 : UInt8) ∉ l) ∧ D.flatMap told = cls.flatMap wdsC
  | [], n, _ => ⟨[], rfl, fun l h => (nomatch h), rfl⟩
  | c :: cls, n, hn => by
    have e : bodyT (c :: cls) = keyM c ++ ([48] ++ (10 :: bodyT cls)) := by simp [bodyT, clT]
    obtain ⟨X', k1, k2⟩ := body_lits hσ c n [] ([48] ++ (10 :: bodyT cls)) [] hn part_nil
    obtain ⟨bl, b1, b2⟩ := hσ.nl (n + c.length) (by omega)
    have hw : Wrd [48] := ⟨by simp, fun b hb => by rw [List.mem_singleton.1 hb]; decide, by decide, by
      intro e; exact absurd (congrArg (fun s : ByteArray => s.data.toList) e) (by decide)⟩
    obtain ⟨D, d1, d2, d3⟩ := k2.close hw b2 (D2 := []) (fun l h => nomatch h) rfl
    obtain ⟨D2, f1, f2, f3⟩ := body_all hσ cls (n + c.length + 1) (by omega)
    refine ⟨D ++ D2, ?_, fun l hl => ?_, ?_⟩
    · rw [List.nil_append] at k1
      rw [e, k1, trS_word σ [48] _ _ (fun b hb => by rw [List.mem_singleton.1 hb]; exact ⟨by decide, by decide⟩), trS, if_pos (.inr rfl), b1, f1, textL_app, ← d1]
      simp [textL]
    · rcases List.mem_append.1 hl with hl | hl
      · exact d2 l hl
      · exact f2 l hl
    · rw [List.flatMap_append, d3, f3, List.flatMap_cons]
      simp [wdsC]
theorem parse_put {n : Int} {cls : List (List Int)} (hc : (checkM n cls).2 = 0) {σ : Nat → UInt8 → List UInt8} (hσ : Puts2 σ) (pre : List (List UInt8)) (hn : ∀ l ∈ pre, (10 : UInt8) ∉ l) (hp : ∀ l ∈ pre, wordsB (mkB l) = [] ∨ (wordsB (mkB l))[0]? = some ⟨#[99]⟩) :
    parseM (mkB (textL pre ++ trS σ 0 (headT n cls.length ++ bodyT cls))) = (n, cls, 0, 0) := by
  obtain ⟨D, d1, d2, d3⟩ := body_all hσ cls 4 (Nat.le_refl _)
  obtain ⟨a1, a2⟩ := hσ.head 0 (by decide)
  obtain ⟨b1, b2⟩ := hσ.head 1 (by decide)
  obtain ⟨c1, c2⟩ := hσ.head 2 (by decide)
  obtain ⟨bl, e1, e2⟩ := hσ.nl 3 (by decide)
  have w1 : ∀ b ∈ ([112] : List UInt8), sepB b = false ∧ b ≠ 10 := by decide
  have w2 : ∀ b ∈ ([99, 110, 102] : List UInt8), sepB b = false ∧ b ≠ 10 := by decide
  have hT : trS σ 0 (headT n cls.length ++ bodyT cls) = ([112] ++ (σ 0 32 ++ ([99, 110, 102] ++ (σ 1 32 ++ (Lib.itoa n ++ (σ 2 32 ++ (Lib.itoa cls.length ++ bl))))))) ++ [10] ++ textL D := by
    have e : headT n cls.length ++ bodyT cls = [112] ++ (32 :: ([99, 110, 102] ++ (32 :: (Lib.itoa n ++ (32 :: (Lib.itoa cls.length ++ (10 :: bodyT cls))))))) := by simp [headT]
    rw [e, trS_word σ _ _ _ w1, trS, if_pos (.inl rfl), trS_word σ _ _ _ w2, trS, if_pos (.inl rfl), trS_word σ _ _ _ (fun b hb => itoa_sep b hb), trS, if_pos (.inl rfl), trS_word σ _ _ _ (fun b hb => itoa_sep b hb), trS, if_pos (.inr rfl), e1, d1]
    simp
  have hwd : wdsL [] ([112] ++ (σ 0 32 ++ ([99, 110, 102] ++ (σ 1 32 ++ (Lib.itoa n ++ (σ 2 32 ++ (Lib.itoa cls.length ++ bl))))))) = [[112], [99, 110, 102], Lib.itoa n, Lib.itoa cls.length] := by
    rw [wdsL_one (by simp) (fun b hb => (w1 b hb).1) _ a2 a1, wdsL_one (by simp) (fun b hb => (w2 b hb).1) _ b2 b1, wdsL_one (itoa_ne n) (fun b hb => (itoa_sep b hb).1) _ c2 c1]
    congr 3
    by_cases e : bl = []
    · subst e; rw [List.append_nil]; exact wdsL_last (itoa_ne _) (fun b hb => (itoa_sep b hb).1)
    · have := wdsL_one (itoa_ne (cls.length : Int)) (fun b hb => (itoa_sep b hb).1) bl e2 e []
      rw [List.append_nil] at this
      rw [this]; rfl
  have hfin := parse_lines hc pre _ D (fun l hl => ?_) hp (by rw [wordsB_wdsL, data_mkB, hwd]; rfl) d3
  · rw [hT]
    rw [textL_app] at hfin
    have e3 : ∀ h : List UInt8, textL (h :: D) = h ++ [10] ++ textL D := fun h => by simp [textL]
    rw [e3] at hfin
    exact hfin
  · rcases List.mem_append.1 hl with hl | hl
    · exact hn l hl
    · rcases List.mem_cons.1 hl with rfl | hl
      · have k : ∀ m : Int, (10 : UInt8) ∉ Lib.itoa m := fun m h => (itoa_sep _ h).2 rfl
        simp only [List.mem_append, not_or]
        exact ⟨by decide, sep_no10 a2, by decide, sep_no10 b2, k _, sep_no10 c2, k _, sep_no10 e2⟩
      · exact d2 l hl
/-- What was printed. -/
theorem parse_print {n : Int} {cls : List (List Int)} (hc : (checkM n cls).2 = 0) : parseM (mkB (printM n cls).1) = (n, cls, 0, 0) := by
  have hp : Puts2 (fun _ b => [b]) := ⟨fun n _ => ⟨by simp, fun b hb => by rw [List.mem_singleton.1 hb]; decide⟩, fun n _ => ⟨[], rfl, fun b h => nomatch h⟩, fun n _ => .inl ⟨by simp, fun b hb => by rw [List.mem_singleton.1 hb]; decide⟩⟩
  have := parse_put hc hp [] (fun l h => nomatch h) (fun l h => nomatch h)
  rw [trS_id] at this
  unfold printM
  rw [if_neg (by rw [hc]; decide)]
  exact this
end Go.Proofs.YtnmkdhoijdoccaaDoor
