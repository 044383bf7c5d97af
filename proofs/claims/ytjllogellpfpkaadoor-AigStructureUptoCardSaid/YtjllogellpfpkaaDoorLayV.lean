/- What is laid: its values; over a new graph's inputs its text. Plain laws. -/
import Derived.Test.YtjllogellpfpkaaDoorAigL1
import Derived.Test.YtjllogellpfpkaaDoorAigX
import Derived.Test.YtjllogellpfpkaaDoorEmbB
set_option linter.unusedVariables false
set_option linter.unusedSimpArgs false
namespace Go.Proofs.YtjllogellpfpkaaDoor

/-- Inputs bear their numbers. -/
def InOk (ns : Nodes) : Prop := ∀ i k, (inputsOf ns)[i]? = some k → nd ns k = (mark, i)
theorem inputsOf_append (ns k : Nodes) : ∃ e, inputsOf (ns ++ k) = inputsOf ns ++ e := by
  unfold inputsOf
  rw [List.zipIdx_append, List.filterMap_append]
  exact ⟨_, rfl⟩
theorem InOk.grows {ns ms : Nodes} (h : InOk ns) (g : Grows ns ms) (e : (inputsOf ms).length = (inputsOf ns).length) : inputsOf ms = inputsOf ns ∧ InOk ms := by
  obtain ⟨k, hk⟩ := g
  obtain ⟨x, hx⟩ := inputsOf_append ns k
  rw [← hk] at hx
  have hx0 : x = [] := List.eq_nil_of_length_eq_zero (by rw [hx, List.length_append] at e; omega)
  rw [hx0, List.append_nil] at hx
  refine ⟨hx, fun i k' hi => ?_⟩
  rw [hx] at hi
  rw [Grows.nd ⟨k, hk⟩ (inputs_lt (List.mem_of_getElem? hi))]
  exact h i k' hi
theorem InOk.input {ns : Nodes} (h : InOk ns) : InOk (ns ++ [(mark, (inputsOf ns).length)]) := fun i k hi => by
  rw [inputsOf_snoc_mark] at hi
  rcases Nat.lt_or_ge i (inputsOf ns).length with hl | hl
  · rw [List.getElem?_append_left hl] at hi
    rw [nd_old (inputs_lt (List.mem_of_getElem? hi))]
    exact h i k hi
  · rw [List.getElem?_append_right hl] at hi
    have : i - (inputsOf ns).length = 0 := by
      have := (List.getElem?_eq_some_iff.1 hi).1
      simp at this; omega
    rw [this] at hi
    obtain rfl : ns.length = k := by simpa using hi
    rw [nd_new]
    have : i = (inputsOf ns).length := by omega
    rw [this]
theorem inOk_start : InOk [(0, 0)] := fun i k h => by simp [inputsOf, mark] at h
theorem mk1_inOk {ns : Nodes} (h : GoodG ns) (ho : InOk ns) (k : Int) {a b c : Nat} (ha : a < 2 * ns.length) (hb : b < 2 * ns.length) (hc : c < 2 * ns.length) (hl : ns.length + 3 ≤ 1073741824) : InOk (mk1 ns k a b c).2 := by
  obtain ⟨m1, m2, m3, m4⟩ := mk1_by h k ha hb hc hl
  by_cases hk : k = 2 ∨ k = 3 ∨ k = 4 ∨ k = 5 ∨ k = 6
  · rw [if_pos hk, Nat.add_zero] at m3
    exact (ho.grows m2 m3).2
  · have e : mk1 ns k a b c = (2 * ns.length, ns ++ [(mark, (inputsOf ns).length)]) := by
      simp only [not_or] at hk
      simp [mk1, hk.1, hk.2.1, hk.2.2.1, hk.2.2.2.1, hk.2.2.2.2]
    rw [e]; exact ho.input
theorem madeM_inOk (l : List Mk) (hl : l.length ≤ 300000000) : InOk (madeM l).1 := by
  revert hl
  refine snoc_ind (P := fun l => l.length ≤ 300000000 → InOk (madeM l).1) (fun _ => inOk_start) ?_ l
  intro l s ih hl
  simp only [List.length_append, List.length_singleton] at hl
  have ok := madeM_ok l
  have g := (madeM_good l (by omega)).1
  have hp : 0 < (madeM l).2.length := by have := ok.len; omega
  rw [madeM_snoc]
  exact mk1_inOk g (ih (by omega)) s.1 (pickM_lt hp ok.lits s.2.1) (pickM_lt hp ok.lits s.2.2.1) (pickM_lt hp ok.lits s.2.2.2) (by have := ok.small; omega)

/-! ### Values -/
theorem litB_mvL {V U : Nat → Bool} {to : List Nat} {x : Nat} (h : litB V (to.getD (x / 2) 0) = U (x / 2)) : litB V (mvL to x) = litB U x := by
  unfold mvL
  rcases Nat.mod_two_eq_zero_or_one x with e | e
  · rw [if_neg (by omega), h]; simp [litB, e]
  · rw [if_pos e, litB_not, h]; simp [litB, e]
theorem getD_setn {l : List Nat} {n m x : Nat} (hn : n < l.length) : (l.set n x).getD m 0 = if m = n then x else l.getD m 0 := getD_setN hn
structure LayV (hs ns : Nodes) (ins l : List Nat) (p : List Nat × Nodes) : Prop where
  good : GoodG p.2
  grows : Grows ns p.2
  same : (inputsOf p.2).length = (inputsOf ns).length
  zero : p.1.getD 0 0 = 0
  val : ∀ inp V, IsVal p.2 inp V → ∀ U, IsVal hs (fun i => litB V (ins.getD i 0)) U → ∀ m ∈ l, litB V (p.1.getD m 0) = U m
theorem layOver_val {hs ns : Nodes} {ins K : List Nat} (gh : GoodG hs) (gn : GoodG ns) (hL : Lined hs K) (hi : ∀ y ∈ ins, y < 2 * ns.length) (hil : ins.length = (inputsOf hs).length) (hl : ns.length + hs.length ≤ 1073741824) :
    LayV hs ns ins K (layOver hs ins ns K) := by
  induction hL with
  | nil => exact ⟨gn, Grows.refl _, rfl, by have := gh.pos; simp [layOver, List.getD_eq_getElem?_getD, List.getElem?_replicate]; split <;> rfl, fun _ _ _ _ _ m hm => nomatch hm⟩
  | @snoc l n hlL ha ih =>
    have ok := (layOver_ok (ins := ins) gh hlL gn.pos hi hil).1
    have hll := hlL.length_le
    rw [layOver_snoc]
    generalize layOver hs ins ns l = p at *
    have hn0 := ha.1
    have hn := ha.2.1
    have hnp : n < p.1.length := by rw [ok.len]; exact hn
    have hpl := ok.le
    by_cases hm : (nd hs n).1 = mark
    · have hng : isGate hs n = false := by rw [isGate_nd, hm]; simp
      unfold layStep
      rw [if_pos hm]
      refine ⟨ih.good, ih.grows, ih.same, ?_, ?_⟩
      · simp only; rw [getD_setn hnp, if_neg (Ne.symm hn0)]; exact ih.zero
      · intro inp V hV U hU m hmm
        simp only at hV ⊢
        rw [getD_setn hnp]
        by_cases hmn : m = n
        · subst hmn; rw [if_pos rfl, hU.ins m hn hn0 hng]
        · rw [if_neg hmn]
          refine ih.val inp V hV U hU m ?_
          rcases List.mem_append.1 hmm with h | h
          · exact h
          · exact absurd (List.mem_singleton.1 h) hmn
    · have hgt : isGate hs n = true := by rw [isGate_nd]; simp [hn0, hm]
      have hgn := gh.gate n hn hgt
      have hop : ((nd hs n).1 / 2 = 0 ∨ (nd hs n).1 / 2 ∈ l) ∧ ((nd hs n).2 / 2 = 0 ∨ (nd hs n).2 / 2 ∈ l) := ha.2.2.2 hgt
      have a1 := mvL_lt (x := (nd hs n).1) ok.lits (by rw [ok.len]; omega)
      have a2 := mvL_lt (x := (nd hs n).2) ok.lits (by rw [ok.len]; omega)
      have k := and_by ih.good a1 a2 (by omega)
      unfold layStep
      rw [if_neg hm]
      generalize andM p.2 (mvL p.1 (nd hs n).1) (mvL p.1 (nd hs n).2) = r at *
      refine ⟨k.good, ih.grows.trans k.grows, k.same.trans ih.same, ?_, ?_⟩
      · simp only; rw [getD_setn hnp, if_neg (Ne.symm hn0)]; exact ih.zero
      · intro inp V hV U hU m hmm
        simp only at hV ⊢
        have hVp := hV.back k.grows
        have old : ∀ x, x / 2 = 0 ∨ x / 2 ∈ l → litB V (mvL p.1 x) = litB U x := fun x hx => litB_mvL (by
          rcases hx with h | h
          · rw [h, ih.zero, litB_0 hV.zero, hU.zero]
          · exact ih.val inp V hVp U hU _ h)
        rw [getD_setn hnp]
        by_cases hmn : m = n
        · subst hmn
          rw [if_pos rfl, k.val inp V hV, hU.gate m hn hgt, old _ hop.1, old _ hop.2]
        · rw [if_neg hmn]
          refine ih.val inp V hVp U hU m ?_
          rcases List.mem_append.1 hmm with h | h
          · exact h
          · exact absurd (List.mem_singleton.1 h) hmn
/-- What is laid has the roots' values. -/
theorem layM_val {hs ns : Nodes} {ins roots : List Nat} (gh : GoodG hs) (gn : GoodG ns) (hx : ∀ r ∈ roots, r < 2 * hs.length) (hi : ∀ y ∈ ins, y < 2 * ns.length) (hil : ins.length = (inputsOf hs).length) (hl : ns.length + hs.length ≤ 1073741824)
    (inp V U : Nat → Bool) (hV : IsVal (layM ns hs ins roots).2 inp V) (hU : IsVal hs (fun i => litB V (ins.getD i 0)) U) : (layM ns hs ins roots).1.map (litB V) = roots.map (litB U) := by
  have HL := coneM_lined gh.wf roots hx
  have k := layOver_val gh gn HL.1 hi hil hl
  unfold layM
  simp only [List.map_map]
  refine List.map_congr_left fun r hr => ?_
  refine litB_mvL (U := U) ?_
  rcases HL.2 r hr with h | h
  · rw [h, k.zero, litB_0 hV.zero, hU.zero]
  · exact k.val inp V hV U hU _ h

/-! ### The text of what is laid over a new graph's inputs -/
def insG (I : Nat) : Nodes := (0, 0) :: (List.range I).map fun i => (mark, i)
def ownG (I : Nat) : List Nat := (List.range I).map fun i => 2 * (i + 1)
theorem insG_succ (I : Nat) : insG (I + 1) = insG I ++ [(mark, I)] := by simp [insG, List.range_succ]
theorem ownG_succ (I : Nat) : ownG (I + 1) = ownG I ++ [2 * (I + 1)] := by simp [ownG, List.range_succ]
theorem insG_len (I : Nat) : (insG I).length = I + 1 := by simp [insG]
theorem insG_ins (I : Nat) : inputsOf (insG I) = (List.range I).map (· + 1) := by
  induction I with
  | zero => simp [insG, inputsOf, mark]
  | succ I ih => rw [insG_succ, inputsOf_snoc_mark, ih, insG_len, List.range_succ]; simp
theorem insG_good (I : Nat) : GoodG (insG I) := by
  induction I with
  | zero => exact good_start
  | succ I ih =>
    have := ih.input
    rw [insG_ins] at this
    simp only [List.length_map, List.length_range] at this
    rw [insG_succ]; exact this
theorem ownG_lt (I : Nat) : ∀ y ∈ ownG I, y < 2 * (insG I).length := fun y hy => by
  obtain ⟨i, hi, rfl⟩ := List.mem_map.1 hy
  have := List.mem_range.1 hi
  rw [insG_len]; omega
theorem insG_gate (I n : Nat) (hn : n < (insG I).length) : isGate (insG I) n = false := by
  rcases n with _ | n
  · simp [isGate]
  · have hl : n < I := by rw [insG_len] at hn; omega
    rw [isGate_nd]
    have : nd (insG I) (n + 1) = (mark, n) := by
      unfold nd insG
      simp [List.getD_eq_getElem?_getD, hl]
    rw [this]; simp
theorem emb_start {hs : Nodes} (gh : GoodG hs) (oh : InOk hs) : Emb (fun n => if n = 0 then 0 else (inputsOf hs).getD (n - 1) 0) (insG (inputsOf hs).length) hs := by
  have hget : ∀ i, i < (inputsOf hs).length → (inputsOf hs)[i]? = some ((inputsOf hs).getD i 0) := fun i hi => by simp [List.getD_eq_getElem?_getD, hi]
  have hno : ∀ i, i < (inputsOf hs).length → (inputsOf hs).getD i 0 ≠ 0 := fun i hi e => by
    have := oh i _ (hget i hi)
    rw [e, gh.zero] at this
    injection this with h1 h2
    exact absurd h1 (by decide)
  refine ⟨by simp, ?_, ?_, ?_, ?_, ?_⟩
  · intro n hn
    rw [insG_len] at hn
    try simp only
    split
    · have := gh.pos; omega
    · exact inputs_lt (List.mem_of_getElem? (hget (n - 1) (by omega)))
  · intro m n hm hn
    rw [insG_len] at hm hn
    try simp only
    split <;> split
    · intro _; omega
    · intro h; exact absurd h.symm (hno _ (by omega))
    · intro h; exact absurd h (hno _ (by omega))
    · intro h
      have h1 := oh _ _ (hget (m - 1) (by omega))
      have h2 := oh _ _ (hget (n - 1) (by omega))
      rw [h, h2] at h1
      injection h1 with _ h1
      omega
  · intro n hn
    rw [insG_gate _ _ hn]
    rw [insG_len] at hn
    try simp only
    split
    · simp [isGate]
    · have := oh _ _ (hget (n - 1) (by omega))
      rw [isGate_nd, this]; simp
  · intro n hn hg
    rw [insG_gate _ _ hn] at hg; cases hg
  · rw [insG_ins, List.map_map]
    apply List.ext_getElem
    · simp
    · intro i h1 h2
      simp [List.getD_eq_getElem?_getD, h1]
theorem emL_mvL {f : Nat → Nat} {to : List Nat} {x : Nat} (h : emL f (to.getD (x / 2) 0) = 2 * (x / 2)) : emL f (mvL to x) = x := by
  unfold mvL
  rcases Nat.mod_two_eq_zero_or_one x with e | e
  · rw [if_neg (by omega), h]; omega
  · rw [if_pos e, emL_notL, h]; unfold notL; rw [if_pos (by omega)]; omega
theorem lay_emb {hs : Nodes} {K : List Nat} (gh : GoodG hs) (oh : InOk hs) (hL : Lined hs K) (hl : 2 * hs.length + 1 ≤ 1073741824) :
    GoodG (layOver hs (ownG (inputsOf hs).length) (insG (inputsOf hs).length) K).2 ∧
    ∃ f, Emb f (layOver hs (ownG (inputsOf hs).length) (insG (inputsOf hs).length) K).2 hs ∧ ∀ m, m = 0 ∨ m ∈ K → emL f ((layOver hs (ownG (inputsOf hs).length) (insG (inputsOf hs).length) K).1.getD m 0) = 2 * m := by
  have hIl := inputsOf_length hs
  induction hL with
  | nil =>
    refine ⟨insG_good _, _, emb_start gh oh, ?_⟩
    rintro m (rfl | h)
    · have : (layOver hs (ownG (inputsOf hs).length) (insG (inputsOf hs).length) []).1.getD 0 0 = 0 := by
        simp [layOver, List.getD_eq_getElem?_getD, List.getElem?_replicate]; split <;> rfl
      rw [this]; simp [emL]
    · cases h
  | @snoc l n hlL ha ih =>
    have hil : (ownG (inputsOf hs).length).length = (inputsOf hs).length := by simp [ownG]
    have ok := (layOver_ok (ins := ownG (inputsOf hs).length) gh hlL (insG_good (inputsOf hs).length).pos (ownG_lt _) hil).1
    have hll := hlL.length_le
    rw [layOver_snoc]
    obtain ⟨gp, f, E, hf⟩ := ih
    generalize hpp : layOver hs (ownG (inputsOf hs).length) (insG (inputsOf hs).length) l = p at *
    have hn0 := ha.1
    have hn := ha.2.1
    have hnp : n < p.1.length := by rw [ok.len]; exact hn
    have hpl := ok.le
    rw [insG_len] at hpl
    by_cases hm : (nd hs n).1 = mark
    · unfold layStep
      rw [if_pos hm]
      refine ⟨gp, f, E, ?_⟩
      intro m hmm
      simp only
      rw [getD_setn hnp]
      by_cases hmn : m = n
      · subst hmn
        rw [if_pos rfl]
        -- an input: its number's literal
        have hng : isGate hs m = false := by rw [isGate_nd, hm]; simp
        have hlt := gh.ins m hn hn0 hng
        have hmem : m ∈ inputsOf hs := by
          unfold inputsOf
          refine List.mem_filterMap.2 ⟨(nd hs m, m), List.mem_zipIdx_iff_getElem?.2 (getElem?_nd hn), ?_⟩
          simp [hm]
        obtain ⟨i, hi1, hi2⟩ := List.getElem_of_mem hmem
        have hi3 : (inputsOf hs)[i]? = some m := by rw [List.getElem?_eq_getElem hi1, hi2]
        have hnd := oh i m hi3
        rw [hnd]
        simp only
        have hown : (ownG (inputsOf hs).length).getD i 0 = 2 * (i + 1) := by simp [ownG, List.getD_eq_getElem?_getD, hi1]
        rw [hown]
        have hgr : inputsOf hs = (inputsOf p.2).map f := E.ins
        have hG : Grows (insG (inputsOf hs).length) p.2 := by
          have := layOver_val (ins := ownG (inputsOf hs).length) gh (insG_good (inputsOf hs).length) hlL (ownG_lt _) hil (by rw [insG_len]; omega)
          rw [hpp] at this; exact this.grows
        obtain ⟨kk, hkk⟩ := hG
        obtain ⟨x, hx⟩ := inputsOf_append (insG (inputsOf hs).length) kk
        rw [← hkk, insG_ins] at hx
        have h5 : (inputsOf p.2)[i]? = some (i + 1) := by
          rw [hx, List.getElem?_append_left (by simpa using hi1)]
          simp [hi1]
        have h6 : f (i + 1) = m := by
          have := congrArg (·[i]?) hgr
          simp only [List.getElem?_map, h5, Option.map_some, hi3] at this
          exact (Option.some.inj this).symm
        unfold emL
        rw [show 2 * (i + 1) / 2 = i + 1 by omega, h6]; omega
      · rw [if_neg hmn]
        refine hf m ?_
        rcases hmm with h | h
        · exact .inl h
        · rcases List.mem_append.1 h with h | h
          · exact .inr h
          · exact absurd (List.mem_singleton.1 h) hmn
    · have hgt : isGate hs n = true := by rw [isGate_nd]; simp [hn0, hm]
      have hgn := gh.gate n hn hgt
      have hop : ((nd hs n).1 / 2 = 0 ∨ (nd hs n).1 / 2 ∈ l) ∧ ((nd hs n).2 / 2 = 0 ∨ (nd hs n).2 / 2 ∈ l) := ha.2.2.2 hgt
      have a1 := mvL_lt (x := (nd hs n).1) ok.lits (by rw [ok.len]; omega)
      have a2 := mvL_lt (x := (nd hs n).2) ok.lits (by rw [ok.len]; omega)
      obtain ⟨f', hff, E', hr⟩ := andM_emb E gp gh a1 a2 (by omega) (by omega)
      have k := and_by gp a1 a2 (by omega)
      rw [emL_mvL (hf _ hop.1), emL_mvL (hf _ hop.2), andM_found gh hn hgt] at E' hr
      unfold layStep
      rw [if_neg hm]
      refine ⟨k.good, f', E', ?_⟩
      intro m hmm
      simp only
      rw [getD_setn hnp]
      by_cases hmn : m = n
      · subst hmn; rw [if_pos rfl]; exact hr
      · rw [if_neg hmn]
        have hm2 : m = 0 ∨ m ∈ l := by
          rcases hmm with h | h
          · exact .inl h
          · rcases List.mem_append.1 h with h | h
            · exact .inr h
            · exact absurd (List.mem_singleton.1 h) hmn
        rw [← hf m hm2]
        refine emL_congr (hff _ ?_)
        have hlt : p.1.getD m 0 < 2 * p.2.length := by
          rcases Nat.lt_or_ge m p.1.length with h | h
          · rw [show p.1.getD m 0 = p.1[m] by simp [List.getD_eq_getElem?_getD, h]]; exact ok.lits _ (List.getElem_mem h)
          · rw [show p.1.getD m 0 = 0 by simp [List.getD_eq_getElem?_getD, h]]; have := ok.pos; omega
        omega
/-- Laid into a new graph over its inputs in order: the same text. -/
theorem lay_text {hs : Nodes} {roots : List Nat} (gh : GoodG hs) (oh : InOk hs) (hx : ∀ r ∈ roots, r < 2 * hs.length) (hl : 2 * hs.length + 1 ≤ 1073741824) :
    printM (layM (insG (inputsOf hs).length) hs (ownG (inputsOf hs).length) roots).2 (layM (insG (inputsOf hs).length) hs (ownG (inputsOf hs).length) roots).1 = printM hs roots := by
  have HL := coneM_lined gh.wf roots hx
  have hIl := inputsOf_length hs
  have hil : (ownG (inputsOf hs).length).length = (inputsOf hs).length := by simp [ownG]
  have ok := (layOver_ok (ins := ownG (inputsOf hs).length) gh HL.1 (insG_good (inputsOf hs).length).pos (ownG_lt _) hil).1
  obtain ⟨gp, f, E, hf⟩ := lay_emb gh oh HL.1 hl
  unfold layM
  simp only
  have hm : (roots.map (mvL (layOver hs (ownG (inputsOf hs).length) (insG (inputsOf hs).length) (coneM hs roots)).1)).map (emL f) = roots := by
    rw [List.map_map]
    conv => rhs; rw [← List.map_id roots]
    refine List.map_congr_left fun r hr => ?_
    exact emL_mvL (hf _ (HL.2 r hr))
  have hb : ∀ r ∈ roots.map (mvL (layOver hs (ownG (inputsOf hs).length) (insG (inputsOf hs).length) (coneM hs roots)).1), r < 2 * (layOver hs (ownG (inputsOf hs).length) (insG (inputsOf hs).length) (coneM hs roots)).2.length := fun y hy => by
    obtain ⟨r, hr, rfl⟩ := List.mem_map.1 hy
    exact mvL_lt ok.lits (by rw [ok.len]; have := hx r hr; omega)
  have := print_emb E gp gh hb
  rw [hm] at this
  exact this.symm
end Go.Proofs.YtjllogellpfpkaaDoor
