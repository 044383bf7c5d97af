/- Makings in two graphs side by side. Plain laws. -/
import Derived.Test.YtjllogellpfpkaaDoorLayV
set_option linter.unusedVariables false
set_option linter.unusedSimpArgs false
namespace Go.Proofs.YtjllogellpfpkaaDoor

/-- What is made in both. -/
def Two (f : Nat → Nat) (gs : Nodes) (r s : Nat × Nodes) : Prop := ∃ f', (∀ n, n < gs.length → f' n = f n) ∧ Emb f' r.2 s.2 ∧ emL f' r.1 = s.1
section
variable {f : Nat → Nat} {gs hs : Nodes}
theorem orM_emb (E : Emb f gs hs) (gg : GoodG gs) (gh : GoodG hs) {a b : Nat} (ha : a < 2 * gs.length) (hb : b < 2 * gs.length) (hl : gs.length ≤ 1073741824) (hl2 : hs.length ≤ 1073741824) :
    Two f gs (orM gs a b) (orM hs (emL f a) (emL f b)) := by
  obtain ⟨f', h1, h2, h3⟩ := andM_emb E gg gh (notL_lt2 ha) (notL_lt2 hb) hl hl2
  rw [emL_notL, emL_notL] at h2 h3
  exact ⟨f', h1, h2, by show emL f' (notL _) = notL _; rw [emL_notL, h3]⟩
theorem two_and (E : Emb f gs hs) (gg : GoodG gs) (gh : GoodG hs) {a b : Nat} (ha : a < 2 * gs.length) (hb : b < 2 * gs.length) (hl : gs.length ≤ 1073741824) (hl2 : hs.length ≤ 1073741824) :
    Two f gs (andM gs a b) (andM hs (emL f a) (emL f b)) := andM_emb E gg gh ha hb hl hl2
theorem emL_old {f' : Nat → Nat} (h : ∀ n, n < gs.length → f' n = f n) {x : Nat} (hx : x < 2 * gs.length) : emL f' x = emL f x := emL_congr (h _ (by omega))
theorem xorM_emb (E : Emb f gs hs) (gg : GoodG gs) (gh : GoodG hs) {a b : Nat} (ha : a < 2 * gs.length) (hb : b < 2 * gs.length) (hl : gs.length + 3 ≤ 1073741824) (hl2 : hs.length + 3 ≤ 1073741824) :
    Two f gs (xorM gs a b) (xorM hs (emL f a) (emL f b)) := by
  obtain ⟨f1, h1, E1, e1⟩ := andM_emb E gg gh ha hb (by omega) (by omega)
  have k1 := and_by gg ha hb (by omega)
  have k1' := and_by gh (E.litlt ha) (E.litlt hb) (by omega)
  have g1 := k1.grows.le
  have l1 := k1.le
  have l1' := k1'.le
  have na : notL a < 2 * (andM gs a b).2.length := by have := notL_lt2 ha; omega
  have nb : notL b < 2 * (andM gs a b).2.length := by have := notL_lt2 hb; omega
  obtain ⟨f2, h2, E2, e2⟩ := andM_emb E1 k1.good k1'.good na nb (by omega) (by omega)
  have k2 := and_by k1.good na nb (by omega)
  have ea : emL f1 (notL a) = notL (emL f a) := by rw [emL_notL, emL_old h1 ha]
  have eb : emL f1 (notL b) = notL (emL f b) := by rw [emL_notL, emL_old h1 hb]
  rw [ea, eb] at E2 e2
  have k2' := and_by k1'.good (a := notL (emL f a)) (b := notL (emL f b)) (by rw [← ea]; exact E1.litlt na) (by rw [← eb]; exact E1.litlt nb) (by omega)
  have g2 := k2.grows.le
  have l2 := k2.le
  have l2' := k2'.le
  have t1 := k1.lt
  have np : notL (andM gs a b).1 < 2 * (andM (andM gs a b).2 (notL a) (notL b)).2.length := by have := notL_lt2 t1; omega
  have nq := notL_lt2 k2.lt
  obtain ⟨f3, h3, E3, e3⟩ := andM_emb E2 k2.good k2'.good np nq (by omega) (by omega)
  have ep : emL f2 (notL (andM gs a b).1) = notL (andM hs (emL f a) (emL f b)).1 := by rw [emL_notL, emL_old h2 t1, e1]
  have eq : emL f2 (notL (andM (andM gs a b).2 (notL a) (notL b)).1) = notL (andM (andM hs (emL f a) (emL f b)).2 (notL (emL f a)) (notL (emL f b))).1 := by rw [emL_notL, e2]
  rw [ep, eq] at E3 e3
  exact ⟨f3, fun n hn => by rw [h3 n (by omega), h2 n (by omega), h1 n hn], E3, e3⟩
theorem muxM_emb (E : Emb f gs hs) (gg : GoodG gs) (gh : GoodG hs) {c a b : Nat} (hc : c < 2 * gs.length) (ha : a < 2 * gs.length) (hb : b < 2 * gs.length) (hl : gs.length + 3 ≤ 1073741824) (hl2 : hs.length + 3 ≤ 1073741824) :
    Two f gs (muxM gs c a b) (muxM hs (emL f c) (emL f a) (emL f b)) := by
  unfold muxM
  by_cases hab : a = b
  · rw [if_pos hab, if_pos (by rw [hab])]
    exact ⟨f, fun _ _ => rfl, E, rfl⟩
  rw [if_neg hab, if_neg (fun h => hab ((E.inj' ha hb).1 h))]
  obtain ⟨f1, h1, E1, e1⟩ := andM_emb E gg gh hc ha (by omega) (by omega)
  have k1 := and_by gg hc ha (by omega)
  have k1' := and_by gh (E.litlt hc) (E.litlt ha) (by omega)
  have g1 := k1.grows.le
  have l1 := k1.le
  have l1' := k1'.le
  have nc : notL c < 2 * (andM gs c a).2.length := by have := notL_lt2 hc; omega
  have nb : b < 2 * (andM gs c a).2.length := by omega
  obtain ⟨f2, h2, E2, e2⟩ := andM_emb E1 k1.good k1'.good nc nb (by omega) (by omega)
  have k2 := and_by k1.good nc nb (by omega)
  have ec : emL f1 (notL c) = notL (emL f c) := by rw [emL_notL, emL_old h1 hc]
  have eb : emL f1 b = emL f b := emL_old h1 hb
  rw [ec, eb] at E2 e2
  have k2' := and_by k1'.good (a := notL (emL f c)) (b := emL f b) (by rw [← ec]; exact E1.litlt nc) (by rw [← eb]; exact E1.litlt nb) (by omega)
  have g2 := k2.grows.le
  have l2 := k2.le
  have l2' := k2'.le
  have t1 := k1.lt
  have np : (andM gs c a).1 < 2 * (andM (andM gs c a).2 (notL c) b).2.length := by omega
  obtain ⟨f3, h3, E3, e3⟩ := orM_emb E2 k2.good k2'.good np k2.lt (by omega) (by omega)
  have ep : emL f2 (andM gs c a).1 = (andM hs (emL f c) (emL f a)).1 := by rw [emL_old h2 t1, e1]
  rw [ep, e2] at E3 e3
  exact ⟨f3, fun n hn => by rw [h3 n (by omega), h2 n (by omega), h1 n hn], E3, e3⟩
theorem all3_emb (E : Emb f gs hs) (gg : GoodG gs) (gh : GoodG hs) {a b c : Nat} (ha : a < 2 * gs.length) (hb : b < 2 * gs.length) (hc : c < 2 * gs.length) (hl : gs.length + 3 ≤ 1073741824) (hl2 : hs.length + 3 ≤ 1073741824) :
    Two f gs (allM gs [a, b, c]) (allM hs [emL f a, emL f b, emL f c]) := by
  obtain ⟨f1, h1, E1, e1⟩ := andM_emb E gg gh ha hb (by omega) (by omega)
  have k1 := and_by gg ha hb (by omega)
  have k1' := and_by gh (E.litlt ha) (E.litlt hb) (by omega)
  have g1 := k1.grows.le
  have l1 := k1.le
  have l1' := k1'.le
  have nc : c < 2 * (andM gs a b).2.length := by omega
  obtain ⟨f2, h2, E2, e2⟩ := andM_emb E1 k1.good k1'.good k1.lt nc (by omega) (by omega)
  rw [e1, emL_old h1 hc] at E2 e2
  exact ⟨f2, fun n hn => by rw [h2 n (by omega), h1 n hn], E2, e2⟩
theorem mk1_emb (E : Emb f gs hs) (gg : GoodG gs) (gh : GoodG hs) (k : Int) (hk : ¬ isIn k) {a b c : Nat} (ha : a < 2 * gs.length) (hb : b < 2 * gs.length) (hc : c < 2 * gs.length) (hl : gs.length + 3 ≤ 1073741824) (hl2 : hs.length + 3 ≤ 1073741824) :
    Two f gs (mk1 gs k a b c) (mk1 hs k (emL f a) (emL f b) (emL f c)) := by
  unfold isIn at hk
  simp only [Decidable.not_not] at hk
  rcases hk with rfl | rfl | rfl | rfl | rfl
  · simpa [mk1] using two_and E gg gh ha hb (by omega) (by omega)
  · simpa [mk1] using orM_emb E gg gh ha hb (by omega) (by omega)
  · simpa [mk1] using xorM_emb E gg gh ha hb hl hl2
  · simpa [mk1] using muxM_emb E gg gh hc ha hb hl hl2
  · simpa [mk1] using all3_emb E gg gh ha hb hc hl hl2

/-- Two makings that go alike. -/
structure MkRel (f : Nat → Nat) (p q : Nodes × List Nat) : Prop where
  emb : Emb f p.1 q.1
  good1 : GoodG p.1
  good2 : GoodG q.1
  lits : ∀ y ∈ p.2, y < 2 * p.1.length
  pos : 0 < p.2.length
  same : q.2 = p.2.map (emL f)
theorem pickM_emb (f : Nat → Nat) {l : List Nat} (hp : 0 < l.length) (i : Int) : pickM (l.map (emL f)) i = emL f (pickM l i) := by
  have hr := roundI_lt hp i
  have e : (l.map (emL f)).getD (roundI l.length i) 0 = emL f (l.getD (roundI l.length i) 0) := by simp [List.getD_eq_getElem?_getD, hr]
  unfold pickM
  rw [List.length_map, e]
  split
  · rw [emL_notL]
  · rfl
theorem MkRel.step {p q : Nodes × List Nat} (r : MkRel f p q) (s : Mk) (hk : ¬ isIn s.1) (hl : p.1.length + 3 ≤ 1073741824) (hl2 : q.1.length + 3 ≤ 1073741824) :
    (∃ f', MkRel f' (mkStep p s) (mkStep q s)) ∧ (mkStep p s).1.length ≤ p.1.length + 3 ∧ (mkStep q s).1.length ≤ q.1.length + 3 := by
  have ha := pickM_lt r.pos r.lits s.2.1
  have hb := pickM_lt r.pos r.lits s.2.2.1
  have hc := pickM_lt r.pos r.lits s.2.2.2
  have ea := pickM_emb f r.pos s.2.1
  have eb := pickM_emb f r.pos s.2.2.1
  have ec := pickM_emb f r.pos s.2.2.2
  rw [← r.same] at ea eb ec
  obtain ⟨f', h1, E', e'⟩ := mk1_emb r.emb r.good1 r.good2 s.1 hk ha hb hc hl hl2
  obtain ⟨g1, g2, -, -⟩ := mk1_by r.good1 s.1 ha hb hc hl
  obtain ⟨g1', -, -, -⟩ := mk1_by r.good2 s.1 (r.emb.litlt ha) (r.emb.litlt hb) (r.emb.litlt hc) hl2
  have t := mk1_lt s.1 r.good1.pos ha hb hc
  have t' := mk1_lt s.1 r.good2.pos (r.emb.litlt ha) (r.emb.litlt hb) (r.emb.litlt hc)
  unfold mkStep
  rw [ea, eb, ec]
  refine ⟨⟨f', E', g1, g1', ?_, by simp, ?_⟩, t.2.2, t'.2.2⟩
  · intro y hy
    simp only at hy ⊢
    rcases List.mem_append.1 hy with h | h
    · have := r.lits y h; omega
    · rw [List.mem_singleton.1 h]; exact t.1
  · simp only [List.map_append, List.map_cons, List.map_nil, e', r.same]
    congr 1
    refine List.map_congr_left fun y hy => ?_
    exact (emL_old h1 (r.lits y hy)).symm
theorem MkRel.fold (l : List Mk) (hk : ∀ s ∈ l, ¬ isIn s.1) : ∀ {f : Nat → Nat} {p q : Nodes × List Nat}, MkRel f p q → p.1.length + 3 * l.length ≤ 1073741824 → q.1.length + 3 * l.length ≤ 1073741824 →
    ∃ f', MkRel f' (l.foldl mkStep p) (l.foldl mkStep q) ∧ (l.foldl mkStep p).1.length ≤ p.1.length + 3 * l.length ∧ (l.foldl mkStep q).1.length ≤ q.1.length + 3 * l.length ∧ (l.foldl mkStep q).2.length = q.2.length + l.length := by
  induction l with
  | nil => intro f p q r _ _; exact ⟨f, r, by simp, by simp, by simp⟩
  | cons s l ih =>
    intro f p q r h1 h2
    simp only [List.length_cons] at h1 h2
    obtain ⟨⟨f', r'⟩, k1, k2⟩ := r.step s (hk s List.mem_cons_self) (by omega) (by omega)
    obtain ⟨f2, r2, k3, k4, k5⟩ := ih (fun y hy => hk y (List.mem_cons_of_mem _ hy)) r' (by omega) (by omega)
    refine ⟨f2, r2, ?_, ?_, ?_⟩
    · rw [List.foldl_cons, List.length_cons]; omega
    · rw [List.foldl_cons, List.length_cons]; omega
    · rw [List.foldl_cons, List.length_cons, k5]; simp [mkStep]; omega
end

/-! ### The law's scripts -/
def firstM (n : Nat) : List Mk := List.replicate n (1, 0, 0, 0)
def restM (l : List Mk) : List Mk := l.filter fun s => !decide (isIn s.1)
def countM (l : List Mk) : Nat := (l.filter fun s => decide (isIn s.1)).length
theorem restM_in (l : List Mk) : ∀ s ∈ restM l, ¬ isIn s.1 := fun s hs => by simpa using (List.mem_filter.1 hs).2
theorem restM_sub {l : List Mk} : ∀ s ∈ restM l, s ∈ l := fun s hs => (List.mem_filter.1 hs).1
theorem count_rest (l : List Mk) : countM l + (restM l).length = l.length := by
  induction l with
  | nil => rfl
  | cons s l ih =>
    unfold countM restM at *
    by_cases h : isIn s.1
    · simp [List.filter_cons, h]; omega
    · simp [List.filter_cons, h]; omega
theorem firstM_made (n : Nat) : madeM (firstM n) = (insG n, 0 :: ownG n) := by
  induction n with
  | zero => rfl
  | succ n ih =>
    have e : firstM (n + 1) = firstM n ++ [(1, 0, 0, 0)] := by unfold firstM; rw [List.replicate_succ']
    rw [e, madeM_snoc, ih, insG_succ, ownG_succ]
    unfold mkStep mk1
    simp only
    rw [if_neg (by decide), if_neg (by decide), if_neg (by decide), if_neg (by decide), if_neg (by decide), insG_ins, insG_len]
    simp
theorem madeM_app (a b : List Mk) : madeM (a ++ b) = b.foldl mkStep (madeM a) := by simp [madeM]
theorem fold_take {l : List Mk} : ∀ (p : Nodes × List Nat), ∃ x, (l.foldl mkStep p).2 = p.2 ++ x := by
  induction l with
  | nil => intro p; exact ⟨[], by simp⟩
  | cons s l ih =>
    intro p
    obtain ⟨x, hx⟩ := ih (mkStep p s)
    exact ⟨_, by rw [List.foldl_cons, hx]; exact List.append_assoc _ _ _⟩
/-- Late gates: the inputs stay as they are. -/
theorem late_grows (I : Nat) (l : List Mk) (hk : ∀ s ∈ l, ¬ isIn s.1) (hl : I + l.length ≤ 100000000) :
    Grows (insG I) (madeM (firstM I ++ l)).1 ∧ (inputsOf (madeM (firstM I ++ l)).1).length = I := by
  revert hk hl
  refine snoc_ind (P := fun l => (∀ s ∈ l, ¬ isIn s.1) → I + l.length ≤ 100000000 → Grows (insG I) (madeM (firstM I ++ l)).1 ∧ (inputsOf (madeM (firstM I ++ l)).1).length = I) ?_ ?_ l
  · intro _ _
    rw [List.append_nil, firstM_made]
    exact ⟨Grows.refl _, by rw [insG_ins]; simp⟩
  · intro l s ih hk hl
    simp only [List.length_append, List.length_singleton] at hl
    obtain ⟨h1, h2⟩ := ih (fun y hy => hk y (List.mem_append_left _ hy)) (by omega)
    have hlen : (firstM I ++ l).length = I + l.length := by simp [firstM]
    have ok := madeM_ok (firstM I ++ l)
    have g := (madeM_good (firstM I ++ l) (by omega)).1
    have hp : 0 < (madeM (firstM I ++ l)).2.length := by have := ok.len; omega
    have hs := ok.small
    obtain ⟨m1, m2, m3, -⟩ := mk1_by g s.1 (pickM_lt hp ok.lits s.2.1) (pickM_lt hp ok.lits s.2.2.1) (pickM_lt hp ok.lits s.2.2.2) (by omega)
    have hks := hk s (by simp)
    unfold isIn at hks
    simp only [Decidable.not_not] at hks
    rw [if_pos hks, Nat.add_zero] at m3
    rw [← List.append_assoc, madeM_snoc]
    exact ⟨h1.trans m2, by show (inputsOf (mk1 _ _ _ _ _).2).length = I; rw [m3, h2]⟩
theorem emb_id {I : Nat} {hs : Nodes} (g : Grows (insG I) hs) (e : (inputsOf hs).length = I) : Emb id (insG I) hs := by
  obtain ⟨k, hk⟩ := g
  obtain ⟨x, hx⟩ := inputsOf_append (insG I) k
  rw [← hk] at hx
  have h1 : (inputsOf hs).length = I + x.length := by rw [hx, List.length_append, insG_ins]; simp
  have hx0 : x = [] := List.eq_nil_of_length_eq_zero (by omega)
  rw [hx0, List.append_nil] at hx
  refine ⟨rfl, fun n hn => ?_, fun m n _ _ h => h, fun n hn => Grows.isGate ⟨k, hk⟩ hn, fun n hn hg => ?_, by rw [hx]; simp⟩
  · rw [hk]; simp; omega
  · rw [insG_gate _ _ hn] at hg; cases hg
theorem emL_id (x : Nat) : emL id x = x := by unfold emL; simp; omega
/-- The second graph, and its literals behind the first j makings. -/
def secM (script other : List Mk) (j : Nat) : Nodes × List Nat :=
  ((restM script).take j).foldl mkStep ((madeM (firstM (countM script) ++ restM other)).1, (madeM (firstM (countM script) ++ restM other)).2.take (1 + countM script))
def fstM (script : List Mk) (j : Nat) : Nodes × List Nat := madeM (firstM (countM script) ++ (restM script).take j)
theorem struct_at (script other : List Mk) (hl : script.length ≤ 2097152) (hl2 : other.length ≤ 2097152) (j : Nat) (hj : j ≤ (restM script).length) :
    ∃ f, MkRel f (fstM script j) (secM script other j) ∧ (fstM script j).1.length ≤ 100000000 ∧ (secM script other j).1.length ≤ 100000000 ∧ (secM script other j).2.length = 1 + countM script + j ∧ 1 + countM script ≤ (madeM (firstM (countM script) ++ restM other)).2.length := by
  have hcr := count_rest script
  have hco := count_rest other
  have hI : countM script ≤ 2097152 := by omega
  obtain ⟨lg, li⟩ := late_grows (countM script) (restM other) (restM_in other) (by omega)
  have hlen0 : (firstM (countM script) ++ restM other).length = countM script + (restM other).length := by simp [firstM]
  have ok0 := madeM_ok (firstM (countM script) ++ restM other)
  have g0 := (madeM_good (firstM (countM script) ++ restM other) (by omega)).1
  obtain ⟨x, hx⟩ := fold_take (l := restM other) (madeM (firstM (countM script)))
  rw [← madeM_app, firstM_made] at hx
  have hB0l := ok0.len
  have hB0s := ok0.small
  have hfst : fstM script j = ((restM script).take j).foldl mkStep (insG (countM script), 0 :: ownG (countM script)) := by
    unfold fstM; rw [madeM_app, firstM_made]
  rw [hfst]
  unfold secM
  generalize madeM (firstM (countM script) ++ restM other) = B0 at *
  have htk : B0.2.take (1 + countM script) = 0 :: ownG (countM script) := by
    rw [hx]
    simp only
    rw [List.take_append_of_le_length (by simp [ownG]; omega)]
    rw [List.take_of_length_le (by simp [ownG]; omega)]
  have start : MkRel id (insG (countM script), 0 :: ownG (countM script)) (B0.1, B0.2.take (1 + countM script)) :=
    ⟨emb_id lg li, insG_good _, g0, fun y hy => by
      rcases List.mem_cons.1 hy with rfl | h
      · show 0 < 2 * (insG _).length; rw [insG_len]; omega
      · exact ownG_lt _ y h, by simp, by
      rw [htk]
      conv => lhs; rw [← List.map_id (0 :: ownG (countM script))]
      exact List.map_congr_left fun y _ => (emL_id y).symm⟩
  have hins := insG_len (countM script)
  have htl : ((restM script).take j).length = j := by simp; omega
  obtain ⟨f', r, k1, k2, k3⟩ := start.fold ((restM script).take j) (fun s hs => restM_in script s (List.mem_of_mem_take hs)) (by simp only; omega) (by simp only; omega)
  have hql : (B0.2.take (1 + countM script)).length = 1 + countM script := by rw [htk]; simp [ownG]; omega
  rw [htl] at k1 k2 k3
  simp only at k1 k2 k3
  rw [hql] at k3
  exact ⟨f', r, by omega, by omega, k3, by omega⟩
theorem secM_zero (script other : List Mk) : secM script other 0 = ((madeM (firstM (countM script) ++ restM other)).1, (madeM (firstM (countM script) ++ restM other)).2.take (1 + countM script)) := rfl
theorem secM_succ (script other : List Mk) {j : Nat} (hj : j < (restM script).length) : secM script other (j + 1) = mkStep (secM script other j) (restM script)[j] := by
  unfold secM
  rw [List.take_succ_eq_append_getElem hj, List.foldl_append]; rfl
/-- One text whatever else is there, in whatever order. -/
theorem struct_law (script other : List Mk) (hl : script.length ≤ 2097152) (hl2 : other.length ≤ 2097152) (roots : List Int) :
    printM (secM script other (restM script).length).1 (roots.map (pickM (secM script other (restM script).length).2)) = printM (madeM (firstM (countM script) ++ restM script)).1 (roots.map (pickM (madeM (firstM (countM script) ++ restM script)).2)) ∧
    (coneM (secM script other (restM script).length).1 (roots.map (pickM (secM script other (restM script).length).2))).length = (coneM (madeM (firstM (countM script) ++ restM script)).1 (roots.map (pickM (madeM (firstM (countM script) ++ restM script)).2))).length := by
  obtain ⟨f, r, h1, h2, -⟩ := struct_at script other hl hl2 (restM script).length (Nat.le_refl _)
  have hf : fstM script (restM script).length = madeM (firstM (countM script) ++ restM script) := by unfold fstM; rw [List.take_length]
  rw [hf] at r h1
  generalize madeM (firstM (countM script) ++ restM script) = A at *
  generalize secM script other (restM script).length = B at *
  have e : roots.map (pickM B.2) = (roots.map (pickM A.2)).map (emL f) := by
    rw [List.map_map, r.same]
    exact List.map_congr_left fun i _ => pickM_emb f r.pos i
  have hx : ∀ y ∈ roots.map (pickM A.2), y < 2 * A.1.length := fun y hy => by
    obtain ⟨i, _, rfl⟩ := List.mem_map.1 hy
    exact pickM_lt r.pos r.lits i
  rw [e]
  exact ⟨print_emb r.emb r.good1 r.good2 hx, by rw [cone_emb r.emb r.good1.wf r.good2.wf hx, List.length_map]⟩
theorem countM_snoc (l : List Mk) (s : Mk) : countM (l ++ [s]) = countM l + if isIn s.1 then 1 else 0 := by
  unfold countM
  rw [List.filter_append, List.length_append]
  by_cases h : isIn s.1 <;> simp [h]
theorem restM_snoc (l : List Mk) (s : Mk) : restM (l ++ [s]) = restM l ++ if isIn s.1 then [] else [s] := by
  unfold restM
  rw [List.filter_append]
  by_cases h : isIn s.1 <;> simp [h]
theorem firstM_succ (n : Nat) : firstM (n + 1) = firstM n ++ [(1, 0, 0, 0)] := by unfold firstM; rw [List.replicate_succ']
theorem isIn_iff (k : Int) : isIn k ↔ k < 2 ∨ 6 < k := by unfold isIn; omega
end Go.Proofs.YtjllogellpfpkaaDoor
