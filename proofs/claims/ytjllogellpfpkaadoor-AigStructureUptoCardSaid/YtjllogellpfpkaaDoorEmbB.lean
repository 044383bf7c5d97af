/- What a graph's text is; a graph within another has its cones and its texts. Plain laws. -/
import Derived.Test.YtjllogellpfpkaaDoorEmbA
import Derived.Lib.ItoaNum
set_option linter.unusedVariables false
set_option linter.unusedSimpArgs false
namespace Go.Proofs.YtjllogellpfpkaaDoor
open Go

/-- What two walks have met. -/
structure Rel (f : Nat → Nat) (ns hs : Nodes) (s t : CS) : Prop where
  l1 : s.1.length = ns.length
  l2 : t.1.length = hs.length
  met : ∀ m, m < ns.length → t.1.getD (f m) true = s.1.getD m true
  out : t.2 = s.2.map f
section
variable {f : Nat → Nat} {ns hs : Nodes}
theorem getD_set_true' {l : List Bool} {n m : Nat} : (l.set n true).getD m true = if m = n then true else l.getD m true := getD_set_true l n m
theorem Rel.set (E : Emb f ns hs) {s t : CS} (r : Rel f ns hs s t) {n : Nat} (hn : n < ns.length) : Rel f ns hs (s.1.set n true, s.2) (t.1.set (f n) true, t.2) :=
  ⟨by simp [r.l1], by simp [r.l2], fun m hm => by
    simp only [getD_set_true']
    by_cases h : m = n
    · subst h; simp
    · rw [if_neg h, if_neg (fun e => h (E.inj m n hm hn e))]; exact r.met m hm, r.out⟩
theorem opA_nd (ns : Nodes) (n : Nat) : opA ns n = (nd ns n).1 / 2 := rfl
theorem opB_nd (ns : Nodes) (n : Nat) : opB ns n = (nd ns n).2 / 2 := rfl
theorem meet_emb (E : Emb f ns hs) (wn : Wf ns) (wh : Wf hs) : ∀ n, n < ns.length → ∀ fu fu', n < fu → f n < fu' → ∀ s t, Rel f ns hs s t → Rel f ns hs (meet ns fu n s) (meet hs fu' (f n) t) := by
  intro n
  induction n using Nat.strongRecOn with
  | _ n ih =>
    intro hn fu fu' h1 h2 s t r
    obtain ⟨fu, rfl⟩ : ∃ m, fu = m + 1 := ⟨fu - 1, by omega⟩
    obtain ⟨fu', rfl⟩ : ∃ m, fu' = m + 1 := ⟨fu' - 1, by omega⟩
    simp only [meet, r.met n hn, E.isg n hn]
    by_cases hm : s.1.getD n true = true
    · rw [if_pos hm, if_pos hm]; exact r
    rw [if_neg hm, if_neg hm]
    have rs := r.set E hn
    by_cases hg : isGate ns n = true
    · rw [if_pos hg, if_pos hg]
      have o := wn.2 n hn hg
      have o' := wh.2 (f n) (E.lt n hn) (by rw [E.isg n hn]; exact hg)
      have eA : opA hs (f n) = f (opA ns n) := by rw [opA_nd, opA_nd, E.gate n hn hg]; exact emL_div _ _
      have eB : opB hs (f n) = f (opB ns n) := by rw [opB_nd, opB_nd, E.gate n hn hg]; exact emL_div _ _
      rw [eA, eB] at o'
      rw [eA, eB]
      have r1 := ih _ o.1 (by omega) fu fu' (by omega) (by omega) _ _ rs
      have r2 := ih _ o.2 (by omega) fu fu' (by omega) (by omega) _ _ r1
      exact ⟨r2.l1, r2.l2, r2.met, by simp only [List.map_append, r2.out, List.map_cons, List.map_nil]⟩
    · rw [if_neg hg, if_neg hg]
      exact ⟨rs.l1, rs.l2, rs.met, by have ro := r.out; simp only [List.map_append, ro, List.map_cons, List.map_nil]⟩
theorem cone_emb (E : Emb f ns hs) (wn : Wf ns) (wh : Wf hs) {roots : List Nat} (hx : ∀ r ∈ roots, r < 2 * ns.length) : coneM hs (roots.map (emL f)) = (coneM ns roots).map f := by
  have h0 : Rel f ns hs (cone0 ns) (cone0 hs) := by
    refine ⟨by simp [cone0], by simp [cone0], fun m hm => ?_, rfl⟩
    unfold cone0
    simp only [getD_set_true']
    by_cases h : m = 0
    · subst h; simp [E.zero]
    · have hf : f m ≠ 0 := fun e => h (E.inj m 0 hm (by omega) (e.trans E.zero.symm))
      have := E.lt m hm
      rw [if_neg h, if_neg hf]
      simp [List.getD_eq_getElem?_getD, hm, this]
  have key : ∀ (l : List Nat), (∀ r ∈ l, r < 2 * ns.length) → ∀ s t, Rel f ns hs s t → Rel f ns hs (meetAll ns l s) (meetAll hs (l.map (emL f)) t) := by
    intro l
    induction l with
    | nil => intro _ s t r; exact r
    | cons x l ih =>
      intro hx s t r
      have hxl := hx x List.mem_cons_self
      have hfl := E.lt (x / 2) (by omega)
      refine ih (fun y hy => hx y (List.mem_cons_of_mem _ hy)) _ _ ?_
      show Rel f ns hs (meet ns ns.length (x / 2) s) (meet hs hs.length (emL f x / 2) t)
      rw [emL_div]
      exact meet_emb E wn wh _ (by omega) _ _ (by omega) hfl _ _ r
  exact (key roots hx _ _ h0).out
end

/-! ### Texts -/
theorem flatMap_congr' {α β : Type} {l : List α} {f g : α → List β} (h : ∀ x ∈ l, f x = g x) : l.flatMap f = l.flatMap g := by
  induction l with
  | nil => rfl
  | cons x l ih => rw [List.flatMap_cons, List.flatMap_cons, h x List.mem_cons_self, ih fun y hy => h y (List.mem_cons_of_mem _ hy)]
/-- The gates met so far, and their numbers. -/
def numStep (ns : Nodes) (I : Nat) (p : List Nat × List Nat) (n : Nat) : List Nat × List Nat :=
  if isGate ns n then (p.1 ++ [n], p.2.set n (I + (p.1.length + 1))) else p
def numGates (ns : Nodes) (K : List Nat) : List Nat × List Nat := K.foldl (numStep ns (inputsOf ns).length) ([], List.replicate ns.length 0)
def numIns (ins : List Nat) (V : List Nat) (j : Nat) : List Nat := (List.range j).foldl (fun V i => V.set (ins.getD i 0) (i + 1)) V
def litV (V : List Nat) (l : Nat) : Nat := 2 * V.getD (l / 2) 0 + l % 2
def joinTo (l : List Nat) (j : Nat) : List UInt8 := (List.range j).flatMap fun i => (if i = 0 then [] else [32]) ++ Lib.decDigits (l.getD i 0)
def lineM (l : List Nat) : List UInt8 := joinTo l l.length ++ [10]
def linesI (j : Nat) : List UInt8 := (List.range j).flatMap fun i => lineM [2 * (i + 1)]
def linesR (V roots : List Nat) : List UInt8 := roots.flatMap fun r => lineM [litV V r]
def lineG (ns : Nodes) (V : List Nat) (n : Nat) : List UInt8 := lineM [2 * V.getD n 0, litV V (nd ns n).1, litV V (nd ns n).2]
def linesG (ns : Nodes) (V G : List Nat) : List UInt8 := G.flatMap (lineG ns V)
def textOf (ns : Nodes) (I : Nat) (roots G V : List Nat) : List UInt8 :=
  [97, 97, 103, 32] ++ lineM [I + G.length, I, 0, roots.length, G.length] ++ linesI I ++ linesR V roots ++ linesG ns V G
def valsM (ns : Nodes) (roots : List Nat) : List Nat := numIns (inputsOf ns) (numGates ns (coneM ns roots)).2 (inputsOf ns).length
def printM (ns : Nodes) (roots : List Nat) : List UInt8 := textOf ns (inputsOf ns).length roots (numGates ns (coneM ns roots)).1 (valsM ns roots)

section
variable {f : Nat → Nat} {ns hs : Nodes}
/-- Two rows of numbers say the same. -/
structure Num (f : Nat → Nat) (ns hs : Nodes) (V W : List Nat) : Prop where
  l1 : V.length = ns.length
  l2 : W.length = hs.length
  val : ∀ m, m < ns.length → W.getD (f m) 0 = V.getD m 0
theorem getD_setN {l : List Nat} {n m x : Nat} (hn : n < l.length) : (l.set n x).getD m 0 = if m = n then x else l.getD m 0 := by
  by_cases h : m = n
  · subst h; simp [List.getD_eq_getElem?_getD, hn]
  · rw [if_neg h]; simp [List.getD_eq_getElem?_getD, List.getElem?_set, Ne.symm h]
theorem Num.set (E : Emb f ns hs) {V W : List Nat} (r : Num f ns hs V W) {n : Nat} (hn : n < ns.length) (x : Nat) : Num f ns hs (V.set n x) (W.set (f n) x) :=
  ⟨by simp [r.l1], by simp [r.l2], fun m hm => by
    rw [getD_setN (by rw [r.l2]; exact E.lt n hn), getD_setN (by rw [r.l1]; exact hn)]
    by_cases h : m = n
    · subst h; simp
    · rw [if_neg h, if_neg (fun e => h (E.inj m n hm hn e))]; exact r.val m hm⟩
theorem numGates_emb (E : Emb f ns hs) {K : List Nat} (hK : ∀ n ∈ K, n < ns.length) :
    (numGates hs (K.map f)).1 = (numGates ns K).1.map f ∧ Num f ns hs (numGates ns K).2 (numGates hs (K.map f)).2 := by
  have hI : (inputsOf hs).length = (inputsOf ns).length := by rw [E.ins, List.length_map]
  have key : ∀ (l : List Nat), (∀ n ∈ l, n < ns.length) → ∀ p q : List Nat × List Nat, q.1 = p.1.map f → Num f ns hs p.2 q.2 →
      ((l.map f).foldl (numStep hs (inputsOf hs).length) q).1 = (l.foldl (numStep ns (inputsOf ns).length) p).1.map f ∧ Num f ns hs (l.foldl (numStep ns (inputsOf ns).length) p).2 ((l.map f).foldl (numStep hs (inputsOf hs).length) q).2 := by
    intro l
    induction l with
    | nil => intro _ p q h1 h2; exact ⟨h1, h2⟩
    | cons n l ih =>
      intro hx p q h1 h2
      have hn := hx n List.mem_cons_self
      refine ih (fun y hy => hx y (List.mem_cons_of_mem _ hy)) _ _ ?_ ?_
      · unfold numStep; rw [E.isg n hn]
        split
        · simp [h1]
        · exact h1
      · unfold numStep; rw [E.isg n hn]
        split
        · simp only [hI, h1, List.length_map]; exact h2.set E hn _
        · exact h2
  refine key K hK _ _ rfl ⟨by simp, by simp, fun m hm => ?_⟩
  have := E.lt m hm
  simp [List.getD_eq_getElem?_getD, hm, this]
theorem numIns_succ (ins V : List Nat) (j : Nat) : numIns ins V (j + 1) = (numIns ins V j).set (ins.getD j 0) (j + 1) := by
  simp [numIns, List.range_succ]
theorem numIns_emb (E : Emb f ns hs) {V W : List Nat} (r : Num f ns hs V W) : ∀ j, j ≤ (inputsOf ns).length → Num f ns hs (numIns (inputsOf ns) V j) (numIns (inputsOf hs) W j) := by
  intro j
  induction j with
  | zero => intro _; exact r
  | succ j ih =>
    intro hj
    rw [numIns_succ, numIns_succ]
    have hg : (inputsOf hs).getD j 0 = f ((inputsOf ns).getD j 0) := by
      rw [E.ins]
      simp [List.getD_eq_getElem?_getD, show j < (inputsOf ns).length by omega]
    rw [hg]
    refine (ih (by omega)).set E ?_ _
    have : (inputsOf ns).getD j 0 = (inputsOf ns)[j] := by simp [List.getD_eq_getElem?_getD, show j < (inputsOf ns).length by omega]
    rw [this]
    exact inputs_lt (List.getElem_mem _)
theorem numGates_mem {K : List Nat} : ∀ n ∈ (numGates ns K).1, n ∈ K ∧ isGate ns n = true := by
  have key : ∀ (l : List Nat) (p : List Nat × List Nat), ∀ n ∈ (l.foldl (numStep ns (inputsOf ns).length) p).1, n ∈ p.1 ∨ n ∈ l ∧ isGate ns n = true := by
    intro l
    induction l with
    | nil => intro p n h; exact .inl h
    | cons x l ih =>
      intro p n h
      rcases ih _ n h with h | ⟨h, hg⟩
      · unfold numStep at h
        split at h
        · rename_i hg
          rcases List.mem_append.1 h with h | h
          · exact .inl h
          · have := List.mem_singleton.1 h; subst this; exact .inr ⟨List.mem_cons_self, hg⟩
        · exact .inl h
      · exact .inr ⟨List.mem_cons_of_mem _ h, hg⟩
  intro n h
  rcases key K _ n h with h | h
  · cases h
  · exact h
theorem litV_emb (E : Emb f ns hs) {V W : List Nat} (r : Num f ns hs V W) {x : Nat} (hx : x < 2 * ns.length) : litV W (emL f x) = litV V x := by
  unfold litV
  rw [emL_div, emL_mod, r.val _ (by omega)]
/-- The text is the same. -/
theorem print_emb (E : Emb f ns hs) (gn : GoodG ns) (gh : GoodG hs) {roots : List Nat} (hx : ∀ r ∈ roots, r < 2 * ns.length) : printM hs (roots.map (emL f)) = printM ns roots := by
  have hI : (inputsOf hs).length = (inputsOf ns).length := by rw [E.ins, List.length_map]
  have hK := cone_emb E gn.wf gh.wf hx
  have hL := (coneM_lined gn.wf roots hx).1
  have hn := numGates_emb E (K := coneM ns roots) fun n h => (hL.mem n h).2
  have hV := numIns_emb E hn.2 (inputsOf ns).length (Nat.le_refl _)
  have hm := numGates_mem (ns := ns) (K := coneM ns roots)
  unfold printM valsM textOf
  rw [hK, hI, hn.1, List.length_map, List.length_map]
  generalize (numGates ns (coneM ns roots)).1 = G at *
  generalize numIns (inputsOf hs) _ _ = W at *
  generalize numIns (inputsOf ns) _ _ = V at *
  have e1 : linesR W (roots.map (emL f)) = linesR V roots := by
    unfold linesR
    rw [List.flatMap_map]
    refine flatMap_congr' fun r hr => ?_
    simp only [litV_emb E hV (hx r hr)]
  have e2 : linesG hs W (G.map f) = linesG ns V G := by
    unfold linesG
    rw [List.flatMap_map]
    refine flatMap_congr' fun n hn => ?_
    obtain ⟨h1, h2⟩ := hm n hn
    have hln := (hL.mem n h1).2
    have hg := gn.gate n hln h2
    unfold lineG
    simp only [E.gate n hln h2, litV_emb E hV (show (nd ns n).1 < 2 * ns.length by omega), litV_emb E hV (show (nd ns n).2 < 2 * ns.length by omega), hV.val n hln]
  rw [e1, e2]
/-- How great the numbers are. -/
theorem numGates_len (K : List Nat) : (numGates ns K).1.length ≤ K.length ∧ (numGates ns K).2.length = ns.length ∧ ∀ y ∈ (numGates ns K).2, y ≤ (inputsOf ns).length + K.length := by
  refine snoc_ind (P := fun K => (numGates ns K).1.length ≤ K.length ∧ (numGates ns K).2.length = ns.length ∧ ∀ y ∈ (numGates ns K).2, y ≤ (inputsOf ns).length + K.length) ?_ ?_ K
  · refine ⟨by simp [numGates], by simp [numGates], fun y hy => ?_⟩
    unfold numGates at hy
    rw [List.foldl_nil] at hy
    rw [(List.mem_replicate.1 hy).2]; exact Nat.zero_le _
  · intro l a ⟨h1, h2, h3⟩
    have e : numGates ns (l ++ [a]) = numStep ns (inputsOf ns).length (numGates ns l) a := by simp [numGates]
    rw [e]
    unfold numStep
    simp only [List.length_append, List.length_singleton]
    split
    · refine ⟨by simp; omega, by simp [h2], fun y hy => ?_⟩
      rcases List.mem_or_eq_of_mem_set hy with h | h
      · have := h3 y h; omega
      · omega
    · exact ⟨by omega, h2, fun y hy => by have := h3 y hy; omega⟩
theorem numIns_len (ins V : List Nat) (j : Nat) : (numIns ins V j).length = V.length := by
  induction j with
  | zero => rfl
  | succ j ih => rw [numIns_succ, List.length_set, ih]
theorem numIns_le {ins V : List Nat} {B : Nat} (h : ∀ y ∈ V, y ≤ B) (j : Nat) (hj : j ≤ B) : ∀ y ∈ numIns ins V j, y ≤ B := by
  induction j with
  | zero => exact h
  | succ j ih =>
    intro y hy
    rw [numIns_succ] at hy
    rcases List.mem_or_eq_of_mem_set hy with h | h
    · exact ih (by omega) y h
    · omega
theorem litV_lt {V : List Nat} {B : Nat} (h : ∀ y ∈ V, y ≤ B) (x : Nat) : litV V x ≤ 2 * B + 1 := by
  unfold litV
  rcases Nat.lt_or_ge (x / 2) V.length with hl | hl
  · have e : V.getD (x / 2) 0 = V[x / 2] := by simp [List.getD_eq_getElem?_getD, hl]
    have := h _ (List.getElem_mem hl)
    rw [e]; omega
  · have e : V.getD (x / 2) 0 = 0 := by simp [List.getD_eq_getElem?_getD, hl]
    rw [e]; omega
theorem joinTo_succ (l : List Nat) (j : Nat) : joinTo l (j + 1) = joinTo l j ++ ((if j = 0 then [] else [32]) ++ Lib.decDigits (l.getD j 0)) := by
  simp [joinTo, List.range_succ]
theorem linesI_succ (j : Nat) : linesI (j + 1) = linesI j ++ lineM [2 * (j + 1)] := by simp [linesI, List.range_succ]
theorem linesR_snoc (V l : List Nat) (r : Nat) : linesR V (l ++ [r]) = linesR V l ++ lineM [litV V r] := by simp [linesR]
theorem linesG_snoc (ns : Nodes) (V l : List Nat) (n : Nat) : linesG ns V (l ++ [n]) = linesG ns V l ++ lineG ns V n := by simp [linesG]
end
end Go.Proofs.YtjllogellpfpkaaDoor
