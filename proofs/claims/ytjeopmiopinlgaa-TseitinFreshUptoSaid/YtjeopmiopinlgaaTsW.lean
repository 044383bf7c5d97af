/- What the clauses of circuits are under the values that inputs give: plain laws. -/
import Derived.Test.YtjeopmiopinlgaaCnfU
import Derived.Test.YtjeopmiopinlgaaTsP
import Derived.Test.YtjeopmiopinlgaaTsQ
import Derived.Test.YtjeopmiopinlgaaTsJ
import Derived.Test.YtjeopmiopinlgaaAigX
set_option linter.unusedVariables false
set_option linter.unusedSimpArgs false
namespace Go.Proofs.Ytjeopmiopinlgaa

theorem litOk_neg (l : Int) : litOk (-l) = litOk l := by
  rw [Bool.eq_iff_iff, litOk_iff, litOk_iff]; omega
theorem varM_neg (l : Int) : varM (-l) = varM l := by unfold varM; split <;> split <;> omega
theorem ofM_neg (m : List Int) (l : Int) : ofM m (-l) = -ofM m l := by
  unfold ofM
  rw [litOk_neg, varM_neg]
  by_cases h : litOk l = true ∧ varM l ≤ m.length
  · rw [if_pos h, if_pos h]
    have hl := (litOk_iff.1 h.1).1
    simp only
    split
    · split <;> split <;> omega
    · rfl
  · rw [if_neg h, if_neg h]; rfl
def fillV (V : Nat → Bool) (K : List Nat) : List Int := K.map fun n => sgn (V n)
theorem sgn_or (b : Bool) : sgn b = 1 ∨ sgn b = -1 := by cases b <;> simp [sgn]
theorem sgn_not (b : Bool) : sgn (!b) = -sgn b := by cases b <;> rfl
theorem sgn_one {b : Bool} : sgn b = 1 ↔ b = true := by cases b <;> simp [sgn]
theorem litT_ok {n : Nat} {K : List Nat} (hd : K.Nodup) (hK : ∀ m ∈ K, m < n) (hl : K.length ≤ 1048576) {x : Nat} (hx : x / 2 ∈ K) :
    litOk (litT (varsM n K) x) = true ∧ varM (litT (varsM n K) x) ≤ K.length ∧ litT (varsM n K) x ≠ 0 ∧ ∃ i, ∃ h : i < K.length, K[i] = x / 2 ∧ litT (varsM n K) x = if x % 2 = 1 then -((i : Int) + 1) else (i : Int) + 1 := by
  obtain ⟨i, hi, he⟩ := List.getElem_of_mem hx
  have hv := varsM_at hd hK hi
  rw [he] at hv
  have hlt : litT (varsM n K) x = if x % 2 = 1 then -((i : Int) + 1) else (i : Int) + 1 := by
    unfold litT; rw [hv]; split <;> simp
  refine ⟨?_, ?_, ?_, i, hi, he, hlt⟩
  · rw [litOk_iff, hlt]; split <;> omega
  · rw [hlt]; unfold varM; split <;> split <;> omega
  · rw [hlt]; split <;> omega
theorem of_lit {n : Nat} {K : List Nat} (hd : K.Nodup) (hK : ∀ m ∈ K, m < n) (hl : K.length ≤ 1048576) (V : Nat → Bool) {x : Nat} (hx : x / 2 ∈ K) : ofM (fillV V K) (litT (varsM n K) x) = sgn (litB V x) := by
  obtain ⟨h1, h2, h3, i, hi, he, hlt⟩ := litT_ok hd hK hl hx
  unfold ofM
  rw [if_pos ⟨h1, by simpa [fillV] using h2⟩]
  have hv : (varM (litT (varsM n K) x)).toNat - 1 = i := by rw [hlt]; unfold varM; split <;> split <;> omega
  have hg : (fillV V K).getD i 0 = sgn (V (x / 2)) := by
    unfold fillV
    rw [List.getD_eq_getElem?_getD, List.getElem?_map, List.getElem?_eq_getElem hi, he]; rfl
  simp only [hv, hg]
  rw [if_pos (sgn_or _), hlt]
  unfold litB
  by_cases ho : x % 2 = 1
  · rw [if_pos ho, if_pos (by omega), ho]
    cases V (x / 2) <;> rfl
  · rw [if_neg ho, if_neg (by omega), show x % 2 = 0 by omega]
    cases V (x / 2) <;> rfl
theorem valM_sgn {c m : List Int} : ∀ {bs : List Bool}, c.map (ofM m) = bs.map sgn → valM c m = sgn (bs.any id) := by
  intro bs h
  have h1 : c.any (fun l => ofM m l == 1) = bs.any id := by
    have e : c.any (fun l => ofM m l == 1) = (c.map (ofM m)).any (fun v => v == 1) := by rw [List.any_map]; rfl
    rw [e, h, List.any_map]
    congr 1
    funext b
    cases b <;> rfl
  have h0 : c.any (fun l => ofM m l == 0) = false := by
    have e : c.any (fun l => ofM m l == 0) = (c.map (ofM m)).any (fun v => v == 0) := by rw [List.any_map]; rfl
    rw [e, h, List.any_map]
    rw [List.any_eq_false]
    intro b _
    cases b <;> simp [sgn]
  unfold valM
  rw [h1, h0]
  cases bs.any id <;> rfl

section
variable {ns : Nodes} {roots : List Nat} {V : Nat → Bool} {inp : Nat → Bool}
/-- Each clause of a gate is true. -/
theorem gateCl_true {K : List Nat} (hgd : GoodG ns) (hli : Lined ns K) (hl : K.length ≤ 1048576) (hv : IsVal ns inp V) (wants : List Nat) (n : Nat) (hn : n ∈ K) :
    ∀ c ∈ gateCl (varsM ns.length K) wants ns n, valM c (fillV V K) = 1 := by
  have hd := hli.nodup
  have hK : ∀ m ∈ K, m < ns.length := fun m hm => (hli.mem m hm).2
  have hnl := hK n hn
  intro c hc
  by_cases hg : isGate ns n = true
  · have hng := nodeM_gate hg
    have hG := hgd.gate n hnl hg
    have hV := hv.gate n hnl hg
    have hab : (nd ns n).1 / 2 ∈ K ∧ (nd ns n).2 / 2 ∈ K := by
      obtain ⟨i, hi, he⟩ := List.getElem_of_mem hn
      have hA := (hli.at hi).2.2.2
      rw [he] at hA
      obtain ⟨q1, q2⟩ := hA hg
      have e1 : opA ns n = (nd ns n).1 / 2 := rfl
      have e2 : opB ns n = (nd ns n).2 / 2 := rfl
      rw [e1] at q1; rw [e2] at q2
      exact ⟨List.mem_of_mem_take (q1.resolve_left (by omega)), List.mem_of_mem_take (q2.resolve_left (by omega))⟩
    have oa := of_lit hd hK hl V hab.1
    have ob := of_lit hd hK hl V hab.2
    have hn2 : (2 * n) / 2 = n := by omega
    have on := of_lit hd hK hl V (x := 2 * n) (by rw [hn2]; exact hn)
    have hln : litT (varsM ns.length K) (2 * n) = ((varsM ns.length K).getD n 0 : Nat) := by unfold litT; rw [if_neg (by omega), hn2]
    have hbn : litB V (2 * n) = V n := by unfold litB; rw [hn2, show (2 * n) % 2 = 0 by omega]; cases V n <;> rfl
    rw [hln, hbn] at on
    have e0 : nd0 ns n = nd ns n := rfl
    rw [gateCl_gate (A := (nd ns n).1) (B := (nd ns n).2) (by rw [hng, e0])] at hc
    generalize ((varsM ns.length K).getD n 0 : Nat) = vn at *
    generalize litT (varsM ns.length K) (nd ns n).1 = la at *
    generalize litT (varsM ns.length K) (nd ns n).2 = lb at *
    generalize litB V (nd ns n).1 = A at *
    generalize litB V (nd ns n).2 = B at *
    have on' : ofM (fillV V K) (-(vn : Int)) = sgn (!V n) := by rw [ofM_neg, on, sgn_not]
    have oa' : ofM (fillV V K) (-la) = sgn (!A) := by rw [ofM_neg, oa, sgn_not]
    have ob' : ofM (fillV V K) (-lb) = sgn (!B) := by rw [ofM_neg, ob, sgn_not]
    rcases List.mem_append.1 hc with h | h
    · split at h
      · rcases List.mem_cons.1 h with h | h
        · subst h
          rw [valM_sgn (bs := [!V n, A]) (by simp [on', oa]), hV]
          cases A <;> cases B <;> rfl
        · rw [List.mem_singleton.1 h, valM_sgn (bs := [!V n, B]) (by simp [on', ob]), hV]
          cases A <;> cases B <;> rfl
      · cases h
    · split at h
      · rw [List.mem_singleton.1 h, valM_sgn (bs := [V n, !A, !B]) (by simp [on, oa', ob']), hV]
        cases A <;> cases B <;> rfl
      · cases h
  · rw [gateCl_no (nodeM_not (by simpa using hg))] at hc
    cases hc
theorem rootCl_val {K : List Nat} (hd : K.Nodup) (hK : ∀ m ∈ K, m < ns.length) (hl : K.length ≤ 1048576) (h0 : V 0 = false) (r : Nat) (hr : r / 2 = 0 ∨ r / 2 ∈ K) (hr0 : r / 2 = 0 → 0 ∉ K) :
    (∀ c ∈ rootCl (varsM ns.length K) r, valM c (fillV V K) = 1 ∨ valM c (fillV V K) = -1) ∧ ((∀ c ∈ rootCl (varsM ns.length K) r, valM c (fillV V K) = 1) ↔ litB V r = true) := by
  unfold rootCl
  by_cases e0 : r = 0
  · subst e0
    rw [if_pos rfl]
    have e : valM [] (fillV V K) = -1 := rfl
    refine ⟨fun c hc => by rw [List.mem_singleton.1 hc]; exact .inr e, ?_⟩
    rw [litB_0 h0]
    constructor
    · intro h; have := h [] (by simp); rw [e] at this; exact absurd this (by decide)
    · intro h; cases h
  rw [if_neg e0]
  by_cases e1 : r = 1
  · subst e1
    rw [if_pos rfl]
    exact ⟨fun c hc => (by cases hc), by rw [litB_1 h0]; exact ⟨fun _ => rfl, fun _ c hc => by cases hc⟩⟩
  rw [if_neg e1]
  have hrk : r / 2 ∈ K := hr.resolve_left (by omega)
  have e : valM [litT (varsM ns.length K) r] (fillV V K) = sgn (litB V r) := by
    rw [valM_sgn (bs := [litB V r]) (by simp [of_lit hd hK hl V hrk])]; simp
  refine ⟨fun c hc => by rw [List.mem_singleton.1 hc, e]; exact sgn_or _, ?_⟩
  constructor
  · intro h; have := h _ (List.mem_singleton.2 rfl); rw [e] at this; exact sgn_one.1 this
  · intro h c hc; rw [List.mem_singleton.1 hc, e, h]; rfl
theorem clausesM_val (hgd : GoodG ns) (hx : ∀ r ∈ roots, r < 2 * ns.length) (hl : (coneM ns roots).length ≤ 1048576) (hv : IsVal ns inp V) (wants : List Nat) :
    (∀ c ∈ clausesM ns wants roots, valM c (fillV V (coneM ns roots)) = 1 ∨ valM c (fillV V (coneM ns roots)) = -1) ∧ ((∀ c ∈ clausesM ns wants roots, valM c (fillV V (coneM ns roots)) = 1) ↔ ∀ r ∈ roots, litB V r = true) := by
  obtain ⟨hli, hrk⟩ := coneM_lined hgd.wf roots hx
  have hK : ∀ m ∈ coneM ns roots, m < ns.length := fun m hm => (hli.mem m hm).2
  have h0 : 0 ∉ coneM ns roots := fun h => (hli.mem 0 h).1 rfl
  have hg : ∀ c ∈ gatesCl (varsM ns.length (coneM ns roots)) wants ns (coneM ns roots), valM c (fillV V (coneM ns roots)) = 1 := by
    intro c hc
    obtain ⟨n, hn, hc⟩ := List.mem_flatMap.1 hc
    exact gateCl_true hgd hli hl hv wants n hn c hc
  have hr := fun r (hr : r ∈ roots) => rootCl_val (ns := ns) (V := V) hli.nodup hK hl hv.zero r (hrk r hr) (fun _ => h0)
  unfold clausesM
  constructor
  · intro c hc
    rcases List.mem_append.1 hc with h | h
    · exact .inl (hg c h)
    · obtain ⟨r, hr1, hc⟩ := List.mem_flatMap.1 h
      exact (hr r hr1).1 c hc
  · constructor
    · intro h r hr1
      exact (hr r hr1).2.1 fun c hc => h c (List.mem_append.2 (.inr (List.mem_flatMap.2 ⟨r, hr1, hc⟩)))
    · intro h c hc
      rcases List.mem_append.1 hc with h1 | h1
      · exact hg c h1
      · obtain ⟨r, hr1, hc⟩ := List.mem_flatMap.1 h1
        exact (hr r hr1).2.2 (h r hr1) c hc
end
theorem underFrom_val (m : List Int) : ∀ (cls : List (List Int)) (i : Nat), (∀ c ∈ cls, valM c m = 1 ∨ valM c m = -1) →
    (underFrom m i (-1) cls).2.2 = 0 ∧ ((underFrom m i (-1) cls).1 = 1 ↔ ∀ c ∈ cls, valM c m = 1)
  | [], i, _ => by simp [underFrom]
  | c :: cs, i, h => by
    have ih := underFrom_val m cs (i + 1) fun c hc => h c (List.mem_cons_of_mem _ hc)
    rcases h c List.mem_cons_self with h1 | h1
    · have e : underFrom m i (-1) (c :: cs) = underFrom m (i + 1) (-1) cs := by rw [underFrom, h1]; simp
      rw [e]
      refine ⟨ih.1, ih.2.trans ?_⟩
      simp [h1]
    · have e : underFrom m i (-1) (c :: cs) = (-1, (i : Int), 0) := by rw [underFrom, h1]; simp
      rw [e]
      refine ⟨rfl, ?_⟩
      constructor
      · intro h; exact absurd (show (-1 : Int) = 1 from h) (by decide)
      · intro h; have := h c List.mem_cons_self; rw [h1] at this; exact absurd this (by decide)

theorem checkFrom_ok (vars : Int) : ∀ (cls : List (List Int)) (i all : Nat), (∀ c ∈ cls, c.length ≤ 65536 ∧ ∀ l ∈ c, litOk l = true ∧ varM l ≤ vars) → all + (cls.map List.length).sum ≤ 4194304 → checkFrom vars i all cls = (0, 0)
  | [], _, _, _, _ => rfl
  | c :: cs, i, all, h, hs => by
    obtain ⟨h1, h2⟩ := h c List.mem_cons_self
    simp only [List.map_cons, List.sum_cons] at hs
    unfold checkFrom
    rw [if_neg (by omega), if_neg ?_, if_neg (by omega)]
    · exact checkFrom_ok vars cs _ _ (fun d hd => h d (List.mem_cons_of_mem _ hd)) (by omega)
    · rw [Bool.not_eq_true, List.any_eq_false]
      intro l hl
      obtain ⟨q1, q2⟩ := h2 l hl
      unfold badL
      rw [q1, decide_eq_false (by omega)]; simp
theorem litT_neg_ok {l : Int} {vars : Int} (h : litOk l = true ∧ varM l ≤ vars) : litOk (-l) = true ∧ varM (-l) ≤ vars := by rw [litOk_neg, varM_neg]; exact h
theorem clausesM_check {ns : Nodes} {roots : List Nat} (hgd : GoodG ns) (hx : ∀ r ∈ roots, r < 2 * ns.length) (wants : List Nat) (hl : 7 * (coneM ns roots).length + roots.length ≤ 4194304) (hl2 : (coneM ns roots).length ≤ 1048576) (hc : (clausesM ns wants roots).length ≤ 1048576) :
    checkM (coneM ns roots).length (clausesM ns wants roots) = (0, 0) := by
  obtain ⟨hli, hrk⟩ := coneM_lined hgd.wf roots hx
  have hd := hli.nodup
  have hK : ∀ m ∈ coneM ns roots, m < ns.length := fun m hm => (hli.mem m hm).2
  have h0 : 0 ∉ coneM ns roots := fun h => (hli.mem 0 h).1 rfl
  have lt : ∀ x, x / 2 ∈ coneM ns roots → litOk (litT (varsM ns.length (coneM ns roots)) x) = true ∧ varM (litT (varsM ns.length (coneM ns roots)) x) ≤ (coneM ns roots).length := fun x hx => by
    have := litT_ok hd hK hl2 hx
    exact ⟨this.1, this.2.1⟩
  have gates : ∀ n ∈ coneM ns roots, (∀ c ∈ gateCl (varsM ns.length (coneM ns roots)) wants ns n, c.length ≤ 65536 ∧ ∀ l ∈ c, litOk l = true ∧ varM l ≤ (coneM ns roots).length) ∧ ((gateCl (varsM ns.length (coneM ns roots)) wants ns n).map List.length).sum ≤ 7 := by
    intro n hn
    by_cases hg : isGate ns n = true
    · have hng := nodeM_gate hg
      have hnl := hK n hn
      have hG := hgd.gate n hnl hg
      have hab : (nd ns n).1 / 2 ∈ coneM ns roots ∧ (nd ns n).2 / 2 ∈ coneM ns roots := by
        obtain ⟨i, hi, he⟩ := List.getElem_of_mem hn
        have hA := (hli.at hi).2.2.2
        rw [he] at hA
        obtain ⟨q1, q2⟩ := hA hg
        have e1 : opA ns n = (nd ns n).1 / 2 := rfl
        have e2 : opB ns n = (nd ns n).2 / 2 := rfl
        rw [e1] at q1; rw [e2] at q2
        exact ⟨List.mem_of_mem_take (q1.resolve_left (by omega)), List.mem_of_mem_take (q2.resolve_left (by omega))⟩
      have la := lt _ hab.1
      have lb := lt _ hab.2
      have hn2 : (2 * n) / 2 = n := by omega
      have ln := lt (2 * n) (by rw [hn2]; exact hn)
      have hln : litT (varsM ns.length (coneM ns roots)) (2 * n) = ((varsM ns.length (coneM ns roots)).getD n 0 : Nat) := by unfold litT; rw [if_neg (by omega), hn2]
      rw [hln] at ln
      rw [gateCl_gate (A := (nd ns n).1) (B := (nd ns n).2) (by rw [hng]; rfl)]
      have ln' := litT_neg_ok ln
      have la' := litT_neg_ok la
      have lb' := litT_neg_ok lb
      generalize ((varsM ns.length (coneM ns roots)).getD n 0 : Nat) = vn at *
      generalize litT (varsM ns.length (coneM ns roots)) (nd ns n).1 = A at *
      generalize litT (varsM ns.length (coneM ns roots)) (nd ns n).2 = B at *
      constructor
      · intro c hc
        rcases List.mem_append.1 hc with h | h
        · split at h
          · rcases List.mem_cons.1 h with h | h
            · subst h; exact ⟨by simp, by simp [ln'.1, ln'.2, la.1, la.2]⟩
            · rw [List.mem_singleton.1 h]; exact ⟨by simp, by simp [ln'.1, ln'.2, lb.1, lb.2]⟩
          · cases h
        · split at h
          · rw [List.mem_singleton.1 h]; exact ⟨by simp, by simp [ln.1, ln.2, la'.1, la'.2, lb'.1, lb'.2]⟩
          · cases h
      · split <;> split <;> simp
    · rw [gateCl_no (nodeM_not (by simpa using hg))]
      exact ⟨fun c hc => (by cases hc), by simp⟩
  have rts : ∀ r ∈ roots, (∀ c ∈ rootCl (varsM ns.length (coneM ns roots)) r, c.length ≤ 65536 ∧ ∀ l ∈ c, litOk l = true ∧ varM l ≤ (coneM ns roots).length) ∧ ((rootCl (varsM ns.length (coneM ns roots)) r).map List.length).sum ≤ 1 := by
    intro r hr
    unfold rootCl
    by_cases e0 : r = 0
    · rw [if_pos e0]; exact ⟨fun c hc => by rw [List.mem_singleton.1 hc]; simp, by simp⟩
    rw [if_neg e0]
    by_cases e1 : r = 1
    · rw [if_pos e1]; exact ⟨fun c hc => (by cases hc), by simp⟩
    rw [if_neg e1]
    have := lt r ((hrk r hr).resolve_left (by omega))
    exact ⟨fun c hc => by rw [List.mem_singleton.1 hc]; exact ⟨by simp, by simp [this.1, this.2]⟩, by simp⟩
  have s1 : ∀ l : List Nat, (∀ n ∈ l, n ∈ coneM ns roots) → ((gatesCl (varsM ns.length (coneM ns roots)) wants ns l).map List.length).sum ≤ 7 * l.length := by
    intro l
    induction l with
    | nil => intro _; simp [gatesCl]
    | cons n l ih =>
      intro h
      have h1 := (gates n (h n List.mem_cons_self)).2
      have h2 := ih fun m hm => h m (List.mem_cons_of_mem _ hm)
      simp only [gatesCl, List.flatMap_cons, List.map_append, List.sum_append_nat, List.length_cons] at *
      omega
  have s2 : ∀ l : List Nat, (∀ n ∈ l, n ∈ roots) → ((rootsCl (varsM ns.length (coneM ns roots)) l).map List.length).sum ≤ l.length := by
    intro l
    induction l with
    | nil => intro _; simp [rootsCl]
    | cons n l ih =>
      intro h
      have h1 := (rts n (h n List.mem_cons_self)).2
      have h2 := ih fun m hm => h m (List.mem_cons_of_mem _ hm)
      simp only [rootsCl, List.flatMap_cons, List.map_append, List.sum_append_nat, List.length_cons] at *
      omega
  unfold checkM
  rw [if_neg (by omega), if_neg (by omega)]
  refine checkFrom_ok _ _ 0 0 ?_ ?_
  · intro c hc
    unfold clausesM at hc
    rcases List.mem_append.1 hc with h | h
    · obtain ⟨n, hn, hc⟩ := List.mem_flatMap.1 h
      exact (gates n hn).1 c hc
    · obtain ⟨n, hn, hc⟩ := List.mem_flatMap.1 h
      exact (rts n hn).1 c hc
  · unfold clausesM
    have q1 := s1 (coneM ns roots) fun _ h => h
    have q2 := s2 roots fun _ h => h
    rw [List.map_append, List.sum_append_nat]
    omega
theorem clausesM_i64 {ns : Nodes} {roots : List Nat} (wants : List Nat) (hl2 : (coneM ns roots).length ≤ 1048576) : ∀ c ∈ clausesM ns wants roots, ∀ x ∈ c, I64 x := by
  have hv : ∀ i, (varsM ns.length (coneM ns roots)).getD i 0 ≤ 1048576 := fun i => Nat.le_trans (varsM_getD_le _ _ i) hl2
  have hlt := litT_le hv
  intro c hc x hx
  unfold clausesM at hc
  rcases List.mem_append.1 hc with h | h
  · obtain ⟨n, hn, hc⟩ := List.mem_flatMap.1 h
    unfold gateCl at hc
    have a := hlt (nodeM ns n).2.1
    have b := hlt (nodeM ns n).2.2
    have v := hv n
    split at hc
    · rcases List.mem_append.1 hc with hc | hc
      · split at hc
        · rcases List.mem_cons.1 hc with hc | hc
          · subst hc
            simp only [List.mem_cons, List.not_mem_nil, or_false] at hx
            unfold I64; rcases hx with rfl | rfl <;> omega
          · rw [List.mem_singleton.1 hc] at hx
            simp only [List.mem_cons, List.not_mem_nil, or_false] at hx
            unfold I64; rcases hx with rfl | rfl <;> omega
        · cases hc
      · split at hc
        · rw [List.mem_singleton.1 hc] at hx
          simp only [List.mem_cons, List.not_mem_nil, or_false] at hx
          unfold I64; rcases hx with rfl | rfl | rfl <;> omega
        · cases hc
    · cases hc
  · obtain ⟨r, hr, hc⟩ := List.mem_flatMap.1 h
    have a := hlt r
    unfold rootCl at hc
    split at hc
    · rw [List.mem_singleton.1 hc] at hx; cases hx
    split at hc
    · cases hc
    · rw [List.mem_singleton.1 hc] at hx
      rw [List.mem_singleton.1 hx]
      unfold I64; omega
/-- Fill is the values of the cone's nodes. -/
theorem fillM_val {ns : Nodes} (hgd : GoodG ns) {roots : List Nat} (hx : ∀ r ∈ roots, r < 2 * ns.length) {row : List Bool} {V : Nat → Bool} (hv : IsVal ns (fun i => row.getD i false) V) : fillM ns row roots = fillV V (coneM ns roots) := by
  have hli := (coneM_lined hgd.wf roots hx).1
  unfold fillM evalM
  rw [evalM_val hgd.wf (roots := (coneM ns roots).map (2 * ·)) (fun r hr => by obtain ⟨n, hn, rfl⟩ := List.mem_map.1 hr; have := (hli.mem n hn).2; omega) V hv bitOf (by funext b; rfl)]
  unfold fillV
  rw [List.map_map, List.map_map]
  refine List.map_congr_left fun n _ => ?_
  show sgn (litB V (2 * n)) = sgn (V n)
  unfold litB
  rw [show (2 * n) / 2 = n by omega, show (2 * n) % 2 = 0 by omega]
  cases V n <;> rfl
end Go.Proofs.Ytjeopmiopinlgaa
