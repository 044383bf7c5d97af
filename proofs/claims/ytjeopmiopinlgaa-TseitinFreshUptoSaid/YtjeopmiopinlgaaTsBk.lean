/- Assignments that make the clauses true, and their inputs: plain laws. -/
import Derived.Test.YtjeopmiopinlgaaTsV
import Derived.Test.YtjeopmiopinlgaaTsW
import Derived.Test.YtjeopmiopinlgaaTsT
import Derived.Test.YtjeopmiopinlgaaTsN
import Derived.Test.YtjeopmiopinlgaaTsFew
set_option linter.unusedVariables false
set_option linter.unusedSimpArgs false
namespace Go.Proofs.Ytjeopmiopinlgaa

/-- Each input stands in the list of inputs at its number. -/
def InNum (ns : Nodes) : Prop := ∀ n, n < ns.length → n ≠ 0 → isGate ns n = false → (inputsOf ns)[(nd ns n).2]? = some n
theorem InNum.start : InNum [(0, 0)] := fun n hn h0 => by simp at hn; omega
theorem InNum.input {ns : Nodes} (h : InNum ns) : InNum (ns ++ [(mark, (inputsOf ns).length)]) := by
  intro n hn h0 hg
  rw [inputsOf_snoc_mark]
  by_cases hl : n < ns.length
  · rw [isGate_old hl] at hg
    rw [nd_old hl]
    have := h n hl h0 hg
    rw [List.getElem?_append_left (List.getElem?_eq_some_iff.1 this).1]; exact this
  · have : n = ns.length := by simp at hn; omega
    subst this
    rw [nd_new]; simp
theorem InNum.and {ns : Nodes} (h : InNum ns) (a b : Nat) (ha : a ≠ mark) : InNum (andM ns a b).2 := by
  unfold andM
  split
  · exact h
  split
  · exact h
  split
  · exact h
  cases hl : lookIn (a, b) (gatesOf ns) 0 with
  | some y => exact h
  | none =>
    intro n hn h0 hg
    rw [inputsOf_snoc ns (a, b) ha]
    by_cases hl : n < ns.length
    · rw [isGate_old hl] at hg
      rw [nd_old hl]
      exact h n hl h0 hg
    · have : n = ns.length := by simp at hn; omega
      subst this
      rw [isGate_nd, nd_new] at hg
      simp [h0] at hg
      exact absurd hg ha
theorem madeT_inNum (l : List Mk3) (hl : l.length ≤ 1073741823) : InNum (madeT l).1 := by
  revert hl
  refine snocInd (P := fun l => l.length ≤ 1073741823 → InNum (madeT l).1) ?_ ?_ l
  · intro _; exact InNum.start
  · intro l s ih hl
    rw [List.length_append, List.length_singleton] at hl
    rw [madeT_snoc]
    have ok := madeT_ok l (by omega)
    have ih := ih (by omega)
    show InNum (mk3 (madeT l).1 s.1 _ _).2
    unfold mk3
    split
    · exact ih.input
    · have := pickM_lt (by have := ok.len; omega) ok.lits s.2.1
      have := ok.small
      exact ih.and _ _ (by unfold mark; omega)
theorem InNum.inj {ns : Nodes} (h : InNum ns) {n k : Nat} (hn : n < ns.length) (hk : k < ns.length) (n0 : n ≠ 0) (k0 : k ≠ 0) (hgn : isGate ns n = false) (hgk : isGate ns k = false) (e : (nd ns n).2 = (nd ns k).2) : n = k := by
  have h1 := h n hn n0 hgn
  have h2 := h k hk k0 hgk
  rw [e, h2] at h1
  exact (Option.some.inj h1).symm

/-- An assignment of the cone's variables, as values of nodes. -/
theorem fill_of {K : List Nat} (hd : K.Nodup) {N : Nat} (hK : ∀ m ∈ K, m < N) (h0 : 0 ∉ K) (m : List Int) (hl : m.length = K.length) (hm : ∀ x ∈ m, x = 1 ∨ x = -1) : ∃ U : Nat → Bool, U 0 = false ∧ m = fillV U K := by
  refine ⟨fun n => decide (n ∈ K) && (m.getD ((varsM N K).getD n 0 - 1) 0 == 1), by simp [h0], ?_⟩
  unfold fillV
  apply List.ext_getElem
  · simp [hl]
  · intro i h1 h2
    have hi : i < K.length := by omega
    rw [List.getElem_map]
    show m[i] = sgn (decide (K[i] ∈ K) && (m.getD ((varsM N K).getD K[i] 0 - 1) 0 == 1))
    rw [varsM_at hd hK hi, Nat.add_sub_cancel, decide_eq_true (List.getElem_mem hi), Bool.true_and, List.getD_eq_getElem?_getD, List.getElem?_eq_getElem h1]
    rcases hm _ (List.getElem_mem h1) with h | h <;> rw [h] <;> rfl

section
variable {ns : Nodes} {roots K : List Nat} {U : Nat → Bool}
theorem gate_vals (hgd : GoodG ns) (hli : Lined ns K) (hl : K.length ≤ 1048576) (wants : List Nat) {n : Nat} (hn : n ∈ K) :
    (∀ c ∈ gateCl (varsM ns.length K) wants ns n, valM c (fillV U K) = 1 ∨ valM c (fillV U K) = -1) ∧
    ((∀ c ∈ gateCl (varsM ns.length K) wants ns n, valM c (fillV U K) = 1) → isGate ns n = true →
      (hasL wants (2 * n) = true → U n = true → litB U (nd ns n).1 = true ∧ litB U (nd ns n).2 = true) ∧ (hasL wants (2 * n + 1) = true → U n = false → litB U (nd ns n).1 = false ∨ litB U (nd ns n).2 = false)) := by
  have hd := hli.nodup
  have hK : ∀ m ∈ K, m < ns.length := fun m hm => (hli.mem m hm).2
  have hnl := hK n hn
  by_cases hg : isGate ns n = true
  · have hng := nodeM_gate hg
    have hG := hgd.gate n hnl hg
    have hab : (nd ns n).1 / 2 ∈ K ∧ (nd ns n).2 / 2 ∈ K := by
      obtain ⟨i, hi, he⟩ := List.getElem_of_mem hn
      have hA := (hli.at hi).2.2.2
      rw [he] at hA
      obtain ⟨q1, q2⟩ := hA hg
      have e1 : opA ns n = (nd ns n).1 / 2 := rfl
      have e2 : opB ns n = (nd ns n).2 / 2 := rfl
      rw [e1] at q1; rw [e2] at q2
      exact ⟨List.mem_of_mem_take (q1.resolve_left (by omega)), List.mem_of_mem_take (q2.resolve_left (by omega))⟩
    have oa := of_lit hd hK hl U hab.1
    have ob := of_lit hd hK hl U hab.2
    have hn2 : (2 * n) / 2 = n := by omega
    have on := of_lit hd hK hl U (x := 2 * n) (by rw [hn2]; exact hn)
    have hln : litT (varsM ns.length K) (2 * n) = ((varsM ns.length K).getD n 0 : Nat) := by unfold litT; rw [if_neg (by omega), hn2]
    have hbn : litB U (2 * n) = U n := by unfold litB; rw [hn2, show (2 * n) % 2 = 0 by omega]; cases U n <;> rfl
    rw [hln, hbn] at on
    have he1 := hasL_even wants n
    have he2 := hasL_odd wants n
    rw [gateCl_gate (A := (nd ns n).1) (B := (nd ns n).2) (by rw [hng]; rfl)]
    generalize ((varsM ns.length K).getD n 0 : Nat) = vn at *
    generalize litT (varsM ns.length K) (nd ns n).1 = la at *
    generalize litT (varsM ns.length K) (nd ns n).2 = lb at *
    generalize litB U (nd ns n).1 = A at *
    generalize litB U (nd ns n).2 = B at *
    have on' : ofM (fillV U K) (-(vn : Int)) = sgn (!U n) := by rw [ofM_neg, on, sgn_not]
    have oa' : ofM (fillV U K) (-la) = sgn (!A) := by rw [ofM_neg, oa, sgn_not]
    have ob' : ofM (fillV U K) (-lb) = sgn (!B) := by rw [ofM_neg, ob, sgn_not]
    have v1 : valM [-(vn : Int), la] (fillV U K) = sgn (!U n || A) := by rw [valM_sgn (bs := [!U n, A]) (by simp [on', oa])]; simp
    have v2 : valM [-(vn : Int), lb] (fillV U K) = sgn (!U n || B) := by rw [valM_sgn (bs := [!U n, B]) (by simp [on', ob])]; simp
    have v3 : valM [(vn : Int), -la, -lb] (fillV U K) = sgn (U n || (!A || !B)) := by rw [valM_sgn (bs := [U n, !A, !B]) (by simp [on, oa', ob'])]; simp
    generalize U n = un at *
    constructor
    · intro c hc
      rcases List.mem_append.1 hc with h | h
      · split at h
        · rcases List.mem_cons.1 h with h | h
          · subst h; rw [v1]; exact sgn_or _
          · rw [List.mem_singleton.1 h, v2]; exact sgn_or _
        · cases h
      · split at h
        · rw [List.mem_singleton.1 h, v3]; exact sgn_or _
        · cases h
    · intro hall _
      constructor
      · intro h2 hu
        have hb := he1.2 h2
        rw [if_pos hb] at hall
        have q1 := hall [-(vn : Int), la] (by simp)
        have q2 := hall [-(vn : Int), lb] (by simp)
        rw [v1] at q1; rw [v2] at q2
        subst hu
        exact ⟨by simpa using sgn_one.1 q1, by simpa using sgn_one.1 q2⟩
      · intro h2 hu
        have hb := he2.2 h2
        rw [if_pos hb] at hall
        have q3 := hall [(vn : Int), -la, -lb] (List.mem_append.2 (.inr (by simp)))
        rw [v3] at q3
        subst hu
        simpa using sgn_one.1 q3
  · rw [gateCl_no (nodeM_not (by simpa using hg))]
    exact ⟨fun c hc => (by cases hc), fun _ h => absurd h hg⟩
theorem clauses_vals (hgd : GoodG ns) (hx : ∀ r ∈ roots, r < 2 * ns.length) (hl : (coneM ns roots).length ≤ 1048576) (h0 : U 0 = false) (wants : List Nat) :
    ∀ c ∈ clausesM ns wants roots, valM c (fillV U (coneM ns roots)) = 1 ∨ valM c (fillV U (coneM ns roots)) = -1 := by
  obtain ⟨hli, hrk⟩ := coneM_lined hgd.wf roots hx
  have hK : ∀ m ∈ coneM ns roots, m < ns.length := fun m hm => (hli.mem m hm).2
  have h0' : 0 ∉ coneM ns roots := fun h => (hli.mem 0 h).1 rfl
  intro c hc
  unfold clausesM at hc
  rcases List.mem_append.1 hc with h | h
  · obtain ⟨n, hn, hc⟩ := List.mem_flatMap.1 h
    exact (gate_vals hgd hli hl wants hn).1 c hc
  · obtain ⟨r, hr, hc⟩ := List.mem_flatMap.1 h
    exact (rootCl_val hli.nodup hK hl h0 r (hrk r hr) (fun _ => h0')).1 c hc
/-- What a lifted input is. -/
theorem lift_get (hin : InNum ns) (m : List Int) : ∀ (l : List Nat) (i : Nat) (a : List Bool) (n : Nat), a.length = (inputsOf ns).length → (∀ k ∈ l, k ≠ 0 ∧ k < ns.length) → l.Nodup → n ∈ l → isGate ns n = false →
    ∃ j, ∃ h : j < l.length, l[j] = n ∧ (liftFrom ns m a i (l.map Int.ofNat)).getD (nd ns n).2 false = (decide (i + j < m.length) && (m.getD (i + j) 0 == 1))
  | [], _, _, _, _, _, _, hn, _ => by cases hn
  | k :: l, i, a, n, ha, hl, hd, hn, hg => by
    obtain ⟨hk0, hkl⟩ := hl k List.mem_cons_self
    rw [List.nodup_cons] at hd
    have hlen := liftFrom_length ns m a (i + 1) (l.map Int.ofNat)
    have e : liftFrom ns m a i ((k :: l).map Int.ofNat) = liftStep ns m i (Int.ofNat k) (liftFrom ns m a (i + 1) (l.map Int.ofNat)) := rfl
    rw [e]
    generalize hb : liftFrom ns m a (i + 1) (l.map Int.ofNat) = b at *
    have hls : liftStep ns m i (Int.ofNat k) b = if (nodeM ns k).1 = 1 then b.set (nodeM ns k).2.1 (decide (i < m.length) && (m.getD i 0 == 1)) else b := rfl
    have hn' := hl n hn
    have hq := hin n hn'.2 hn'.1 hg
    have hqlt : (nd ns n).2 < b.length := by rw [hlen, ha]; exact (List.getElem?_eq_some_iff.1 hq).1
    rcases List.mem_cons.1 hn with h | h
    · subst h
      refine ⟨0, by simp, rfl, ?_⟩
      have hk1 : (nodeM ns n).1 = 1 ∧ (nodeM ns n).2.1 = (nd ns n).2 := by
        unfold nodeM
        rw [if_neg hk0]
        have hm : (ns.getD n (0, 0)).1 = mark := by unfold isGate at hg; simpa [hk0] using hg
        rw [if_pos hm]; exact ⟨rfl, rfl⟩
      rw [hls, if_pos hk1.1, hk1.2, Nat.add_zero, List.getD_eq_getElem?_getD, List.getElem?_set, if_pos rfl, if_pos hqlt]; rfl
    · obtain ⟨j, hj, hje, hv⟩ := lift_get hin m l (i + 1) a n ha (fun q hq => hl q (List.mem_cons_of_mem _ hq)) hd.2 h hg
      refine ⟨j + 1, by simp; omega, by simpa using hje, ?_⟩
      rw [hb] at hv
      rw [show i + (j + 1) = i + 1 + j by omega, ← hv, hls]
      split
      · rename_i hk1
        have hgk : isGate ns k = false := by
          cases hq : isGate ns k with
          | false => rfl
          | true => rw [nodeM_gate hq] at hk1; simp at hk1
        have hk2 : (nodeM ns k).2.1 = (nd ns k).2 := by
          unfold nodeM
          rw [if_neg hk0]
          have hm : (ns.getD k (0, 0)).1 = mark := by unfold isGate at hgk; simpa [hk0] using hgk
          rw [if_pos hm]; rfl
        rw [hk2, List.getD_eq_getElem?_getD, List.getElem?_set, if_neg ?_, ← List.getD_eq_getElem?_getD]
        intro e
        have := hin.inj hkl hn'.2 hk0 hn'.1 hgk hg e
        subst this
        exact hd.1 h
      · rfl

theorem lift_val (hin : InNum ns) (hli : Lined ns K) {n : Nat} (hn : n ∈ K) (hg : isGate ns n = false) : (liftM ns (K.map Int.ofNat) (fillV U K)).getD (nd ns n).2 false = U n := by
  obtain ⟨j, hj, hje, hv⟩ := lift_get hin (fillV U K) K 0 (List.replicate (inputsOf ns).length false) n (by simp) (fun k hk => hli.mem k hk) hli.nodup hn hg
  unfold liftM
  rw [hv, Nat.zero_add, decide_eq_true (by simp [fillV]; exact hj), Bool.true_and]
  unfold fillV
  rw [List.getD_eq_getElem?_getD, List.getElem?_map, List.getElem?_eq_getElem hj, hje]
  simp only [Option.map_some, Option.getD_some]
  cases U n <;> rfl
/-- Of all clauses: the values are the inputs' own. -/
theorem back_all (hgd : GoodG ns) (hin : InNum ns) (hx : ∀ r ∈ roots, r < 2 * ns.length) (hl : (coneM ns roots).length ≤ 1048576) (h0 : U 0 = false) {V : Nat → Bool} (hV : IsVal ns (fun i => (liftM ns ((coneM ns roots).map Int.ofNat) (fillV U (coneM ns roots))).getD i false) V)
    (hE : ∀ c ∈ clausesM ns (encodeW ns (coneM ns roots)) roots, valM c (fillV U (coneM ns roots)) = 1) : fillV V (coneM ns roots) = fillV U (coneM ns roots) := by
  obtain ⟨hli, hrk⟩ := coneM_lined hgd.wf roots hx
  have hK : ∀ m ∈ coneM ns roots, m < ns.length := fun m hm => (hli.mem m hm).2
  have key : ∀ n, (n = 0 ∨ n ∈ coneM ns roots) → V n = U n := by
    intro n
    induction n using Nat.strongRecOn with
    | _ n ih =>
      intro hn
      rcases hn with e | hn
      · rw [e, hV.zero, h0]
      have hnl := hK n hn
      have hn0 := (hli.mem n hn).1
      by_cases hg : isGate ns n = true
      · have ho := hgd.wf.2 n hnl hg
        have hw3 := encodeW_get hK n hn
        have hgv := (gate_vals (U := U) hgd hli hl (encodeW ns (coneM ns roots)) hn).2 (fun c hc => hE c (by unfold clausesM; exact List.mem_append.2 (.inl (List.mem_flatMap.2 ⟨n, hn, hc⟩)))) hg
        have w1 : hasL (encodeW ns (coneM ns roots)) (2 * n) = true := by rw [← hasL_even, hw3]; decide
        have w2 : hasL (encodeW ns (coneM ns roots)) (2 * n + 1) = true := by rw [← hasL_odd, hw3]; decide
        have hops : (opA ns n = 0 ∨ opA ns n ∈ coneM ns roots) ∧ (opB ns n = 0 ∨ opB ns n ∈ coneM ns roots) := by
          obtain ⟨i, hi, he⟩ := List.getElem_of_mem hn
          have hA := (hli.at hi).2.2.2
          rw [he] at hA
          exact ⟨(hA hg).1.imp id List.mem_of_mem_take, (hA hg).2.imp id List.mem_of_mem_take⟩
        have ea : litB V (nd ns n).1 = litB U (nd ns n).1 := by
          unfold litB; rw [show V ((nd ns n).1 / 2) = U ((nd ns n).1 / 2) from ih _ ho.1 hops.1]
        have eb : litB V (nd ns n).2 = litB U (nd ns n).2 := by
          unfold litB; rw [show V ((nd ns n).2 / 2) = U ((nd ns n).2 / 2) from ih _ ho.2 hops.2]
        rw [hV.gate n hnl hg, ea, eb]
        cases hu : U n with
        | true => obtain ⟨q1, q2⟩ := hgv.1 w1 hu; rw [q1, q2]; rfl
        | false => rcases hgv.2 w2 hu with q | q <;> rw [q] <;> simp
      · have hg' : isGate ns n = false := by simpa using hg
        rw [hV.ins n hnl hn0 hg']
        exact lift_val hin hli hn hg'
  unfold fillV
  exact List.map_congr_left fun n hn => by rw [key n (.inr hn)]
/-- Of what is wanted alone: the roots are true. -/
theorem back_polar (hgd : GoodG ns) (hin : InNum ns) (hx : ∀ r ∈ roots, r < 2 * ns.length) (hl : (coneM ns roots).length ≤ 1048576) (h0 : U 0 = false) {V : Nat → Bool} (hV : IsVal ns (fun i => (liftM ns ((coneM ns roots).map Int.ofNat) (fillV U (coneM ns roots))).getD i false) V)
    (hP : ∀ c ∈ clausesM ns (polarW ns roots) roots, valM c (fillV U (coneM ns roots)) = 1) : ∀ r ∈ roots, litB V r = true := by
  obtain ⟨hli, hrk⟩ := coneM_lined hgd.wf roots hx
  have hK : ∀ m ∈ coneM ns roots, m < ns.length := fun m hm => (hli.mem m hm).2
  have h0' : 0 ∉ coneM ns roots := fun h => (hli.mem 0 h).1 rfl
  have key : ∀ n x, x / 2 = n → Wanted ns roots x → litB U x = true → litB V x = true := by
    intro n
    induction n using Nat.strongRecOn with
    | _ n ih =>
      intro x hxn hw hu
      rcases wanted_cone hgd.wf hx hw with e | hn
      · have : V (x / 2) = U (x / 2) := by rw [e, hV.zero, h0]
        unfold litB at hu ⊢; rw [this]; exact hu
      rw [hxn] at hn
      have hnl := hK n hn
      have hn0 := (hli.mem n hn).1
      by_cases hg : isGate ns n = true
      · have ho := hgd.wf.2 n hnl hg
        have hgv := (gate_vals (U := U) hgd hli hl (polarW ns roots) hn).2 (fun c hc => hP c (by unfold clausesM; exact List.mem_append.2 (.inl (List.mem_flatMap.2 ⟨n, hn, hc⟩)))) hg
        have hVg := hV.gate n hnl hg
        have hx2 : x = 2 * n ∨ x = 2 * n + 1 := by omega
        rcases hx2 with rfl | rfl
        · have hun : U n = true := by
            unfold litB at hu; rw [hxn, show (2 * n) % 2 = 0 by omega] at hu; simpa using hu
          obtain ⟨q1, q2⟩ := hgv.1 ((polar_has hgd.wf hx _).2 hw) hun
          have r1 := ih (opA ns n) ho.1 (nd ns n).1 rfl (.a hnl hg hw) q1
          have r2 := ih (opB ns n) ho.2 (nd ns n).2 rfl (.b hnl hg hw) q2
          unfold litB; rw [hxn, show (2 * n) % 2 = 0 by omega, hVg, r1, r2]; rfl
        · have hun : U n = false := by
            unfold litB at hu; rw [hxn, show (2 * n + 1) % 2 = 1 by omega] at hu; simpa using hu
          have hVn : V n = false := by
            rcases hgv.2 ((polar_has hgd.wf hx _).2 hw) hun with q | q
            · have r1 := ih (opA ns n) ho.1 (notL (nd ns n).1) (notL_div _) (.na hnl hg hw) (by rw [litB_not, q]; rfl)
              rw [litB_not] at r1
              rw [hVg, show litB V (nd ns n).1 = false by simpa using r1]; rfl
            · have r1 := ih (opB ns n) ho.2 (notL (nd ns n).2) (notL_div _) (.nb hnl hg hw) (by rw [litB_not, q]; rfl)
              rw [litB_not] at r1
              rw [hVg, show litB V (nd ns n).2 = false by simpa using r1]; simp
          unfold litB; rw [hxn, show (2 * n + 1) % 2 = 1 by omega, hVn]; rfl
      · have hg' : isGate ns n = false := by simpa using hg
        have : V n = U n := by
          rw [hV.ins n hnl hn0 hg']
          exact lift_val hin hli hn hg'
        unfold litB at hu ⊢
        rw [hxn] at hu ⊢
        rw [this]; exact hu
  intro r hr
  refine key _ r rfl (.root hr) ?_
  exact (rootCl_val hli.nodup hK hl h0 r (hrk r hr) (fun _ => h0')).2.1 fun c hc => hP c (by unfold clausesM; exact List.mem_append.2 (.inr (List.mem_flatMap.2 ⟨r, hr, hc⟩)))
end
end Go.Proofs.Ytjeopmiopinlgaa
