/- Regions whose order is open: what only looks is taken first, in the text's order; then the rest, in the text's order. -/
import Derived.Test.YtnmkdhoijdoccaaDoorSL
set_option linter.unusedVariables false
set_option linter.unusedSimpArgs false
namespace Go.Proofs.YtnmkdhoijdoccaaDoor.SL
open Go Go.RowKit

section
variable {P : Program} {ops : Array Oper} {Q : Exit → Act → World → Prop} {md : Region.Mode} {S : World → Prop} {nd : Nat → Bool}

/-- As 'wpAny', and S holds behind each operation that is marked. -/
def wpAnyN (P : Program) (md : Region.Mode) (ops : Array Oper) (Q : Exit → Act → World → Prop) (S : World → Prop) (nd : Nat → Bool) : Nat → Array Bool → Act → World → Prop
  | 0, listed, a, w => Region.ready md ops listed = [] ∧ Q .normal a w
  | fuel + 1, listed, a, w =>
    (Region.ready md ops listed = [] → Q .normal a w) ∧
    ∀ i ∈ Region.ready md ops listed, wpOp P ops Q i (fun a' w' => (nd i = true → S w') ∧ wpAnyN P md ops Q S nd fuel (listed.setIfInBounds i true) a' w') a w
theorem wpAny_of_N : ∀ (fuel : Nat) (listed : Array Bool) (a : Act) (w : World), wpAnyN P md ops Q S nd fuel listed a w → wpAny P md ops Q fuel listed a w
  | 0, _, _, _, h => h
  | fuel + 1, _, _, _, h => ⟨h.1, fun i hi => wpOp_mono (fun a' w' h' => wpAny_of_N fuel _ a' w' h'.2) (h.2 i hi)⟩

def Closed (md : Region.Mode) (ops : Array Oper) (listed : Array Bool) : Prop :=
  ∀ j oj, ops[j]? = some oj → listed.getD j false = true → ∀ e ∈ oj.after, Region.binds md e = true → listed.getD e.on false = true
theorem Closed.set {i : Nat} {listed : Array Bool} (h : Closed md ops listed) (hi : i ∈ Region.ready md ops listed) : Closed md ops (listed.setIfInBounds i true) := by
  obtain ⟨_, oi, hoi, hall⟩ := mem_ready.1 hi
  intro j oj hj hl e he hb
  by_cases hij : i = j
  · subst hij
    have : oj = oi := Option.some.inj (hj.symm.trans hoi)
    subst this
    exact getD_set_true (hall e he hb)
  · rw [getD_set_ne false hij] at hl
    exact getD_set_true (h j oj hj hl e he hb)
/-- Does j wait for i, over others too? -/
def anc (md : Region.Mode) (ops : Array Oper) : Nat → Nat → Nat → Bool
  | 0, _, _ => false
  | n + 1, j, i => match ops[j]? with
    | some oj => oj.after.any fun e => Region.binds md e && (e.on == i || anc md ops n e.on i)
    | none => false
theorem anc_spec {listed : Array Bool} {i : Nat} (hc : Closed md ops listed) : ∀ n j oj, anc md ops n j i = true → ops[j]? = some oj →
    (∀ e ∈ oj.after, Region.binds md e = true → listed.getD e.on false = true) → listed.getD i false = true := by
  intro n
  induction n with
  | zero => intro j oj h; simp [anc] at h
  | succ n ih =>
    intro j oj h hj hall
    simp only [anc, hj] at h
    obtain ⟨e, he, hb⟩ := Array.any_eq_true'.1 h
    simp only [Bool.and_eq_true, Bool.or_eq_true, beq_iff_eq] at hb
    obtain ⟨hb1, hb2⟩ := hb
    have hl := hall e he hb1
    rcases hb2 with h1 | h1
    · subst h1; exact hl
    · cases ho : ops[e.on]? with
      | none =>
        cases n with
        | zero => simp [anc] at h1
        | succ n => simp [anc, ho] at h1
      | some oe => exact ih e.on oe h1 ho (hc e.on oe ho hl)

/-- What yields in every world with S may be taken first, where whatever may come before it keeps S. -/
theorem wpAnyN_first {i : Nat} {oi : Oper} {v : Value} (hi : ops[i]? = some oi) (hsel : ∀ (j : Nat) (o : Oper) cs b, ops[j]? = some o → o.op ≠ .select cs b)
    (hQ : ∀ c a w, Q (.panic c) (a.put oi.dst v) w → Q (.panic c) a w) (N : Nat) :
    ∀ (fuel : Nat) (listed : Array Bool) (a : Act) (w : World), Closed md ops listed →
      (∀ j oj, ops[j]? = some oj → j ≠ i → listed.getD j true = false → (∀ e ∈ oj.after, Region.binds md e = true → e.on ≠ i) → oi.apart ops oj = true) →
      (∀ j, j ≠ i → listed.getD j true = false → nd j = true ∨ anc md ops N j i = true) →
      i ∈ Region.ready md ops listed → YieldsIf P ops S oi v a → S w →
      wpAnyN P md ops Q S nd fuel (listed.setIfInBounds i true) (a.put oi.dst v) w → wpAnyN P md ops Q S nd (fuel + 1) listed a w := by
  intro fuel
  induction fuel with
  | zero =>
    intro listed a w _ _ _ hr hy hS H
    refine ⟨fun h => (by rw [h] at hr; cases hr), fun j hj => ?_⟩
    by_cases hji : j = i
    · subst hji; exact hy.wpOp hi hS ⟨fun _ => hS, H⟩
    · have := ready_mono hj hji
      rw [H.1] at this
      cases this
  | succ fuel ih =>
    intro listed a w hcl hfree hnd hr hy hS H
    refine ⟨fun h => (by rw [h] at hr; cases hr), fun j hj => ?_⟩
    by_cases hji : j = i
    · subst hji; exact hy.wpOp hi hS ⟨fun _ => hS, H⟩
    · have h1 := H.2 j (ready_mono hj hji)
      obtain ⟨hjun, oj, hoj, hall⟩ := mem_ready.1 hj
      have hnl : listed.getD i false = true → False := fun h1 => by
        have h0 := (mem_ready.1 hr).1
        rcases Nat.lt_or_ge i listed.size with h' | h'
        · simp [h'] at h0 h1; rw [h0] at h1; cases h1
        · simp [Array.getElem?_eq_none h'] at h1
      have hnot : ∀ e ∈ oj.after, Region.binds md e = true → e.on ≠ i := fun e he hb heq => hnl (heq ▸ hall e he hb)
      have hjn : nd j = true := by
        rcases hnd j hji hjun with h | h
        · exact h
        · exact (hnl (anc_spec hcl N j oj h hoj hall)).elim
      have h2 := wpOp_putIf hoj (hfree j oj hoj hji hjun hnot) (fun cs b => hsel i oi cs b hi) (fun cs b => hsel j oj cs b hoj) hQ hy h1
      have hfree' : ∀ k ok, ops[k]? = some ok → k ≠ i → (listed.setIfInBounds j true).getD k true = false →
          (∀ e ∈ ok.after, Region.binds md e = true → e.on ≠ i) → oi.apart ops ok = true := fun k ok hk hki hun hno => by
        refine hfree k ok hk hki ?_ hno
        by_cases hjk : j = k
        · subst hjk; exact hjun
        · rw [getD_set_ne true hjk] at hun; exact hun
      have hnd' : ∀ k, k ≠ i → (listed.setIfInBounds j true).getD k true = false → nd k = true ∨ anc md ops N k i = true := fun k hki hun => by
        refine hnd k hki ?_
        by_cases hjk : j = k
        · subst hjk; exact hjun
        · rw [getD_set_ne true hjk] at hun; exact hun
      refine wpOp_mono (fun a' w' h3 => ⟨h3.2.1, ih (listed.setIfInBounds j true) a' w' (hcl.set hj) hfree' hnd' (ready_mono hr (Ne.symm hji)) h3.1 (h3.2.1 hjn) ?_⟩) h2
      rw [Array.setIfInBounds_comm _ _ hji]
      exact h3.2.2
/-- The same for what yields in whatever world. -/
theorem wpAnyN_first_pure {i : Nat} {oi : Oper} {v : Value} (hi : ops[i]? = some oi) (hsel : ∀ (j : Nat) (o : Oper) cs b, ops[j]? = some o → o.op ≠ .select cs b)
    (hQ : ∀ c a w, Q (.panic c) (a.put oi.dst v) w → Q (.panic c) a w) (hni : nd i = false) :
    ∀ (fuel : Nat) (listed : Array Bool) (a : Act) (w : World),
      (∀ j oj, ops[j]? = some oj → j ≠ i → listed.getD j true = false → (∀ e ∈ oj.after, Region.binds md e = true → e.on ≠ i) → oi.apart ops oj = true) →
      i ∈ Region.ready md ops listed → YieldsIf P ops (fun _ => True) oi v a →
      wpAnyN P md ops Q S nd fuel (listed.setIfInBounds i true) (a.put oi.dst v) w → wpAnyN P md ops Q S nd (fuel + 1) listed a w := by
  intro fuel
  induction fuel with
  | zero =>
    intro listed a w _ hr hy H
    refine ⟨fun h => (by rw [h] at hr; cases hr), fun j hj => ?_⟩
    by_cases hji : j = i
    · subst hji; exact hy.wpOp hi trivial ⟨fun h => (by rw [hni] at h; cases h), H⟩
    · have := ready_mono hj hji
      rw [H.1] at this
      cases this
  | succ fuel ih =>
    intro listed a w hfree hr hy H
    refine ⟨fun h => (by rw [h] at hr; cases hr), fun j hj => ?_⟩
    by_cases hji : j = i
    · subst hji; exact hy.wpOp hi trivial ⟨fun h => (by rw [hni] at h; cases h), H⟩
    · have h1 := H.2 j (ready_mono hj hji)
      obtain ⟨hjun, oj, hoj, hall⟩ := mem_ready.1 hj
      have hnot : ∀ e ∈ oj.after, Region.binds md e = true → e.on ≠ i := fun e he hb heq => by
        have h1 := hall e he hb
        have h0 := (mem_ready.1 hr).1
        rw [heq] at h1
        rcases Nat.lt_or_ge i listed.size with h' | h'
        · simp [h'] at h0 h1; rw [h0] at h1; cases h1
        · simp [Array.getElem?_eq_none h'] at h1
      have h2 := wpOp_putIf hoj (hfree j oj hoj hji hjun hnot) (fun cs b => hsel i oi cs b hi) (fun cs b => hsel j oj cs b hoj) hQ hy h1
      have hfree' : ∀ k ok, ops[k]? = some ok → k ≠ i → (listed.setIfInBounds j true).getD k true = false →
          (∀ e ∈ ok.after, Region.binds md e = true → e.on ≠ i) → oi.apart ops ok = true := fun k ok hk hki hun hno => by
        refine hfree k ok hk hki ?_ hno
        by_cases hjk : j = k
        · subst hjk; exact hjun
        · rw [getD_set_ne true hjk] at hun; exact hun
      refine wpOp_mono (fun a' w' h3 => ⟨h3.2.1, ih (listed.setIfInBounds j true) a' w' hfree' (ready_mono hr (Ne.symm hji)) h3.1 ?_⟩) h2
      rw [Array.setIfInBounds_comm _ _ hji]
      exact h3.2.2

/-! ### A plan: number, kind (0: yields in whatever world; 1: yields where S is; 2: carried out, and S is behind it; 3: carried out) -/
def ndOf (pl : List (Nat × Nat)) (i : Nat) : Bool := pl.any fun p => p.1 == i && (p.2 == 1 || p.2 == 2)
/-- The walk by a plan; behind it the rest of the operations in the text's order. -/
def wpPlan (P : Program) (ops : Array Oper) (Q : Exit → Act → World → Prop) (S : World → Prop) (tail : List Oper) : List (Nat × Nat) → Act → World → Prop
  | [], a, w => wpList P ops Q tail a w
  | (i, 0) :: r, a, w => ∃ o v, ops[i]? = some o ∧ YieldsIf P ops (fun _ => True) o v a ∧ wpPlan P ops Q S tail r (a.put o.dst v) w
  | (i, 1) :: r, a, w => ∃ o v, ops[i]? = some o ∧ YieldsIf P ops S o v a ∧ S w ∧ wpPlan P ops Q S tail r (a.put o.dst v) w
  | (i, 2) :: r, a, w => wpOp P ops Q i (fun a' w' => S w' ∧ wpPlan P ops Q S tail r a' w') a w
  | (i, _) :: r, a, w => wpOp P ops Q i (wpPlan P ops Q S tail r) a w
def ndAll (pl : List (Nat × Nat)) (listed : Array Bool) (md : Region.Mode) (ops : Array Oper) (i : Nat) : Bool :=
  (List.range ops.size).all fun j => j == i || listed.getD j true || ndOf pl j || anc md ops ops.size j i
def planOk (md : Region.Mode) (ops : Array Oper) (full : List (Nat × Nat)) (m : Nat) : List (Nat × Nat) → Array Bool → Bool
  | [], listed => tailOk md ops full (ops.size - m) m listed
  | (i, 0) :: r, listed => (Region.ready md ops listed).contains i && Region.free md ops listed i && !ndOf full i && planOk md ops full m r (listed.setIfInBounds i true)
  | (i, 1) :: r, listed => (Region.ready md ops listed).contains i && Region.free md ops listed i && ndAll full listed md ops i && planOk md ops full m r (listed.setIfInBounds i true)
  | (i, 2) :: r, listed => Region.ready md ops listed == [i] && planOk md ops full m r (listed.setIfInBounds i true)
  | (i, _) :: r, listed => Region.ready md ops listed == [i] && !ndOf full i && planOk md ops full m r (listed.setIfInBounds i true)
where
  tailOk (md : Region.Mode) (ops : Array Oper) (full : List (Nat × Nat)) : Nat → Nat → Array Bool → Bool
  | 0, _, listed => (Region.ready md ops listed).isEmpty
  | n + 1, k, listed => Region.ready md ops listed == [k] && !ndOf full k && tailOk md ops full n (k + 1) (listed.setIfInBounds k true)

theorem ndAll_spec {full : List (Nat × Nat)} {listed : Array Bool} {i : Nat} (hsz : listed.size = ops.size) (h : ndAll full listed md ops i = true) :
    ∀ j, j ≠ i → listed.getD j true = false → ndOf full j = true ∨ anc md ops ops.size j i = true := by
  intro j hji hl
  have hj : j < ops.size := by
    rcases Nat.lt_or_ge j listed.size with h' | h'
    · omega
    · simp [Array.getElem?_eq_none h'] at hl
  have := List.all_eq_true.1 h j (List.mem_range.2 hj)
  simp only [Bool.or_eq_true, beq_iff_eq, hji, hl, false_or, Bool.false_eq_true] at this
  exact this
theorem tail_sound {full : List (Nat × Nat)} : ∀ (tl : List Oper) (k : Nat) (listed : Array Bool) (a : Act) (w : World), (∀ j, tl[j]? = ops[k + j]?) →
    planOk.tailOk md ops full tl.length k listed = true → wpList P ops Q tl a w → wpAnyN P md ops Q S (ndOf full) tl.length listed a w
  | [], k, listed, a, w, hl, hB, h => ⟨by simpa [planOk.tailOk] using hB, h⟩
  | o :: tl, k, listed, a, w, hl, hB, h => by
    have h0 : ops[k]? = some o := by simpa using (hl 0).symm
    simp only [List.length_cons, planOk.tailOk, Bool.and_eq_true, beq_iff_eq, Bool.not_eq_true'] at hB
    obtain ⟨⟨hr, hn⟩, hB'⟩ := hB
    refine ⟨fun he => (by rw [hr] at he; cases he), fun i hi => ?_⟩
    rw [hr] at hi
    obtain rfl : i = k := by simpa using hi
    have hstep : wpOp P ops Q i (wpList P ops Q tl) a w := by
      unfold wpOp; simp only [h0]; exact h
    exact wpOp_mono (fun a' w' h' => ⟨fun hh => (by rw [hn] at hh; cases hh), tail_sound tl (i + 1) _ a' w' (fun j => by have := hl (j + 1); simpa [Nat.add_assoc, Nat.add_comm 1 j] using this) hB' h'⟩) hstep

theorem plan_sound {full : List (Nat × Nat)} {m : Nat} {tail : List Oper} (hs : Region.noSelect ops = true) (ht : ∀ j, tail[j]? = ops[m + j]?) (hm : tail.length = ops.size - m)
    (hQ : ∀ c a d v w, Q (.panic c) (Act.put a d v) w → Q (.panic c) a w) :
    ∀ (pl : List (Nat × Nat)) (listed : Array Bool) (a : Act) (w : World), listed.size = ops.size → Closed md ops listed → planOk md ops full m pl listed = true →
      wpPlan P ops Q S tail pl a w → wpAnyN P md ops Q S (ndOf full) (pl.length + tail.length) listed a w
  | [], listed, a, w, hsz, hc, hB, h => by
    simp only [List.length_nil, Nat.zero_add]
    unfold planOk at hB
    exact tail_sound tail m listed a w ht (by rw [hm]; exact hB) h
  | (i, 0) :: r, listed, a, w, hsz, hc, hB, h => by
    simp only [planOk, Bool.and_eq_true, Bool.not_eq_true'] at hB
    obtain ⟨⟨⟨hr, hf⟩, hn⟩, hB'⟩ := hB
    obtain ⟨o, v, hi, hy, h'⟩ := h
    rw [show (((i, 0) :: r).length + tail.length) = (r.length + tail.length) + 1 from by simp; omega]
    have hr' : i ∈ Region.ready md ops listed := by simpa using hr
    exact wpAnyN_first_pure hi (Region.noSelect_spec hs) (fun c a w => hQ c a _ _ w) hn _ listed a w (Region.free_spec hi hf) hr' hy
      (plan_sound hs ht hm hQ r _ _ w (by simpa using hsz) (hc.set hr') hB' h')
  | (i, 1) :: r, listed, a, w, hsz, hc, hB, h => by
    simp only [planOk, Bool.and_eq_true] at hB
    obtain ⟨⟨⟨hr, hf⟩, hn⟩, hB'⟩ := hB
    obtain ⟨o, v, hi, hy, hS, h'⟩ := h
    rw [show (((i, 1) :: r).length + tail.length) = (r.length + tail.length) + 1 from by simp; omega]
    have hr' : i ∈ Region.ready md ops listed := by simpa using hr
    exact wpAnyN_first hi (Region.noSelect_spec hs) (fun c a w => hQ c a _ _ w) ops.size _ listed a w hc (Region.free_spec hi hf) (ndAll_spec hsz hn) hr' hy hS
      (plan_sound hs ht hm hQ r _ _ w (by simpa using hsz) (hc.set hr') hB' h')
  | (i, 2) :: r, listed, a, w, hsz, hc, hB, h => by
    simp only [planOk, Bool.and_eq_true, beq_iff_eq] at hB
    obtain ⟨hr, hB'⟩ := hB
    rw [show (((i, 2) :: r).length + tail.length) = (r.length + tail.length) + 1 from by simp; omega]
    refine ⟨fun he => (by rw [hr] at he; cases he), fun j hj => ?_⟩
    have hj' := hj
    rw [hr] at hj
    obtain rfl : j = i := by simpa using hj
    exact wpOp_mono (fun a' w' h' => ⟨fun _ => h'.1, plan_sound hs ht hm hQ r _ a' w' (by simpa using hsz) (hc.set hj') hB' h'.2⟩) h
  | (i, k + 3) :: r, listed, a, w, hsz, hc, hB, h => by
    simp only [planOk, Bool.and_eq_true, beq_iff_eq, Bool.not_eq_true'] at hB
    obtain ⟨⟨hr, hn⟩, hB'⟩ := hB
    rw [show (((i, k + 3) :: r).length + tail.length) = (r.length + tail.length) + 1 from by simp; omega]
    refine ⟨fun he => (by rw [hr] at he; cases he), fun j hj => ?_⟩
    have hj' := hj
    rw [hr] at hj
    obtain rfl : j = i := by simpa using hj
    exact wpOp_mono (fun a' w' h' => ⟨fun hh => (by rw [hn] at hh; cases hh), plan_sound hs ht hm hQ r _ a' w' (by simpa using hsz) (hc.set hj') hB' h'⟩) h

def regOk (l : List Oper) (pl : List (Nat × Nat)) (m : Nat) : Bool :=
  Region.noSelect l.toArray && (pl.length + (l.length - m) == l.length) && planOk .any l.toArray pl m pl (Array.replicate l.length false)
/-- A region whose order is open, by a plan: what is shown not to panic. -/
theorem wp_region_plan {id : Nat} {l : List Oper} {a : Act} {w : World} (S : World → Prop) (pl : List (Nat × Nat)) (m : Nat) (hm : P.follows .mixedOrders = true) (hB : regOk l pl m = true)
    (h : wpPlan P l.toArray (NoPanic Q) S (l.drop m) pl a w.drew) : (Code.region id l.toArray true).wp P Q a w := by
  simp only [regOk, Bool.and_eq_true, beq_iff_eq] at hB
  obtain ⟨⟨hs, hlen⟩, hB⟩ := hB
  refine wp_region_noPanic (wp_region_any hm (wpAny_of_N (S := S) (nd := ndOf pl) _ _ _ _ ?_))
  have h1 := plan_sound (md := .any) (full := pl) (m := m) (tail := l.drop m) hs (fun j => by simp) (by simp) (fun c a d v w h => h) pl (Array.replicate l.length false) a w.drew (by simp)
    (fun j oj hj hl => by
      exfalso
      rcases Nat.lt_or_ge j l.length with h' | h'
      · simp [h'] at hl
      · simp [h'] at hl)
    (by simpa using hB) h
  rw [List.length_drop, hlen] at h1
  simpa using h1

/-! ### The moves -/
section
variable {tail : List Oper} {r : List (Nat × Nat)} {a : Act} {w : World} {i : Nat} {o : Oper} {v : Value}
theorem plan_pure (hi : ops[i]? = some o) (hw : Region.wanted o (yielded ops a.tmps) = true) (hy : ∀ w, (execOp a.eval o).run P w = .ok (.value v) w)
    (h : wpPlan P ops Q S tail r (a.put o.dst v) w) : wpPlan P ops Q S tail ((i, 0) :: r) a w := ⟨o, v, hi, .inl ⟨hw, fun w _ => hy w⟩, h⟩
theorem plan_skip (hi : ops[i]? = some o) (hw : Region.wanted o (yielded ops a.tmps) = false)
    (h : wpPlan P ops Q S tail r (a.put o.dst undef) w) : wpPlan P ops Q S tail ((i, 0) :: r) a w := ⟨o, undef, hi, .inr ⟨hw, rfl⟩, h⟩
theorem plan_held (hi : ops[i]? = some o) (hw : Region.wanted o (yielded ops a.tmps) = true) (hy : ∀ w, S w → (execOp a.eval o).run P w = .ok (.value v) w) (hS : S w)
    (h : wpPlan P ops Q S tail r (a.put o.dst v) w) : wpPlan P ops Q S tail ((i, 1) :: r) a w := ⟨o, v, hi, .inl ⟨hw, hy⟩, hS, h⟩
theorem plan_held_skip (hi : ops[i]? = some o) (hw : Region.wanted o (yielded ops a.tmps) = false) (hS : S w)
    (h : wpPlan P ops Q S tail r (a.put o.dst undef) w) : wpPlan P ops Q S tail ((i, 1) :: r) a w := ⟨o, undef, hi, .inr ⟨hw, rfl⟩, hS, h⟩
theorem plan_eff (hi : ops[i]? = some o) (h : ∀ K : Act → World → Prop, (∀ a w, (S w ∧ wpPlan P ops Q S tail r a w) → K a w) →
    if Region.wanted o (yielded ops a.tmps) then o.wp P a w K Q else K (a.put o.dst undef) w) : wpPlan P ops Q S tail ((i, 2) :: r) a w := by
  have := h _ (fun _ _ h => h)
  show wpOp P ops Q i _ a w
  unfold wpOp
  simp only [hi]
  split
  · rename_i hw; rw [if_pos hw] at this; exact .inl this
  · rename_i hw; rw [if_neg hw] at this; exact this
theorem plan_do (hi : ops[i]? = some o) (h : ∀ K : Act → World → Prop, (∀ a w, wpPlan P ops Q S tail r a w → K a w) →
    if Region.wanted o (yielded ops a.tmps) then o.wp P a w K Q else K (a.put o.dst undef) w) : wpPlan P ops Q S tail ((i, 3) :: r) a w := by
  have := h _ (fun _ _ h => h)
  show wpOp P ops Q i _ a w
  unfold wpOp
  simp only [hi]
  split
  · rename_i hw; rw [if_pos hw] at this; exact .inl this
  · rename_i hw; rw [if_neg hw] at this; exact this
theorem plan_end (h : wpList P ops Q tail a w) : wpPlan P ops Q S tail [] a w := h
end
end
/-- What stood in the first world's heap stands there still. -/
def Ext (w w' : World) : Prop := ∀ (b : Nat) (o : Obj), w.heap[b]? = some o → w'.heap[b]? = some o
theorem Ext.refl (w : World) : Ext w w := fun _ _ h => h
theorem Ext.drew {w w' : World} (h : Ext w w') : Ext w w'.drew := h
theorem Ext.drewN {w w' : World} (h : Ext w w') (n : Nat) : Ext w (w'.drewN n) := h
theorem Ext.alloc {w w' : World} (h : Ext w w') (o : Obj) : Ext w (w'.alloc o) := fun b x e => by
  have e1 := h b x e
  have hb : b < w'.heap.size := (Array.getElem?_eq_some_iff.1 e1).1
  show (w'.heap.push o)[b]? = _
  rw [Array.getElem?_push, if_neg (by omega)]
  exact e1
theorem Ext.below {w w' w'' : World} (h : Ext w w') (k : Below w'.heap.size w' w'') : Ext w w'' := fun b x e => by
  have e1 := h b x e
  exact (k.block b (Array.getElem?_eq_some_iff.1 e1).1).trans e1
theorem Ext.setNew {w w' : World} (h : Ext w w') (p : Addr) (v : Value) (hp : w.heap.size ≤ p.block) : Ext w (w'.setCell p v) := fun b x e => by
  have hb : b < w.heap.size := (Array.getElem?_eq_some_iff.1 e).1
  rw [Below.heap_setCell _ _ _ _ (by omega)]
  exact h b x e
theorem Ext.rule {w : World} {a : Addr} {v : Value} (h : w.cell? a = some v) : ∀ w', Ext w w' → w'.cell? a = some v := fun w' k => by
  have hlt := World.block_lt_of_cell? w a h
  have e : w.heap[a.block]? = some w.heap[a.block] := Array.getElem?_eq_getElem hlt
  exact (World.cell?_of_block (w := w) ((k _ _ e).trans e.symm)).trans h
/-- A cell behind new blocks: for the walk, which doesn't look for long. -/
theorem allocs {w : World} {a : Addr} {v : Value} (h : w.cell? a = some v) : (∀ o, (w.alloc o).cell? a = some v) ∧ (∀ o o', ((w.alloc o).alloc o').cell? a = some v) ∧
    (∀ o o' o'', (((w.alloc o).alloc o').alloc o'').cell? a = some v) ∧ (∀ o o' o'' o3, ((((w.alloc o).alloc o').alloc o'').alloc o3).cell? a = some v) ∧
    (∀ o o' o'' o3 o4, (((((w.alloc o).alloc o').alloc o'').alloc o3).alloc o4).cell? a = some v) ∧ (∀ o o' o'' o3 o4 o5, ((((((w.alloc o).alloc o').alloc o'').alloc o3).alloc o4).alloc o5).cell? a = some v) :=
  have r := Ext.rule h
  have e := Ext.refl w
  ⟨fun _ => r _ (e.alloc _), fun _ _ => r _ ((e.alloc _).alloc _), fun _ _ _ => r _ (((e.alloc _).alloc _).alloc _), fun _ _ _ _ => r _ ((((e.alloc _).alloc _).alloc _).alloc _),
    fun _ _ _ _ _ => r _ (((((e.alloc _).alloc _).alloc _).alloc _).alloc _), fun _ _ _ _ _ _ => r _ ((((((e.alloc _).alloc _).alloc _).alloc _).alloc _).alloc _)⟩
theorem Ext.frozen {w : World} {a : Addr} {v : Value} (h : w.cell? a = some v) {b : Bool} (hf : w.frozen? a = b) : ∀ w', Ext w w' → w'.frozen? a = b := fun w' k => by
  have hlt := World.block_lt_of_cell? w a h
  have e : w.heap[a.block]? = some w.heap[a.block] := Array.getElem?_eq_getElem hlt
  exact (World.frozen?_of_block (w := w) ((k _ _ e).trans e.symm)).trans hf
end Go.Proofs.YtnmkdhoijdoccaaDoor.SL
