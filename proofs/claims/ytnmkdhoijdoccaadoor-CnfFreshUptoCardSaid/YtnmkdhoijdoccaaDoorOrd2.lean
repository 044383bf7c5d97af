/- A region whose order is open, by a plan that ends in a fork: two operations stand ready, either may come first. -/
import Derived.Test.YtnmkdhoijdoccaaDoorOrd
set_option linter.unusedVariables false
set_option linter.unusedSimpArgs false
namespace Go.Proofs.YtnmkdhoijdoccaaDoor.SL
open Go Go.RowKit

section
variable {P : Program} {ops : Array Oper} {Q : Exit → Act → World → Prop} {md : Region.Mode} {S : World → Prop}

/-- The walk by a plan of what only looks; behind it Base. -/
def wpPlanB (P : Program) (ops : Array Oper) (Q : Exit → Act → World → Prop) (S : World → Prop) (Base : Act → World → Prop) : List (Nat × Nat) → Act → World → Prop
  | [], a, w => Base a w
  | (i, 0) :: r, a, w => ∃ o v, ops[i]? = some o ∧ YieldsIf P ops (fun _ => True) o v a ∧ wpPlanB P ops Q S Base r (a.put o.dst v) w
  | (i, _) :: r, a, w => ∃ o v, ops[i]? = some o ∧ YieldsIf P ops S o v a ∧ S w ∧ wpPlanB P ops Q S Base r (a.put o.dst v) w
def planOkB (md : Region.Mode) (ops : Array Oper) (full : List (Nat × Nat)) : List (Nat × Nat) → Array Bool → Bool
  | [], listed => true
  | (i, 0) :: r, listed => (Region.ready md ops listed).contains i && Region.free md ops listed i && !ndOf full i && planOkB md ops full r (listed.setIfInBounds i true)
  | (i, _) :: r, listed => (Region.ready md ops listed).contains i && Region.free md ops listed i && ndAll full listed md ops i && planOkB md ops full r (listed.setIfInBounds i true)
def finB : List (Nat × Nat) → Array Bool → Array Bool
  | [], listed => listed
  | (i, _) :: r, listed => finB r (listed.setIfInBounds i true)

theorem planB_sound {full : List (Nat × Nat)} {Base : Act → World → Prop} (hs : Region.noSelect ops = true) (hQ : ∀ c a d v w, Q (.panic c) (Act.put a d v) w → Q (.panic c) a w) (n : Nat) :
    ∀ (pl : List (Nat × Nat)) (listed : Array Bool) (a : Act) (w : World), listed.size = ops.size → Closed md ops listed → planOkB md ops full pl listed = true →
      (∀ a w, (finB pl listed).size = ops.size → Closed md ops (finB pl listed) → Base a w → wpAnyN P md ops Q S (ndOf full) n (finB pl listed) a w) →
      wpPlanB P ops Q S Base pl a w → wpAnyN P md ops Q S (ndOf full) (pl.length + n) listed a w
  | [], listed, a, w, hsz, hc, _, hb, h => by
    rw [List.length_nil, Nat.zero_add]
    exact hb a w hsz hc h
  | (i, 0) :: r, listed, a, w, hsz, hc, hB, hb, h => by
    simp only [planOkB, Bool.and_eq_true, Bool.not_eq_true'] at hB
    obtain ⟨⟨⟨hr, hf⟩, hn⟩, hB'⟩ := hB
    obtain ⟨o, v, hi, hy, h'⟩ := h
    rw [show (((i, 0) :: r).length + n) = (r.length + n) + 1 from by simp; omega]
    have hr' : i ∈ Region.ready md ops listed := by simpa using hr
    exact wpAnyN_first_pure hi (Region.noSelect_spec hs) (fun c a w => hQ c a _ _ w) hn _ listed a w (Region.free_spec hi hf) hr' hy
      (planB_sound hs hQ n r _ _ w (by simpa using hsz) (hc.set hr') hB' hb h')
  | (i, k + 1) :: r, listed, a, w, hsz, hc, hB, hb, h => by
    simp only [planOkB, Bool.and_eq_true] at hB
    obtain ⟨⟨⟨hr, hf⟩, hn⟩, hB'⟩ := hB
    obtain ⟨o, v, hi, hy, hS, h'⟩ := h
    rw [show (((i, k + 1) :: r).length + n) = (r.length + n) + 1 from by simp; omega]
    have hr' : i ∈ Region.ready md ops listed := by simpa using hr
    exact wpAnyN_first hi (Region.noSelect_spec hs) (fun c a w => hQ c a _ _ w) ops.size _ listed a w hc (Region.free_spec hi hf) (ndAll_spec hsz hn) hr' hy hS
      (planB_sound hs hQ n r _ _ w (by simpa using hsz) (hc.set hr') hB' hb h')

def forkOk (l : List Oper) (pl : List (Nat × Nat)) (i j : Nat) (plA : List (Nat × Nat)) (mA : Nat) (plB : List (Nat × Nat)) (mB : Nat) : Bool :=
  let full := (i, 2) :: (j, 2) :: pl
  let L := finB pl (Array.replicate l.length false)
  Region.noSelect l.toArray && planOkB .any l.toArray full pl (Array.replicate l.length false) && (Region.ready .any l.toArray L == [i, j]) &&
  planOk .any l.toArray full mA plA (L.setIfInBounds i true) && planOk .any l.toArray full mB plB (L.setIfInBounds j true) &&
  (pl.length + (plA.length + (l.length - mA) + 1) == l.length) && (plB.length + (l.length - mB) == plA.length + (l.length - mA))

theorem wp_region_fork {id : Nat} {l : List Oper} {a : Act} {w : World} (S : World → Prop) (pl : List (Nat × Nat)) (i j : Nat) (plA : List (Nat × Nat)) (mA : Nat) (plB : List (Nat × Nat)) (mB : Nat) (hm : P.follows .mixedOrders = true) (hB : forkOk l pl i j plA mA plB mB = true)
    (h : wpPlanB P l.toArray (NoPanic Q) S (fun a w => wpPlan P l.toArray (NoPanic Q) S (l.drop mA) ((i, 2) :: plA) a w ∧ wpPlan P l.toArray (NoPanic Q) S (l.drop mB) ((j, 2) :: plB) a w) pl a w.drew) : (Code.region id l.toArray true).wp P Q a w := by
  simp only [forkOk, Bool.and_eq_true, beq_iff_eq] at hB
  obtain ⟨⟨⟨⟨⟨⟨hs, hpl⟩, hrd⟩, hA⟩, hB2⟩, hlen⟩, hlen2⟩ := hB
  refine wp_region_noPanic (wp_region_any hm (wpAny_of_N (S := S) (nd := ndOf ((i, 2) :: (j, 2) :: pl)) _ _ _ _ ?_))
  have hc0 : Closed .any l.toArray (Array.replicate l.length false) := fun j oj hj hl => by
    exfalso
    rcases Nat.lt_or_ge j l.length with h' | h'
    · simp [h'] at hl
    · simp [h'] at hl
  have h1 := planB_sound (md := .any) (full := (i, 2) :: (j, 2) :: pl) hs (fun c a d v w h => h) (plA.length + (l.length - mA) + 1) pl (Array.replicate l.length false) a w.drew (by simp) hc0 hpl (fun a w hsz hc hb => by
    refine ⟨fun he => (by rw [hrd] at he; cases he), fun k hk => ?_⟩
    have hk' := hk
    rw [hrd] at hk
    rcases List.mem_cons.1 hk with rfl | hk
    · refine wpOp_mono (fun a' w' h' => ⟨fun _ => h'.1, ?_⟩) hb.1
      have := plan_sound (md := .any) (full := (k, 2) :: (j, 2) :: pl) (m := mA) (tail := l.drop mA) hs (fun j => by simp) (by simp) (fun c a d v w h => h) plA _ a' w' (by simpa using hsz) (hc.set hk') hA h'.2
      rw [List.length_drop] at this
      exact this
    · obtain rfl : k = j := List.mem_singleton.1 hk
      refine wpOp_mono (fun a' w' h' => ⟨fun _ => h'.1, ?_⟩) hb.2
      have := plan_sound (md := .any) (full := (i, 2) :: (k, 2) :: pl) (m := mB) (tail := l.drop mB) hs (fun j => by simp) (by simp) (fun c a d v w h => h) plB _ a' w' (by simpa using hsz) (hc.set hk') hB2 h'.2
      rw [List.length_drop, hlen2] at this
      exact this) h
  rw [hlen] at h1
  simpa using h1

section
variable {Base : Act → World → Prop} {r : List (Nat × Nat)} {a : Act} {w : World} {i : Nat} {o : Oper} {v : Value}
theorem planB_pure (hi : ops[i]? = some o) (hw : Region.wanted o (yielded ops a.tmps) = true) (hy : ∀ w, (execOp a.eval o).run P w = .ok (.value v) w)
    (h : wpPlanB P ops Q S Base r (a.put o.dst v) w) : wpPlanB P ops Q S Base ((i, 0) :: r) a w := ⟨o, v, hi, .inl ⟨hw, fun w _ => hy w⟩, h⟩
theorem planB_skip (hi : ops[i]? = some o) (hw : Region.wanted o (yielded ops a.tmps) = false)
    (h : wpPlanB P ops Q S Base r (a.put o.dst undef) w) : wpPlanB P ops Q S Base ((i, 0) :: r) a w := ⟨o, undef, hi, .inr ⟨hw, rfl⟩, h⟩
theorem planB_held (hi : ops[i]? = some o) (hw : Region.wanted o (yielded ops a.tmps) = true) (hy : ∀ w, S w → (execOp a.eval o).run P w = .ok (.value v) w) (hS : S w)
    (h : wpPlanB P ops Q S Base r (a.put o.dst v) w) : wpPlanB P ops Q S Base ((i, 1) :: r) a w := ⟨o, v, hi, .inl ⟨hw, hy⟩, hS, h⟩
theorem planB_held_skip (hi : ops[i]? = some o) (hw : Region.wanted o (yielded ops a.tmps) = false) (hS : S w)
    (h : wpPlanB P ops Q S Base r (a.put o.dst undef) w) : wpPlanB P ops Q S Base ((i, 1) :: r) a w := ⟨o, undef, hi, .inr ⟨hw, rfl⟩, hS, h⟩
end
end
end Go.Proofs.YtnmkdhoijdoccaaDoor.SL
