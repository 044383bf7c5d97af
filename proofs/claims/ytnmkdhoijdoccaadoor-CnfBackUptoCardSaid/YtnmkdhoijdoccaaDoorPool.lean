/- Rows shared: several outer slices refer to inner rows that stand in one pool. -/
import Derived.Test.YtnmkdhoijdoccaaDoorRw2
set_option linter.unusedVariables false
set_option linter.unusedSimpArgs false
namespace Go.Proofs.YtnmkdhoijdoccaaDoor.SL
open Go Go.RowKit

abbrev Ent2 := List (Slc × List Int)
def PoolL (ps : Ent2) : List HP := ps.map fun p => Arr (cInt .i64) 3 p.1.val p.2
/-- Inner rows, each in a block of its own. -/
def Pool (ps : Ent2) : HP := All (PoolL ps)
/-- An outer slice that refers to rows of a pool. -/
def Ref (v : Value) (qs : Ent2) : HP := Arr cSlc 51 v (qs.map Prod.fst)
section
variable {w0 w w' : World} {l : List HP} {v v' : Value} {ps qs : Ent2} {s : Slc} {xs : List Int} {xss : List (List Int)}
theorem inn_pool : ∀ (ss : List Slc) (xss : List (List Int)), Inn (cInt .i64) 3 ss xss = PoolL (ss.zip xss)
  | [], _ => by simp [Inn, PoolL]
  | _ :: _, [] => by simp [Inn, PoolL]
  | s :: ss, x :: xss => by
    show Arr (cInt .i64) 3 s.val x :: Inn (cInt .i64) 3 ss xss = _
    rw [inn_pool ss xss]; rfl
theorem St.pool_push (h : St w0 (Arr (cInt .i64) 3 s.val xs :: Pool ps :: l) w) : St w0 (Pool ((s, xs) :: ps) :: l) w := by
  have h1 : St w0 (Pool ps :: Arr (cInt .i64) 3 s.val xs :: l) w := h.swap
  have h2 : St w0 (PoolL ps ++ Arr (cInt .i64) 3 s.val xs :: l) w := SL.St.flat h1
  have h3 := h2.pull ps.length
  have e : SL.pull ps.length (PoolL ps ++ Arr (cInt .i64) 3 s.val xs :: l) = PoolL ((s, xs) :: ps) ++ l := by
    have key : ∀ (k : List HP) (P : HP), SL.pull k.length (k ++ P :: l) = P :: (k ++ l) := fun k P => by
      induction k with
      | nil => rfl
      | cons Q k ih => simp only [List.length_cons, List.cons_append, SL.pull, ih]
    have := key (PoolL ps) (Arr (cInt .i64) 3 s.val xs)
    rw [show (PoolL ps).length = ps.length by simp [PoolL]] at this
    exact this
  rw [e] at h3
  exact SL.St.fold h3
theorem poolL_rd : ∀ (ps : Ent2) {l : List HP}, St w0 (PoolL ps ++ l) w → ∀ p ∈ ps, Rd (cInt .i64) p.1.val p.2 w
  | [], _, _, p, hp => nomatch hp
  | q :: ps, l, h, p, hp => by
    have h' : St w0 (Arr (cInt .i64) 3 q.1.val q.2 :: (PoolL ps ++ l)) w := h
    rcases List.mem_cons.1 hp with rfl | hp
    · exact h'.rd
    · exact poolL_rd ps h'.drop p hp
theorem St.pool_rd (h : St w0 (Pool ps :: l) w) : ∀ p ∈ ps, Rd (cInt .i64) p.1.val p.2 w := poolL_rd ps (SL.St.flat h)
theorem St.pool_of (h : St w0 (Arr2 (cInt .i64) 3 51 v xss :: l) w) : ∃ qs : Ent2, qs.map Prod.snd = xss ∧ St w0 (Ref v qs :: Pool qs :: l) w := by
  obtain ⟨ss, hl, h1⟩ := h.arr2
  refine ⟨ss.zip xss, List.map_snd_zip (by omega), ?_⟩
  rw [inn_pool] at h1
  have h2 : St w0 (Pool (ss.zip xss) :: Arr cSlc 51 v ss :: l) w := SL.St.fold (l := PoolL (ss.zip xss)) (by
    have e : ∀ (k : List HP) (P : HP), St w0 (P :: (k ++ l)) w → St w0 (k ++ P :: l) w := fun k P h => by
      have h3 := h.push k.length
      have key : ∀ k : List HP, SL.push k.length (P :: (k ++ l)) = k ++ P :: l := fun k => by
        induction k with
        | nil => rfl
        | cons Q k ih => simp only [List.length_cons, List.cons_append, SL.push, ih]
      rw [key] at h3
      exact h3
    exact e _ _ h1)
  have h3 := h2.swap
  unfold Ref
  rw [List.map_fst_zip (by omega)]
  exact h3
theorem St.ref_nil (h : St w0 l w) : St w0 (Ref (.slice none 0 0) [] :: l) w := h.rows_nil cSlc 51
theorem St.ref_rd2 (h : St w0 (Ref v qs :: Pool ps :: l) w) (hs : ∀ p ∈ qs, p ∈ ps) : Rd2 (cInt .i64) v (qs.map Prod.snd) w := by
  have h1 : St w0 (Arr cSlc 51 v (qs.map Prod.fst) :: Pool ps :: l) w := h
  refine ⟨qs.map Prod.fst, by simp, h1.rd, fun i s x h2 h3 => ?_⟩
  rw [List.getElem?_map] at h2 h3
  obtain ⟨p, hp, rfl⟩ := Option.map_eq_some_iff.1 h2
  rw [hp] at h3
  obtain rfl : p.2 = x := by simpa using h3
  exact h.drop.pool_rd p (hs p (List.mem_of_getElem? hp))
/-- The row at i of an outer slice. -/
theorem St.ref_at (h : St w0 (Ref v qs :: l) w) (i : Nat) (hi : i < qs.length) : ∃ ad c, v = .slice (some ad) qs.length c ∧ w.cell? (ad.add i) = some qs[i].1.val := by
  have h1 : St w0 (Arr cSlc 51 v (qs.map Prod.fst) :: l) w := h
  obtain ⟨A, c, rfl, hm, hc⟩ := h1.rd
  have hi' : i < (qs.map Prod.fst).length := by simpa using hi
  obtain ⟨ad, rfl, hr⟩ := hc i _ (List.getElem?_eq_getElem hi')
  refine ⟨ad, c, by rw [List.length_map], ?_⟩
  have := hr 0 _ rfl
  simpa [cSlc, Slc.val] using this
theorem St.ref_form (h : St w0 (Ref v qs :: l) w) : ∃ A c, v = .slice A qs.length c ∧ qs.length ≤ maxLen := by
  have h1 : St w0 (Arr cSlc 51 v (qs.map Prod.fst) :: l) w := h
  obtain ⟨A, c, rfl, hm, -⟩ := h1.rd
  exact ⟨A, c, by rw [List.length_map], by simpa using hm⟩
theorem Ent.pool {p : Slc × List Int} (hp : p ∈ ps) : Ent (Pool ps :: l) (Rd (cInt .i64) p.1.val p.2) := fun _ _ h => h.pool_rd p hp
theorem St.ref_snoc {x : List Int} (h : St w0 (Arr cSlc 51 v (qs.map Prod.fst ++ [s]) :: l) w) : St w0 (Ref v (qs ++ [(s, x)]) :: l) w := by
  unfold Ref
  rw [List.map_append]
  exact h
end
end Go.Proofs.YtnmkdhoijdoccaaDoor.SL
