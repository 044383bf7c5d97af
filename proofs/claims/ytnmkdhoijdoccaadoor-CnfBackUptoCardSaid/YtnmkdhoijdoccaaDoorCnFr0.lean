/- Rows of a pool that are written full, and appended to. -/
import Derived.Test.YtnmkdhoijdoccaaDoorPool
import Derived.Test.YtnmkdhoijdoccaaDoorCnFk
set_option linter.unusedVariables false
set_option linter.unusedSimpArgs false
namespace Go.Proofs.YtnmkdhoijdoccaaDoor.SL
open Go Go.RowKit

section
variable {w0 w w' : World} {l : List HP} {v v' : Value} {ps qs : Ent2} {s : Slc} {xs : List Int} {P : HP} {Ps : List HP}
theorem pull_mid (k : List HP) (P : HP) (l : List HP) : SL.pull k.length (k ++ P :: l) = P :: (k ++ l) := by
  induction k with
  | nil => rfl
  | cons Q k ih => simp only [List.length_cons, List.cons_append, SL.pull, ih]
theorem St.mid {k : List HP} (h : St w0 (k ++ P :: l) w) : St w0 (P :: (k ++ l)) w := by
  have := h.pull k.length
  rwa [pull_mid] at this
theorem St.unmid {k : List HP} (h : St w0 (P :: (k ++ l)) w) : St w0 (k ++ P :: l) w :=
  h.perm List.perm_middle.symm
theorem poolL_app : PoolL (ps ++ qs) = PoolL ps ++ PoolL qs := by unfold PoolL; rw [List.map_append]
theorem St.pool_app (h : St w0 (Pool ps :: Pool qs :: l) w) : St w0 (Pool (qs ++ ps) :: l) w := by
  have h1 : St w0 (Pool qs :: (PoolL ps ++ l)) w := by
    have h2 : St w0 (PoolL ps ++ Pool qs :: l) w := SL.St.flat h
    exact h2.mid
  have h3 : St w0 (PoolL qs ++ (PoolL ps ++ l)) w := SL.St.flat h1
  rw [← List.append_assoc, ← poolL_app] at h3
  exact SL.St.fold h3
theorem St.pool_snoc (h : St w0 (Arr (cInt .i64) 3 s.val xs :: Pool qs :: l) w) : St w0 (Pool (qs ++ [(s, xs)]) :: l) w := by
  have h1 : St w0 (PoolL [(s, xs)] ++ (Pool qs :: l)) w := h
  have h2 : St w0 (Pool [(s, xs)] :: Pool qs :: l) w := SL.St.fold h1
  exact h2.pool_app
theorem St.pool_uncons {p : Slc × List Int} (h : St w0 (Pool (p :: ps) :: l) w) : St w0 (Arr (cInt .i64) 3 p.1.val p.2 :: Pool ps :: l) w := by
  have h1 : St w0 (PoolL (p :: ps) ++ l) w := SL.St.flat h
  have h2 : St w0 (PoolL ps ++ Arr (cInt .i64) 3 p.1.val p.2 :: l) w := by
    have h3 : St w0 (Arr (cInt .i64) 3 p.1.val p.2 :: (PoolL ps ++ l)) w := h1
    exact h3.unmid
  exact (show St w0 (Pool ps :: Arr (cInt .i64) 3 p.1.val p.2 :: l) w from SL.St.fold h2).swap
theorem St.all_nil (h : St w0 l w) : St w0 (All [] :: l) w := SL.St.fold (l := []) h
theorem St.all_snoc (h : St w0 (P :: All Ps :: l) w) : St w0 (All (Ps ++ [P]) :: l) w := by
  have h1 : St w0 (Ps ++ P :: l) w := SL.St.flat h.swap
  have h2 : St w0 ((Ps ++ [P]) ++ l) w := by rw [List.append_assoc]; exact h1
  exact SL.St.fold h2
theorem St.all_at (h : St w0 (All Ps :: l) w) (t : Nat) (ht : Ps[t]? = some P) : ∃ l', St w0 (P :: l') w := by
  have h1 : St w0 (Ps ++ l) w := SL.St.flat h
  obtain ⟨h2, h3⟩ := List.getElem?_eq_some_iff.1 ht
  have e : Ps = Ps.take t ++ P :: Ps.drop (t + 1) := by
    rw [← h3, List.getElem_cons_drop]; exact (List.take_append_drop t Ps).symm
  rw [e, List.append_assoc] at h1
  exact ⟨_, St.mid (k := Ps.take t) h1⟩
/-- A row that was written full of 1000+t, and what was appended to it. -/
def DoneP (P : HP) (s s' : Slc) (n t : Nat) : Prop := ∀ (w0 w : World) (l : List HP), St w0 (P :: l) w → Rd (cInt .i64) s.val (List.replicate n (1000 + (t : Int))) w ∧ Rd (cInt .i64) s'.val (List.replicate n (1000 + (t : Int)) ++ [2000 + (t : Int), 2000 + (t : Int)]) w
structure Dones (Ps : List HP) (qs ls : Ent2) (i : Nat) : Prop where
  lenP : Ps.length = i
  lenL : ls.length = i
  all : ∀ (t : Nat) (p q : Slc × List Int) (P : HP), qs[t]? = some p → ls[t]? = some q → Ps[t]? = some P → DoneP P p.1 q.1 p.2.length t
theorem Dones.nil : Dones [] qs [] 0 := ⟨rfl, rfl, fun t p q P _ _ h => by simp at h⟩
theorem Dones.snoc {ls : Ent2} {i : Nat} (h : Dones Ps qs ls i) {p q : Slc × List Int} (hp : qs[i]? = some p) (hd : DoneP P p.1 q.1 p.2.length i) : Dones (Ps ++ [P]) qs (ls ++ [q]) (i + 1) := by
  refine ⟨by rw [List.length_append, h.lenP]; rfl, by rw [List.length_append, h.lenL]; rfl, fun t p' q' P' h1 h2 h3 => ?_⟩
  by_cases ht : t < i
  · rw [List.getElem?_append_left (by rw [h.lenL]; exact ht)] at h2
    rw [List.getElem?_append_left (by rw [h.lenP]; exact ht)] at h3
    exact h.all t p' q' P' h1 h2 h3
  · have hlt := (List.getElem?_eq_some_iff.1 h3).1
    rw [List.length_append, h.lenP, List.length_singleton] at hlt
    obtain rfl : t = i := by omega
    rw [List.getElem?_append_right (by rw [h.lenL]; exact Nat.le_refl _), h.lenL, Nat.sub_self] at h2
    rw [List.getElem?_append_right (by rw [h.lenP]; exact Nat.le_refl _), h.lenP, Nat.sub_self] at h3
    obtain rfl : q = q' := by simpa using h2
    obtain rfl : P = P' := by simpa using h3
    obtain rfl : p = p' := by rw [hp] at h1; injection h1
    exact hd
/-- Both ways of append. -/
theorem done_app {n i : Nat} {A A' : Option Addr} {c c' : Nat} (h : St w0 (Arr (cInt .i64) 3 (.slice A' (n + 2) c') (List.replicate n (1000 + (i : Int)) ++ [2000 + (i : Int), 2000 + (i : Int)]) :: Arr (cInt .i64) 3 (.slice A n c) (List.replicate n (1000 + (i : Int))) :: l) w ∨
      (St w0 (Arr (cInt .i64) 3 (.slice A' (n + 2) c') (List.replicate n (1000 + (i : Int)) ++ [2000 + (i : Int), 2000 + (i : Int)]) :: l) w ∧ ∃ g d, (.slice A n c : Value) = .slice (some ⟨g, 0, none⟩) n d ∧ (.slice A' (n + 2) c' : Value) = .slice (some ⟨g, 0, none⟩) (n + 2) d)) :
    ∃ P, DoneP P (A, n, c) (A', n + 2, c') n i ∧ St w0 (P :: l) w := by
  rcases h with h | ⟨h, g, d, e1, e2⟩
  · refine ⟨All [Arr (cInt .i64) 3 (.slice A' (n + 2) c') (List.replicate n (1000 + (i : Int)) ++ [2000 + (i : Int), 2000 + (i : Int)]), Arr (cInt .i64) 3 (.slice A n c) (List.replicate n (1000 + (i : Int)))], fun w0 w l h => ?_, SL.St.fold (l := [_, _]) h⟩
    have h2 := SL.St.flat h
    exact ⟨(h2.pull 1).rd, h2.rd⟩
  · refine ⟨_, fun w0 w l h => ⟨?_, h.rd⟩, h⟩
    injection e1 with e3 e4 e5
    injection e2 with e6 e7 e8
    subst e3; subst e6
    have := Rd.head (c' := c) h.rd
    rw [List.length_replicate] at this
    exact this
theorem keep_form {zs : List Int} {φ : Prop} {A : HP} (h : St w0 (Arr (cInt .i64) 3 v' zs :: A :: l) w ∨ (St w0 (Arr (cInt .i64) 3 v' zs :: l) w ∧ φ)) : ∃ A' c', v' = .slice A' zs.length c' := by
  rcases h with h | ⟨h, -⟩
  · obtain ⟨A', c', rfl, -, -⟩ := h.rd; exact ⟨_, _, rfl⟩
  · obtain ⟨A', c', rfl, -, -⟩ := h.rd; exact ⟨_, _, rfl⟩
theorem Dones.at {ls : Ent2} (h : Dones Ps qs ls qs.length) (t : Nat) (ht : t < qs.length) : ∃ hl : t < ls.length, ∀ (w0 w : World) (l : List HP), St w0 (All Ps :: l) w →
    Rd (cInt .i64) qs[t].1.val (List.replicate qs[t].2.length (1000 + (t : Int))) w ∧ Rd (cInt .i64) ls[t].1.val (List.replicate qs[t].2.length (1000 + (t : Int)) ++ [2000 + (t : Int), 2000 + (t : Int)]) w := by
  have hl : t < ls.length := by rw [h.lenL]; exact ht
  have hp : t < Ps.length := by rw [h.lenP]; exact ht
  refine ⟨hl, fun w0 w l hs => ?_⟩
  obtain ⟨l', h2⟩ := hs.all_at t (List.getElem?_eq_getElem hp)
  exact h.all t _ _ _ (List.getElem?_eq_getElem ht) (List.getElem?_eq_getElem hl) (List.getElem?_eq_getElem hp) w0 w l' h2
theorem full_row {M : List Int} {n : Nat} {e : Int} (hl : M.length = n) (h : ∀ (u : Nat) (y : Int), u < n → M[u]? = some y → y = e) : M = List.replicate n e := by
  refine List.eq_replicate_iff.2 ⟨hl, fun y hy => ?_⟩
  obtain ⟨i, hi, rfl⟩ := List.getElem_of_mem hy
  exact h i _ (by omega) (List.getElem?_eq_getElem hi)
theorem full_set {M : List Int} {t : Nat} {e : Int} (h : ∀ (u : Nat) (y : Int), u < t → M[u]? = some y → y = e) : ∀ (u : Nat) (y : Int), u < t + 1 → (M.set t e)[u]? = some y → y = e := fun u y hu hy => by
  rw [List.getElem?_set] at hy
  split at hy
  · split at hy
    · injection hy with hy; exact hy.symm
    · cases hy
  · exact h u y (by omega) hy
theorem done_keep {n i : Nat} {A : Option Addr} {c : Nat} (h : St w0 (Arr (cInt .i64) 3 v' (List.replicate n (1000 + (i : Int)) ++ [2000 + (i : Int), 2000 + (i : Int)]) :: Arr (cInt .i64) 3 (.slice A n c) (List.replicate n (1000 + (i : Int))) :: l) w ∨
      (St w0 (Arr (cInt .i64) 3 v' (List.replicate n (1000 + (i : Int)) ++ [2000 + (i : Int), 2000 + (i : Int)]) :: l) w ∧ ∃ g d, (.slice A n c : Value) = .slice (some ⟨g, 0, none⟩) (List.replicate n (1000 + (i : Int))).length d ∧ v' = .slice (some ⟨g, 0, none⟩) ((List.replicate n (1000 + (i : Int))).length + [2000 + (i : Int), 2000 + (i : Int)].length) d)) :
    ∃ A' c' P, v' = .slice A' (n + 2) c' ∧ DoneP P (A, n, c) (A', n + 2, c') n i ∧ St w0 (P :: l) w := by
  obtain ⟨A', c', hv⟩ := keep_form h
  have hl : (List.replicate n (1000 + (i : Int)) ++ [2000 + (i : Int), 2000 + (i : Int)]).length = n + 2 := by simp
  rw [hl] at hv
  subst hv
  simp only [List.length_replicate, List.length_cons, List.length_nil, Nat.zero_add, Nat.reduceAdd] at h
  obtain ⟨P, h1, h2⟩ := done_app h
  exact ⟨A', c', P, rfl, h1, h2⟩
theorem rd_get {k : IntKind} {A : Option Addr} {n c i : Nat} {x : Int} (h : Rd (cInt k) (.slice A n c) xs w) (hx : xs[i]? = some x) : ∃ ad, A = some ad ∧ w.cell? (ad.add i) = some (.int k x) := by
  obtain ⟨A', c', hv, -, hc⟩ := h
  injection hv with e1 e2 e3
  subst e1
  obtain ⟨h1, h2⟩ := List.getElem?_eq_some_iff.1 hx
  obtain ⟨ad, e, hq⟩ := rd_at_int hc i h1
  rw [h2] at hq
  exact ⟨ad, e, hq⟩
end
end Go.Proofs.YtnmkdhoijdoccaaDoor.SL
