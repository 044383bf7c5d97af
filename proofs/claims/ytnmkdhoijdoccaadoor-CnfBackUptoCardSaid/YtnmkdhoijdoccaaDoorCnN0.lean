/- Rows sorted and compacted in memory. -/
import Derived.Test.YtnmkdhoijdoccaaDoorCnP
import Derived.Shelf.SlSortCmp.NoneTotal
import Derived.Test.YtnmkdhoijdoccaaDoorCnI
import Derived.Lib.SortBridge
/- Plain laws: a sort by the literals' order, then Compact, is the set clause. -/
set_option linter.unusedVariables false
set_option linter.unusedSimpArgs false
namespace Go.Proofs.YtnmkdhoijdoccaaDoor
open Go Go.RowKit Go.Sort SL

/-- Numbers of a literal's size. -/
abbrev L20 := { x : Int // -1048576 ≤ x ∧ x ≤ 1048576 }
instance : Inhabited L20 := ⟨⟨0, by decide⟩⟩
def cfL (x y : L20) : Int := cfM x.1 y.1
theorem ltL (x y : L20) : ltOf cfL x y = aheadM x.1 y.1 := cfM_lt _ _
theorem swoL : SWO (ltOf cfL) where
  irrefl x := by rw [ltL]; exact aheadM_irrefl _
  trans x y z h1 h2 := by rw [ltL] at *; exact aheadM_trans h1 h2
  ntrans x y z h1 h2 := by rw [ltL] at *; exact aheadM_ntrans h1 h2
theorem totL (x y : L20) (h1 : ltOf cfL x y = false) (h2 : ltOf cfL y x = false) : x = y := by
  rw [ltL] at *
  by_cases e : x.1 = y.1
  · exact Subtype.ext e
  · rcases aheadM_total e with h | h
    · rw [h] at h1; cases h1
    · rw [h] at h2; cases h2
theorem sort_compact (xs : List L20) : Lib.compact ((xs.mergeSort fun x y => !(ltOf cfL) y x).map (·.1)) = setM (xs.map (·.1)) := by
  refine compact_set ((List.mergeSort_perm _ _).map _) ?_
  rw [List.pairwise_map]
  have h := List.pairwise_mergeSort (le := fun x y : L20 => !(ltOf cfL) y x) (fun a b c h1 h2 => by
      simp only [Bool.not_eq_true'] at *
      exact swoL.ntrans _ _ _ h2 h1) (fun a b => by
      rw [ltL, ltL]
      cases h : aheadM b.1 a.1 with
      | false => rfl
      | true => rw [aheadM_asymm h]; rfl) xs
  refine h.imp fun {a b} h => ?_
  simp only [Bool.not_eq_true'] at h
  rw [ltL] at h
  exact h
/-- Literals as such numbers. -/
theorem lits20 (c : List Int) (h : ∀ x ∈ c, litOk x = true) : ∃ xs : List L20, xs.map (·.1) = c := by
  induction c with
  | nil => exact ⟨[], rfl⟩
  | cons x c ih =>
    obtain ⟨xs, hx⟩ := ih fun y hy => h y (List.mem_cons_of_mem _ hy)
    have hl := litOk_iff.1 (h x List.mem_cons_self)
    exact ⟨⟨x, hl.2⟩ :: xs, by simp [hx]⟩
end Go.Proofs.YtnmkdhoijdoccaaDoor
set_option linter.unusedVariables false
set_option linter.unusedSimpArgs false
namespace Go.Proofs.YtnmkdhoijdoccaaDoor
open Go Go.RowKit Go.Sort SL

theorem St.grown {w0 w : World} {l : List HP} (h : SL.St w0 l w) (os : Array Obj) : SL.St w0 l (Go.Sort.grow w os) := by
  refine ⟨h.os, h.tape, h.output, ?_, h.sat.mono fun b o e => ?_⟩
  · have := h.size; simp [Go.Sort.grow]; omega
  · have hb : b < w.heap.size := (Array.getElem?_eq_some_iff.1 e).1
    show (w.heap ++ os)[b]? = some o
    rw [Array.getElem?_append_left hb]; exact e
theorem St.setCells {w0 : World} {l : List HP} {e : TypeId} {k : IntKind} {g n c : Nat} : ∀ (ys xs : List Int) (w : World) (i : Nat), SL.St w0 (Arr (cInt k) e (.slice (some ⟨g, 0, none⟩) n c) xs :: l) w → i + ys.length = xs.length →
    SL.St w0 (Arr (cInt k) e (.slice (some ⟨g, 0, none⟩) n c) (xs.take i ++ ys) :: l) (w.setCells g i (ys.map (Value.int k)))
  | [], xs, w, i, h, hl => by
    rw [List.append_nil, List.take_of_length_le (by simp at hl; omega)]; exact h
  | y :: r, xs, w, i, h, hl => by
    simp only [List.length_cons] at hl
    have h1 := h.arr_set1 rfl i (by omega) y _ rfl
    have h2 := St.setCells r (xs.set i y) _ (i + 1) h1 (by simp; omega)
    have e : (xs.set i y).take (i + 1) ++ r = xs.take i ++ y :: r := by
      rw [List.take_succ_eq_append_getElem (by simp; omega), List.take_set_of_le (Nat.le_refl _), List.getElem_set_self, List.append_assoc]; rfl
    rw [e] at h2
    exact h2
/-- A row as the sort's contract wants it. -/
theorem St.holdsL {w0 w : World} {l : List HP} {e : TypeId} {g n c : Nat} {xs : List L20} (h : SL.St w0 (Arr (cInt .i64) e (.slice (some ⟨g, 0, none⟩) n c) (xs.map (·.1)) :: l) w) : Holds (fun x : L20 => Value.int .i64 x.1) w g 0 xs.toArray := by
  intro j hj
  have hj' : j < xs.length := by simpa using hj
  have := h.arr_cell1 rfl j _ (by rw [List.getElem?_map, List.getElem?_eq_getElem hj']; rfl) _ rfl
  rw [Nat.zero_add, getElem!_pos _ j hj]
  simpa using this
theorem St.holdsI {w0 w : World} {l : List HP} {e : TypeId} {g n c : Nat} {xs : List Int} (h : SL.St w0 (Arr (cInt .i64) e (.slice (some ⟨g, 0, none⟩) n c) xs :: l) w) : Holds (Value.int .i64) w g 0 xs.toArray := by
  intro j hj
  have hj' : j < xs.length := by simpa using hj
  have := h.arr_cell1 rfl j _ (List.getElem?_eq_getElem hj') _ rfl
  rw [Nat.zero_add, getElem!_pos _ j hj]
  simpa using this
theorem St.sorted {w0 w : World} {l : List HP} {e : TypeId} {g n c : Nat} {xs ys : List L20} (h : SL.St w0 (Arr (cInt .i64) e (.slice (some ⟨g, 0, none⟩) n c) (xs.map (·.1)) :: l) w) (hl : ys.length = xs.length) (q : Nat) (os : Array Obj) :
    SL.St w0 (Arr (cInt .i64) e (.slice (some ⟨g, 0, none⟩) n c) (ys.map (·.1)) :: l) (sortWorld (fun x : L20 => Value.int .i64 x.1) w g 0 q ys.toArray os) := by
  unfold sortWorld
  rw [Lib.sorted_world _ w g 0 q xs.toArray ys os (St.holdsL h) (by simpa using hl)]
  refine St.grown ?_ os
  have h2 := St.setCells (ys.map (·.1)) (xs.map (·.1)) _ 0 (h.drewN q) (by simp [hl])
  rw [List.map_map] at h2
  exact h2
theorem St.laid {w0 w : World} {l : List HP} {e : TypeId} {g n c : Nat} {xs ys : List Int} (h : SL.St w0 (Arr (cInt .i64) e (.slice (some ⟨g, 0, none⟩) n c) xs :: l) w) (hl : ys.length = xs.length) (q : Nat) :
    SL.St w0 (Arr (cInt .i64) e (.slice (some ⟨g, 0, none⟩) n c) ys :: l) (putRow (Value.int .i64) (Sort.ahead w q) g 0 ys.toArray) := by
  have := Lib.sorted_world _ w g 0 q xs.toArray ys #[] (St.holdsI h) (by simpa using hl)
  rw [grow_empty, grow_empty] at this
  rw [this]
  have h2 := St.setCells ys xs _ 0 (h.drewN q) (by simp [hl])
  exact h2
theorem compact_len (xs : List Int) : (Lib.compact xs).length ≤ xs.length := by
  unfold Lib.compact Lib.compactUpTo
  rw [List.length_map]
  exact Nat.le_trans (List.length_filter_le _ _) (by simp)
theorem adjM_iff : ∀ {s : List Int}, adjM s = true ↔ ∃ i, i + 1 < s.length ∧ s.getD (i + 1) 0 = -(s.getD i 0)
  | [] => by simp [adjM]
  | [x] => by simp [adjM]
  | x :: y :: t => by
    unfold adjM
    rw [Bool.or_eq_true, adjM_iff]
    constructor
    · rintro (h | ⟨i, h1, h2⟩)
      · exact ⟨0, by simp, by simpa using h⟩
      · exact ⟨i + 1, by simpa using h1, by simpa using h2⟩
    · rintro ⟨i, h1, h2⟩
      cases i with
      | zero => left; simpa using h2
      | succ i => right; exact ⟨i, by simpa using h1, by simpa using h2⟩
end Go.Proofs.YtnmkdhoijdoccaaDoor
