/- Rows of rows in memory: a slice of slices, each in a block of its own. -/
import Derived.Test.YtnmkdhoijdoccaaDoorRw
set_option linter.unusedVariables false
set_option linter.unusedSimpArgs false
namespace Go.Proofs.YtnmkdhoijdoccaaDoor.SL
open Go Go.RowKit

/-- A slice's value as data. -/
abbrev Slc := Option Addr × Nat × Nat
def Slc.val (s : Slc) : Value := .slice s.1 s.2.1 s.2.2
def cSlc : Cd Slc := ⟨1, fun s => [Slc.val s], fun _ => rfl, by simp [Slc.val, Value.oneCell'], by decide⟩
def Inn {α : Type} (d : Cd α) (e : TypeId) : List Slc → List (List α) → List HP
  | s :: ss, xs :: xss => Arr d e s.val xs :: Inn d e ss xss
  | _, _ => []
def Arr2 {α : Type} (d : Cd α) (e eo : TypeId) (v : Value) (xss : List (List α)) : HP := fun h => ∃ ss : List Slc, ss.length = xss.length ∧ All (Arr cSlc eo v ss :: Inn d e ss xss) h
/-- A slice of slices that can be read. -/
def Rd2 {α : Type} (d : Cd α) (v : Value) (xss : List (List α)) (w : World) : Prop :=
  ∃ ss : List Slc, ss.length = xss.length ∧ Rd cSlc v ss w ∧ ∀ (i : Nat) (s : Slc) (xs : List α), ss[i]? = some s → xss[i]? = some xs → Rd d s.val xs w

section
variable {α : Type} {d : Cd α} {w0 w w' : World} {l : List HP} {e eo : TypeId} {v v' : Value} {xss : List (List α)} {xs : List α} {ss : List Slc}
theorem Inn.snoc (d : Cd α) (e : TypeId) (s : Slc) (xs : List α) : ∀ (ss : List Slc) (xss : List (List α)), ss.length = xss.length → Inn d e (ss ++ [s]) (xss ++ [xs]) = Inn d e ss xss ++ [Arr d e s.val xs]
  | [], [], _ => rfl
  | [], _ :: _, h => by simp at h
  | _ :: _, [], h => by simp at h
  | s' :: ss, x :: xss, h => by simp only [List.cons_append, Inn]; rw [Inn.snoc d e s xs ss xss (by simpa using h)]
theorem St.arr2 (h : St w0 (Arr2 d e eo v xss :: l) w) : ∃ ss : List Slc, ss.length = xss.length ∧ St w0 (Arr cSlc eo v ss :: (Inn d e ss xss ++ l)) w := by
  obtain ⟨ss, h⟩ := SL.St.ex h
  obtain ⟨hl, h⟩ := SL.St.pure h
  exact ⟨ss, hl, SL.St.flat h⟩
theorem St.mk2 (hl : ss.length = xss.length) (h : St w0 (Arr cSlc eo v ss :: (Inn d e ss xss ++ l)) w) : St w0 (Arr2 d e eo v xss :: l) w :=
  (SL.St.fold (l := _ :: Inn d e ss xss) h).imp fun k p => ⟨ss, hl, p⟩
theorem St.nil2 (h : St w0 l w) (d : Cd α) (e eo : TypeId) : St w0 (Arr2 d e eo (.slice none 0 0) ([] : List (List α)) :: l) w :=
  St.mk2 (ss := []) rfl (h.rows_nil cSlc eo)
/-- One row more: the outer slice was appended to. -/
theorem St.push2 {s : Slc} (hl : ss.length = xss.length) (h : St w0 (Arr cSlc eo v (ss ++ [s]) :: (Inn d e ss xss ++ Arr d e s.val xs :: l)) w) : St w0 (Arr2 d e eo v (xss ++ [xs]) :: l) w := by
  refine St.mk2 (ss := ss ++ [s]) (by simp [hl]) ?_
  rw [Inn.snoc d e s xs ss xss hl, List.append_assoc]
  exact h
theorem Rd.slc (h : Rd d v xs w) : ∃ s : Slc, v = s.val ∧ s.2.1 = xs.length := by
  obtain ⟨A, c, rfl, _, _⟩ := h
  exact ⟨(A, xs.length, c), rfl, rfl⟩
theorem Inn.rd : ∀ (ss : List Slc) (xss : List (List α)) {l : List HP} {w0 w : World}, St w0 (Inn d e ss xss ++ l) w → ∀ (i : Nat) (s : Slc) (xs : List α), ss[i]? = some s → xss[i]? = some xs → Rd d s.val xs w
  | [], _, _, _, _, _, i, s, xs, hs, _ => by simp at hs
  | _ :: _, [], _, _, _, _, i, s, xs, _, hx => by simp at hx
  | s' :: ss, x :: xss, l, w0, w, h, 0, s, xs, hs, hx => by
    simp only [List.getElem?_cons_zero, Option.some.injEq] at hs hx
    subst hs; subst hx
    exact SL.St.rd (l := Inn d e ss xss ++ l) h
  | s' :: ss, x :: xss, l, w0, w, h, i + 1, s, xs, hs, hx => by
    simp only [List.getElem?_cons_succ] at hs hx
    exact Inn.rd ss xss (SL.St.drop (l := Inn d e ss xss ++ l) h) i s xs hs hx
theorem St.rd2 (h : St w0 (Arr2 d e eo v xss :: l) w) : Rd2 d v xss w := by
  obtain ⟨ss, hl, h⟩ := h.arr2
  exact ⟨ss, hl, h.rd, Inn.rd ss xss h.drop⟩
theorem Ent.rd2 : Ent (Arr2 d e eo v xss :: l) (Rd2 d v xss) := fun _ _ h => h.rd2
theorem Rd2.mono (h : Rd2 d v xss w) (k : ∀ a u, w.cell? a = some u → w'.cell? a = some u) : Rd2 d v xss w' := by
  obtain ⟨ss, hl, h1, h2⟩ := h
  exact ⟨ss, hl, h1.mono k, fun i s xs hs hx => (h2 i s xs hs hx).mono k⟩
theorem Rd2.below (h : Rd2 d v xss w) (k : Below w.heap.size w w') : Rd2 d v xss w' :=
  h.mono fun a u hu => (k.cell (World.block_lt_of_cell? w a hu)).trans hu
/-- The row at i, and what reads of the outer slice's cell. -/
theorem Rd2.at (h : Rd2 d v xss w) : ∃ A c, v = .slice A xss.length c ∧ xss.length ≤ maxLen ∧ ∀ i xs, xss[i]? = some xs → ∃ ad B n cc, A = some ad ∧ w.cell? (ad.add i) = some (.slice B n cc) ∧ Rd d (.slice B n cc) xs w := by
  obtain ⟨ss, hl, ⟨A, c, rfl, hm, hc⟩, h2⟩ := h
  refine ⟨A, c, by rw [hl], by omega, fun i xs hx => ?_⟩
  have hi : i < ss.length := by rw [hl]; exact (List.getElem?_eq_some_iff.1 hx).1
  obtain ⟨ad, rfl, hr⟩ := hc i _ (List.getElem?_eq_getElem hi)
  refine ⟨ad, ss[i].1, ss[i].2.1, ss[i].2.2, rfl, ?_, h2 i _ xs (List.getElem?_eq_getElem hi) hx⟩
  have := hr 0 _ rfl
  simpa [cSlc, Slc.val] using this
/-- The row at i as a part of its own, and back. -/
theorem Inn.split (d : Cd α) (e : TypeId) : ∀ (ss : List Slc) (xss : List (List α)) (i : Nat) (s : Slc) (xs : List α), ss.length = xss.length → ss[i]? = some s → xss[i]? = some xs →
    ∃ l1 l2 : List HP, Inn d e ss xss = l1 ++ Arr d e s.val xs :: l2 ∧ ∀ (s' : Slc) (xs' : List α), Inn d e (ss.set i s') (xss.set i xs') = l1 ++ Arr d e s'.val xs' :: l2
  | [], _, i, s, xs, _, hs, _ => by simp at hs
  | _ :: _, [], i, s, xs, _, _, hx => by simp at hx
  | s' :: ss, x :: xss, 0, s, xs, hl, hs, hx => by
    simp only [List.getElem?_cons_zero, Option.some.injEq] at hs hx
    subst hs; subst hx
    exact ⟨[], Inn d e ss xss, rfl, fun _ _ => rfl⟩
  | s' :: ss, x :: xss, i + 1, s, xs, hl, hs, hx => by
    simp only [List.getElem?_cons_succ] at hs hx
    obtain ⟨l1, l2, h1, h2⟩ := Inn.split d e ss xss i s xs (by simpa using hl) hs hx
    refine ⟨Arr d e s'.val x :: l1, l2, by simp only [Inn, h1]; rfl, fun s'' xs' => ?_⟩
    simp only [List.set_cons_succ, Inn, h2]; rfl
end
end Go.Proofs.YtnmkdhoijdoccaaDoor.SL
