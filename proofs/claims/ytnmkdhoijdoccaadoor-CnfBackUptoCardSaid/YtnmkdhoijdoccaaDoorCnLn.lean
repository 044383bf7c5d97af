/- Clauses and formulas lent: lent, kept. -/
import Derived.Test.YtnmkdhoijdoccaaDoorCnI
set_option linter.unusedVariables false
set_option linter.unusedSimpArgs false
namespace Go.Proofs.YtnmkdhoijdoccaaDoor
open Go Go.RowKit SL

/-- A clause in a list of its own, with the marks behind its end. -/
def LentC (v : Value) (xs : List Int) : HP := fun k => ∃ g c, v = .slice (some ⟨g, 0, none⟩) xs.length c ∧ Arr (cInt .i64) 3 (.slice (some ⟨g, 0, none⟩) (xs.length + 2) c) (xs ++ [77777, 77778]) k
theorem St.lentC {w0 w : World} {l : List HP} {v : Value} {xs : List Int} (h : SL.St w0 (LentC v xs :: l) w) : ∃ g c, v = .slice (some ⟨g, 0, none⟩) xs.length c ∧ SL.St w0 (Arr (cInt .i64) 3 (.slice (some ⟨g, 0, none⟩) (xs.length + 2) c) (xs ++ [77777, 77778]) :: l) w := by
  obtain ⟨g, h⟩ := SL.St.ex (Q := fun g k => ∃ c, v = .slice (some ⟨g, 0, none⟩) xs.length c ∧ Arr (cInt .i64) 3 (.slice (some ⟨g, 0, none⟩) (xs.length + 2) c) (xs ++ [77777, 77778]) k) h
  obtain ⟨c, h⟩ := SL.St.ex (Q := fun c k => v = .slice (some ⟨g, 0, none⟩) xs.length c ∧ Arr (cInt .i64) 3 (.slice (some ⟨g, 0, none⟩) (xs.length + 2) c) (xs ++ [77777, 77778]) k) h
  obtain ⟨e, h⟩ := SL.St.pure h
  exact ⟨g, c, e, h⟩
theorem St.mkLent {w0 w : World} {l : List HP} {g c : Nat} {xs : List Int} (h : SL.St w0 (Arr (cInt .i64) 3 (.slice (some ⟨g, 0, none⟩) (xs.length + 2) c) (xs ++ [77777, 77778]) :: l) w) : SL.St w0 (LentC (.slice (some ⟨g, 0, none⟩) xs.length c) xs :: l) w :=
  h.imp fun k p => ⟨g, c, rfl, p⟩
theorem Ent.lent {l : List HP} {v : Value} {xs : List Int} : Ent (LentC v xs :: l) (Rd (cInt .i64) v xs) := fun w0 w h => by
  obtain ⟨g, c, rfl, h2⟩ := St.lentC h
  have := Rd.take h2.rd xs.length (by omega)
  rwa [List.take_left] at this

set_option maxRecDepth 100000 in
theorem lent_walk (w0 w : World) (l : List HP) (h : SL.St w0 l w) (v : Value) (xs : List Int) (hr : Ent l (Rd (cInt .i64) v xs)) (hlen : xs.length ≤ 1048576) :
    Calls Tryd.prog 25 #[v] w fun e w' => ∃ v', e = .returned v' ∧ SL.St w0 (LentC v' xs :: l) w' := by
  obtain ⟨A, c, rfl, hm, -⟩ := hr.use h
  unfold maxLen at hm
  have hmk := run_make_cap (P := Tryd.prog) 51 3 (.int .i64 0) 8 Tryd.underlying51 infoInt rfl .i64 .i64 (xs.length + 2) ((xs.length : Int) + 2) (by omega) (by omega) (by omega)
  have hA := (h.alloc (.cells (madeCells #[Value.int .i64 0] (xs.length + 2)) 3)).arr_empty (d := cInt .i64) rfl (by unfold maxLen; omega)
  go_enter Tryd.func25, Tryd.ntmps25
  go_wp2_with (at_builtin; first | (have hC := hB.alloc (.cells #[.int .i64 77777, .int .i64 77778] 3); refine wpList_app rfl _ _ rfl Tryd.underlying51 infoInt rfl (hC.pull 1) rfl (ys := ([77777, 77778] : List Int)) rfl (hC.rd_blk (d := cInt .i64) (ys := ([77777, 77778] : List Int)) 2 2 rfl rfl (by decide)) (by simp; omega) (by simp; omega) ?_; intro vo3 wC hD; obtain ⟨g3, c3, rfl⟩ := hD.arr_form (by simp); obtain ⟨q0, q1, q2⟩ := hD.arr_lt; simp only [List.nil_append, List.length_append, List.length_cons, List.length_nil, Nat.zero_add, Nat.reduceAdd] at q1 hD) | (go_loud (refine wpList_app rfl _ _ rfl Tryd.underlying51 infoInt rfl hA rfl (ys := xs) rfl (hr.use hA.drop) (by simp; omega) (by simp; omega) ?_); go_loud (intro vo2 wA hB)))
  go_ret
  exact ⟨_, rfl, St.mkLent (hD.sel [0] 1)⟩

/-- The same, as a reading. -/
def RdLC (v : Value) (xs : List Int) (w : World) : Prop := ∃ g c, v = .slice (some ⟨g, 0, none⟩) xs.length c ∧ xs.length + 2 ≤ c ∧ c ≤ maxLen ∧ Rd (cInt .i64) (.slice (some ⟨g, 0, none⟩) (xs.length + 2) c) (xs ++ [77777, 77778]) w
theorem RdLC.mono {v : Value} {xs : List Int} {w w' : World} (h : RdLC v xs w) (k : ∀ a u, w.cell? a = some u → w'.cell? a = some u) : RdLC v xs w' := by
  obtain ⟨g, c, e, h1, h2, h3⟩ := h
  exact ⟨g, c, e, h1, h2, h3.mono k⟩
theorem St.rdLC {w0 w : World} {l : List HP} {v : Value} {xs : List Int} (h : SL.St w0 (LentC v xs :: l) w) : RdLC v xs w := by
  obtain ⟨g, c, rfl, h2⟩ := St.lentC h
  obtain ⟨-, q1, q2⟩ := h2.arr_lt
  exact ⟨g, c, rfl, q1, q2, h2.rd⟩
theorem lent_at (w : World) (v : Value) (xs : List Int) (hr : Rd (cInt .i64) v xs w) (hlen : xs.length ≤ 1048576) :
    Calls Tryd.prog 25 #[v] w fun e w' => ∃ B m c, e = .returned (.slice B m c) ∧ ∀ w0 l, SL.St w0 l w → SL.St w0 (LentC (.slice B m c) xs :: l) w' :=
  (lent_walk w w [Old w] (St.start w) v xs (old1 hr) hlen).mono fun e w' ⟨v', he, h'⟩ => by
    obtain ⟨g, c, rfl, _⟩ := St.lentC h'
    exact ⟨some ⟨g, 0, none⟩, xs.length, c, he, fun w0 l h => St.through (ps := [_]) h h'⟩
set_option maxRecDepth 100000 in
set_option maxHeartbeats 2000000 in
theorem kept_walk (w : World) (v v' : Value) (xs : List Int) (hL : RdLC v xs w) (hx : Rd (cInt .i64) v' xs w) :
    Calls Tryd.prog 29 #[v, v'] w fun e w' => e = .returned (.bool true) ∧ ∃ q, w' = w.drewN q := by
  obtain ⟨g, c, rfl, hc1, hc2, hrd⟩ := hL
  unfold maxLen at hc2
  have hrx : Rd (cInt .i64) (.slice (some ⟨g, 0, none⟩) xs.length c) xs w := by
    have := Rd.take hrd xs.length (by omega)
    rwa [List.take_left] at this
  have sw := same_walk w (.slice (some ⟨g, 0, none⟩) xs.length c) v' xs xs hrx hx
  rw [decide_eq_true rfl] at sw
  clear hrx
  obtain ⟨A', c', hv, hm, hcell⟩ := hrd
  have hl2 : (xs ++ [77777, 77778]).length = xs.length + 2 := by simp
  obtain ⟨ad, e1, k1⟩ := rd_at_int hcell xs.length (by simp)
  obtain ⟨ad2, e2, k2⟩ := rd_at_int hcell (xs.length + 1) (by simp)
  rw [hl2] at hv
  injection hv with e0 e4 e3
  subst e0
  subst e3
  injection e1 with e1; subst e1
  injection e2 with e2; subst e2
  rw [show (xs ++ [77777, 77778])[xs.length]'(by simp) = 77777 by simp] at k1
  rw [show (xs ++ [77777, 77778])[xs.length + 1]'(by simp) = 77778 by simp] at k2
  have hadd : ∀ n, (⟨g, 0, none⟩ : Addr).add n = ⟨g, n, none⟩ := fun n => by unfold Addr.add; split <;> simp_all
  rw [hadd] at k1 k2
  clear hcell hx hadd
  go_enter Tryd.func29, Tryd.ntmps29
  go_wp2_with fail
  refine sw.mono ?_
  rintro e w' ⟨rfl, q, rfl⟩
  go_wp2_with fail
  go_ret
  exact ⟨rfl, _, rfl⟩
end Go.Proofs.YtnmkdhoijdoccaaDoor
