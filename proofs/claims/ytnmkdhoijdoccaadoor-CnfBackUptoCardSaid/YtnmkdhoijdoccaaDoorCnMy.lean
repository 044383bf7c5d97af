/- The law's may. -/
import Derived.Test.YtnmkdhoijdoccaaDoorCnfU
import Derived.Test.YtnmkdhoijdoccaaDoorCnI
set_option linter.unusedVariables false
set_option linter.unusedSimpArgs false
namespace Go.Proofs.YtnmkdhoijdoccaaDoor
open Go Go.RowKit SL

set_option maxRecDepth 100000 in
set_option maxHeartbeats 2000000 in
theorem may_walk (w0 w : World) (l : List HP) (h : SL.St w0 l w) (n : Int) (hn : I64 n) (vf : Value) (cls : List (List Int)) (hr : Ent l (Rd2 (cInt .i64) vf cls)) (hI : ∀ c ∈ cls, ∀ x ∈ c, I64 x) (k : Int) :
    Calls Tryd.prog 17 #[.agg #[.int .i64 n, vf], .int .i64 k] w fun e w' => e = .returned (.bool ((checkM n cls).2 == 0 && decide (n ≤ k))) ∧ SL.St w0 l w' := by
  obtain ⟨A, c, rfl, -, -⟩ := (hr.use h).at
  have h1 := h.alloc (.cells #[.int .i64 n, .slice A cls.length c] 24)
  have cw := rcheck_walk w0 _ _ h1 n hn (.slice A cls.length c) cls (Ent.tail hr) hI
  have a0 := h1.cell 0
  have a1 := h1.cell 1
  generalize checkM n cls = C at *
  obtain ⟨pl, er⟩ := C
  simp only at cw
  go_enter Tryd.func17, Tryd.ntmps17
  go_wp2_with fail
  refine cw.mono ?_
  rintro e w1 ⟨rfl, h2⟩
  clear cw h1 a0 a1
  generalize w.heap.size = B at *
  have g0 : w1.cell? ⟨B, 0, none⟩ = some (.int .i64 n) := h2.cell 0
  by_cases e0 : er = 0
  · subst e0
    by_cases hk : n ≤ k
    · have d : decide (n ≤ k) = true := decide_eq_true hk
      clear hk
      go_wp2_with fail
      go_ret
      exact ⟨by rw [d]; rfl, h2.drop⟩
    · have d : decide (n ≤ k) = false := decide_eq_false hk
      clear hk
      go_wp2_with fail
      go_ret
      exact ⟨by rw [d]; rfl, h2.drop⟩
  · have d : (er == 0) = false := by simp [e0]
    clear e0
    go_wp2_with fail
    go_ret
    exact ⟨by rw [d]; rfl, h2.drop⟩
end Go.Proofs.YtnmkdhoijdoccaaDoor
