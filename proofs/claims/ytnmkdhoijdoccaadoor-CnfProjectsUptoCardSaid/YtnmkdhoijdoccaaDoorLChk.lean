/- The law CnfChecks. -/
import Derived.Test.YtnmkdhoijdoccaaDoorCnLv
import Derived.Test.YtnmkdhoijdoccaaDoorCnWh
set_option linter.unusedVariables false
set_option linter.unusedSimpArgs false
namespace Go.Proofs.YtnmkdhoijdoccaaDoor
open Go Go.RowKit SL

theorem sum_bounds {cls : List (List Int)} (h : (cls.map fun c => c.length + 1).sum ≤ 1048576) : cls.length ≤ 1048576 ∧ ∀ c ∈ cls, c.length ≤ 1048576 := by
  have key : ∀ (l : List (List Int)) (b : Nat), (l.map fun c => c.length + 1).sum ≤ b → l.length ≤ b ∧ ∀ c ∈ l, c.length ≤ b := by
    intro l
    induction l with
    | nil => intro b _; exact ⟨Nat.zero_le _, fun c hc => by cases hc⟩
    | cons x r ih =>
      intro b hb
      simp only [List.map_cons, List.sum_cons] at hb
      obtain ⟨h1, h2⟩ := ih (b - (x.length + 1)) (by omega)
      refine ⟨by simp only [List.length_cons]; omega, fun c hc => ?_⟩
      rcases List.mem_cons.1 hc with rfl | hc
      · omega
      · have := h2 c hc; omega
  exact key cls _ h
theorem rdF_at {w : World} {b : Nat} {n : Int} {v : Value} {w0 : World} {l : List HP} (h : SL.St w0 (Blk b (.cells #[.int .i64 n, v] 24 (0, 0)) :: l) w) : w.cell? ⟨b, 0, none⟩ = some (.int .i64 n) ∧ w.cell? ⟨b, 1, none⟩ = some v := ⟨h.cell 0, h.cell 1⟩

end Go.Proofs.YtnmkdhoijdoccaaDoor
