/- CnFresh: how long what is told can be. -/
import Derived.Test.YtnmkdhoijdoccaaDoorCnPj
import Derived.Test.YtnmkdhoijdoccaaDoorCnAs
set_option linter.unusedVariables false
set_option linter.unusedSimpArgs false
namespace Go.Proofs.YtnmkdhoijdoccaaDoor
open Go

def Fits (xss : List (List Int)) : Prop := xss.length ≤ 1048576 ∧ ∀ c ∈ xss, c.length ≤ 1048576
theorem fits_nil : Fits [] := ⟨by simp, fun c h => nomatch h⟩
theorem norm_fits {c : List Int} (h : c.length ≤ 1048576) : (normS c).length ≤ 1048576 := by
  by_cases e : normE c = 0
  · rw [normS_ok e]; have := setM_len c; omega
  · rw [normS_bad e]; simp
theorem res_fits (a b : List Int) (v : Int) : (resM a b v).1.length ≤ 1048576 := by
  unfold resM
  split; · simp
  split; · simp
  split; · simp
  split; · simp
  split; · simp
  show (setM (resC a b v)).length ≤ _
  omega
theorem assign_fits {vars li : Int} {cls : List (List Int)} (h : Fits cls) : Fits (assignM vars cls li).2.1 := by
  unfold assignM
  split; · exact fits_nil
  split; · exact fits_nil
  refine ⟨Nat.le_trans (cutM_len li cls) h.1, fun c hc => ?_⟩
  unfold cutM at hc
  obtain ⟨d, hd, rfl⟩ := List.mem_map.1 hc
  have := h.2 d (List.mem_filter.1 hd).1
  have := List.length_filter_le (fun x => x != -li) d
  omega
theorem tidy_fits {vars : Int} {cls : List (List Int)} (h : Fits cls) : Fits (tidyM vars cls).2.1 := by
  unfold tidyM
  split; · exact fits_nil
  refine ⟨Nat.le_trans (tidM_len cls) h.1, fun c hc => ?_⟩
  obtain ⟨d, hd, rfl, -⟩ := (tidM_mem cls c).1 hc
  have := h.2 d hd
  have := setM_len d
  omega
theorem elim_fits {vars v : Int} {cls : List (List Int)} : Fits (elimM vars cls v).2.1 := by
  by_cases e : (elimM vars cls v).2.2 = 0
  · obtain ⟨-, -, -, -, h5, h6⟩ := elim_ok e
    rw [h6]
    obtain ⟨-, -, h3, h4⟩ := checkM_ok h5
    exact ⟨h3, fun c hc => by have := (h4 c hc).1; omega⟩
  · rw [(elim_bad e).1]; exact fits_nil
end Go.Proofs.YtnmkdhoijdoccaaDoor
