/- The law CnfChecks. -/
import Derived.Test.YtnmkdhoijdoccaaDoorCnCt
import Derived.Test.YtnmkdhoijdoccaaDoorCnRs
import Derived.Test.YtnmkdhoijdoccaaDoorCnSm
import Derived.Test.YtnmkdhoijdoccaaDoorCnWh
/- The chapter's examples: live. -/
set_option linter.unusedVariables false
set_option linter.unusedSimpArgs false
namespace Go.Proofs.YtnmkdhoijdoccaaDoor
open Go Go.RowKit SL

theorem no_walk (w : World) (n : Int) :
    Calls Tryd.prog 13 #[.int .i64 n] w fun e w' => e = .returned (.int .i64 n) ∧ w' = w := by
  go_enter Tryd.func13, Tryd.ntmps13
  go_wp2
  go_ret
  exact ⟨rfl, rfl⟩

theorem i64_small {c : List Int} (h : c.all (fun x => decide (-100 ≤ x ∧ x ≤ 100)) = true) : ∀ x ∈ c, I64 x := fun x hx => by
  have := List.all_eq_true.1 h x hx
  have := of_decide_eq_true this
  exact ⟨by omega, by omega⟩

set_option maxRecDepth 100000 in
set_option maxHeartbeats 8000000 in
theorem live_walk (w0 w : World) (l : List HP) (h : SL.St w0 l w) :
    Calls Tryd.prog 16 #[] w fun e w' => e = .returned (.bool true) ∧ SL.St w0 l w' := by
  have hA := (h.alloc (.cells #[.int .i64 3, .int .i64 (-1), .int .i64 3, .int .i64 1] 3)).arr_lit (d := cInt .i64) (n := 4) (xs := [3, -1, 3, 1]) rfl rfl (by decide)
  have NA := norm_walk w0 _ _ hA _ [3, -1, 3, 1] hA.rd (i64_small (by decide))
  rw [show normT [3, -1, 3, 1] = true by decide, show normE [3, -1, 3, 1] = 0 by decide, show normS [3, -1, 3, 1] = [1, -1, 3] by decide] at NA
  go_enter Tryd.func16, Tryd.ntmps16
  go_wp2_with fail
  refine NA.mono ?_
  rintro e w1 ⟨v1, rfl, h1⟩
  obtain ⟨B1, c1, rfl, -, -⟩ := h1.rd
  clear NA hA h
  have hB0 := ((((h1.sel [0] 1).alloc (.cells #[.int .i64 1, .int .i64 2] 3)).arr_lit (d := cInt .i64) (n := 2) (xs := [1, 2]) rfl rfl (by decide)).alloc (.cells #[.int .i64 (-1), .int .i64 3] 3)).arr_lit (d := cInt .i64) (n := 2) (xs := [-1, 3]) rfl rfl (by decide)
  simp only [World.size_alloc] at hB0
  have hB : SL.St w0 (Arr (cInt .i64) 3 (.slice (some ⟨w1.heap.size + 1, 0, none⟩) 2 2) [-1, 3] :: Arr (cInt .i64) 3 (.slice (some ⟨w1.heap.size, 0, none⟩) 2 2) [1, 2] :: Arr (cInt .i64) 3 (.slice B1 3 c1) [1, -1, 3] :: l) _ := hB0
  clear hB0
  have RA := resolve_walk w0 _ _ hB _ _ [1, 2] [-1, 3] (Ent.tail Ent.rd) Ent.rd (i64_small (by decide)) (i64_small (by decide)) 1 ⟨by omega, by omega⟩
  rw [show resM [1, 2] [-1, 3] 1 = ([2, 3], 0) by decide] at RA
  clear h1
  go_wp2_with fail
  refine RA.mono ?_
  rintro e w2 ⟨v2, rfl, h2⟩
  obtain ⟨B2, c2, rfl, -, -⟩ := h2.rd
  clear RA hB
  have hC0 := ((((h2.sel [0, 3] 2).alloc (.cells #[.int .i64 1, .int .i64 2] 3)).arr_lit (d := cInt .i64) (n := 2) (xs := [1, 2]) rfl rfl (by decide)).alloc (.cells #[.slice (some ⟨w2.heap.size, 0, none⟩) 2 2] 51)).arr_lit (d := cSlc) (n := 1) (xs := [(some ⟨w2.heap.size, 0, none⟩, 2, 2)]) rfl rfl (by decide)
  simp only [World.size_alloc] at hC0
  have hC : SL.St w0 (Arr2 (cInt .i64) 3 51 (.slice (some ⟨w2.heap.size + 1, 0, none⟩) 1 1) [[1, 2]] :: Arr (cInt .i64) 3 (.slice B2 2 c2) [2, 3] :: Arr (cInt .i64) 3 (.slice B1 3 c1) [1, -1, 3] :: l) _ :=
    SL.St.mk2 (ss := [(some ⟨w2.heap.size, 0, none⟩, 2, 2)]) rfl hC0
  clear hC0
  have CA := Count_walk w0 _ _ hC 2 ⟨by omega, by omega⟩ _ [[1, 2]] Ent.rd2 (fun c hc => by simp at hc; subst hc; exact i64_small (by decide))
  rw [show countM 2 [[1, 2]] = (3, 0) by decide] at CA
  clear h2
  go_wp2_with fail
  refine CA.mono ?_
  rintro e w3 ⟨rfl, h3⟩
  clear CA hC
  have h4 := h3.drop
  clear h3
  have hD := (h4.alloc (.cells #[.int .i64 1, .int .i64 (-1), .int .i64 3] 3)).arr_lit (d := cInt .i64) (n := 3) (xs := [1, -1, 3]) rfl rfl (by decide)
  have S1 := same_walk _ _ _ [1, -1, 3] [1, -1, 3] ((hD.pull 2).rd) hD.rd
  rw [decide_eq_true rfl] at S1
  go_wp2_with (go_at_call 13; refine (no_walk _ _).mono ?_; rintro e w' ⟨rfl, rfl⟩)
  refine S1.mono ?_
  rintro e w' ⟨rfl, q, rfl⟩
  have hD2 := hD.drop.drewN q
  generalize World.drewN _ q = wD at hD2 ⊢
  have hE := (hD2.alloc (.cells #[.int .i64 2, .int .i64 3] 3)).arr_lit (d := cInt .i64) (n := 2) (xs := [2, 3]) rfl rfl (by decide)
  have S2 := same_walk _ _ _ [2, 3] [2, 3] ((hE.pull 1).rd) hE.rd
  rw [decide_eq_true rfl] at S2
  clear S1
  go_wp2_with (go_at_call 13; refine (no_walk _ _).mono ?_; rintro e w' ⟨rfl, rfl⟩)
  refine S2.mono ?_
  rintro e w' ⟨rfl, q2, rfl⟩
  have hF := hE.drewN q2
  generalize World.drewN _ q2 = wF at hF ⊢
  clear S2 hE hD hD2
  go_wp2_with (go_at_call 13; refine (no_walk _ _).mono ?_; rintro e w' ⟨rfl, rfl⟩)
  go_ret
  exact ⟨rfl, hF.sel [] 3⟩
end Go.Proofs.YtnmkdhoijdoccaaDoor
set_option linter.unusedVariables false
set_option linter.unusedSimpArgs false
namespace Go.Proofs.YtnmkdhoijdoccaaDoor
open Go Go.RowKit SL

theorem sum_bounds {cls : List (List Int)} (h : (cls.map fun c => c.length + 1).sum ≤ 1048576) : cls.length ≤ 1048576 ∧ ∀ c ∈ cls, c.length ≤ 1048576 := by
  have key : ∀ (l : List (List Int)) (b : Nat), (l.map fun c => c.length + 1).sum ≤ b → l.length ≤ b ∧ ∀ c ∈ l, c.length ≤ b := by
    intro l
    induction l with
    | nil => intro b _; exact ⟨Nat.zero_le _, fun c hc => by cases hc⟩
    | cons x r ih =>
      intro b hb
      simp only [List.map_cons, List.sum_cons] at hb
      obtain ⟨h1, h2⟩ := ih (b - (x.length + 1)) (by omega)
      refine ⟨by simp only [List.length_cons]; omega, fun c hc => ?_⟩
      rcases List.mem_cons.1 hc with rfl | hc
      · omega
      · have := h2 c hc; omega
  exact key cls _ h
theorem rdF_at {w : World} {b : Nat} {n : Int} {v : Value} {w0 : World} {l : List HP} (h : SL.St w0 (Blk b (.cells #[.int .i64 n, v] 24 (0, 0)) :: l) w) : w.cell? ⟨b, 0, none⟩ = some (.int .i64 n) ∧ w.cell? ⟨b, 1, none⟩ = some v := ⟨h.cell 0, h.cell 1⟩

end Go.Proofs.YtnmkdhoijdoccaaDoor
