/- The law CnfSplits where Assign tells a fault. -/
import Derived.Test.YtnmkdhoijdoccaaLChk
import Derived.Test.YtnmkdhoijdoccaaCnMx
import Derived.Test.YtnmkdhoijdoccaaCnN0
import Derived.Test.YtnmkdhoijdoccaaCnZ
set_option linter.unusedVariables false
set_option linter.unusedSimpArgs false
namespace Go.Proofs.Ytnmkdhoijdoccaa
open Go Go.RowKit Go.Sort SL

theorem cut_i64 {cls : List (List Int)} (hI : ∀ c ∈ cls, ∀ x ∈ c, I64 x) (l : Int) : ∀ c ∈ cutM l cls, ∀ x ∈ c, I64 x := fun d hd x hx => by
  obtain ⟨c, hc, -, rfl⟩ := cutM_mem.1 hd
  exact hI c hc x (List.mem_filter.1 hx).1

set_option maxRecDepth 100000 in
set_option maxHeartbeats 16000000 in
theorem splits_bad (W : World) (n : Int) (vf : Value) (cls : List (List Int)) (li : Int) (vm : Value) (m : List Int) (hn : I64 n) (hr : Ent [Old W] (Rd2 (cInt .i64) vf cls)) (hI : ∀ c ∈ cls, ∀ x ∈ c, I64 x) (hli : I64 li) (hm : Ent [Old W] (Rd (cInt .i8) vm m)) (hmb : ∀ x ∈ m, -128 ≤ x ∧ x ≤ 127) (hok : ¬((checkM n cls).2 = 0 ∧ litOk li = true ∧ varM li ≤ n)) :
    Calls Try.prog 11 #[.agg #[.int .i64 n, vf], .int .i64 li, vm] W fun e w' => e = .returned (.bool true) ∧ SL.St W [Old W] w' := by
  obtain ⟨A, c, rfl, -, -⟩ := (hr.use (SL.St.start W)).at
  have h1 := (SL.St.start W).alloc (.cells #[.int .i64 n, .slice A cls.length c] 37)
  have hU : assignM n cls li = if (checkM n cls).2 ≠ 0 then (0, [], (checkM n cls).2) else if litOk li = false ∨ n < varM li then (0, [], 20) else (n, cutM li cls, 0) := rfl
  have hcv := checkM_vals n cls
  have AW := fun (w' : World) (l' : List HP) (h : SL.St W l' w') (q : Ent l' (Rd2 (cInt .i64) (.slice A cls.length c) cls)) => assign_walk W w' l' h n hn (.slice A cls.length c) cls q hI li hli
  go_enter Try.func11, Try.ntmps11
  go_wp2_with fail
  refine (live_walk W _ _ h1).mono ?_
  rintro e w1 ⟨rfl, h2⟩
  generalize W.heap.size = F0 at *
  clear h1
  have a0 : w1.cell? ⟨F0, 0, none⟩ = some (.int .i64 n) := h2.cell 0
  have a1 : w1.cell? ⟨F0, 1, none⟩ = some (.slice A cls.length c) := h2.cell 1
  have AW1 := AW w1 _ h2 (Ent.tail hr)
  have hE : (assignM n cls li).2.2 ≠ 0 ∧ (assignM n cls li).2.1 = [] := by
    rw [hU]
    by_cases h1 : (checkM n cls).2 ≠ 0
    · rw [if_pos h1]; exact ⟨h1, rfl⟩
    · rw [if_neg h1, if_pos]
      · exact ⟨by decide, rfl⟩
      · have h1' : (checkM n cls).2 = 0 := by simpa using h1
        cases hl : litOk li with
        | false => exact .inl rfl
        | true => exact .inr (Int.lt_of_not_ge fun h => hok ⟨h1', hl, h⟩)
  rw [hE.2] at AW1
  have hE1 := hE.1
  generalize (assignM n cls li).2.2 = E at *
  generalize (assignM n cls li).1 = P at *
  have dE : (E != 0) = true := by simp [hE1]
  clear hE hE1 hU AW
  go_wp2_with fail
  refine AW1.mono ?_
  rintro e w2 ⟨v2, rfl, h3⟩
  obtain ⟨A2, c2, rfl, -, -⟩ := h3.rd2.at
  have h4 := h3.alloc (.cells #[.int .i64 P, .slice A2 0 c2] 37)
  clear AW1 h2 a0 a1
  go_wp2_with (go_at_call 16; refine (no_walk _ _).mono ?_; rintro e w' ⟨rfl, rfl⟩)
  generalize w2.heap.size = F2 at *
  generalize World.alloc w2 _ = w3 at h4 ⊢
  clear h3
  have g1 : w3.cell? ⟨F2, 1, none⟩ = some (.slice A2 0 c2) := h4.cell 1
  have k0 : w3.cell? ⟨F0, 0, none⟩ = some (.int .i64 n) := (h4.pull 2).cell 0
  have k1 : w3.cell? ⟨F0, 1, none⟩ = some (.slice A cls.length c) := (h4.pull 2).cell 1
  have rdf := (Ent.tail (Ent.tail (Ent.tail hr))).use h4
  have G1 := fun n os => cell_grown (block_lt_of_cell g1) g1 n os
  have K0 := fun n os => cell_grown (block_lt_of_cell k0) k0 n os
  have K1 := fun n os => cell_grown (block_lt_of_cell k1) k1 n os
  have MAY : ∀ k os, Calls Try.prog 42 #[.agg #[.int .i64 n, .slice A cls.length c], .int .i64 n] (grow (w3.drewN k) os) fun e w' => e = .returned (.bool ((checkM n cls).2 == 0 && decide (n ≤ n))) ∧ ∃ p : GrownBy, w' = grow (w3.drewN p.n) p.os := fun k os =>
    Calls.grown_of (may_x _ n hn (.slice A cls.length c) cls (rdf.mono fun a u e => cell_grown (block_lt_of_cell e) e k os) hI n)
  have LIT : ∀ k os, Calls Try.prog 19 #[.int .i64 li] (grow (w3.drewN k) os) fun e w' => e = .returned (.bool (litOk li)) ∧ ∃ p : GrownBy, w' = grow (w3.drewN p.n) p.os := fun k os => by
    refine Calls.grown_of ((rlit_walk _ li hli).mono ?_)
    rintro e w' ⟨rfl, rfl⟩
    exact ⟨rfl, 0, #[], by rw [grow_empty]; rfl⟩
  clear g1 k0 k1 rdf
  have hmo : Try.prog.follows .mixedOrders = true := by kernel_rfl
  by_cases er : (checkM n cls).2 = 0
  · have dm : ((checkM n cls).2 == 0 && decide (n ≤ n)) = true := by simp [er]
    rw [dm] at MAY
    cases hl : litOk li with
    | false =>
      rw [hl] at LIT
      clear hl er dm hok hcv
      go_quiet_grown ((first | (go_at_call 42; exact MAY _ _) | (go_at_call 19; exact LIT _ _)))
      go_wp2_with fail
      go_ret
      exact ⟨rfl, (St.grown (SL.St.drewN h4 nq) osq).sel [3] 3⟩
    | true =>
      rw [hl] at LIT
      obtain ⟨q1, q2, q3⟩ := litOk_iff.1 hl
      have hbig : n < varM li := Int.lt_of_not_ge fun h => hok ⟨er, hl, h⟩
      have db : decide (n < varM li) = true := decide_eq_true hbig
      have VAR : ∀ k os, Calls Try.prog 43 #[.int .i64 li] (grow (w3.drewN k) os) fun e w' => e = .returned (.int .i64 (varM li)) ∧ ∃ p : GrownBy, w' = grow (w3.drewN p.n) p.os := fun k os => by
        refine Calls.grown_of ((rvar_walk _ li (by omega) (by omega)).mono ?_)
        rintro e w' ⟨rfl, rfl⟩
        exact ⟨rfl, 0, #[], by rw [grow_empty]; rfl⟩
      generalize varM li = vl at *
      clear hl er dm hok hcv q1 q2 q3 hbig
      go_quiet_grown ((first | (go_at_call 42; exact MAY _ _) | (go_at_call 19; exact LIT _ _) | (go_at_call 43; exact VAR _ _)))
      go_wp2_with fail
      go_ret
      exact ⟨rfl, (St.grown (SL.St.drewN h4 nq) osq).sel [3] 3⟩
  · have dm : ((checkM n cls).2 == 0 && decide (n ≤ n)) = false := by simp [er]
    rw [dm] at MAY
    clear er dm hok hcv LIT
    go_quiet_grown ((go_at_call 42; exact MAY _ _))
    go_wp2_with fail
    go_ret
    exact ⟨rfl, (St.grown (SL.St.drewN h4 nq) osq).sel [3] 3⟩
end Go.Proofs.Ytnmkdhoijdoccaa
