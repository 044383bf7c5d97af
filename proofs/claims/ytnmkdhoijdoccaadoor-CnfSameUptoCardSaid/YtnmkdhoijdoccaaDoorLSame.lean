/- The law CnfSame. -/
import Derived.Test.YtnmkdhoijdoccaaDoorLChk
import Derived.Test.YtnmkdhoijdoccaaDoorCnTi
import Derived.Test.YtnmkdhoijdoccaaDoorCnRow
import Derived.Test.YtnmkdhoijdoccaaDoorCnMy
set_option linter.unusedVariables false
set_option linter.unusedSimpArgs false
namespace Go.Proofs.YtnmkdhoijdoccaaDoor
open Go Go.RowKit SL

theorem tidM_I64 {cls : List (List Int)} (hI : ∀ c ∈ cls, ∀ x ∈ c, I64 x) : ∀ c ∈ tidM cls, ∀ x ∈ c, I64 x := fun d hd x hx => by
  obtain ⟨c, hc, rfl, -⟩ := (tidM_mem cls d).1 hd
  exact hI c hc x (setM_mem.1 hx)

theorem undV_vals (cls : List (List Int)) (m : List Int) : undV cls m = 0 ∨ undV cls m = 1 ∨ undV cls m = -1 := by
  unfold undV
  split
  · exact .inr (.inr rfl)
  · split
    · exact .inl rfl
    · exact .inr (.inl rfl)

set_option maxRecDepth 100000 in
set_option maxHeartbeats 8000000 in
theorem same_law (W : World) (htab : Tab W) (n : Int) (vf : Value) (cls : List (List Int)) (b : Int) (hn : I64 n) (hr : Ent [Old W] (Rd2 (cInt .i64) vf cls)) (hI : ∀ c ∈ cls, ∀ x ∈ c, I64 x) (hb : 0 ≤ b ∧ b ≤ 18446744073709551615) (hsz : (cls.map fun c => c.length + 1).sum ≤ 1048576) :
    Calls Tryd.prog 4 #[.agg #[.int .i64 n, vf], .int .u64 b] W fun e w' => e = .returned (.bool true) ∧ SL.St W [Old W] w' := by
  obtain ⟨hs1, hs2⟩ := sum_bounds hsz
  obtain ⟨A, c, rfl, -, -⟩ := (hr.use (SL.St.start W)).at
  have h1 := (SL.St.start W).alloc (.cells #[.int .i64 n, .slice A cls.length c] 24)
  have hU : tidyM n cls = if (checkM n cls).2 ≠ 0 then (0, [], (checkM n cls).2) else (n, tidM cls, 0) := rfl
  have uT : Ent [Old W] Tab := SL.tab_old htab
  go_enter Tryd.func4, Tryd.ntmps4
  go_wp2_with fail
  refine (live_walk W _ _ h1).mono ?_
  rintro e w1 ⟨rfl, h2⟩
  generalize W.heap.size = F0 at *
  have a0 : w1.cell? ⟨F0, 0, none⟩ = some (.int .i64 n) := h2.cell 0
  have a1 : w1.cell? ⟨F0, 1, none⟩ = some (.slice A cls.length c) := h2.cell 1
  have TW := tidy_walk W w1 _ h2 n hn (.slice A cls.length c) cls (Ent.tail hr) hI (Ent.tail uT)
  rw [hU] at TW
  clear hU
  go_wp2_with fail
  refine TW.mono ?_
  rintro e w2 ⟨v2, rfl, h3⟩
  clear TW h1 h2 a0 a1
  obtain ⟨A2, c2, rfl, -, -⟩ := h3.rd2.at
  by_cases hc : (checkM n cls).2 = 0
  · rw [if_neg (by rw [hc]; decide)] at h3 ⊢
    have hct := check_tid hc
    have hti := tidM_I64 hI
    have htl := tidM_len cls
    obtain ⟨v1, v2, v3, -⟩ := checkM_ok hc
    have hU2 : tidyM n (tidM cls) = (n, tidM cls, 0) := by unfold tidyM; rw [if_neg (by rw [hct]; decide), tidM_idem]
    have und := fun (m : List Int) (hm : Whole1 n.toNat m) => (show (underM n cls m).1 = undV cls m ∧ (underM n cls m).2.2 = 0 ∧ (underM n (tidM cls) m).1 = undV cls m ∧ (underM n (tidM cls) m).2.2 = 0 ∧ undV cls m ≠ 0 from
      ⟨(underM_und hc m).1, (underM_und hc m).2, (underM_und hct m).1.trans (und_tid (whole1_full hc hm)), (underM_und hct m).2, und_full_ne (whole1_full hc hm)⟩)
    simp only at h3 ⊢
    generalize tidM cls = T at *
    have h4 := h3.alloc (.cells #[.int .i64 n, .slice A2 T.length c2] 24)
    have TW2 := tidy_walk W _ _ h4 n hn (.slice A2 T.length c2) T (Ent.tail Ent.rd2) hti (Ent.tail (Ent.tail (Ent.tail uT)))
    rw [hU2] at TW2
    clear hU2
    simp only at TW2
    have b0 := h4.cell 0
    have b1 := h4.cell 1
    have d0 : ((0 : Int) != 0) = false := by simp
    go_wp2_with (go_at_call 13; refine (no_walk _ _).mono ?_; rintro e w' ⟨rfl, rfl⟩)
    refine TW2.mono ?_
    rintro e w3 ⟨v4, rfl, h5⟩
    clear TW2 h4 h3 b0 b1
    generalize w2.heap.size = F1 at *
    obtain ⟨A4, c4, rfl, -, -⟩ := h5.rd2.at
    have h6 := h5.alloc (.cells #[.int .i64 n, .slice A4 T.length c4] 24)
    have AL := alike_walk W _ _ h6 n n (.slice A2 T.length c2) (.slice A4 T.length c4) T T (Ent.tail (Ent.tail (Ent.tail Ent.rd2))) (Ent.tail Ent.rd2)
    rw [decide_eq_true ⟨rfl, rfl⟩] at AL
    have f0 : (w3.alloc (.cells #[.int .i64 n, .slice A4 T.length c4] 24)).cell? ⟨F1, 0, none⟩ = some (.int .i64 n) := (h6.pull 2).cell 0
    have f1 : (w3.alloc (.cells #[.int .i64 n, .slice A4 T.length c4] 24)).cell? ⟨F1, 1, none⟩ = some (.slice A2 T.length c2) := (h6.pull 2).cell 1
    have f2 := h6.cell 0
    have f3 := h6.cell 1
    go_wp2_with (go_at_call 13; refine (no_walk _ _).mono ?_; rintro e w' ⟨rfl, rfl⟩)
    refine AL.mono ?_
    rintro e w' ⟨rfl, q, rfl⟩
    have h7 := SL.St.drewN (((h6.alloc (.cells #[.int .i64 n, .slice A2 T.length c2] 24)).alloc (.cells #[.int .i64 n, .slice A4 T.length c4] 24)).drop.drop) q
    generalize World.drewN _ q = w4 at h7 ⊢
    clear AL h6 h5 f0 f1 f2 f3
    have g0 : w4.cell? ⟨F1, 0, none⟩ = some (.int .i64 n) := (h7.pull 2).cell 0
    have g1 : w4.cell? ⟨F1, 1, none⟩ = some (.slice A2 T.length c2) := (h7.pull 2).cell 1
    have a0 : w4.cell? ⟨F0, 0, none⟩ = some (.int .i64 n) := (h7.pull 4).cell 0
    have a1 : w4.cell? ⟨F0, 1, none⟩ = some (.slice A cls.length c) := (h7.pull 4).cell 1
    have hgt : ¬ ((cls.length : Int) < (T.length : Int)) := by omega
    go_wp2_with fail
    refine (row_walk W w4 _ h7 n v1 v2 b hb.1 (by omega)).mono ?_
    rintro e w5 ⟨v5, m, rfl, hm, h8⟩
    clear g0 g1 a0 a1 h7
    obtain ⟨u1, u2, u3, u4, u5⟩ := und m hm
    have hmb := whole1_bytes hm
    have U1 := under_walk W w5 _ h8 n hn (.slice A cls.length c) v5 cls m (Ent.tail (Ent.tail (Ent.tail (Ent.tail (Ent.tail (Ent.tail hr)))))) hI Ent.rd hmb
    rw [u1, u2] at U1
    have U3 := Lib.hid u3
    have U4 := Lib.hid u4
    have hval := undV_vals cls m
    have U5 := Lib.hid u5
    have HM := Lib.hid hm
    clear und u1 u2 u3 u4 u5 hm hmb
    generalize undV cls m = X at *
    have a0 : w5.cell? ⟨F0, 0, none⟩ = some (.int .i64 n) := (h8.pull 5).cell 0
    have a1 : w5.cell? ⟨F0, 1, none⟩ = some (.slice A cls.length c) := (h8.pull 5).cell 1
    go_wp2_with fail
    refine U1.mono ?_
    rintro e w6 ⟨rfl, h9⟩
    have U2 := under_walk W w6 _ h9 n hn (.slice A2 T.length c2) v5 T m (Ent.tail (Ent.tail (Ent.tail (Ent.tail Ent.rd2)))) hti Ent.rd (fun x hx => by rcases HM.out.2 x hx with h | h <;> omega)
    rw [U3.out, U4.out] at U2
    have g0 : w6.cell? ⟨F1, 0, none⟩ = some (.int .i64 n) := (h9.pull 3).cell 0
    have g1 : w6.cell? ⟨F1, 1, none⟩ = some (.slice A2 T.length c2) := (h9.pull 3).cell 1
    clear U1 h8 a0 a1
    go_wp2_with fail
    refine U2.mono ?_
    rintro e w7 ⟨rfl, h10⟩
    clear U2 h9 g0 g1
    have dX : (X != 0) = true := by have := U5.out; simp [this]
    go_wp2_with (go_at_call 13; refine (no_walk _ _).mono ?_; rintro e w' ⟨rfl, rfl⟩)
    go_ret
    exact ⟨rfl, h10.sel [] 6⟩
  · rw [if_pos hc] at h3 ⊢
    simp only at h3 ⊢
    have hm0 : ((checkM n cls).2 == 0) = false := by simp [hc]
    have hne : ((checkM n cls).2 != 0) = true := by simp [hc]
    have hcv := (checkM_vals n cls)
    generalize hge : (checkM n cls).2 = er at *
    have h4 := h3.alloc (.cells #[.int .i64 0, .slice A2 0 c2] 24)
    have MW := may_walk W _ _ h4 n hn (.slice A cls.length c) cls (Ent.tail (Ent.tail (Ent.tail hr))) hI n
    rw [hge, hm0, Bool.false_and] at MW
    clear hge
    have a0 : (w2.alloc (.cells #[.int .i64 0, .slice A2 0 c2] 24)).cell? ⟨F0, 0, none⟩ = some (.int .i64 n) := (h4.pull 2).cell 0
    have a1 : (w2.alloc (.cells #[.int .i64 0, .slice A2 0 c2] 24)).cell? ⟨F0, 1, none⟩ = some (.slice A cls.length c) := (h4.pull 2).cell 1
    go_wp2_with (go_at_call 13; refine (no_walk _ _).mono ?_; rintro e w' ⟨rfl, rfl⟩)
    refine MW.mono ?_
    rintro e w3 ⟨rfl, h5⟩
    clear MW h3 h4 a0 a1
    go_wp2_with fail
    go_ret
    exact ⟨rfl, h5.sel [] 3⟩
end Go.Proofs.YtnmkdhoijdoccaaDoor
