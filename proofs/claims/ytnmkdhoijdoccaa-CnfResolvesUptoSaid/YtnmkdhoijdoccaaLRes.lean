/- The law CnfResolves. -/
import Derived.Test.YtnmkdhoijdoccaaCnLv
import Derived.Test.YtnmkdhoijdoccaaCnRr
import Derived.Test.YtnmkdhoijdoccaaCnSu
import Derived.Test.YtnmkdhoijdoccaaCnWh
set_option linter.unusedVariables false
set_option linter.unusedSimpArgs false
namespace Go.Proofs.Ytnmkdhoijdoccaa
open Go Go.RowKit SL

set_option maxRecDepth 100000 in
set_option maxHeartbeats 8000000 in
theorem resolves_walk (W : World) (va : Value) (a : List Int) (vb : Value) (b : List Int) (v : Int) (ha : Ent [Old W] (Rd (cInt .i64) va a)) (hIa : ∀ x ∈ a, I64 x) (hb : Ent [Old W] (Rd (cInt .i64) vb b)) (hIb : ∀ x ∈ b, I64 x) (hv : I64 v) (hsz : a.length + b.length ≤ 1048576) :
    Calls Try.prog 7 #[va, vb, .int .i64 v] W fun e w' => e = .returned (.bool true) ∧ SL.St W [Old W] w' := by
  have h := SL.St.start W
  have L0 := lent_at W va a (ha.use h) (by omega)
  go_enter Try.func7, Try.ntmps7
  go_wp2_with fail
  refine L0.mono ?_
  rintro e w1 ⟨B1, m1, c1, rfl, hp⟩
  have h1 := hp _ _ h
  clear hp L0 h
  have L1 := lent_at w1 vb b ((Ent.tail hb).use h1) (by omega)
  go_wp2_with fail
  refine L1.mono ?_
  rintro e w2 ⟨B2, m2, c2, rfl, hp⟩
  have h2 := hp _ _ h1
  clear hp L1 h1
  have R1 := resolve_walk W w2 _ h2 _ _ a b (Ent.tail Ent.lent) Ent.lent hIa hIb v hv
  have R2 := fun (w' : World) (l' : List HP) (h : SL.St W l' w') (q : Ent l' (Rd (cInt .i64) va a)) (q2 : Ent l' (Rd (cInt .i64) vb b)) => rresolve_walk W w' l' h va vb a b q q2 hIa hIb v hv
  generalize resM a b v = R at *
  obtain ⟨S, E⟩ := R
  simp only at R1 R2
  go_wp2_with fail
  refine R1.mono ?_
  rintro e w3 ⟨v3, rfl, h3⟩
  have R3 := R2 w3 _ h3 (Ent.tail (Ent.tail (Ent.tail ha))) (Ent.tail (Ent.tail (Ent.tail hb)))
  clear R1 R2 h2
  go_wp2_with fail
  refine R3.mono ?_
  rintro e w4 ⟨v4, rfl, h4⟩
  clear R3 h3
  have S1 := same_walk w4 v3 v4 S S ((h4.pull 1).rd) h4.rd
  rw [decide_eq_true rfl] at S1
  have d1 : (E == E) = true := by simp
  go_wp2_with (go_at_call 16; refine (no_walk _ _).mono ?_; rintro e w' ⟨rfl, rfl⟩)
  refine S1.mono ?_
  rintro e w' ⟨rfl, q, rfl⟩
  have h5 : SL.St W (LentC (.slice B2 m2 c2) b :: LentC (.slice B1 m1 c1) a :: [Old W]) _ := (h4.drewN q).drop.drop
  generalize World.drewN _ q = w5 at h5 ⊢
  clear S1 h4
  have q1 : Ent (LentC (.slice B2 m2 c2) b :: LentC (.slice B1 m1 c1) a :: [Old W]) (Rd (cInt .i64) (.slice B1 m1 c1) a) := Ent.tail Ent.lent
  have q2 : Ent (LentC (.slice B2 m2 c2) b :: LentC (.slice B1 m1 c1) a :: [Old W]) (Rd (cInt .i64) (.slice B2 m2 c2) b) := Ent.lent
  have q3 : Ent (LentC (.slice B2 m2 c2) b :: LentC (.slice B1 m1 c1) a :: [Old W]) (Rd (cInt .i64) va a) := Ent.tail (Ent.tail ha)
  have q4 : Ent (LentC (.slice B2 m2 c2) b :: LentC (.slice B1 m1 c1) a :: [Old W]) (Rd (cInt .i64) vb b) := Ent.tail (Ent.tail hb)
  have T1 := subsumes_walk W w5 _ h5 _ _ a b q1 q2 hIa hIb
  have T2 := fun w' h => rsubsumes_walk W w' _ h va vb a b q3 q4 hIa hIb
  have T3 := fun w' h => subsumes_walk W w' _ h (.slice B2 m2 c2) (.slice B1 m1 c1) b a q2 q1 hIb hIa
  have T4 := fun w' h => rsubsumes_walk W w' _ h vb va b a q4 q3 hIb hIa
  generalize subM a b = D1 at *
  generalize subM b a = D2 at *
  have e1 : (D1 == D1) = true := by simp
  have e2 : (D2 == D2) = true := by simp
  go_wp2_with fail
  refine T1.mono ?_
  rintro e w6 ⟨rfl, h6⟩
  have T2' := T2 w6 h6
  clear T1 T2 h5
  go_wp2_with fail
  refine T2'.mono ?_
  rintro e w7 ⟨rfl, h7⟩
  have T3' := T3 w7 h7
  clear T2' T3 h6
  go_wp2_with fail
  refine T3'.mono ?_
  rintro e w8 ⟨rfl, h8⟩
  have T4' := T4 w8 h8
  clear T3' T4 h7
  go_wp2_with fail
  refine T4'.mono ?_
  rintro e w9 ⟨rfl, h9⟩
  clear T4' h8
  have K1 := kept_walk w9 (.slice B1 m1 c1) va a (St.rdLC (h9.pull 1)) (q3.use h9)
  go_wp2_with fail
  refine K1.mono ?_
  rintro e w' ⟨rfl, r1, rfl⟩
  have hA := h9.drewN r1
  generalize World.drewN _ r1 = wA at hA ⊢
  clear K1 h9
  have K2 := kept_walk wA (.slice B2 m2 c2) vb b (St.rdLC hA) (q4.use hA)
  go_wp2_with fail
  refine K2.mono ?_
  rintro e w' ⟨rfl, r2, rfl⟩
  have hB := hA.drewN r2
  generalize World.drewN _ r2 = wB at hB ⊢
  clear K2 hA
  go_wp2_with fail
  refine (live_walk W wB _ hB).mono ?_
  rintro e wC ⟨rfl, hC⟩
  go_wp2_with fail
  go_ret
  exact ⟨rfl, hC.sel [2] 2⟩
end Go.Proofs.Ytnmkdhoijdoccaa
