/- The law CnfNorms. -/
import Derived.Test.YtnmkdhoijdoccaaCnLv
import Derived.Test.YtnmkdhoijdoccaaCnSet
import Derived.Test.YtnmkdhoijdoccaaCnWh
set_option linter.unusedVariables false
set_option linter.unusedSimpArgs false
namespace Go.Proofs.Ytnmkdhoijdoccaa
open Go Go.RowKit SL

set_option maxRecDepth 100000 in
set_option maxHeartbeats 8000000 in
theorem norms_walk (W : World) (v : Value) (c : List Int) (n : Int) (hr : Ent [Old W] (Rd (cInt .i64) v c)) (hI : ∀ x ∈ c, I64 x) (hn : I64 n) (hsz : c.length ≤ 1048576) :
    Calls Try.prog 3 #[v, .int .i64 n] W fun e w' => e = .returned (.bool true) ∧ SL.St W [Old W] w' := by
  have h := SL.St.start W
  have L0 := lent_at W v c (hr.use h) hsz
  go_enter Try.func3, Try.ntmps3
  go_wp2_with fail
  refine L0.mono ?_
  rintro e w1 ⟨B1, m1, c1, rfl, hp⟩
  have h1 := hp _ _ h
  clear hp L0 h
  have N1 := norm_walk W w1 _ h1 _ c (Ent.lent.use h1) hI
  have N2 := fun (w' : World) (l' : List HP) (h : SL.St W l' w') (q : Ent l' (Rd (cInt .i64) v c)) => rnorm_walk W w' l' h v c q hI
  generalize normT c = T at *
  generalize normE c = E at *
  generalize normS c = S at *
  go_wp2_with fail
  refine N1.mono ?_
  rintro e w2 ⟨v2, rfl, h2⟩
  clear N1
  have N3 := N2 w2 _ h2 (Ent.tail (Ent.tail hr))
  clear N2
  go_wp2_with fail
  refine N3.mono ?_
  rintro e w3 ⟨v3, rfl, h3⟩
  clear N3 h1 h2
  have S1 := same_walk w3 v2 v3 S S ((h3.pull 1).rd) h3.rd
  rw [decide_eq_true rfl] at S1
  have d1 : (E == E) = true := by simp
  have d2 : (T == T) = true := by simp
  go_wp2_with (go_at_call 16; refine (no_walk _ _).mono ?_; rintro e w' ⟨rfl, rfl⟩)
  refine S1.mono ?_
  rintro e w' ⟨rfl, q, rfl⟩
  have h4 := h3.drewN q
  generalize World.drewN _ q = w4 at h4 ⊢
  clear S1 h3
  have LW1 := lit_walk w4 n hn
  have LW2 := rlit_walk w4 n hn
  generalize litOk n = D at *
  have d3 : (D == D) = true := by simp
  have K1 := kept_walk w4 _ v c (St.rdLC (h4.pull 2)) ((Ent.tail (Ent.tail (Ent.tail hr))).use h4)
  go_wp2_with (first | (go_at_call 18; refine LW1.mono ?_; rintro e w' ⟨rfl, rfl⟩) | (go_at_call 19; refine LW2.mono ?_; rintro e w' ⟨rfl, rfl⟩))
  refine K1.mono ?_
  rintro e w' ⟨rfl, q2, rfl⟩
  have h5 := h4.drewN q2
  generalize World.drewN _ q2 = w5 at h5 ⊢
  clear K1 LW1 LW2 h4
  go_wp2_with fail
  refine (live_walk W w5 _ h5).mono ?_
  rintro e w6 ⟨rfl, h6⟩
  go_wp2_with fail
  go_ret
  exact ⟨rfl, h6.sel [3] 3⟩
end Go.Proofs.Ytnmkdhoijdoccaa
