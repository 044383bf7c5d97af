/- Subsumes: the program's and the reference's. -/
import Derived.Test.YtnmkdhoijdoccaaCnM
import Derived.Test.YtnmkdhoijdoccaaCnSet
set_option linter.unusedVariables false
set_option linter.unusedSimpArgs false
namespace Go.Proofs.Ytnmkdhoijdoccaa
open Go Go.RowKit SL

theorem subM_set (a b : List Int) : (setM a).all (fun x => (setM b).contains x) = a.all (fun x => b.contains x) := by
  rw [Bool.eq_iff_iff, List.all_eq_true, List.all_eq_true]
  constructor
  · intro h x hx
    have := h x (setM_mem.2 hx)
    rwa [contains_set] at this
  · intro h x hx
    rw [contains_set]
    exact h x (setM_mem.1 hx)

set_option maxRecDepth 100000 in
set_option maxHeartbeats 8000000 in
theorem rsubsumes_walk (w0 w : World) (l : List HP) (h : SL.St w0 l w) (va vb : Value) (a b : List Int) (ha : Ent l (Rd (cInt .i64) va a)) (hb : Ent l (Rd (cInt .i64) vb b)) (hIa : ∀ x ∈ a, I64 x) (hIb : ∀ x ∈ b, I64 x) :
    Calls Try.prog 37 #[va, vb] w fun e w' => e = .returned (.bool (subM a b)) ∧ SL.St w0 l w' := by
  have NA := rnorm_walk w0 w l h va a ha hIa
  have NB := fun (w' : World) (l' : List HP) (h : SL.St w0 l' w') (q : Ent l' (Rd (cInt .i64) vb b)) => rnorm_walk w0 w' l' h vb b q hIb
  have hD : subM a b = (normE a == 0 && normE b == 0 && a.all (fun x => b.contains x)) := rfl
  generalize subM a b = D at *
  generalize normS a = SA at *
  generalize normS b = SB at *
  generalize normT a = TA at *
  generalize normT b = TB at *
  generalize normE a = EA at *
  generalize normE b = EB at *
  have HA := Lib.hid ha; have HB := Lib.hid hb
  have HD := Lib.hid hD
  clear h hIa hIb ha hb hD
  go_enter Try.func37, Try.ntmps37
  go_wp2_with fail
  refine NA.mono ?_
  rintro e w1 ⟨vx, rfl, h1⟩
  have NB2 := NB w1 _ h1 (Ent.tail HB.out)
  clear NA NB
  go_wp2_with fail
  refine NB2.mono ?_
  rintro e w2 ⟨vy, rfl, h2⟩
  have h3 := h2.drop.drop
  clear NB2 h1 h2
  by_cases ea : EA = 0
  · subst ea
    by_cases eb : EB = 0
    · subst eb
      have HD2 := Lib.hid (show D = a.all (fun x => b.contains x) from HD.out)
      obtain ⟨A, ca, rfl, hma, hca⟩ := HA.out.use h3
      unfold maxLen at hma
      have HW := fun x => has_walk w2 vb b (HB.out.use h3) x
      go_wp2_with fail
      go_loop [11] (fun i => ∃ k : Nat, k ≤ a.length ∧ i = .int .i64 k ∧ (a.take k).all (fun x => b.contains x) = true) (fun i => a.length - (intOf i).toNat)
      case atStart => exact ⟨0, Nat.zero_le _, rfl, rfl⟩
      case round =>
        obtain ⟨k, hk, rfl, hyes⟩ := hrel
        have HY := Lib.hid hyes; clear hyes
        by_cases hlt : k < a.length
        · obtain ⟨ad, rfl, hcell⟩ := rd_at_int hca k hlt
          have HT := Lib.hid (show a.take (k + 1) = a.take k ++ [a[k]] by rw [List.take_succ_eq_append_getElem hlt])
          have hmem : a[k] ∈ a := List.getElem_mem hlt
          clear hca
          generalize a[k] = y at *
          have HW2 := HW y
          clear HW
          cases hx : b.contains y with
          | true =>
            rw [hx] at HW2
            have HX := Lib.hid hx; clear hx
            go_wp2_with fail
            refine HW2.mono ?_
            rintro e w' ⟨rfl, rfl⟩
            go_wp2_with fail
            go_round
            case rel => exact ⟨k + 1, by omega, by go_num, by rw [HT.out, List.all_append, HY.out]; simp only [List.all_cons, List.all_nil, Bool.and_true, Bool.true_and]; exact HX.out⟩
            case measure => simp [intOf]; omega
          | false =>
            rw [hx] at HW2
            have HDF := Lib.hid (show D = false by
              rw [HD2.out]
              cases hd : a.all (fun x => b.contains x) with
              | false => rfl
              | true => have := List.all_eq_true.1 hd y hmem; rw [hx] at this; cases this)
            clear hx
            go_wp2_with fail
            refine HW2.mono ?_
            rintro e w' ⟨rfl, rfl⟩
            go_wp2_with fail
            go_ret
            exact ⟨by rw [HDF.out]; rfl, h3⟩
        · obtain rfl : k = a.length := by omega
          have HDT := Lib.hid (show D = true by rw [HD2.out]; have := HY.out; rwa [List.take_length] at this)
          clear hca HW
          go_wp2_with fail
          go_ret
          exact ⟨by rw [HDT.out]; rfl, h3⟩
    · have d : (EB != 0) = true := by simp [eb]
      have HDF := Lib.hid (show D = false by rw [HD.out, show (EB == 0) = false by simp [eb]]; rfl)
      clear eb
      go_wp2_with fail
      go_ret
      exact ⟨by rw [HDF.out]; rfl, h3⟩
  · have d : (EA != 0) = true := by simp [ea]
    have HDF := Lib.hid (show D = false by rw [HD.out, show (EA == 0) = false by simp [ea]]; rfl)
    clear ea
    go_wp2_with fail
    go_ret
    exact ⟨by rw [HDF.out]; rfl, h3⟩
/-- How far the second list is passed: all behind are behind what is left of the first. -/
def Passed (X Y : List Int) (k m : Nat) : Prop := ∀ j, j < m → ∀ t, k ≤ t → t < X.length → aheadM (Y.getD j 0) (X.getD t 0) = true
theorem getD_get {c : List Int} {i : Nat} (h : i < c.length) : c.getD i 0 = c[i] := by simp [List.getD_eq_getElem?_getD, h]
theorem srt_get {c : List Int} (h : Srt c) {i j : Nat} (hij : i < j) (hj : j < c.length) : aheadM (c.getD i 0) (c.getD j 0) = true := by
  rw [getD_get (show i < c.length by omega), getD_get hj]
  exact List.pairwise_iff_getElem.1 h i j (by omega) hj hij
theorem Passed.step {X Y : List Int} {k m : Nat} (hX : Srt X) (h : Passed X Y k m) (hk : k < X.length) (ha : aheadM (Y.getD m 0) (X.getD k 0) = true) : Passed X Y k (m + 1) := by
  intro j hj t ht hlt
  by_cases e : j = m
  · subst e
    by_cases e2 : t = k
    · subst e2; exact ha
    · exact aheadM_trans ha (srt_get hX (by omega) hlt)
  · exact h j (by omega) t ht hlt
theorem Passed.next {X Y : List Int} {k m : Nat} (h : Passed X Y k m) : Passed X Y (k + 1) m := fun j hj t ht hlt => h j hj t (by omega) hlt
theorem Passed.not_mem {X Y : List Int} {k m : Nat} (hY : Srt Y) (h : Passed X Y k m) (hk : k < X.length) (hm : m = Y.length ∨ (m < Y.length ∧ aheadM (Y.getD m 0) (X.getD k 0) = false ∧ Y.getD m 0 ≠ X.getD k 0)) : X.getD k 0 ∉ Y := by
  intro hmem
  obtain ⟨j, hj, e⟩ := List.getElem_of_mem hmem
  rw [← getD_get hj] at e
  by_cases h1 : j < m
  · have := h j h1 k (Nat.le_refl _) hk
    rw [e, aheadM_irrefl] at this; cases this
  · rcases hm with hm | ⟨hm, h2, h3⟩
    · omega
    · by_cases e2 : j = m
      · subst e2; exact h3 e
      · have := srt_get hY (show m < j by omega) hj
        rw [e, h2] at this; cases this

set_option maxRecDepth 100000 in
set_option maxHeartbeats 8000000 in
theorem subsumes_walk (w0 w : World) (l : List HP) (h : SL.St w0 l w) (va vb : Value) (a b : List Int) (ha : Ent l (Rd (cInt .i64) va a)) (hb : Ent l (Rd (cInt .i64) vb b)) (hIa : ∀ x ∈ a, I64 x) (hIb : ∀ x ∈ b, I64 x) :
    Calls Try.prog 36 #[va, vb] w fun e w' => e = .returned (.bool (subM a b)) ∧ SL.St w0 l w' := by
  have NA := norm_walk w0 w l h va a (ha.use h) hIa
  have NB := fun (w' : World) (l' : List HP) (h : SL.St w0 l' w') (q : Ent l' (Rd (cInt .i64) vb b)) => norm_walk w0 w' l' h vb b (q.use h) hIb
  have hD : subM a b = (normE a == 0 && normE b == 0 && a.all (fun x => b.contains x)) := rfl
  rw [← subM_set] at hD
  have hSA : normE a = 0 → normS a = setM a := fun e => if_pos e
  have hSB : normE b = 0 → normS b = setM b := fun e => if_pos e
  have hLA : normE a = 0 → ∀ x ∈ setM a, -1048576 ≤ x ∧ x ≤ 1048576 := fun e x hx => (litOk_iff.1 ((normE_ok e).2 x (setM_mem.1 hx))).2
  have hLB : normE b = 0 → ∀ x ∈ setM b, -1048576 ≤ x ∧ x ≤ 1048576 := fun e x hx => (litOk_iff.1 ((normE_ok e).2 x (setM_mem.1 hx))).2
  have HSX := Lib.hid (setM_srt a); have HSY := Lib.hid (setM_srt b)
  generalize subM a b = D at *
  generalize setM a = X at *
  generalize setM b = Y at *
  generalize normS a = SA at *
  generalize normS b = SB at *
  generalize normT a = TA at *
  generalize normT b = TB at *
  generalize normE a = EA at *
  generalize normE b = EB at *
  have HB := Lib.hid hb
  have HD := Lib.hid hD
  clear h hIa hIb ha hb hD
  by_cases ea : EA = 0
  · obtain rfl := hSA ea
    have HLA := Lib.hid (hLA ea)
    subst ea
    clear hSA hLA
    by_cases eb : EB = 0
    · obtain rfl := hSB eb
      have HLB := Lib.hid (hLB eb)
      subst eb
      clear hSB hLB
      have HD2 := Lib.hid (show D = SA.all (fun x => SB.contains x) from HD.out)
      go_enter Try.func36, Try.ntmps36
      go_wp2_with fail
      refine NA.mono ?_
      rintro e w1 ⟨vx, rfl, h1⟩
      have NB2 := NB w1 _ h1 (Ent.tail HB.out)
      clear NA NB
      go_wp2_with fail
      refine NB2.mono ?_
      rintro e w2 ⟨vy, rfl, h2⟩
      clear NB2 h1
      obtain ⟨Ax, cx, rfl, hmx, hcx⟩ := (h2.pull 1).rd
      obtain ⟨Ay, cy, rfl, hmy, hcy⟩ := h2.rd
      unfold maxLen at hmx hmy
      have H2 := Lib.hid h2.drop.drop
      clear h2
      go_wp2_with fail
      go_loop [10, 31] (fun o i => ∃ k m : Nat, k ≤ SA.length ∧ m ≤ SB.length ∧ i = .int .i64 k ∧ o = .int .i64 m ∧ (SA.take k).all (fun x => SB.contains x) = true ∧ Passed SA SB k m) (fun _ i => SA.length - (intOf i).toNat)
      case atStart => exact ⟨0, 0, Nat.zero_le _, Nat.zero_le _, rfl, rfl, rfl, fun j hj => by omega⟩
      case round =>
        obtain ⟨k, m, hk, hm, rfl, rfl, hyes, hps⟩ := hrel
        have HY := Lib.hid hyes; have HPS := Lib.hid hps; clear hyes hps
        by_cases hlt : k < SA.length
        · obtain ⟨ad, rfl, hcell⟩ := rd_at_int hcx k hlt
          have HT := Lib.hid (show SA.take (k + 1) = SA.take k ++ [SA[k]] by rw [List.take_succ_eq_append_getElem hlt])
          have hmem : SA[k] ∈ SA := List.getElem_mem hlt
          have HG := Lib.hid (getD_get hlt)
          have xb := HLA.out _ hmem
          clear hcx
          generalize SA[k] = x at *
          go_wp2_with fail
          go_loop [10] (fun o => ∃ m : Nat, m ≤ SB.length ∧ o = .int .i64 m ∧ Passed SA SB k m) (fun o => SB.length - (intOf o).toNat)
          case atStart => exact ⟨m, hm, rfl, HPS.out⟩
          case round =>
            clear hm HPS
            obtain ⟨m, hm, rfl, hps⟩ := hrel
            have HPS := Lib.hid hps; clear hps
            by_cases hlm : m < SB.length
            · obtain ⟨bd, rfl, hcell2⟩ := rd_at_int hcy m hlm
              have HG2 := Lib.hid (getD_get hlm)
              have hmem2 : SB[m] ∈ SB := List.getElem_mem hlm
              have yb := HLB.out _ hmem2
              clear hcy
              generalize SB[m] = y at *
              have OW := order_walk w2 y x yb xb
              have hcf := cfM_lt y x
              generalize cfM y x = cv at *
              cases hah : aheadM y x with
              | true =>
                rw [hah] at hcf
                have HP2 := Lib.hid (HPS.out.step HSX.out hlt (by rw [HG.out, HG2.out]; exact hah))
                clear hah
                go_wp2_with (go_at_call 54; refine OW.mono ?_; rintro e w' ⟨rfl, rfl⟩)
                go_round
                case rel => exact ⟨m + 1, by omega, by go_num, HP2.out⟩
                case measure => simp [intOf]; omega
              | false =>
                rw [hah] at hcf
                by_cases hyx : y = x
                · have d : (y != x) = false := by simp [hyx]
                  have HIN := Lib.hid (show SB.contains x = true by rw [List.contains_iff_mem, ← hyx]; exact hmem2)
                  clear hyx hah
                  go_wp2_with (go_at_call 54; refine OW.mono ?_; rintro e w' ⟨rfl, rfl⟩)
                  go_round
                  case rel => exact ⟨k + 1, m, by omega, by omega, by go_num, rfl, by rw [HT.out, List.all_append, HY.out]; simp only [List.all_cons, List.all_nil, Bool.and_true, Bool.true_and]; exact HIN.out, HPS.out.next⟩
                  case measure => simp [intOf]; omega
                · have d : (y != x) = true := by simp [hyx]
                  have HDF := Lib.hid (show D = false by
                    have hno := HPS.out.not_mem HSY.out hlt (.inr ⟨hlm, by rw [HG.out, HG2.out]; exact hah, by rw [HG.out, HG2.out]; exact hyx⟩)
                    rw [HG.out] at hno
                    rw [HD2.out]
                    cases hd : SA.all (fun x => SB.contains x) with
                    | false => rfl
                    | true => exact absurd (List.contains_iff_mem.1 (List.all_eq_true.1 hd x hmem)) hno)
                  clear hyx hah
                  go_wp2_with (go_at_call 54; refine OW.mono ?_; rintro e w' ⟨rfl, rfl⟩)
                  go_ret
                  exact ⟨by rw [HDF.out]; rfl, H2.out⟩
            · obtain rfl : m = SB.length := by omega
              have HDF := Lib.hid (show D = false by
                have hno := HPS.out.not_mem HSY.out hlt (.inl rfl)
                rw [HG.out] at hno
                rw [HD2.out]
                cases hd : SA.all (fun x => SB.contains x) with
                | false => rfl
                | true => exact absurd (List.contains_iff_mem.1 (List.all_eq_true.1 hd x hmem)) hno)
              clear hcy
              go_wp2_with fail
              go_ret
              exact ⟨by rw [HDF.out]; rfl, H2.out⟩
        · obtain rfl : k = SA.length := by omega
          have HDT := Lib.hid (show D = true by rw [HD2.out]; have := HY.out; rwa [List.take_length] at this)
          clear hcx hcy
          go_wp2_with fail
          go_ret
          exact ⟨by rw [HDT.out]; rfl, H2.out⟩
    · have d : (EB != 0) = true := by simp [eb]
      have HDF := Lib.hid (show D = false by rw [HD.out, show (EB == 0) = false by simp [eb]]; rfl)
      clear eb hSB hLB
      go_enter Try.func36, Try.ntmps36
      go_wp2_with fail
      refine NA.mono ?_
      rintro e w1 ⟨vx, rfl, h1⟩
      have NB2 := NB w1 _ h1 (Ent.tail HB.out)
      clear NA NB
      go_wp2_with fail
      refine NB2.mono ?_
      rintro e w2 ⟨vy, rfl, h2⟩
      go_wp2_with fail
      go_ret
      exact ⟨by rw [HDF.out]; rfl, h2.drop.drop⟩
  · have d : (EA != 0) = true := by simp [ea]
    have HDF := Lib.hid (show D = false by rw [HD.out, show (EA == 0) = false by simp [ea]]; rfl)
    clear ea hSA hLA hSB hLB NB
    go_enter Try.func36, Try.ntmps36
    go_wp2_with fail
    refine NA.mono ?_
    rintro e w1 ⟨vx, rfl, h1⟩
    go_wp2_with fail
    go_ret
    exact ⟨by rw [HDF.out]; rfl, h1.drop⟩
end Go.Proofs.Ytnmkdhoijdoccaa
