/- The law CnfSets. -/
import Derived.Test.YtnmkdhoijdoccaaCnLv
import Derived.Test.YtnmkdhoijdoccaaCnSu
import Derived.Test.YtnmkdhoijdoccaaCnQ
set_option linter.unusedVariables false
set_option linter.unusedSimpArgs false
namespace Go.Proofs.Ytnmkdhoijdoccaa
open Go Go.RowKit SL

set_option maxRecDepth 100000 in
set_option maxHeartbeats 16000000 in
theorem sets_walk (W : World) (va : Value) (c : List Int) (vm : Value) (m : List Int) (ha : Ent [Old W] (Rd (cInt .i64) va c)) (hI : ∀ x ∈ c, I64 x) (hm : Ent [Old W] (Rd (cInt .i8) vm m)) (hmb : ∀ x ∈ m, -128 ≤ x ∧ x ≤ 127) (hsz : c.length + m.length ≤ 1048576) :
    Calls Try.prog 8 #[va, vm] W fun e w' => e = .returned (.bool true) ∧ SL.St W [Old W] w' := by
  have h := SL.St.start W
  obtain ⟨A, cc, rfl, hml, -⟩ := ha.use h
  unfold maxLen at hml
  have N1 := norm_walk W W _ h _ c (ha.use h) hI
  by_cases eE : normE c = 0
  · have hS := normS_ok eE
    have hT := normT_ok eE
    rw [eE, hS, hT] at N1
    have hSI : ∀ x ∈ setM c, I64 x := fun x hx => hI x (setM_mem.1 hx)
    have N2 := fun w' (l' : List HP) (u : Value) (h : SL.St W l' w') (q : Rd (cInt .i64) u (setM c) w') => norm_walk W w' l' h u (setM c) q hSI
    rw [normE_set eE, normS_ok (normE_set eE), normT_ok (normE_set eE), setM_idem] at N2
    have V1 := fun w' (q : Rd (cInt .i64) (.slice A c.length cc) c w') (q2 : Rd (cInt .i8) vm m w') => value_walk w' _ vm c m q hI q2 hmb
    have V2 := fun w' (u : Value) (q : Rd (cInt .i64) u (setM c) w') (q2 : Rd (cInt .i8) vm m w') => value_walk w' u vm (setM c) m q hSI q2 hmb
    have U1 := fun w' l' (u : Value) (h : SL.St W l' w') (q : Ent l' (Rd (cInt .i64) (.slice A c.length cc) c)) (q2 : Ent l' (Rd (cInt .i64) u (setM c))) => subsumes_walk W w' l' h _ u c (setM c) q q2 hI hSI
    have U2 := fun w' l' (u : Value) (h : SL.St W l' w') (q : Ent l' (Rd (cInt .i64) (.slice A c.length cc) c)) (q2 : Ent l' (Rd (cInt .i64) u (setM c))) => subsumes_walk W w' l' h u _ (setM c) c q2 q hSI hI
    rw [(subM_self_set eE).1] at U1
    rw [(subM_self_set eE).2] at U2
    simp only [valM_set] at V2
    have hlen := setM_len c
    have hc1 : ∀ x ∈ c, (setM c).contains x = true := fun x hx => List.contains_iff_mem.2 (setM_mem.2 hx)
    have hc2 : ∀ x ∈ setM c, c.contains x = true := fun x hx => List.contains_iff_mem.2 (setM_mem.1 hx)
    have HC1 := Lib.hid hc1; have HC2 := Lib.hid hc2
    have HN2 := Lib.hid N2; have HV1 := Lib.hid V1; have HV2 := Lib.hid V2; have HU1 := Lib.hid U1; have HU2 := Lib.hid U2
    clear N2 V1 V2 U1 U2 hc1 hc2 hI hSI eE hS hT
    generalize twoM (setM c) = T at *
    generalize valM c m = VC at *
    generalize setM c = S at *
    have HA := Lib.hid ha; have HM := Lib.hid hm
    clear ha hm
    go_enter Try.func8, Try.ntmps8
    go_wp2_with fail
    refine N1.mono ?_
    rintro e w1 ⟨v1, rfl, h1⟩
    clear N1 h
    obtain ⟨B, cb, rfl, hmB, -⟩ := h1.rd
    unfold maxLen at hmB
    go_wp2_with fail
    refine (live_walk W w1 _ h1).mono ?_
    rintro e w2 ⟨rfl, h2⟩
    clear h1
    have N3 := HN2.out w2 _ _ h2 h2.rd
    clear HN2
    go_wp2_with (go_at_call 16; refine (no_walk _ _).mono ?_; rintro e w' ⟨rfl, rfl⟩)
    refine N3.mono ?_
    rintro e w3 ⟨v3, rfl, h3⟩
    clear N3 h2
    obtain ⟨B3, c3, rfl, -, -⟩ := h3.rd
    have S1 := same_walk w3 (.slice B S.length cb) (.slice B3 S.length c3) S S ((h3.pull 1).rd) h3.rd
    rw [decide_eq_true rfl] at S1
    have dT : (T != T) = false := by simp
    go_wp2_with (go_at_call 16; refine (no_walk _ _).mono ?_; rintro e w' ⟨rfl, rfl⟩)
    refine S1.mono ?_
    rintro e w' ⟨rfl, q, rfl⟩
    have h4 : SL.St W (Arr (cInt .i64) 3 (.slice B S.length cb) S :: [Old W]) _ := (h3.drewN q).drop
    generalize World.drewN _ q = w4 at h4 ⊢
    clear S1 h3
    have W1 := HV1.out w4 ((Ent.tail HA.out).use h4) ((Ent.tail HM.out).use h4)
    have W2 := HV2.out w4 _ h4.rd ((Ent.tail HM.out).use h4)
    clear HV1 HV2
    have dV : (VC != VC) = false := by simp
    have dL : decide ((S.length : Int) > (c.length : Int)) = false := decide_eq_false (by omega)
    have dL' : ¬ c.length < S.length := by omega
    go_wp2_with fail
    refine W1.mono ?_
    rintro e w' ⟨rfl, rfl⟩
    go_wp2_with fail
    refine W2.mono ?_
    rintro e w' ⟨rfl, rfl⟩
    clear W1 W2
    go_wp2_with fail
    have HH4 := Lib.hid h4
    obtain ⟨A', c', hv, -, hc⟩ := (Ent.tail HA.out).use h4
    obtain rfl : A = A' := by injection hv
    obtain ⟨B', cb', hv2, -, hb⟩ := h4.rd
    obtain rfl : B = B' := by injection hv2
    have HW1 := Lib.hid (fun x => has_walk _ _ S h4.rd x)
    have HW2 := Lib.hid (fun x => has_walk _ _ c ((Ent.tail HA.out).use h4) x)
    clear h4 hv hv2 dV dL dL' dT
    go_loop [11] (fun i => ∃ k : Nat, k ≤ c.length ∧ i = .int .i64 k) (fun i => c.length - (intOf i).toNat)
    case atStart => exact ⟨0, Nat.zero_le _, rfl⟩
    case round =>
      obtain ⟨k, hk, rfl⟩ := hrel
      by_cases hlt : k < c.length
      · obtain ⟨ad, rfl, hcell⟩ := rd_at_int hc k hlt
        have hx := HC1.out _ (List.getElem_mem hlt)
        clear hc
        generalize c[k] = x at *
        have HX := HW1.out x
        rw [hx] at HX
        clear hx
        go_wp2_with fail
        refine HX.mono ?_
        rintro e w' ⟨rfl, rfl⟩
        go_wp2_with fail
        go_round
        case rel => exact ⟨k + 1, by omega, by go_num⟩
        case measure => simp [intOf]; omega
      · obtain rfl : k = c.length := by omega
        clear hc
        go_wp2_with fail
        go_loop [12] (fun i => ∃ k : Nat, k ≤ S.length ∧ i = .int .i64 k) (fun i => S.length - (intOf i).toNat)
        case atStart => exact ⟨0, Nat.zero_le _, rfl⟩
        case round =>
          obtain ⟨k, hk, rfl⟩ := hrel
          by_cases hlt : k < S.length
          · obtain ⟨ad, rfl, hcell⟩ := rd_at_int hb k hlt
            have hx := HC2.out _ (List.getElem_mem hlt)
            clear hb
            generalize S[k] = x at *
            have HX := HW2.out x
            rw [hx] at HX
            clear hx
            go_wp2_with fail
            refine HX.mono ?_
            rintro e w' ⟨rfl, rfl⟩
            go_wp2_with fail
            go_round
            case rel => exact ⟨k + 1, by omega, by go_num⟩
            case measure => simp [intOf]; omega
          · obtain rfl : k = S.length := by omega
            clear hb
            have X1 := HU1.out _ _ _ HH4.out (Ent.tail HA.out) Ent.rd
            go_wp2_with fail
            refine X1.mono ?_
            rintro e w5 ⟨rfl, h5⟩
            have X2 := HU2.out _ _ _ h5 (Ent.tail HA.out) Ent.rd
            clear X1
            go_wp2_with fail
            refine X2.mono ?_
            rintro e w6 ⟨rfl, h6⟩
            go_wp2_with fail
            go_ret
            exact ⟨rfl, h6.drop⟩
  · rw [normS_bad eE, normT_bad eE] at N1
    have hE := normE_vals c
    generalize normE c = E at *
    have d1 : (E != 0) = true := by simp [eE]
    clear eE
    go_enter Try.func8, Try.ntmps8
    go_wp2_with fail
    refine N1.mono ?_
    rintro e w1 ⟨v1, rfl, h1⟩
    clear N1 h
    obtain ⟨B, cb, rfl, -, -⟩ := h1.rd
    go_wp2_with fail
    refine (live_walk W w1 _ h1).mono ?_
    rintro e w2 ⟨rfl, h2⟩
    go_wp2_with (go_at_call 16; refine (no_walk _ _).mono ?_; rintro e w' ⟨rfl, rfl⟩)
    go_ret
    exact ⟨rfl, h2.drop⟩
end Go.Proofs.Ytnmkdhoijdoccaa
